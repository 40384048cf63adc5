/- Parts of the proof: an abstract interpreter of the loaded program and its soundness, printed functions, the law's own texts; part 4. No condition. -/
import Derived.Test.YtgkhbmoidenjaaaDoorCl3
import Derived.Shelf.Strconv.Itoa3
import Derived.Below
import Derived.Test.YtgkhbmoidenjaaaDoorChecked
import Derived.Test.YtgkhbmoidenjaaaDoorRows
import Derived.Test.YtgkhbmoidenjaaaDoorCards
import Derived.Test.YtgkhbmoidenjaaaDoorTie
import Derived.Deep.DeepWitnessRowRef
import Derived.ChangeMaps5
import Derived.RangeFuncBox
import Derived.RangeFuncLeaves
import Derived.Shelf.Abstract
import Derived.WalkKit
import Derived.OwnWalkIn
import Derived.TacticsInMore
import Derived.LoopNIn
import Derived.LoopIn
import Derived.Maps.AppendAt
namespace Go.Abs
open Go.Shelf Go.Proofs
variable {P:Program} {ne:NE} {m:Nat}
theorem zdh {ρ:Ren} (Ly:LaysM.n171 P ρ) (hf:∃fn c,P.funcs[ρ.f 171]? = some fn∧fn.body=some c) {g:Nat} (hg:P.globalNamed "internal/strconv.uint64pow10"=some g) (hgl:g<P.globals.size) {H:AH} {c:Array Value} {e:TypeId} {esz:Nat} {ro:Bool}
  (hb:H.get g=some { obj:=.cells c e (0,0),opn:=false,esz:=esz,ro:=ro }) (hc:c=(Lib.pow10Tab.map fun z=>Value.int .u64 z).toArray) {n:Int} (h0:-9223372036854775808≤n) (h1:n≤9223372036854775807) :
  CallS P ne m (ρ.f 171) #[.int .i64 n] H (.string ⟨(Lib.itoa n).toArray⟩) H:=by
 intro hS;refine ⟨hf,fun φ w args' hG ha hi=>?_⟩;obtain ⟨l,c',f',g1,g2,g3⟩:=hi.cells hb rfl;obtain ⟨l',k1,k2,k3⟩:=hG g hgl;rw [g1] at k1;cases k1;have harg:args'=#[.int .i64 n]:=by
  obtain ⟨hsz,hel⟩:=ha;have hsz:args'.size=1:=hsz.symm;obtain ⟨x',rfl⟩:∃x',args'=#[x']:=by
   match args',hsz with
   | ⟨[x']⟩,_=>exact ⟨x',rfl⟩
  have hx:=hel 0 _ _ rfl rfl;cases hx;rfl
 subst harg;obtain ⟨e1,e2⟩:=g3.exact_ rfl;have hcc:c'=c:=by
  refine Array.ext e2 fun i hi1 hi2=>?_;obtain ⟨v',q1,q2⟩:=g3.cell i c[i] (Array.getElem?_eq_getElem hi2);rw [e1,Nat.zero_add,Array.getElem?_eq_getElem hi1] at q1;cases q1;have:∃z,c[i]=Value.int .u64 z:=by
   subst hc;simp
  obtain ⟨z,hz⟩:=this;rw [hz] at q2 ⊢;generalize c'[i]=y at q2;cases q2;rfl
 have htab:Lib.TabIs P w "internal/strconv.uint64pow10" .u64 Lib.pow10Tab:=by
  unfold Lib.TabIs World.var?;rw [hg];rw [k2] at g2;simp only [Option.bind_some,g2,hcc,hc]
 refine (Any.strconv_Itoa Ly n h0 h1 w htab).mono fun en w' hh=>?_;obtain ⟨rfl,k,os,rfl⟩:=hh;have hi0:Inv φ H (w.drewN k):=⟨hi.dom,hi.obj,hi.sep⟩;have hst:Step m φ H w φ H (Go.Sort.grow (w.drewN k) os) :=
  ⟨Nat.le_refl _,Inj.le_refl _,fun id l h h'=>(by rw [h] at h'; cases h'),fun _ h=>.inl h,by show w.heap.size≤(w.heap++os).size; simp,fun c hc _=>by
   show (w.heap++os)[c]? = _;rw [Array.getElem?_append_left hc],rfl,rfl,rfl⟩
 exact ⟨φ,.string ⟨(Lib.itoa n).toArray⟩,rfl,.string _,hi0.grow os,hst⟩
end Go.Abs
namespace Go.Abs
open Go.Shelf Go.Proofs Go.RowKit
variable {P:Program} {ne:NE} {m:Nat}
theorem Inv.pushAt {φ:Inj} {H:AH} {w W:World} {b:Blk} {l:Loc} (hi:Inv φ H w) (hB:Below w.heap.size w W) (h1:w.heap.size≤l.blk) (h2:l.blk<W.heap.size) (hor:OR (φ.upd H.next l) l b W):Inv (φ.upd H.next l) (H.push b) W:=by
 have hf:=hi.fresh;have hle:=Inj.le_upd l hf;have hsz:=hB.size;refine ⟨fun i k h=>?_,fun i k h=>?_,fun i j k k' l1 l2 h h' hne hr ha ha' hl1 hl2=>?_⟩
 ·by_cases e:i=H.next
  ·subst e; rw [Inj.upd_same] at h; cases h; exact ⟨by simp,h2⟩
  ·rw [Inj.upd_other _ _ e] at h;have:=hi.dom i k h;simp only [AH.next_push]; omega
 ·by_cases e:i=H.next
  ·subst e; rw [AH.get_push_same] at h; cases h;exact ⟨l,Inj.upd_same _ _ _,hor⟩
  ·rw [AH.get_push_other _ _ e] at h;obtain ⟨l1,g1,g2⟩:=hi.obj i k h;exact ⟨l1,hle _ _ g1,(g2.mono hle).same (hB.block _ (hi.dom i l1 g1).2)⟩
 ·by_cases e:i=H.next
  ·subst e;rw [Inj.upd_same] at hl1; cases hl1;rw [Inj.upd_other _ _ (fun hh=>hne hh.symm)] at hl2;have:=(hi.dom j l2 hl2).2;omega
  ·rw [AH.get_push_other _ _ e] at h;rw [Inj.upd_other _ _ e] at hl1;by_cases e':j=H.next
   ·subst e';rw [Inj.upd_same] at hl2; cases hl2;have:=(hi.dom i l1 hl1).2;omega
   ·rw [AH.get_push_other _ _ e'] at h';rw [Inj.upd_other _ _ e'] at hl2;exact hi.sep i j k k' l1 l2 h h' hne hr ha ha' hl1 hl2
theorem Step.pushAt {φ:Inj} {H:AH} {w W:World} {b:Blk} {l:Loc} (hi:Inv φ H w) (hB:Below w.heap.size w W) (h1:w.heap.size≤l.blk):Step m φ H w (φ.upd H.next l) (H.push b) W:=by
 refine ⟨by simp,Inj.le_upd l hi.fresh,fun i k h h'=>?_,fun i h=>?_,hB.size,fun c hc _=>hB.block c hc,hB.os,hB.tape,hB.output⟩
 ·by_cases e:i=H.next
  ·subst e; rw [Inj.upd_same] at h; cases h;exact ⟨Nat.le_refl _,.inl h1⟩
  ·rw [Inj.upd_other _ _ e,h'] at h; cases h
 ·by_cases e:i=H.next
  ·subst e; exact .inr hi.fresh
  ·rw [AH.get_push_other _ _ e] at h; exact .inl h
theorem za7 {f g:Nat} {e:TypeId} {zs:List Int} (hf:∃fn c,P.funcs[f]? = some fn∧fn.body=some c) (h0:0<zs.length)
  (hA:∀(Bs b off cap:Nat) (w:World),Bs<w.heap.size→w.cell? ⟨Bs,0,none⟩=some (.slice (some ⟨b,off,none⟩) zs.length cap)→b<w.heap.size→(∀j,j<zs.length→w.cell? ⟨b,off+j,none⟩=some (.int .i64 (zs[j]?.getD 0))) →
   Calls P f #[.slice none 0 0,.func (.func g) #[] #[.pointer (some ⟨Bs,0,none⟩)]] w fun e' W'=>∃v,e'=.returned v∧W'.ownsRow w.heap.size e 1 v zs.length (zs.map (Value.int .i64))∧(v=.slice none 0 0↔zs=[])∧Below w.heap.size w W')
  {H:AH} {p:Nat} {c0:Array Value} {e0:TypeId} {esz:Nat} {ro:Bool} (hp:H.get p=some { obj:=.cells c0 e0 (0,0),opn:=false,esz:=esz,ro:=ro }) {a:Addr} {cp:Nat} (hs:c0[0]? = some (.slice (some a) zs.length cp)) (hsp:a.spot=none)
  (hc:∀j,j<zs.length→H.cell (a.add j)=some (.int .i64 (zs[j]?.getD 0))) :
  CallS P ne m f #[.slice none 0 0,.func (.func g) #[] #[.pointer (some ⟨p,0,none⟩)]] H (.slice (some ⟨H.next,0,none⟩) zs.length OPEN) (H.push (rowB e zs)):=by
 intro hS;refine ⟨hf,fun φ w args' hG ha hi=>?_⟩;obtain ⟨l,c',f',g1,g2,g3⟩:=hi.cells hp rfl;obtain ⟨e1,e2⟩:=g3.exact_ rfl;obtain ⟨blk,off,spot⟩:=a;simp only at hsp;subst hsp;have harg:args'=#[.slice none 0 0,.func (.func g) #[] #[.pointer (some ⟨l.blk,0,none⟩)]]:=by
  obtain ⟨hsz,hel⟩:=ha;have hsz:args'.size=2:=hsz.symm;obtain ⟨x',y',rfl⟩:∃x' y',args'=#[x',y']:=by
   match args',hsz with
   | ⟨[x',y']⟩,_=>exact ⟨x',y',rfl⟩
  have hx:=hel 0 _ _ rfl rfl;have hy:=hel 1 _ _ rfl rfl;cases hx;cases hy with
  | func _ _ _ f1 gg1 hf1 hg1 k1 k2 =>
   have:f1=#[]:=Array.eq_empty_of_size_eq_zero hf1.symm;subst this;have hg1:gg1.size=1:=hg1.symm;obtain ⟨z',rfl⟩:∃z',gg1=#[z']:=by
    match gg1,hg1 with
    | ⟨[z']⟩,_=>exact ⟨z',rfl⟩
   have hz:=k2 0 _ _ rfl rfl;cases hz with
   | ptr _ _ l1 hl1 =>
    rw [g1] at hl1;cases hl1;rw [e1]
 subst harg;obtain ⟨s',q1,q2⟩:=g3.cell 0 _ hs;rw [e1] at q1;have hbox:w.cell? ⟨l.blk,0,none⟩=some s':=by
  unfold World.cell?;simp only [g2];exact q1
 have hslice:∃l1 c2,φ blk=some l1∧s'=.slice (some ⟨l1.blk,l1.off+off,none⟩) zs.length c2:=by
  generalize hn:zs.length=nn at q2 h0;generalize hcc:cp=cc at q2;cases q2 with
  | slice _ _ _ _ l1 hl1 _=>exact ⟨l1,_,hl1,rfl⟩
  | sliceOpen _ _ _ _ l1 hl1 _ _=>exact ⟨l1,_,hl1,rfl⟩
  | sliceEnd=>omega
  | sliceZero=>omega
 obtain ⟨l1,c2,hl1,rfl⟩:=hslice;have hcell:∀j,j<zs.length→w.cell? ⟨l1.blk,l1.off+off+j,none⟩=some (.int .i64 (zs[j]?.getD 0)):=fun j hj=>by
  have:=hc j hj;rw [E5] at this;obtain ⟨b1,c1,e1',f1,k1,k2,_,k4⟩:=z4n this;obtain ⟨l2,c3,f3,m1,m2,m3⟩:=hi.cells k1 k2;rw [hl1] at m1;cases m1;obtain ⟨v',n1,n2⟩:=m3.cell _ _ k4;cases n2;unfold World.cell?;simp only [m2];rw [Nat.add_assoc];exact n1
 refine (hA l.blk l1.blk (l1.off+off) c2 w (hi.dom p l g1).2 hbox (hi.dom blk l1 hl1).2 hcell).mono fun en W hh=>?_;obtain ⟨v,rfl,hrow,hnil,hB⟩:=hh;rcases hrow.2 with ⟨_,hz⟩ | ⟨gb,cap,cur,rfl,hbase,hgb,r1,r2,r3,r4⟩
 ·omega
 ·have hlt:gb<W.heap.size:=(Array.getElem?_eq_some_iff.1 hgb).1
  let lo:Loc:=⟨gb,0,cap,1⟩
  have hor:OR (φ.upd H.next lo) lo (rowB e zs) W:=by
   refine ⟨cur,e,(0,0),hgb,⟨fun i v hv=>?_,by show cap≤cur.size; omega,fun _=>rfl,fun h=>(by cases h),fun _=>.inl (Nat.le_refl _),rfl⟩⟩;rw [z2d] at hv;have hi':i<zs.length:=by
    by_cases h:i<zs.length
    ·exact h
    ·rw [List.getElem?_eq_none (by omega)] at hv; cases hv
   rw [List.getElem?_eq_getElem hi'] at hv;simp only [Option.map_some,Option.some.injEq] at hv;subst hv;refine ⟨.int .i64 zs[i],?_,.int _ _⟩;show cur[0+i]? = _;rw [Nat.zero_add];have:=congrArg (fun l:List Value=>l[i]?) r4;simp only [List.getElem?_map,List.getElem?_eq_getElem hi',Option.map_some,Nat.mul_one] at this;rw [List.getElem?_take_of_lt hi'] at this
   simpa using this
  exact ⟨_,_,rfl,.sliceOpen H.next 0 zs.length cap lo (Inj.upd_same _ _ _) r1 (by show 0+0+cap*1≤cap; omega),hi.pushAt hB hbase hlt hor,Step.pushAt hi hB hbase⟩
end Go.Abs
namespace Go.Abs
variable {P:Program} {ne:NE} {m n:Nat} {E:Ent} {kn knA:KN} {ls ls1:Lcs} {H H1:AH} {a:Act} {w:World} {φ φ1:Inj} {cs cs1:List Nat} {f k:Nat} {la:Array Bool} {ag:Bool} {Q:Exit→Act→World→Prop} {ops:Array Oper} {bs A:List Nat}
theorem zdu {o:Oper} (h:SSφ P ne m E n kn ls H a w φ cs) {t:TypeId} {x:Tmp} {y:Operand} (hop:o.op=.store t (.tmp x) y) {i off:Nat} (hl:lkV kn x=some (.loc i off)) {kv:KV} {ls':Lcs} (ho:locOp P kn ls o=some (kv,ls')) :
  ∃c ys,cs[i]? = some c∧(execOp a.eval o).run P w=.ok .skip (w.setCells c off ys):=by
 obtain ⟨dst,op,ty,pos,after,guard⟩:=o;simp only at hop;subst hop;unfold locOp at ho;simp only [hl] at ho;split at ho
 ·rename_i i' off' inf hi' hi;cases hi';split at ho
  ·rename_i e cells hc;cases hb:(knownV kn y&&okx P y&&Nat.beq inf.size (evV kn y).cells.size&&Nat.ble (off+(evV kn y).cells.size) cells.length&&(evV kn y).cells.toList.all one) with
   | false=>rw [hb] at ho; cases ho
   | true =>
    simp only [Bool.and_eq_true] at hb;obtain ⟨⟨⟨⟨b1,b2⟩,b3⟩,b4⟩,b5⟩:=hb;have b3:=Nat.eq_of_beq_eq_true b3;have b4:=Nat.le_of_ble_eq_true b4;have hv:=h.eval b1 b2;obtain ⟨c,h1,h2⟩:=e9 h hl;obtain ⟨g1,⟨rs,g2,g3⟩,g4⟩:=h.loc i c _ h1 hc;have he:a.eval (.tmp x)=.pointer (some ⟨c,off,none⟩):=h2;have hca:=hv.cells;have hlen:=LR.length g3;simp only at hlen;have hrs:cells.length=rs.size:=by simpa using hlen
    have hsz:=hca.1;have hone:(a.eval y).cells.toList.all one=true:=by
     rw [List.all_eq_true] at b5 ⊢;intro u hu;obtain ⟨j,hj⟩:=List.getElem?_of_mem hu;have hj':(a.eval y).cells[j]? = some u:=by simpa using hj
     have hj2:j<(evV kn y).cells.size:=by
      have:=(Array.getElem?_eq_some_iff.1 hj').1;omega
     rw [one_eq (hca.2 j (evV kn y).cells[j] u (Array.getElem?_eq_getElem hj2) hj')];exact b5 _ (by simp)
    have hrun:=W7 (P:=P) c off (a.eval y).cells.toList 0 w rs e g2 (by simp; omega) hone;simp only [Nat.add_zero] at hrun;refine ⟨c,(a.eval y).cells.toList,h1,?_⟩;simp only [execOp,he,Instr.storeAt,Instr.sureAddr,Sem.run_bind,Sem.run_pure,Result.andThen_ok,storeVar,Y2 hi];rw [if_neg (by simp; omega),hrun];rfl
  ·cases ho
 ·cases ho
def stNew (kn:KN) (o:Oper) (b:Nat):Bool:=match o.op with
 | .store _ (.tmp x) _=>match lkV kn x with
  | some (.loc i _)=>Nat.ble b i
  | _=>false
 | _=>false
theorem DA.actN {kv:KV} {ls':Lcs} (ag':Bool) (ho:ops[k]? = some (opAt ops k)) (hr:(Region.ready .any ops la).contains k=true) (hc:closedOk ops.toList bs=true) (hw:wantV ops kn (opAt ops k)=some true) (hd:dstV n (opAt ops k)=true) (hl:locOp P kn ls (opAt ops k)=some (kv,ls'))
  (hst:stNew kn (opAt ops k) ls1.length=true) (ha:((!demO ops A bs k||ag)&&(!ag'||ag))=true)
  (h:DA P ne m E n ops bs A H1 ls1 f (la.setIfInBounds k true) ag' (dropV (opAt ops k).dst knA) (putV kn (opAt ops k).dst kv) ls' H Q):DAk P ne m E n ops bs A H1 ls1 k f la ag knA kn ls H Q:=by
 intro w1 φ1 cs1 a w φ cs hd1 hle hs hka hpf hJ hag;refine z24 ho hs hw fun K hK=>?_;unfold stNew at hst;split at hst
 ·rename_i t x y hop;split at hst
  ·rename_i i off hlk;have hi:=Nat.le_of_ble_eq_true hst;obtain ⟨c,ys,hci,hrun⟩:=zdu hs hop hlk hl;have hwp:=z4z (Q:=Q) hs hl hd (K:=fun a' w'=>∃v' cs',a'=a.put (opAt ops k).dst v'∧SSφ P ne m E n (putV kn (opAt ops k).dst kv) ls' H a' w' φ cs'∧(∀(i:Nat) (c:Nat),cs[i]? = some c→cs'[i]? = some c)∧(∀(i c:Nat),cs.length≤i→cs'[i]? = some c→w.heap.size≤c)) fun v' w' cs' hs' hpf' hnw' _=>⟨v',cs',rfl,hs',hpf',hnw'⟩;unfold Oper.wp at hwp ⊢;rw [hrun] at hwp ⊢;obtain ⟨v',cs',e1,hs',hpf',hnw'⟩:=hwp;have hoth:=I6 c ys off w;have hkeep:ag=true→Agr m H1 w1 cs1 φ (w.setCells c off ys) cs':=fun hh=>by
    obtain ⟨h1,h2,h3⟩:=hag hh;have hcn:=h3 i c (by rw [hd1.len]; exact hi) hci;refine ⟨fun c' hc'=>(hoth c' (by omega)).trans (h1 c' hc'),h2,fun i' c' hi' hc'=>?_⟩
    ·rcases Nat.lt_or_ge i' cs.length with hlt | hge
     ·rw [hpf' i' cs[i'] (List.getElem?_eq_getElem hlt)] at hc';cases hc';exact h3 i' _ hi' (List.getElem?_eq_getElem hlt)
     ·exact Nat.le_trans (z1y h1) (hnw' i' c' hge hc')
   rw [Bool.and_eq_true] at ha;exact hK _ _ ⟨fun hdm=>(hkeep (by have:=ha.1; rw [hdm] at this; simpa using this)).ag,h w1 φ1 cs1 _ _ φ cs' hd1 hle hs' (by rw [e1]; exact hka.drop _ _) (fun i c hc=>hpf' i c (hpf i c hc)) (zy hr hc hJ) fun hag2=>hkeep (by have:=ha.2; rw [hag2] at this; simpa using this)⟩
  ·cases hst
 ·cases hst
theorem DA.aN (k:Nat) (d:Option Nat) (kv:KV) (ls':Lcs) (ag':Bool) (h:DA P ne m E n ops bs A H1 ls1 f (la.setIfInBounds k true) ag' (dropV d knA) (putV kn d kv) ls' H Q)
  (hc:closedOk ops.toList bs=true:=by assumption) (ho:ops[k]? = some (opAt ops k):=by kernel_rfl) (hdd:(opAt ops k).dst=d:=by kernel_rfl) (hr:(Region.ready .any ops la).contains k=true:=by kernel_rfl) (hw:wantV ops kn (opAt ops k)=some true:=by kernel_rfl) (hd:dstV n (opAt ops k)=true:=by kernel_rfl) (hl:locOp P kn ls (opAt ops k)=some (kv,ls'):=by kernel_rfl)
  (hst:stNew kn (opAt ops k) ls1.length=true:=by kernel_rfl) (ha:((!demO ops A bs k||ag)&&(!ag'||ag))=true:=by kernel_rfl):DAk P ne m E n ops bs A H1 ls1 k f la ag knA kn ls H Q:=by
 subst hdd;exact DA.actN ag' ho hr hc hw hd hl hst ha h
end Go.Abs
namespace Go.Abs.Eg
abbrev Lb:=Int×Int×Int×Bool
def US (fe:List Ed) (i j:Nat) (l:Lb):Prop:=fe[i]? = some ((j:Int),l)∨fe[j]? = some ((i:Int),l)
def Tagged (sd:List Sd) (t:Int) (i j:Nat):Prop:=∃s∈sd,s.2.2.2=false∧s.2.2.1=t∧(s.1=i∧s.2.1=j∨s.1=j∧s.2.1=i)
theorem Tagged.symm {sd:List Sd} {t:Int} {i j:Nat} (h:Tagged sd t i j):Tagged sd t j i:=by
 obtain ⟨s,h1,h2,h3,h4⟩:=h;exact ⟨s,h1,h2,h3,h4.symm⟩
theorem Tagged.mono {sd sd':List Sd} {t:Int} {i j:Nat} (h:Tagged sd t i j) (hs:∀s∈sd,s∈sd'):Tagged sd' t i j:=by
 obtain ⟨s,h1,h2⟩:=h;exact ⟨s,hs s h1,h2⟩
inductive Ju (N:List Nd) (sd:List Sd) (U:Nat→Nat→Lb→Prop):Nat→Nat→Prop
 | refl (i:Nat):Ju N sd U i i
 | symm {i j:Nat}:Ju N sd U i j→Ju N sd U j i
 | trans {i j k:Nat}:Ju N sd U i j→Ju N sd U j k→Ju N sd U i k
 | tag {i j:Nat} {t f o:Int}:U i j (t,f,o,false)→Tagged sd t i j→Ju N sd U i j
 | cong {i j a b:Nat} {t:Int} {x y:Nd}:U i j (t,(a:Int),(b:Int),true)→(i=a∧j=b∨i=b∧j=a)→N[a]? = some x→N[b]? = some y→x.value=y.value→x.sym=y.sym→x.args.length=y.args.length →
   (∀(k u v:Nat),x.args[k]? = some u→y.args[k]? = some v→Ju N sd U u v)→Ju N sd U i j
def LOK (N:List Nd) (sd:List Sd) (U:Nat→Nat→Lb→Prop) (i j:Nat) (l:Lb):Prop :=
 (l.2.2.2=false∧Tagged sd l.1 i j)∨(l.2.2.2=true∧∃(a b:Nat) (x y:Nd),l.2.1=a∧l.2.2.1=b∧(i=a∧j=b∨i=b∧j=a)∧N[a]? = some x∧N[b]? = some y∧x.value=y.value∧x.sym=y.sym∧x.args.length=y.args.length ∧
  ∀(k u v:Nat),x.args[k]? = some u→y.args[k]? = some v→Ju N sd U u v)
section
variable {N N':List Nd} {sd sd':List Sd} {U U':Nat→Nat→Lb→Prop} {i j:Nat} {l:Lb}
theorem Ju.of (hU:U i j l) (h:LOK N sd U i j l):Ju N sd U i j:=by
 obtain ⟨t,f,o,c⟩:=l;rcases h with ⟨rfl,h⟩ | ⟨rfl,a,b,x,y,rfl,rfl,h1,h2,h3,h4,h5,h6,h7⟩
 ·exact .tag hU h
 ·exact .cong hU h1 h2 h3 h4 h5 h6 h7
theorem Ju.mono (hN:∀(i:Nat) x,N[i]? = some x→N'[i]? = some x) (hs:∀s∈sd,s∈sd') (hU:∀i j l,U i j l→U' i j l) (h:Ju N sd U i j):Ju N' sd' U' i j:=by
 induction h with
 | refl i=>exact .refl i
 | symm _ ih=>exact .symm ih
 | trans _ _ h1 h2=>exact .trans h1 h2
 | tag h1 h2=>exact .tag (hU _ _ _ h1) (h2.mono hs)
 | cong h1 h2 h3 h4 h5 h6 h7 _ ih=>exact .cong (hU _ _ _ h1) h2 (hN _ _ h3) (hN _ _ h4) h5 h6 h7 ih
theorem LOK.symm (h:LOK N sd U i j l):LOK N sd U j i l:=by
 rcases h with ⟨h1,h2⟩ | ⟨h1,a,b,x,y,h2,h3,h4,h5⟩
 ·exact .inl ⟨h1,h2.symm⟩
 ·exact .inr ⟨h1,a,b,x,y,h2,h3,h4.symm.imp (fun h=>⟨h.2,h.1⟩) (fun h=>⟨h.2,h.1⟩),h5⟩
theorem LOK.mono (hN:∀(i:Nat) x,N[i]? = some x→N'[i]? = some x) (hs:∀s∈sd,s∈sd') (hU:∀i j l,U i j l→U' i j l) (h:LOK N sd U i j l):LOK N' sd' U' i j l:=by
 rcases h with ⟨h1,h2⟩ | ⟨h1,a,b,x,y,h2,h3,h4,h5,h6,h7,h8,h9,h10⟩
 ·exact .inl ⟨h1,h2.mono hs⟩
 ·exact .inr ⟨h1,a,b,x,y,h2,h3,h4,hN _ _ h5,hN _ _ h6,h7,h8,h9,fun k u v hu hv=>(h10 k u v hu hv).mono hN hs hU⟩
end
def LI (N:List Nd) (sd:List Sd) (fe:List Ed) (n:Nat) (o:Nat→Nat):Prop:=∀i j,i<n→j<n→o i=o j→Ju N sd (US fe) i j
theorem US.set {fe:List Ed} {a b:Nat} {l l0:Lb} (ha:fe[a]? = some (-1,l0)) (hb:a<fe.length) {i j:Nat} {l1:Lb} (h:US fe i j l1):US (fe.set a ((b:Int),l)) i j l1:=by
 have key:∀i j:Nat,fe[i]? = some ((j:Int),l1)→(fe.set a ((b:Int),l))[i]? = some ((j:Int),l1):=fun i j h=>by
  by_cases e:a=i
  ·subst e;rw [ha] at h;simp only [Option.some.injEq,Prod.mk.injEq] at h;omega
  ·rw [List.getElem?_set_ne e]; exact h
 rcases h with h | h
 ·exact .inl (key _ _ h)
 ·exact .inr (key _ _ h)
theorem US.new {fe:List Ed} {a b:Nat} {l:Lb} (hb:a<fe.length):US (fe.set a ((b:Int),l)) a b l:=.inl (by rw [List.getElem?_set_self hb])
theorem LI.join {N:List Nd} {sd:List Sd} {fe:List Ed} {n:Nat} {o:Nat→Nat} (h:LI N sd fe n o) {a b:Nat} {l l0:Lb} (han:a<n) (hbn:b<n) (ha:fe[a]? = some (-1,l0)) (hl:a<fe.length) (hk:LOK N sd (US fe) a b l)
  {o':Nat→Nat} (ho:∀i,i<n→o' i=re (o a) (o b) (o i)):LI N sd (fe.set a ((b:Int),l)) n o':=by
 have up:∀{i j},Ju N sd (US fe) i j→Ju N sd (US (fe.set a ((b:Int),l))) i j:=fun hj=>hj.mono (fun _ _ h=>h) (fun _ h=>h) fun _ _ _ hu=>hu.set ha hl;have hab:Ju N sd (US (fe.set a ((b:Int),l))) a b:=Ju.of (US.new hl) (hk.mono (fun _ _ h=>h) (fun _ h=>h) fun _ _ _ hu=>hu.set ha hl);intro i j hi hj e;rw [ho i hi,ho j hj] at e;have toB:∀i,i<n→(o i=o a∨o i=o b)→Ju N sd (US (fe.set a ((b:Int),l))) i b:=by
  rintro i hi (e | e)
  ·exact (up (h i a hi han e)).trans hab
  ·exact up (h i b hi hbn e)
 rcases (re_eq (o a) (o b) _ _).1 e with e | ⟨e1,e2⟩
 ·exact up (h i j hi hj e)
 ·exact (toB i hi e1).trans (toB j hj e2).symm
inductive Pa (fe:List Ed):Nat→List Nat→Prop
 | root {i:Nat} {l:Lb}:fe[i]? = some (-1,l)→Pa fe i [i]
 | step {i j:Nat} {l:Lb} {p:List Nat}:fe[i]? = some ((j:Int),l)→Pa fe j p→Pa fe i (i :: p)
section
variable {fe:List Ed} {i j:Nat} {p q:List Nat}
def Btw (p q:List Nat) (n:Nat):Prop:=(n∈p∧n ∉ q)∨(n∈q∧n ∉ p)
end
end Go.Abs.Eg
namespace Go.Abs.Eg
section
variable {N:List Nd} {sd:List Sd} {fe:List Ed} {T:Int→Prop} [DecidablePred T]
structure Clo (N:List Nd) (fe:List Ed) (D:Nat→Prop) (T:Int→Prop):Prop where
 tag:∀n j t f o,D n→fe[n]? = some ((j:Int),t,f,o,false)→T t
 cong:∀(n j a b:Nat) (t:Int) (x y:Nd) (k u v:Nat) (p q:List Nat) (c:Nat),D n→fe[n]? = some ((j:Int),t,(a:Int),(b:Int),true)→N[a]? = some x→N[b]? = some y→x.args[k]? = some u→y.args[k]? = some v→Pa fe u p→Pa fe v q→Btw p q c→D c
end
end Go.Abs.Eg
namespace Go.Abs.Eg
def USx (fe:List Ed) (c i j:Nat) (l:Lb):Prop:=(i≠c∧fe[i]? = some ((j:Int),l))∨(j≠c∧fe[j]? = some ((i:Int),l))
def Ed1 (c:Nat) (z:Ed) (i j:Nat) (l:Lb):Prop:=(i=c∧z=((j:Int),l))∨(j=c∧z=((i:Int),l))
theorem us_at {fe:List Ed} {c:Nat} (hc:c<fe.length) (i j:Nat) (l:Lb):US fe i j l↔USx fe c i j l∨Ed1 c fe[c] i j l:=by
 have one:∀i j:Nat,fe[i]? = some ((j:Int),l)↔(i≠c∧fe[i]? = some ((j:Int),l))∨(i=c∧fe[c]=((j:Int),l)):=fun i j=>by
  by_cases e:i=c
  ·subst e;rw [List.getElem?_eq_getElem hc];simp
  ·simp [e]
 unfold US USx Ed1;have h1:=one i j;have h2:=one j i;constructor
 ·rintro (h | h)
  ·exact (h1.1 h).elim (fun h=>.inl (.inl h)) fun h=>.inr (.inl h)
  ·exact (h2.1 h).elim (fun h=>.inl (.inr h)) fun h=>.inr (.inr h)
 ·rintro ((h | h) | (h | h))
  ·exact .inl h.2
  ·exact .inr h.2
  ·exact .inl (h1.2 (.inr h))
  ·exact .inr (h2.2 (.inr h))
theorem us_set {fe:List Ed} {c:Nat} (hc:c<fe.length) (z:Ed) (i j:Nat) (l:Lb):US (fe.set c z) i j l↔USx fe c i j l∨Ed1 c z i j l:=by
 rw [us_at (fe:=fe.set c z) (c:=c) (by simpa using hc)];have h1:USx (fe.set c z) c i j l↔USx fe c i j l:=by
  unfold USx;refine or_congr (and_congr_right fun h=>?_) (and_congr_right fun h=>?_)
  ·rw [List.getElem?_set_ne (fun e=>h e.symm)]
  ·rw [List.getElem?_set_ne (fun e=>h e.symm)]
 rw [h1];simp
def Fl (prev:Int) (c:Nat) (lb:Lb) (i j:Nat) (l:Lb):Prop:=∃p:Nat,prev=p∧l=lb∧(i=p∧j=c∨i=c∧j=p)
theorem ed1_fl (c:Nat) (prev:Int) (lb:Lb) (i j:Nat) (l:Lb):Ed1 c (if prev<0 then (-1,0,0,0,false) else (prev,lb)) i j l↔Fl prev c lb i j l:=by
 unfold Ed1 Fl;by_cases h:prev<0
 ·rw [if_pos h];constructor
  ·rintro (⟨_,h⟩ | ⟨_,h⟩)
   ·simp only [Prod.mk.injEq] at h; omega
   ·simp only [Prod.mk.injEq] at h; omega
  ·rintro ⟨p,hp,_⟩; omega
 ·rw [if_neg h];simp only [Prod.mk.injEq];constructor
  ·rintro (⟨h1,h2,h3⟩ | ⟨h1,h2,h3⟩)
   ·exact ⟨j,h2,h3.symm,.inr ⟨h1,rfl⟩⟩
   ·exact ⟨i,h2,h3.symm,.inl ⟨rfl,h1⟩⟩
  ·rintro ⟨p,hp,h3,⟨h1,h2⟩ | ⟨h1,h2⟩⟩
   ·exact .inr ⟨h2,by rw [h1]; exact hp,h3.symm⟩
   ·exact .inl ⟨h1,by rw [h2]; exact hp,h3.symm⟩
theorem zep (c:Nat) (z:Ed) (i j:Nat) (l:Lb) (hz:∃n:Nat,z.1=n):Ed1 c z i j l↔Fl (c:Int) z.1.toNat z.2 i j l:=by
 obtain ⟨t,lb⟩:=z;obtain ⟨n,rfl⟩:=hz;unfold Ed1 Fl;simp only [Prod.mk.injEq,Int.toNat_natCast];constructor
 ·rintro (⟨h1,h2,h3⟩ | ⟨h1,h2,h3⟩)
  ·exact ⟨c,rfl,h3.symm,.inl ⟨h1,by omega⟩⟩
  ·exact ⟨c,rfl,h3.symm,.inr ⟨by omega,h1⟩⟩
 ·rintro ⟨p,hp,h3,⟨h1,h2⟩ | ⟨h1,h2⟩⟩
  ·exact .inl ⟨by omega,by omega,h3.symm⟩
  ·exact .inr ⟨by omega,by omega,h3.symm⟩
theorem zfg (c:Nat) (lb:Lb) (i j:Nat) (l:Lb):¬Ed1 c (-1,lb) i j l:=by
 rintro (⟨_,h⟩ | ⟨_,h⟩) <;> simp only [Prod.mk.injEq] at h <;> omega
theorem LI.us {N:List Nd} {sd:List Sd} {fe fe':List Ed} {n:Nat} {o:Nat→Nat} (h:LI N sd fe n o) (hU:∀i j l,US fe i j l→US fe' i j l):LI N sd fe' n o:=fun i j hi hj e=>(h i j hi hj e).mono (fun _ _ h=>h) (fun _ h=>h) hU
theorem zff {g:St} {M q:List (Nat×Nat)} {s t:Nat} {fo:List Int} {a:Nat} (h:MI g M q) (ha:a<g.n) (hs:g.o a=s) (u k:Nat) (hm:(u,k)∈(joinSt g s t fo).2) :
  u<g.n∧k<g.n∧(joinSt g s t fo).1.sig u=(joinSt g s t fo).1.sig k:=by
 have uS:=h.uses a ha; rw [hs] at uS;have useLt:∀u∈(g.c s).uses,u<g.n:=fun u hu=>let ⟨x,hx,_⟩:=(uS u).1 hu; (List.getElem?_eq_some_iff.1 hx).1
 have stay:∀{i x},g.N[i]? = some x→i ∉ (g.c s).uses→(joinSt g s t fo).1.sig i=g.sig i:=by
  intro i x hx hu;rw [z8e h.len h.args hx,sig_of hx];exact z8s fun a ha e=>hu ((uS i).2 ⟨x,hx,a,ha,e⟩)
 have from_:=z79 (sg:=(joinSt g s t fo).1.sig) (g.c s).uses (delS g (g.c s).uses,[]);have hout:(joinSt g s t fo).2=(insS (joinSt g s t fo).1.sig (g.c s).uses (delS g (g.c s).uses,[])).2:=rfl;rw [hout] at hm;rcases from_.2 u k hm with hm | ⟨h1,h2⟩
 ·cases hm
 ·have hu:=useLt u h1;rcases h2 with h2 | ⟨h2,h3⟩
  ·have h2:delS g (g.c s).uses ((joinSt g s t fo).1.sig u)=some k:=h2;unfold delS at h2;cases hg:g.sigs ((joinSt g s t fo).1.sig u) with
   | none=>rw [hg] at h2; cases h2
   | some u' =>
    rw [hg] at h2;simp only at h2;split at h2
    ·cases h2
    ·rename_i hn;cases h2;obtain ⟨h4,h5⟩:=h.s1 _ _ hg;obtain ⟨x,hx⟩:=T4 h4;exact ⟨hu,h4,by rw [stay hx hn,h5]⟩
  ·exact ⟨hu,useLt k h2,h3.symm⟩
theorem zap {g:St} {sd:List Sd} {fe:List Ed} (ha:∀(i:Nat) x,g.N[i]? = some x→∀a∈x.args,a<i) (h:LI g.N sd fe g.n g.o) {u k:Nat} (hu:u<g.n) (hk:k<g.n) (hs:g.sig u=g.sig k) (t:Int):LOK g.N sd (US fe) u k (t,(u:Int),(k:Int),true):=by
 obtain ⟨x,hx⟩:=T4 hu;obtain ⟨y,hy⟩:=T4 hk;rw [sig_of hx,sig_of hy] at hs;obtain ⟨h1,h2,h3,h4⟩:=key_eq hs;refine .inr ⟨rfl,u,k,x,y,rfl,rfl,.inl ⟨rfl,rfl⟩,hx,hy,h1,h2,h3,fun n a b ha' hb'=>?_⟩;have h5:=ha u x hx a (List.mem_of_getElem? ha');have h6:=ha k y hy b (List.mem_of_getElem? hb');exact h a b (by omega) (by omega) (h4 n a b ha' hb')
theorem zft {fe:List Ed} (z:Lb) {i j:Nat} {l:Lb} (h:US fe i j l):US (fe++[(-1,z)]) i j l:=by
 rcases h with h | h
 ·exact .inl (by rw [List.getElem?_append_left (List.getElem?_eq_some_iff.1 h).1]; exact h)
 ·exact .inr (by rw [List.getElem?_append_left (List.getElem?_eq_some_iff.1 h).1]; exact h)
theorem LI.beg {g:St} {sd:List Sd} {fe:List Ed} (h:LI g.N sd fe g.n g.o) (hl:g.of.length=g.n) (hc:∀i,i<g.n→g.o i<g.cls.length) (y:Nd) (z:Lb):LI (g.N++[y]) sd (fe++[(-1,z)]) (g.n+1) (begSt g y).o:=by
 intro i j hi hj e;by_cases hin:i=g.n
 ·by_cases hjn:j=g.n
  ·rw [hin,hjn]; exact .refl _
  ·exfalso;rw [hin,z15 hl,I4 hl (by omega)] at e;have:=hc j (by omega);omega
 ·by_cases hjn:j=g.n
  ·exfalso;rw [hjn,z15 hl,I4 hl (by omega)] at e;have:=hc i (by omega);omega
  ·rw [I4 hl (by omega),I4 hl (by omega)] at e;refine (h i j (by omega) (by omega) e).mono (fun k x hk=>?_) (fun _ h=>h) fun _ _ _ hu=>zft z hu;rw [List.getElem?_append_left (List.getElem?_eq_some_iff.1 hk).1];exact hk
def nd (n:Nat):Nat:=if h:n<10 then 1 else nd (n / 10)+1
termination_by n
decreasing_by exact Nat.div_lt_self (by omega) (by omega)
theorem D9 {n:Nat} (h:n<10):nd n=1:=by rw [nd]; simp [h]
theorem nd_big {n:Nat} (h:¬n<10):nd n=nd (n / 10)+1:=by rw [nd]; simp [h]
theorem nd_pos (n:Nat):1≤nd n:=by
 by_cases h:n<10
 ·rw [D9 h]; exact Nat.le_refl _
 ·rw [nd_big h]; omega
theorem nd_lt:∀(n:Nat),n<10 ^ nd n:=by
 intro n;induction n using Nat.strongRecOn with
 | ind n ih =>
  by_cases h:n<10
  ·rw [D9 h]; omega
  ·rw [nd_big h,Nat.pow_succ];have:=ih (n / 10) (Nat.div_lt_self (by omega) (by omega));omega
theorem nd_le:∀(d n:Nat),n<10 ^ (d+1)→nd n≤d+1:=by
 intro d;induction d with
 | zero=>intro n h; rw [D9 (by simpa using h)]; exact Nat.le_refl _
 | succ d ih =>
  intro n h;by_cases h':n<10
  ·rw [D9 h']; omega
  ·rw [nd_big h'];have:=ih (n / 10) (by rw [Nat.pow_succ] at h; omega);omega
def decD:Nat→Nat→List Nat
 | 0,_=>[]
 | d+1,n=>decD d (n / 10)++[48+n % 10]
theorem z5b:∀(d n:Nat),(decD d n).length=d
 | 0,_=>rfl
 | d+1,n=>by simp [decD,z5b d]
def valD (l:List Nat):Nat:=l.foldl (fun a b=>a*10+(b - 48)) 0
theorem z4w:∀(d n:Nat),n<10 ^ d→valD (decD d n)=n
 | 0,n,h=>by simp at h; subst h; rfl
 | d+1,n,h=>by
  unfold decD valD;rw [List.foldl_append];have:=z4w d (n / 10) (by rw [Nat.pow_succ] at h; omega);unfold valD at this;rw [this];simp only [List.foldl_cons,List.foldl_nil];omega
theorem z58:∀(d n:Nat) (b:Nat),b∈decD d n→48≤b∧b≤57
 | 0,_,b,h=>by cases h
 | d+1,n,b,h=>by
  unfold decD at h;rcases List.mem_append.1 h with h | h
  ·exact z58 d _ b h
  ·rw [List.mem_singleton] at h; omega
def itoaL (a:Int):List Nat:=(if a<0 then [45] else [])++decD (nd a.natAbs) a.natAbs
theorem z3g (a:Int) (b:Nat) (h:b∈itoaL a):b=45∨48≤b∧b≤57:=by
 unfold itoaL at h;rcases List.mem_append.1 h with h | h
 ·split at h
  ·rw [List.mem_singleton] at h; exact .inl h
  ·cases h
 ·exact .inr (z58 _ _ _ h)
theorem z7y {n n':Nat} (h:decD (nd n) n=decD (nd n') n'):n=n':=by
 rw [← z4w _ _ (nd_lt n),h,z4w _ _ (nd_lt n')]
theorem z71 (n:Nat):∃b l,decD (nd n) n=b :: l∧48≤b:=by
 cases h:decD (nd n) n with
 | nil =>
  have:=congrArg List.length h;rw [z5b] at this;have:=nd_pos n;simp at *;omega
 | cons b l=>exact ⟨b,l,rfl,(z58 (nd n) n b (by rw [h]; simp)).1⟩
theorem z6t {a b:Int} (h:itoaL a=itoaL b):a=b:=by
 unfold itoaL at h;obtain ⟨x,l,hx,hx48⟩:=z71 a.natAbs;obtain ⟨y,l',hy,hy48⟩:=z71 b.natAbs;by_cases ha:a<0 <;> by_cases hb:b<0
 ·rw [if_pos ha,if_pos hb] at h;have:=z7y (List.append_cancel_left h);omega
 ·rw [if_pos ha,if_neg hb,hy] at h;simp at h;omega
 ·rw [if_neg ha,if_pos hb,hx] at h;simp at h;omega
 ·rw [if_neg ha,if_neg hb] at h;have:=z7y (List.append_cancel_left h);omega
theorem z6i:∀{l1 l2 r1 r2:List Nat},(∀b∈l1,b≠32)→(∀b∈l2,b≠32)→(r1=[]∨∃t,r1=32 :: t)→(r2=[]∨∃t,r2=32 :: t)→l1++r1=l2++r2→l1=l2∧r1=r2
 | [],[],r1,r2,_,_,_,_,h=>⟨rfl,by simpa using h⟩
 | [],b :: l2,r1,r2,_,h2,h3,_,h=>by
  exfalso;rcases h3 with rfl | ⟨t,rfl⟩
  ·simp at h
  ·simp at h;exact h2 b (by simp) h.1.symm
 | a :: l1,[],r1,r2,h1,_,_,h4,h=>by
  exfalso;rcases h4 with rfl | ⟨t,rfl⟩
  ·simp at h
  ·simp at h;exact h1 a (by simp) h.1
 | a :: l1,b :: l2,r1,r2,h1,h2,h3,h4,h=>by
  simp only [List.cons_append,List.cons.injEq] at h;obtain ⟨e1,e2⟩:=z6i (fun c hc=>h1 c (List.mem_cons_of_mem _ hc)) (fun c hc=>h2 c (List.mem_cons_of_mem _ hc)) h3 h4 h.2;exact ⟨by rw [h.1,e1],e2⟩
def argsL (l:List Nat):List Nat:=l.flatMap fun (a:Nat)=>32 :: itoaL (a:Int)
theorem Z8 (l:List Nat):argsL l=[]∨∃t,argsL l=32 :: t:=by
 cases l with
 | nil=>exact .inl rfl
 | cons a l=>exact .inr ⟨_,rfl⟩
theorem z3t (a:Int):∀b∈itoaL a,b≠32:=fun b hb=>by
 have:=z3g a b hb;omega
theorem z6w:∀{l l':List Nat},argsL l=argsL l'→l=l'
 | [],[],_=>rfl
 | [],a :: l,h=>by simp [argsL] at h
 | a :: l,[],h=>by simp [argsL] at h
 | a :: l,b :: l',h=>by
  have h:32 :: (itoaL (a:Int)++argsL l)=32 :: (itoaL (b:Int)++argsL l'):=h;simp only [List.cons.injEq,true_and] at h;obtain ⟨e1,e2⟩:=z6i (z3t _) (z3t _) (Z8 l) (Z8 l') h;have e1:=z6t e1;have e1:a=b:=by omega
  rw [e1,z6w e2]
def txL (k:Key):List Nat:=(if k.1 then 118 else 115) :: (itoaL k.2.1++argsL k.2.2)
theorem zfx {k k':Key} (h:txL k=txL k'):k=k':=by
 obtain ⟨v,s,l⟩:=k;obtain ⟨v',s',l'⟩:=k';unfold txL at h;simp only [List.cons.injEq] at h;obtain ⟨h1,h2⟩:=h;have ev:v=v':=by cases v <;> cases v' <;> simp at h1 <;> rfl
 obtain ⟨e1,e2⟩:=z6i (z3t _) (z3t _) (Z8 l) (Z8 l') h2;rw [ev,z6t e1,z6w e2]
def bytesL (l:List Nat):ByteArray:=⟨(l.map Nat.toUInt8).toArray⟩
theorem z5o:∀{l l':List Nat},(∀b∈l,b<256)→(∀b∈l',b<256)→l.map Nat.toUInt8=l'.map Nat.toUInt8→l=l'
 | [],[],_,_,_=>rfl
 | [],b :: l',_,_,h=>by simp at h
 | a :: l,[],_,_,h=>by simp at h
 | a :: l,b :: l',h1,h2,h=>by
  simp only [List.map_cons,List.cons.injEq] at h;have ha:=h1 a (by simp);have hb:=h2 b (by simp);have:a=b:=by
   have:=congrArg UInt8.toNat h.1
   simpa [Nat.toUInt8,Nat.mod_eq_of_lt ha,Nat.mod_eq_of_lt hb] using this
  rw [this,z5o (fun c hc=>h1 c (List.mem_cons_of_mem _ hc)) (fun c hc=>h2 c (List.mem_cons_of_mem _ hc)) h.2]
theorem zbn {l l':List Nat} (h1:∀b∈l,b<256) (h2:∀b∈l',b<256) (h:bytesL l=bytesL l'):l=l':=by
 unfold bytesL at h;simp only [ByteArray.mk.injEq] at h;exact z5o h1 h2 (by simpa using h)
theorem txL_lt (k:Key):∀b∈txL k,b<256:=by
 intro b hb;unfold txL at hb;rcases List.mem_cons.1 hb with h | h
 ·rw [h]; split <;> omega
 ·rcases List.mem_append.1 h with h | h
  ·have:=z3g _ _ h; omega
  ·unfold argsL at h;obtain ⟨a,_,ha⟩:=List.mem_flatMap.1 h;rcases List.mem_cons.1 ha with h | h
   ·omega
   ·have:=z3g _ _ h; omega
def txK (k:Key):ByteArray:=bytesL (txL k)
theorem zfw (k k':Key) (h:txK k=txK k'):k=k':=zfx (zbn (txL_lt k) (txL_lt k') h)
theorem z7h (l l':List Nat):bytesL (l++l')=bytesL l++bytesL l':=by
 unfold bytesL;rw [List.map_append];apply ByteArray.ext;simp [ByteArray.data_append]
theorem z4f (l:List Nat):(bytesL l).size=l.length:=by
 show ((l.map Nat.toUInt8).toArray).size=_;simp
end Go.Abs.Eg
namespace Go.Abs
variable {P:Program}
def BornAt (H:AH) (id:Nat):Prop:=∃es n opn esz,H.get id=some { obj:=.map es n,opn:=opn,esz:=esz,ro:=false }∧(es.toList.map (·.born)).Nodup∧∀e∈es.toList,e.born<n
structure MapB (H:AH) (id:Nat) (f:Int→Option Value):Prop where
 u:MapU (Value.int .i64) H id f
 b:BornAt H id
theorem zaf:∀{l l':List Int},l.Nodup→(∀b∈l,b∈l')→l.length≤l'.length
 | [],_,_,_=>Nat.zero_le _
 | x :: l,l',hn,hs=>by
  rw [List.nodup_cons] at hn;have h1:=zaf hn.2 (l':=l'.erase x) fun b hb=>(List.mem_erase_of_ne (fun e:b=x=>hn.1 (by rw [← e]; exact hb))).2 (hs b (List.mem_cons_of_mem _ hb));have h2:=List.length_erase_of_mem (hs x List.mem_cons_self);have h3:=List.length_pos_of_mem (hs x List.mem_cons_self);simp only [List.length_cons];omega
theorem z85 {l:List Int} (h:l.Nodup):(sortI l).Pairwise (·<·):=by
 have ht:∀a b c:Int,decide (a≤b)=true→decide (b≤c)=true→decide (a≤c)=true:=fun a b c h1 h2=>by simp at *; omega
 have hc:∀a b:Int,(decide (a≤b)||decide (b≤a))=true:=fun a b=>by simp; omega
 have h1:=List.pairwise_mergeSort ht hc l;have h2:(sortI l).Nodup:=(List.mergeSort_perm l _).nodup_iff.2 h;exact (h1.and h2).imp fun {a b} hh=>by
  have:=hh.1;simp at this;have:=hh.2;omega
theorem ze1 {l:List Int} {z:Int}:z∈sortI l↔z∈l:=(List.mergeSort_perm l _).mem_iff
structure Vw (H:AH) (s:Sl3) (l:List Nat):Prop where
 n:s.n=l.length
 cap:(s.c=OPEN∧∀a,s.p=some a→∃b,H.get a.block=some b∧b.opn=true∧b.esz=1∧isCells b.obj=true)∨(s.n≤s.c∧s.c<OPEN∧0<s.c)
 p:∃a,s.p=some a∧a.spot=none∧a.block<H.next∧∀(i:Nat) (h:i<l.length),Cel H (a.add i) (.int .i64 (l[i]:Nat))
end Go.Abs
namespace Go.Abs.Eg
section
variable {N:List Nd} {sd:List Sd} {fe:List Ed} {i j:Nat} {p q:List Nat}
def Dn (fe:List Ed) (D:Nat→Prop) (u v:Nat):Prop:=∀p q c,Pa fe u p→Pa fe v q→Btw p q c→D c
structure XI (N:List Nd) (sd:List Sd) (fe:List Ed) (a b:Nat) (q:List (Nat×Nat)) (D:List Nat) (T:List Int):Prop where
 dn:D.Nodup
 dl:∀n∈D,n<fe.length
 qj:∀w∈q,Ju N sd (US fe) w.1 w.2∧w.1<fe.length∧w.2<fe.length
 tag:∀n∈D,∀(j:Int) t f o,fe[n]? = some (j,t,f,o,false)→t∈T
 cong:∀n∈D,∀(j a b:Nat) (t:Int) (x y:Nd) (k u v:Nat),fe[n]? = some ((j:Int),t,(a:Int),(b:Int),true)→N[a]? = some x→N[b]? = some y→x.args[k]? = some u→y.args[k]? = some v→(u,v)∈q∨Dn fe (·∈D) u v
 goal:(a,b)∈q∨Dn fe (·∈D) a b
 tl:∀t∈T,∃s∈sd,s.2.2.2=false∧s.2.2.1=t
variable {a b:Nat} {Q:List (Nat×Nat)} {D:List Nat} {T:List Int}
end
end Go.Abs.Eg
namespace Go.Abs.Eg
structure RQ (N:List Nd) (M:List (Nat×Nat)) (n:Nat) (r:Nat→Nat):Prop where
 low:∀i,i<n→r i≤i
 idem:∀i,i<n→r (r i)=r i
 snd:∀i j,i<n→j<n→r i=r j→Cong N M i j
def rts (n:Nat) (r:Nat→Nat):Nat:=((List.range n).filter fun i=>decide (r i=i)).length
section
variable {N:List Nd} {M:List (Nat×Nat)} {n:Nat} {r:Nat→Nat} {a b x y:Nat}
def alk (r:Nat→Nat) (p q:Nd):Bool:=!p.value&&!q.value&&decide (p.sym=q.sym)&&decide (p.args.map r=q.args.map r)
end
end Go.Abs.Eg
namespace Go.Proofs.YtgkhbmoidenjaaaDoor
open Go Go.Abs
set_option maxRecDepth 100000
def tabs:List Tab:=[(0,155,((zsOf Rows.laid_internal_strconv_uint64pow10).map fun z=>Value.int .u64 z).toArray)]
theorem zaj:tabsB Tryd.prog tabs=true:=by kernel_rfl
theorem globalsN:Tryd.prog.globals.size=3:=by kernel_rfl
theorem N7:0<Tryd.prog.globals.size:=by rw [globalsN]; omega
def HasT (H:AH):Prop:=∀x∈tabs,H.get x.1=some (tabBlk x)∧x.1<H.next
theorem HasT.ext {H H':AH} (h:HasT H) (hf:Ext H H'):HasT H':=fun x hx=>⟨hf.2 _ _ (h x hx).2 (fun h=>h) (h x hx).1,Nat.lt_of_lt_of_le (h x hx).2 hf.1⟩
noncomputable def H0:AH:=startH Tryd.prog tabs
set_option maxHeartbeats 0 in
theorem zcu:(acall Tryd.prog ⟨1000,orN⟩ 100000 3 13 #[] H0).map (·.1)=some (.bool true):=by kernel_rfl
open Classical in
noncomputable def V6 (_L:LC) (H:AH):Option Bool:=if HasT H then some true else none
def z62:Bool→Value
 | r0=>(Value.bool r0)
def z67 (H:AH):Bool→AH:=fun _=>H
theorem z6d {L:LC} {m:Nat} {H:AH} {r:Bool} (h:V6 L H=some r):CallS Tryd.prog (NE.plain 1000) m 13 #[] H (z62 r) (z67 H r):=by
 unfold V6 at h;split at h
 ·rename_i hT;cases h;have hrun:=zcu;cases hq:acall Tryd.prog ⟨1000,orN⟩ 100000 3 13 #[] H0 with
  | none=>rw [hq] at hrun; cases hrun
  | some q =>
   rw [hq] at hrun;obtain ⟨b,H'⟩:=q;simp only [Option.map_some,Option.some.injEq] at hrun;subst hrun;have hc:=CallS.ofRun (ne:=NE.plain 1000) (c:=(Tryd.f13.body).getD .skip) orN_ok (show Tryd.prog.funcs[13]? = some Tryd.f13 from Tryd.func13) (by kernel_rfl) hq;refine CallS.under (tabs:=tabs) N7 zaj (H1:=H') ?_ (by simp) (by rfl) fun x hx=>(hT x hx).1;rw [globalsN];exact hc
 ·cases h
theorem zdz (L:LC) {H:AH} (h:HasT H):V6 L H=some true:=by
 unfold V6;rw [if_pos h]
end Go.Proofs.YtgkhbmoidenjaaaDoor
namespace Go.Proofs.YtgkhbmoidenjaaaDoor
open Go Go.Abs Go.ChangeShapes Go.WideShapes
set_option maxRecDepth 100000
theorem own:ownKnob Tryd.prog.godebug=none:=by kernel_rfl
theorem laidOut:laidOutB Tryd.prog=true:=by kernel_rfl
theorem zbz:globalsB Tryd.prog=true:=by kernel_rfl
theorem sane:Sane Tryd.prog (NE.plain 1000):=zfy (fun _ _ _ _=>rfl) (by kernel_rfl) (by kernel_rfl) (by kernel_rfl)
theorem ze4 (os:Os) (args:Array Value):laidMet Tryd.prog Rows.egraphOrderUptoRow.laid ((laidW2 Tryd.prog Rows.egraphOrderUptoRow.laid os).forCall (fun _ _=>0) ⟨#[],args,[]⟩).memory :=
 laidMet_of_run3 8 (by kernel_rfl) (by kernel_rfl) (by kernel_rfl)
theorem zey (W:World) (hL:laidMet Tryd.prog Rows.egraphOrderUptoRow.laid W) (hsh:W.ShapedOpen Tryd.prog):∀x∈tabs,∃fr,W.heap[x.1]? = some (.cells x.2.2 x.2.1 fr):=by
 intro x hx;simp only [tabs,List.mem_cons,List.not_mem_nil,or_false] at hx;subst hx;exact zfj (name := "internal/strconv.uint64pow10") (te:=138) (n:=20) (t:=155) hL (by kernel_rfl) (by kernel_rfl) (by kernel_rfl) (by kernel_rfl) (by kernel_rfl) (by kernel_rfl) (by kernel_rfl) (of_decide_eq_true (by kernel_rfl)) (by kernel_rfl) hsh
theorem zc6:HasT H0:=by
 intro x hx;simp only [tabs,List.mem_cons,List.not_mem_nil,or_false] at hx;subst hx; exact ⟨by kernel_rfl,by rw [show H0.next=Tryd.prog.globals.size from z4i tabs,globalsN]; decide⟩
theorem zf5 {W:World} (hg:Tryd.prog.globals.size≤W.heap.size) (hL:laidMet Tryd.prog Rows.egraphOrderUptoRow.laid W) (hsh:W.ShapedOpen Tryd.prog):Imp Tryd.prog (φg Tryd.prog) H0 W :=
 Imp.startT hg zaj (zey W hL hsh)
namespace bulks
theorem one_le {H:Type} (d:DataW H):1≤Rows.uptoBulk d:=by
 cases d with
 | lit l=>cases l <;> simp [Rows.uptoBulk]
 | nil=>simp [Rows.uptoBulk]
 | ptr d=>simp [Rows.uptoBulk]
 | slice elems spare=>simp [Rows.uptoBulk]
 | agg parts=>simp [Rows.uptoBulk]
 | iface t d=>simp [Rows.uptoBulk]
 | map entries=>simp [Rows.uptoBulk]
 | held h=>simp [Rows.uptoBulk]
theorem bound {H:Type} {l:List (DataW H)} (hk:Rows.uptoSmall H l=true):Rows.uptoBulkAll l≤1048576:=of_decide_eq_true hk
end bulks
section
variable {H:Type} {enc:TypeId×Value→H} {W:World} {φ:Inj}
theorem ar1 {a a':Value} (h:VR φ a a'):AR φ #[a] #[a']:=by
 refine ⟨rfl,fun i x y hx hy=>?_⟩
 match i,hx,hy with
 | 0,hx,hy=>simp at hx hy; subst hx hy; exact h
 | i+1,hx,_=>simp at hx
theorem wf_i64 {n:Int} (h:(Lit.int .i64 n).wf=true):-9223372036854775808≤n∧n<9223372036854775808:=by
 have e1:IntKind.i64.min=-9223372036854775808:=by decide
 have e2:IntKind.i64.max=9223372036854775807:=by decide
 simp only [Lit.wf,Bool.and_eq_true,decide_eq_true_eq,e1,e2] at h;omega
end
end Go.Proofs.YtgkhbmoidenjaaaDoor
namespace Go.Proofs.YtgkhbmoidenjaaaDoor
open Go Go.Abs Go.Abs.Eg Go.ChangeShapes Go.WideShapes
set_option maxRecDepth 100000
theorem cells55:Tryd.prog.cellsOf 55=6:=by kernel_rfl
theorem cells3:Tryd.prog.cellsOf 3=1:=by kernel_rfl
theorem cells27:Tryd.prog.cellsOf 27=1:=by kernel_rfl
section
variable {H:Type} {enc:TypeId×Value→H} {W:World}
theorem zk {P:Program} {e:TypeId}:∀{l:List (DataW H)} {d:DataW H},d∈l→∀n∈d.weights P e,n∈DataW.weightsAll P e l
 | x :: l,d,hd,n,hn=>by
  simp only [DataW.weightsAll,List.mem_append];rcases List.mem_cons.1 hd with rfl | hd
  ·exact .inl hn
  ·exact .inr (zk hd n hn)
theorem lr1 {φ:Inj} {a a':Value} (h:VR φ a a'):LR φ [a] [a']:=.cons h .nil
theorem z6v {β:Type} {w:β→Nat}:∀(bs:List β) (es:List (DataW H)),bs.length=es.length→(∀(i:Nat) b y,bs[i]? = some b→es[i]? = some y→w b≤Rows.uptoBulk y)→(bs.map w).sum≤Rows.uptoBulkAll es
 | [],[],_,_=>Nat.le_refl _
 | [],_ :: _,h,_=>by cases h
 | _ :: _,[],h,_=>by cases h
 | b :: bs,y :: es,h,hw=>by
  have h1:=z6v bs es (by simpa using h) fun i b' y' hb hy=>hw (i+1) b' y' (by simpa using hb) (by simpa using hy);have h2:=hw 0 b y rfl rfl;simp only [List.map_cons,List.sum_cons,Rows.uptoBulkAll];omega
theorem z2j {t e:TypeId} {sz:Nat} (ht:Tryd.prog.underlying t=some (.slice e)) (hc:Tryd.prog.cellsOf e=sz) (hsz:0<sz) {β:Type} {R:AH→List Value→β→Prop} {w:β→Nat} (hR:∀H H' cs b,Ext H H'→R H cs b→R H' cs b)
  {fuel:Nat} {cs:List Value} {x:DataW H×List MemPlace} (elem:∀n,n<fuel→∀cs y,DataW.trod enc Tryd.prog W 0 (fun _=>true) true n e cs=some y→(y.1.weights Tryd.prog e).all (·≤reachBytes)=true→ElemK Tryd.prog W sz R (fun b=>w b≤Rows.uptoBulk y.1) cs)
  (hx:DataW.trod enc Tryd.prog W 0 (fun _=>true) true fuel t cs=some x) (hw:(x.1.weights Tryd.prog t).all (·≤reachBytes)=true) {φ:Inj} {H0:AH} (h:Imp Tryd.prog φ H0 W) :
  ∃v φ' H' s bs,cs=[v]∧Imp Tryd.prog φ' H' W∧φ.le φ'∧Ext H0 H'∧VR φ' (Sl3.v s) v∧SlL (Stands sz R) sz H' s (bs:List β)∧(bs.map w).sum≤Rows.uptoBulk x.1:=by
 rcases DataW.trod_slice ht hx with ⟨rfl,rfl⟩ | ⟨a,len,cap,elems,rest,n,rfl,rfl,rfl,hb,hl,hm,hlen,hel,hsp,_⟩
 ·obtain ⟨φ',H',s,bs,h1,h2,h3,h4,h5,h6,_,_⟩:=Imp.sliceK (n:=0) (c:=0) (A:=none) (K:=fun _ _=>True) hsz hR h N7 (Nat.le_refl _) (Nat.zero_le _) (fun _=>rfl) (C:=fun _=>[]) (fun i hi=>absurd hi (Nat.not_lt_zero _)) (fun a ha=>by cases ha) (fun a ha=>by cases ha);have:bs=[]:=List.length_eq_zero_iff.1 h6;subst this;exact ⟨_,φ',H',s,[],rfl,h1,h2,h3,h4,h5,Nat.zero_le _⟩
 ·have get:∀i (hi:i<len),∃cs',W.cells? 0 (a.add (i*sz)) sz=some cs'∧DataW.trod enc Tryd.prog W 0 (fun _=>true) true n e cs'=some (elems[i]'(by omega)):=by
   intro i hi;have:=hel i hi;rw [hc,List.getElem?_eq_getElem (by omega)] at this;obtain ⟨cs',h1,h2⟩:=Option.bind_eq_some_iff.1 this;exact ⟨cs',h1,h2⟩
  have hww:∀y∈elems,(y.1.weights Tryd.prog e).all (·≤reachBytes)=true:=by
   intro y hy;rw [List.all_eq_true];intro w' hw';rw [List.all_eq_true] at hw;refine hw w' ?_;simp only [DataW.weights,ht,List.mem_cons,List.mem_append];exact .inr (.inl (zk (List.mem_map.2 ⟨y,hy,rfl⟩) w' hw'))
  obtain ⟨φ',H',s,bs,h1,h2,h3,h4,h5,h6,_,h8⟩:=Imp.sliceK (n:=len) (c:=cap) (A:=some a) (K:=fun i b=>∀y,(elems.map (·.1))[i]? = some y→w b≤Rows.uptoBulk y) hsz hR h N7 hl hm (fun h=>by cases h) (C:=fun i=>(W.cells? 0 (a.add (i*sz)) sz).getD []) (fun i hi=>by
    obtain ⟨cs',g1,g2⟩:=get i hi;simp only [g1,Option.getD_some];intro φ0 H0 hi0;obtain ⟨φ',H',cs2,b,q1,q2,q3,q4,q5,q6,q7,q8⟩:=elem n (Nat.lt_succ_self n) cs' _ g2 (hww _ (List.getElem_mem _)) φ0 H0 hi0;refine ⟨φ',H',cs2,b,q1,q2,q3,q4,q5,q6,q7,fun y hy=>?_⟩;rw [List.getElem?_map,List.getElem?_eq_getElem (by omega),Option.map_some] at hy;cases hy;exact q8) (fun a' ha' hpos=>by
    cases ha';by_cases h0:0<len
    ·obtain ⟨cs',g1,g2⟩:=get 0 h0;obtain ⟨_,k2,k3⟩:=World.cells?_some g1;have:=k3 0 hsz;rw [Nat.zero_mul,add_zero,add_zero] at this;exact ⟨_,this.trans (List.getElem?_eq_getElem (by omega))⟩
    ·obtain rfl:len=0:=by omega
     obtain ⟨q1,q2⟩:=hsp rfl;have:=q2 0 (by omega);rw [hc,List.getElem?_eq_getElem (by omega)] at this;obtain ⟨cs',g1,g2⟩:=Option.bind_eq_some_iff.1 this;obtain ⟨_,k2,k3⟩:=World.cells?_some g1;have:=k3 0 hsz;rw [Nat.zero_add,Nat.zero_mul,add_zero,add_zero] at this;exact ⟨_,this.trans (List.getElem?_eq_getElem (by omega))⟩) (fun a' ha' i hi j hj=>by
    cases ha';obtain ⟨cs',g1,g2⟩:=get i hi;obtain ⟨_,k2,k3⟩:=World.cells?_some g1;have:=k3 j hj;simp only [g1,Option.getD_some];rw [← this];have hsp:a.spot=none:=by
     obtain ⟨cs0,g1,g2⟩:=get 0 (by omega);obtain ⟨_,k2,k3⟩:=World.cells?_some g1;have k0:=k3 0 hsz;rw [Nat.zero_mul,add_zero,add_zero] at k0;obtain ⟨_,_,_,_,hs,_⟩:=W8 (k0.trans (List.getElem?_eq_getElem (by omega)));exact hs
    rw [z3v hsp])
  refine ⟨_,φ',H',s,bs,rfl,h1,h2,h3,h4,h5,?_⟩;have:=z6v bs (elems.map (·.1)) (by rw [List.length_map]; omega) fun i b y hb hy=>h8 i b hb y hy;simp only [Rows.uptoBulk];omega
structure ZV (H:AH) (cs:List Value) (b:Int):Prop where
 ex:cs=[.int .i64 b]
theorem ZV.ext (H H':AH) (cs:List Value) (b:Int) (hf:Ext H H') (h:ZV H cs b):ZV H' cs b:=⟨h.ex⟩
theorem fl_EZ:∀l:List Int,l.flatMap EZ.enc=l.map fun n=>Value.int .i64 n
 | []=>rfl
 | x :: l=>by rw [List.flatMap_cons,List.map_cons,fl_EZ l]; rfl
theorem ar_of {H:AH} {s:Sl3} {l:List Int} (h:SlL (Stands 1 ZV) 1 H s l):AR H s l:=by
 have cell:∀(i:Nat) (hi:i<l.length),∃a,s.p=some a∧Cel H (a.add i) (.int .i64 l[i]):=fun i hi=>by
  obtain ⟨a,h1,cs,h2,h3,h4⟩:=h.at_.get i hi;obtain rfl:=h4.ex;have:=h3 0 _ rfl;rw [add_zero,Nat.mul_one,Nat.zero_add] at this;exact ⟨a,h1,this⟩
 have fl:=fl_EZ l;refine ⟨h.n,⟨h.n,fun hp=>?_,fun a ha=>?_,?_⟩,fun i hi=>?_⟩
 ·cases l with
  | nil=>exact ⟨rfl,rfl⟩
  | cons x l=>obtain ⟨a,h1,_⟩:=cell 0 (by simp); rw [hp] at h1; cases h1
 ·rw [fl,Nat.mul_one];have:=X8 (H:=H) (a:=a) (l.map fun n=>Value.int .i64 n) 0 fun i hi=>by
   rw [List.length_map] at hi;obtain ⟨a',h1,h2⟩:=cell i hi;rw [ha] at h1;cases h1;rw [Nat.zero_add,List.getElem_map];exact h2.1
  rw [List.length_map] at this;exact this
 ·rw [fl,List.all_eq_true];intro v hv;obtain ⟨n,_,rfl⟩:=List.mem_map.1 hv;rfl
 ·obtain ⟨a,h1,h2⟩:=cell i hi;refine ⟨a.add (i*1),?_,?_⟩
  ·unfold idxA;rw [h1];simp only [h.n,if_pos (show (0:Int)≤(i:Int)∧(i:Int)<((l.length:Nat):Int) by omega),Int.toNat_natCast]
  ·rw [Nat.mul_one,h2.rd]; rfl
structure OpV (H:AH) (cs:List Value) (o:OpD):Prop where
 ex:∃s:Sl3,cs=[.int .i64 o.kd,.int .i64 o.sy,s.v,.int .i64 o.a,.int .i64 o.b,.int .i64 o.tg]∧∀H',Ext H H'→AR H' s o.aa
 ok:-9223372036854775808≤o.sy∧o.sy<9223372036854775808
theorem OpV.ext (H H':AH) (cs:List Value) (o:OpD) (hf:Ext H H') (h:OpV H cs o):OpV H' cs o:=⟨let ⟨s,h1,h2⟩:=h.ex; ⟨s,h1,fun H2 hx=>h2 H2 (hf.trans hx)⟩,h.ok⟩
theorem SlZ.ext {H H':AH} {s:Sl3} {l:List Int} (h:SlL (Stands 1 ZV) 1 H s l) (hf:Ext H H'):SlL (Stands 1 ZV) 1 H' s l :=
 ⟨h.n,h.cap,h.top,fun a ha=>⟨Nat.lt_of_lt_of_le (h.low a ha).1 hf.1,(h.low a ha).2⟩,h.at_.imp fun a x hx=>let ⟨cs,h1,h2,h3⟩:=hx; ⟨cs,h1,fun j v hj=>(h2 j v hj).ext hf,⟨h3.ex⟩⟩⟩
theorem zdy (fuel:Nat) (cs:List Value) (x:DataW H×List MemPlace) (hx:DataW.trod enc Tryd.prog W 0 (fun _=>true) true fuel 55 cs=some x) (hw:(x.1.weights Tryd.prog 55).all (·≤reachBytes)=true):ElemK Tryd.prog W 6 OpV (fun o=>o.aa.length+1≤Rows.uptoBulk x.1) cs:=by
 intro φ H0 h;obtain ⟨xs,n,rfl,rfl,hl,hlen,hf⟩:=DataW.trod_struct Tryd.underlying55 hx;rw [cells55] at hl
 match xs,hlen with
 | [y0,y1,y2,y3,y4,y5],_ =>
  match cs,hl with
  | [c0,c1,c2,c3,c4,c5],_ =>
   have f0:DataW.trod enc Tryd.prog W 0 (fun _=>true) true n 3 (([c0,c1,c2,c3,c4,c5].drop 0).take (Tryd.prog.cellsOf 3))=some y0:=hf 0 _ rfl;rw [cells3] at f0;change DataW.trod enc Tryd.prog W 0 (fun _=>true) true n 3 [c0]=some y0 at f0;have f1:DataW.trod enc Tryd.prog W 0 (fun _=>true) true n 3 (([c0,c1,c2,c3,c4,c5].drop 1).take (Tryd.prog.cellsOf 3))=some y1:=hf 1 _ rfl;rw [cells3] at f1;change DataW.trod enc Tryd.prog W 0 (fun _=>true) true n 3 [c1]=some y1 at f1;have f2:DataW.trod enc Tryd.prog W 0 (fun _=>true) true n 27 (([c0,c1,c2,c3,c4,c5].drop 2).take (Tryd.prog.cellsOf 27))=some y2:=hf 2 _ rfl;rw [cells27] at f2;change DataW.trod enc Tryd.prog W 0 (fun _=>true) true n 27 [c2]=some y2 at f2;have f3:DataW.trod enc Tryd.prog W 0 (fun _=>true) true n 3 (([c0,c1,c2,c3,c4,c5].drop 3).take (Tryd.prog.cellsOf 3))=some y3:=hf 3 _ rfl;rw [cells3] at f3;change DataW.trod enc Tryd.prog W 0 (fun _=>true) true n 3 [c3]=some y3 at f3;have f4:DataW.trod enc Tryd.prog W 0 (fun _=>true) true n 3 (([c0,c1,c2,c3,c4,c5].drop 4).take (Tryd.prog.cellsOf 3))=some y4:=hf 4 _ rfl;rw [cells3] at f4;change DataW.trod enc Tryd.prog W 0 (fun _=>true) true n 3 [c4]=some y4 at f4;have f5:DataW.trod enc Tryd.prog W 0 (fun _=>true) true n 3 (([c0,c1,c2,c3,c4,c5].drop 5).take (Tryd.prog.cellsOf 3))=some y5:=hf 5 _ rfl;rw [cells3] at f5;change DataW.trod enc Tryd.prog W 0 (fun _=>true) true n 3 [c5]=some y5 at f5;simp only [DataW.weights,Tryd.underlying55,List.map_cons,List.map_nil,DataW.weightsEach,List.append_nil,List.all_append,Bool.and_eq_true] at hw;obtain ⟨n0,e0,d0,w0⟩:=DataW.trod_int Tryd.underlying3 f0;obtain ⟨n1,e1,d1,w1⟩:=DataW.trod_int Tryd.underlying3 f1;obtain ⟨n3,e3,d3,w3⟩:=DataW.trod_int Tryd.underlying3 f3;obtain ⟨n4,e4,d4,w4⟩:=DataW.trod_int Tryd.underlying3 f4;obtain ⟨n5,e5,d5,w5⟩:=DataW.trod_int Tryd.underlying3 f5;obtain ⟨v,φ',H',s,bs,e2,g1,g2,g3,g4,g5,g7⟩:=z2j (enc:=enc) (w:=fun _:Int=>1) Tryd.underlying27 cells3 (by omega) ZV.ext (fun m hm cs x q1 q2=>fun φ0 H1 h1=>by
    obtain ⟨z,rfl,_,_⟩:=DataW.trod_int Tryd.underlying3 q1;exact ⟨φ0,H1,[.int .i64 z],z,h1,Inj.le_refl _,Fm.refl _ _,rfl,rfl,lr1 (.int _ _),⟨rfl⟩,bulks.one_le _⟩) f2 hw.2.2.1 h
   have g8:(bs.map fun _:Int=>1).sum=bs.length:=by clear g7 g5; induction bs with
    | nil=>rfl
    | cons b bs ih=>rw [List.map_cons,List.sum_cons,ih,List.length_cons]; omega
   simp only [List.cons.injEq,and_true] at e0 e1 e2 e3 e4 e5;subst e0 e1 e2 e3 e4 e5;refine ⟨φ',H',[.int .i64 n0,.int .i64 n1,Sl3.v s,.int .i64 n3,.int .i64 n4,.int .i64 n5],⟨n0,n1,bs,n3,n4,n5⟩,g1,g2,g3,rfl,rfl,.cons (.int _ _) (.cons (.int _ _) (.cons g4 (.cons (.int _ _) (.cons (.int _ _) (.cons (.int _ _) .nil))))),⟨⟨s,rfl,fun H2 hx=>ar_of (SlZ.ext g5 hx)⟩,?_⟩,?_⟩
   ·exact wf_i64 w1
   ·simp only [Rows.uptoBulk,Rows.uptoBulkAll,List.map_cons];show bs.length+1≤_;omega
theorem ops_of {H:AH} {s:Sl3} {l:List OpD} (h:SlL (Stands 6 OpV) 6 H s l):OpsR H s l:=by
 refine ⟨h.n,fun i hi=>?_⟩;obtain ⟨a,h1,cs,h2,h3,h4⟩:=h.at_.get i hi;obtain ⟨sl,rfl,h5⟩:=h4.ex;rw [Nat.zero_add] at h3;refine ⟨a.add (i*6),?_,⟨h3 0 _ rfl,h3 1 _ rfl,⟨sl,h3 2 _ rfl,h5⟩,h3 3 _ rfl,h3 4 _ rfl,h3 5 _ rfl,h4.ok⟩⟩;unfold idxA;rw [h1];simp only [h.n,if_pos (show (0:Int)≤(i:Int)∧(i:Int)<((l.length:Nat):Int) by omega),Int.toNat_natCast]
theorem zad:∀ops:List OpD,bulkO ops=(ops.map fun o=>o.aa.length+1).sum
 | []=>rfl
 | o :: ops=>by
  have:=zad ops;unfold bulkO at this ⊢;simp only [List.length_cons,List.map_cons,List.sum_cons];omega
theorem zc7 {φ:Inj} {H0:AH} (h:Imp Tryd.prog φ H0 W) {v:Value} {d:DataW H} {ps:List MemPlace} (hd:DataW.Trod enc Tryd.prog W 0 (fun _=>true) true 22 v d ps) {base:Nat} (hv:Value.okWide Tryd.prog W .any base 22 v) (hw:(d.weights Tryd.prog 22).all (·≤reachBytes)=true) :
  ∃φ' H' s ops,Imp Tryd.prog φ' H' W∧φ.le φ'∧Ext H0 H'∧VR φ' (Sl3.v s) v∧OpsR H' s ops∧bulkO ops≤Rows.uptoBulk d:=by
 obtain ⟨A,Ln,C,rfl⟩:=okWide_slice Tryd.underlying22 hv;obtain ⟨fuel,hf⟩:=hd;change DataW.trod enc Tryd.prog W 0 (fun _=>true) true fuel 22 [.slice A Ln C]=some (d,ps) at hf;obtain ⟨v',φ',H',s,bs,e,h1,h2,h3,h4,h5,h6⟩:=z2j (enc:=enc) (w:=fun o:OpD=>o.aa.length+1) Tryd.underlying22 cells55 (by omega) OpV.ext (fun m hm cs x q1 q2=>zdy m cs x q1 q2) hf hw h;simp only [List.cons.injEq,and_true] at e;subst e;exact ⟨φ',H',s,bs,h1,h2,h3,h4,ops_of h5,Nat.le_trans (Nat.le_of_eq (zad bs)) h6⟩
end
end Go.Proofs.YtgkhbmoidenjaaaDoor
namespace Go.Proofs.YtgkhbmoidenjaaaDoor
open Go Go.Abs
set_option maxRecDepth 100000
def sortRen:Go.Shelf.Ren:=⟨fun | 5=>55 | 8=>69 | 7=>68 | 19=>87 | 20=>88 | 10=>78 | 11=>79 | 12=>80 | 13=>81 | 14=>82 | 15=>83 | 16=>84 | 17=>85 | 18=>86 | 30=>90 | 31=>91 | 32=>92 | 33=>93 | 34=>94 | 35=>95 | 40=>97 | n=>n,fun | 23=>27 | 25=>3 | 3=>3 | 32=>118 | 22=>27 | 0=>0 | 44=>136 | 46=>138 | 4=>4 | 36=>130 | 35=>129 | 41=>38 | 5=>5 | 9=>9 | 53=>140 | 57=>144 | 63=>147 | 64=>94 | n=>n,fun n=>n⟩
theorem sortLays:Go.Proofs.SlLaysM.n5 Tryd.prog sortRen:={
 mixed:=by kernel_rfl,
 f5:=⟨Tryd.f55.name,by decide,Tryd.func55.trans (congrArg some (by kernel_rfl))⟩,
 f7:=⟨Tryd.f68.name,by decide,Tryd.func68.trans (congrArg some (by kernel_rfl))⟩,
 f8:=Tryd.func69.trans (congrArg some (by kernel_rfl)),
 f10:=⟨Tryd.f78.name,by decide,Tryd.func78.trans (congrArg some (by kernel_rfl))⟩,
 f11:=⟨Tryd.f79.name,by decide,Tryd.func79.trans (congrArg some (by kernel_rfl))⟩,
 f12:=⟨Tryd.f80.name,by decide,Tryd.func80.trans (congrArg some (by kernel_rfl))⟩,
 f13:=⟨Tryd.f81.name,by decide,Tryd.func81.trans (congrArg some (by kernel_rfl))⟩,
 f14:=⟨Tryd.f82.name,by decide,Tryd.func82.trans (congrArg some (by kernel_rfl))⟩,
 f15:=⟨Tryd.f83.name,by decide,Tryd.func83.trans (congrArg some (by kernel_rfl))⟩,
 f16:=⟨Tryd.f84.name,by decide,Tryd.func84.trans (congrArg some (by kernel_rfl))⟩,
 f17:=⟨Tryd.f85.name,by decide,Tryd.func85.trans (congrArg some (by kernel_rfl))⟩,
 f18:=⟨Tryd.f86.name,by decide,Tryd.func86.trans (congrArg some (by kernel_rfl))⟩,
 f19:=Tryd.func87.trans (congrArg some (by kernel_rfl)),
 f20:=Tryd.func88.trans (congrArg some (by kernel_rfl)),
 f30:=⟨Tryd.f90.name,by decide,Tryd.func90.trans (congrArg some (by kernel_rfl))⟩,
 f31:=Tryd.func91.trans (congrArg some (by kernel_rfl)),
 f32:=Tryd.func92.trans (congrArg some (by kernel_rfl)),
 f33:=⟨Tryd.f93.name,by decide,Tryd.func93.trans (congrArg some (by kernel_rfl))⟩,
 f34:=⟨Tryd.f94.name,by decide,Tryd.func94.trans (congrArg some (by kernel_rfl))⟩,
 f35:=⟨Tryd.f95.name,by decide,Tryd.func95.trans (congrArg some (by kernel_rfl))⟩,
 f40:=⟨Tryd.f97.name,by decide,Tryd.func97.trans (congrArg some (by kernel_rfl))⟩,
 t0:=by kernel_rfl,
 a0:=fun _=>by kernel_rfl,
 z0:=fun _=>by kernel_rfl,
 v0:=fun _=>by kernel_rfl,
 t3:=by kernel_rfl,
 a3:=fun _=>by kernel_rfl,
 z3:=fun _=>by kernel_rfl,
 v3:=fun _=>by kernel_rfl,
 t4:=by kernel_rfl,
 a4:=fun _=>by kernel_rfl,
 z4:=fun _=>by kernel_rfl,
 v4:=fun _=>by kernel_rfl,
 t5:=by kernel_rfl,
 a5:=fun _=>by kernel_rfl,
 z5:=fun _=>by kernel_rfl,
 v5:=fun _=>by kernel_rfl,
 t9:=by kernel_rfl,
 a9:=fun _=>by kernel_rfl,
 z9:=fun _=>by kernel_rfl,
 v9:=fun _=>by kernel_rfl,
 t22:=by kernel_rfl,
 a22:=fun _=>by kernel_rfl,
 z22:=fun _=>by kernel_rfl,
 v22:=fun _=>by kernel_rfl,
 t23:=by kernel_rfl,
 a23:=fun _=>by kernel_rfl,
 z23:=fun _=>by kernel_rfl,
 v23:=fun _=>by kernel_rfl,
 t25:=by kernel_rfl,
 a25:=fun _=>by kernel_rfl,
 z25:=fun _=>by kernel_rfl,
 v25:=fun _=>by kernel_rfl,
 t32:=by kernel_rfl,
 a32:=fun _=>by kernel_rfl,
 z32:=fun _=>by kernel_rfl,
 v32:=fun _=>by kernel_rfl,
 t35:=by kernel_rfl,
 a35:=fun _=>by kernel_rfl,
 z35:=fun _=>by kernel_rfl,
 v35:=fun _=>by kernel_rfl,
 t36:=by kernel_rfl,
 a36:=fun _=>by kernel_rfl,
 z36:=fun _=>by kernel_rfl,
 v36:=fun _=>by kernel_rfl,
 t41:=by kernel_rfl,
 a41:=fun _=>by kernel_rfl,
 z41:=fun _=>by kernel_rfl,
 v41:=fun _=>by kernel_rfl,
 t44:=by kernel_rfl,
 a44:=fun _=>by kernel_rfl,
 z44:=fun _=>by kernel_rfl,
 v44:=fun _=>by kernel_rfl,
 t46:=by kernel_rfl,
 a46:=fun _=>by kernel_rfl,
 z46:=fun _=>by kernel_rfl,
 v46:=fun _=>by kernel_rfl,
 t53:=by kernel_rfl,
 a53:=fun _=>by kernel_rfl,
 z53:=fun _=>by kernel_rfl,
 v53:=fun _=>by kernel_rfl,
 t57:=by kernel_rfl,
 a57:=fun _=>by kernel_rfl,
 z57:=fun _=>by kernel_rfl,
 v57:=fun _=>by kernel_rfl,
 t63:=by kernel_rfl,
 a63:=fun _=>by kernel_rfl,
 z63:=fun _=>by kernel_rfl,
 v63:=fun _=>by kernel_rfl,
 t64:=by kernel_rfl,
 a64:=fun _=>by kernel_rfl,
 z64:=fun _=>by kernel_rfl,
 v64:=fun _=>by kernel_rfl }
theorem z6s:∃fn c,Tryd.prog.funcs[sortRen.f 5]? = some fn∧fn.body=some c:=⟨Tryd.f55,(Tryd.f55.body).getD .skip,Tryd.func55,by kernel_rfl⟩
def intsZ:List Value→Option (List Int)
 | []=>some []
 | .int .i64 z :: l=>(intsZ l).map (z :: ·)
 | _=>none
theorem z54:∀{l:List Value} {zs:List Int},intsZ l=some zs→l=zs.map fun z=>Value.int .i64 z
 | [],zs,h=>by cases h; rfl
 | v :: l,zs,h=>by
  unfold intsZ at h;split at h
  ·rename_i h1; cases h1
  ·rename_i z r h1;simp only [List.cons.injEq] at h1;obtain ⟨rfl,rfl⟩:=h1;cases hq:intsZ l with
   | none=>rw [hq] at h; cases h
   | some q =>
    rw [hq] at h;cases h;rw [List.map_cons,z54 hq]
  ·cases h
theorem z3e:∀zs:List Int,intsZ (zs.map fun z=>Value.int .i64 z)=some zs
 | []=>rfl
 | z :: zs=>by rw [List.map_cons,intsZ,z3e zs]; rfl
noncomputable def T6 (_L:LC) (m:Nat) (H:AH) (a0:Sl3):Option AH :=
 match a0.p with
 | none=>if a0.n=0∧a0.c=0 then some H else none
 | some a=>match H.get a.block with
  | some { obj:=.cells c e (0,0),opn,esz,ro:=false }=>match intsZ c.toList with
   | some zs=>if a=⟨a.block,0,none⟩∧a0.n=zs.length∧0<zs.length∧zs.length≤1099511627776∧m≤a.block then some (H.put a.block { obj:=.cells (zcells (sortI zs)) e (0,0),opn:=opn,esz:=esz,ro:=false }) else none
   | none=>none
  | _=>none
def z5e:AH→Value
 | _=>(Value.tuple #[])
def z6l (_:AH):AH→AH:=fun r=>r
theorem z6g {L:LC} {m:Nat} {H:AH} {a0:Sl3} {r:AH} (h:T6 L m H a0=some r):CallS Tryd.prog (NE.plain 1000) m 55 #[(Sl3.v a0)] H (z5e r) (z6l H r):=by
 obtain ⟨p,n,c⟩:=a0;unfold T6 at h;cases p with
 | none =>
  simp only at h;split at h
  ·rename_i hh;obtain ⟨rfl,rfl⟩:=hh;cases h;exact zej sortLays z6s
  ·cases h
 | some a =>
  simp only at h;split at h
  ·rename_i cs e opn esz hb;split at h
   ·rename_i zs hz;split at h
    ·rename_i hh;obtain ⟨h1,rfl,h3,h4,h5⟩:=hh;cases h;have hc:cs=zcells zs:=by
      have:=z54 hz;unfold zcells;rw [← this]
     subst hc;have:=zcm (m:=m) (ne:=NE.plain 1000) (c:=c) sortLays z6s hb h5 h3 (by omega);rw [← h1] at this;exact this
    ·cases h
   ·cases h
  ·cases h
def itoaRen:Go.Shelf.Ren:=⟨fun | 171=>76 | 243=>89 | 246=>96 | 283=>98 | 284=>99 | 285=>100 | 286=>101 | 129=>88 | 317=>102 | 318=>103 | 319=>104 | 320=>105 | 337=>106 | 338=>107 | n=>n,fun | 3=>3 | 9=>9 | 2=>2 | 4=>4 | 171=>149 | 0=>0 | 53=>138 | 37=>151 | 5=>5 | 173=>152 | 212=>155 | 51=>136 | 20=>20 | 213=>156 | 46=>118 | 232=>157 | 233=>158 | n=>n,fun | 17=>0 | 18=>1 | 19=>2 | n=>n⟩
theorem itoaLays:Go.Proofs.LaysM.n171 Tryd.prog itoaRen:={
 mixed:=by kernel_rfl,
 f129:=Tryd.func88.trans (congrArg some (by kernel_rfl)),
 f171:=Tryd.func76.trans (congrArg some (by kernel_rfl)),
 f243:=Tryd.func89.trans (congrArg some (by kernel_rfl)),
 f246:=Tryd.func96.trans (congrArg some (by kernel_rfl)),
 f283:=Tryd.func98.trans (congrArg some (by kernel_rfl)),
 f284:=Tryd.func99.trans (congrArg some (by kernel_rfl)),
 f285:=Tryd.func100.trans (congrArg some (by kernel_rfl)),
 f286:=Tryd.func101.trans (congrArg some (by kernel_rfl)),
 f317:=Tryd.func102.trans (congrArg some (by kernel_rfl)),
 f318:=Tryd.func103.trans (congrArg some (by kernel_rfl)),
 f319:=Tryd.func104.trans (congrArg some (by kernel_rfl)),
 f320:=Tryd.func105.trans (congrArg some (by kernel_rfl)),
 f337:=Tryd.func106.trans (congrArg some (by kernel_rfl)),
 f338:=Tryd.func107.trans (congrArg some (by kernel_rfl)),
 t0:=by kernel_rfl,
 a0:=fun _=>by kernel_rfl,
 z0:=fun _=>by kernel_rfl,
 v0:=fun _=>by kernel_rfl,
 t2:=by kernel_rfl,
 a2:=fun _=>by kernel_rfl,
 z2:=fun _=>by kernel_rfl,
 v2:=fun _=>by kernel_rfl,
 t3:=by kernel_rfl,
 a3:=fun _=>by kernel_rfl,
 z3:=fun _=>by kernel_rfl,
 v3:=fun _=>by kernel_rfl,
 t4:=by kernel_rfl,
 a4:=fun _=>by kernel_rfl,
 z4:=fun _=>by kernel_rfl,
 v4:=fun _=>by kernel_rfl,
 t5:=by kernel_rfl,
 a5:=fun _=>by kernel_rfl,
 z5:=fun _=>by kernel_rfl,
 v5:=fun _=>by kernel_rfl,
 t9:=by kernel_rfl,
 a9:=fun _=>by kernel_rfl,
 z9:=fun _=>by kernel_rfl,
 v9:=fun _=>by kernel_rfl,
 t20:=by kernel_rfl,
 a20:=fun _=>by kernel_rfl,
 z20:=fun _=>by kernel_rfl,
 v20:=fun _=>by kernel_rfl,
 t37:=by kernel_rfl,
 a37:=fun _=>by kernel_rfl,
 z37:=fun _=>by kernel_rfl,
 v37:=fun _=>by kernel_rfl,
 t46:=by kernel_rfl,
 a46:=fun _=>by kernel_rfl,
 z46:=fun _=>by kernel_rfl,
 v46:=fun _=>by kernel_rfl,
 t51:=by kernel_rfl,
 a51:=fun _=>by kernel_rfl,
 z51:=fun _=>by kernel_rfl,
 v51:=fun _=>by kernel_rfl,
 t53:=by kernel_rfl,
 a53:=fun _=>by kernel_rfl,
 z53:=fun _=>by kernel_rfl,
 v53:=fun _=>by kernel_rfl,
 t171:=by kernel_rfl,
 a171:=fun _=>by kernel_rfl,
 z171:=fun _=>by kernel_rfl,
 v171:=fun _=>by kernel_rfl,
 t173:=by kernel_rfl,
 a173:=fun _=>by kernel_rfl,
 z173:=fun _=>by kernel_rfl,
 v173:=fun _=>by kernel_rfl,
 t212:=by kernel_rfl,
 a212:=fun _=>by kernel_rfl,
 z212:=fun _=>by kernel_rfl,
 v212:=fun _=>by kernel_rfl,
 t213:=by kernel_rfl,
 a213:=fun _=>by kernel_rfl,
 z213:=fun _=>by kernel_rfl,
 t232:=by kernel_rfl,
 a232:=fun _=>by kernel_rfl,
 z232:=fun _=>by kernel_rfl,
 v232:=fun _=>by kernel_rfl,
 t233:=by kernel_rfl,
 a233:=fun _=>by kernel_rfl,
 z233:=fun _=>by kernel_rfl,
 v233:=fun _=>by kernel_rfl,
 g17:=by kernel_rfl,
 g18:=by kernel_rfl,
 g19:=by kernel_rfl,
 i0:=by kernel_rfl,
 i2:=by kernel_rfl,
 i3:=by kernel_rfl,
 i4:=by kernel_rfl,
 i5:=by kernel_rfl,
 i9:=by kernel_rfl,
 i20:=by kernel_rfl,
 i37:=by kernel_rfl,
 i46:=by kernel_rfl,
 i51:=by kernel_rfl,
 i53:=by kernel_rfl,
 i171:=by kernel_rfl,
 i173:=by kernel_rfl,
 i212:=by kernel_rfl,
 i232:=by kernel_rfl,
 i233:=by kernel_rfl,
 m17:=by kernel_rfl,
 m18:=by kernel_rfl,
 m19:=by kernel_rfl }
open Classical in
noncomputable def strconv_Itoa (_L:LC) (_m:Nat) (H:AH) (a0:Int):Option (ByteArray×AH):=if HasT H∧-9223372036854775808≤a0∧a0≤9223372036854775807 then some (⟨(Go.Lib.itoa a0).toArray⟩,H) else none
def z4p:(ByteArray×AH)→Value
 | (r0,_)=>(Value.string r0)
def z61 (_:AH):(ByteArray×AH)→AH:=fun r=>r.2
theorem P9 {L:LC} {m:Nat} {H:AH} {a0:Int} {r:(ByteArray×AH)} (h:strconv_Itoa L m H a0=some r):CallS Tryd.prog (NE.plain 1000) m 76 #[(Value.int .i64 a0)] H (z4p r) (z61 H r):=by
 unfold strconv_Itoa at h;split at h
 ·rename_i hh;obtain ⟨hT,h0,h1⟩:=hh;cases h;exact zdh itoaLays ⟨Tryd.f76,(Tryd.f76.body).getD .skip,Tryd.func76,by kernel_rfl⟩ (g:=0) (by kernel_rfl) N7 (hT _ (List.mem_cons_self)).1 (by kernel_rfl) h0 h1
 ·cases h
end Go.Proofs.YtgkhbmoidenjaaaDoor
namespace Go.Proofs.YtgkhbmoidenjaaaDoor
open Go Go.RowKit Go.Shelf Go.Proofs
attribute [local go_sem] Oper.semAt_some
def upF (f:Nat→Int) (k:Nat):List Int:=(List.range k).map f
theorem z8x (f:Nat→Int) (k:Nat):upF f (k+1)=upF f k++[f k]:=by simp [upF,List.range_succ]
theorem zb8 (f:Nat→Int) (k:Nat):(upF f k).length=k:=by simp [upF]
theorem z86 (zs:List Int) {k:Nat} (hk:k≤zs.length):upF (fun j=>zs[j]?.getD 0) k=zs.take k:=by
 apply List.ext_getElem
 ·simp [upF,hk]
 ·intro i h1 h2;have:i<zs.length:=by simp [upF] at h1; omega
  simp [upF,this]
set_option maxRecDepth 100000 in
set_option maxHeartbeats 2000000 in
theorem zex (F:Fence) (n:Nat) (h7:F.fn 62) (hro:F.round=none) (hn:1≤n) (l Bs n₀ b off len cap:Nat) (zs:List Int) (hreach:len*8≤140737488351232) (hb:b<n₀) (J Jx:List Int→World→Prop)
  (hY:∀pre x W,J pre W→pre.length<len→YieldAt F (n - 1) Tryd.prog l #[.int .i64 x] W fun e W' =>
   (e=.returned (.bool true)∧J (pre++[x]) W'∧Below n₀ W W')∨(e=.returned (.bool false)∧Jx (pre++[x]) W'))
  (W:World) (hBs:W.cell? ⟨Bs,0,none⟩=some (.slice (some ⟨b,off,none⟩) len cap)) (hc:∀j,j<len→W.cell? ⟨b,off+j,none⟩=some (.int .i64 (zs[j]?.getD 0))) (h0:J [] W) :
  CallsIn F n Tryd.prog 62 #[.func (.yield l) #[] #[],.pointer (some ⟨Bs,0,none⟩)] W fun e W'=>(∃v,e=.returned v) ∧
   ((∃ys,ys=upF (fun j=>zs[j]?.getD 0) len∧J ys W')∨(∃pre,(∃k,k≤len∧pre=upF (fun j=>zs[j]?.getD 0) k)∧Jx pre W')):=by
 refine callsIn_of_wp Tryd.func62 rfl h7 ?_ hro;simp only [show Tryd.f62.ntmps=16 from rfl,List.size_toArray,List.length_cons,List.length_nil,Nat.reduceAdd,Nat.reduceSub,Array.replicate_succ,Array.replicate_zero,List.push_toArray,List.append_toArray,List.nil_append,List.cons_append]
 gi_wp2
 gi_loopw [7] (fun i wr=>∃k:Nat,k≤len∧i=.int .i64 k∧J (upF (fun j=>zs[j]?.getD 0) k) wr∧Below n₀ W wr)
  (fun i _=>len - (intOf i).toNat)
 case atStart=>exact ⟨0,Nat.zero_le _,rfl,h0,Below.refl _ _⟩
 case round =>
  obtain ⟨k,hk,rfl,hJs,hnx⟩:=hrel;have hcx:k<len→wr.cell? ⟨b,off+k,none⟩=some (.int .i64 (zs[k]?.getD 0)):=fun h=>(hnx.cell (p:=⟨b,off+k,none⟩) hb).trans (hc k h);by_cases hlt:k<len
  ·obtain ⟨fn,tmps,assign,body,hy,hR⟩:=hY _ (zs[k]?.getD 0) wr hJs (by rw [zb8]; exact hlt);have hcx':=hcx hlt
   gi_wp2
   refine hR.mono ?_
   rintro e W3 (⟨rfl,hJ3,hk3⟩ | ⟨rfl,hJx3⟩)
   ·gi_wp2
    go_roundw
    case rel=>exact ⟨k+1,by omega,by simp,by rw [z8x]; exact hJ3,hnx.trans hk3⟩
    case measure=>simp [intOf]; omega
   ·gi_wp2
    refine bodyPost_ret (results_none rfl _ _ _) rfl ?_;exact ⟨⟨_,rfl⟩,.inr ⟨_,⟨k+1,by omega,(z8x _ _).symm⟩,hJx3⟩⟩
  ·obtain rfl:k=len:=by omega
   gi_wp2
   go_end0
   exact ⟨⟨_,rfl⟩,.inl ⟨_,rfl,hJs⟩⟩
theorem zce (F:Fence) (n:Nat) (h7:F.fn 62) (hro:F.round=none) (hn:1≤n) (Bs n₀ b off cap:Nat) (zs:List Int) (hreach:zs.length*8≤140737488351232) (w:World) (hBs:Bs<w.heap.size) (hn₀:n₀≤w.heap.size)
  (hc:w.cell? ⟨Bs,0,none⟩=some (.slice (some ⟨b,off,none⟩) zs.length cap)) (hb:b<n₀) (hI:∀j,j<zs.length→w.cell? ⟨b,off+j,none⟩=some (.int .i64 (zs[j]?.getD 0))) :
  SeqStopsK F n Tryd.prog 62 #[.pointer (some ⟨Bs,0,none⟩)] (fun x:Int=>#[Value.int .i64 x]) (Below n₀) (fun ys=>ys=zs) (fun pre=>pre <+: zs) zs.length w:=fun l J Jx W hW _ _ hY h0=>by
 have hc':=(hW.cell (p:=⟨Bs,0,none⟩) hBs).trans hc;have hW0:=hW.mono hn₀;refine (zex F n h7 hro hn l Bs n₀ b off zs.length cap zs hreach hb J Jx hY W hc' (fun j hj=>(hW0.cell (p:=⟨b,off+j,none⟩) hb).trans (hI j hj)) h0).mono ?_
 rintro e W' ⟨he,⟨ys,rfl,hj⟩ | ⟨pre,⟨k,hk,rfl⟩,hj⟩⟩
 ·exact ⟨he,.inl ⟨_,by rw [z86 zs (Nat.le_refl _),List.take_length],hj⟩⟩
 ·exact ⟨he,.inr ⟨_,by rw [z86 zs hk]; exact List.take_prefix _ _,hj⟩⟩
theorem info3I:(Tryd.prog.info? 3).map (fun i=>(i.zero,i.size,i.bytes))=some (some (.int .i64 0),1,8):=by kernel_rfl
theorem und27I:Tryd.prog.underlying 27=some (.slice 3):=by kernel_rfl
set_option maxRecDepth 100000 in
set_option maxHeartbeats 2000000 in
theorem zbs (F:Fence) (n:Nat) (h5:F.fn 75) (h7:F.fn 62) (hro:F.round=none) (hn:2≤n) (Bs b off cap:Nat) (zs:List Int) (hreach:zs.length*8≤70368744175616) (w:World) (hBs:Bs<w.heap.size)
  (hc:w.cell? ⟨Bs,0,none⟩=some (.slice (some ⟨b,off,none⟩) zs.length cap)) (hb:b<w.heap.size) (hI:∀j,j<zs.length→w.cell? ⟨b,off+j,none⟩=some (.int .i64 (zs[j]?.getD 0))) :
  CallsIn F n Tryd.prog 75 #[.slice none 0 0,.func (.func 62) #[] #[.pointer (some ⟨Bs,0,none⟩)]] w fun e W'=>∃v,e=.returned v∧W'.ownsRow w.heap.size 3 1 v zs.length (zs.map (Value.int .i64))∧(v=.slice none 0 0↔zs=[])∧Below w.heap.size w W':=by
 have h1:1≤n:=by omega
 have hml:zs.length≤maxLen:=by unfold maxLen; omega
 have hby:zs.length*8≤140737488355328:=by omega
 obtain ⟨i0,hi,hz0,hz1,hz2⟩:=info_parts info3I;refine callsIn_of_wp_marks Tryd.func75 rfl h5 ?_ hro;simp only [show Tryd.f75.ntmps=13 from rfl,List.size_toArray,List.length_cons,List.length_nil,Nat.reduceAdd,Nat.reduceSub,Array.replicate_succ,Array.replicate_zero,List.push_toArray,List.append_toArray,List.nil_append,List.cons_append]
 gi_wp2
 have bO:=Boxed.new w 27 (.slice none 0 0);have hB0:Below w.heap.size w (w.alloc (.cells #[.slice none 0 0] 27)):=(Below.refl _ w).alloc (Nat.le_refl _) _;refine wpIn_rangeFunc_ownG hro h1 (gf:=62) (lb:=#[.pointer (some ⟨Bs,0,none⟩)]) rfl h7 (enters_of Tryd.func62 (by kernel_rfl) rfl)
  (zce F (n - 1) h7 hro (by omega) Bs w.heap.size b off cap zs (by omega) _ (by simp; omega) (by simp) ((hB0.cell (p:=⟨Bs,0,none⟩) hBs).trans hc) hb (fun j hj=>(hB0.cell (p:=⟨b,off+j,none⟩) hb).trans (hI j hj))) belowK_t (belowK_b (by simp)) (Below.refl _ _) (fun _=>rfl)
  (fun pre W=>(∃v,Boxed W w.heap.size 27 v∧W.ownsRow w.heap.size 3 1 v pre.length (pre.map (Value.int .i64))∧(v=.slice none 0 0↔pre=[]))∧Below w.heap.size w W)
  (fun _ _ _=>False)
  (OwnFrom.and (Own.from (holdsRow_own w.heap.size w.heap.size 27 3 1 (fun pre=>pre.length) (fun pre=>pre.map (Value.int .i64)) (fun pre v=>v=.slice none 0 0↔pre=[])) _) (ownFrom_below (Nat.le_refl _) (by simp)))
  (fun _ _ _ _ _ hs _ _=>hs)
  ⟨⟨_,bO,World.ownsRow_nil _ _ _ _,by simp⟩,hB0⟩
  (fun x=>{ tmps:=#[.slice none 0 0,.func (.func 62) #[] #[.pointer (some ⟨Bs,0,none⟩)],.pointer (some ⟨w.heap.size,0,none⟩),undef,.slice none 0 0,.int .i64 x,.func (.func 62) #[] #[.pointer (some ⟨Bs,0,none⟩)],.int .i64 x,undef,undef,undef,undef,undef],defers:=[] }) ?assign ?body ?done ?stop
 case assign =>
  intro l x W K hK
  gi_wp2
  exact hK
 case body =>
  rintro l pre x W ⟨⟨v,hv,hrow,hnil⟩,hB⟩ hlt
  have hc:=hv.cell
  gi_wp2_with (gi_at_builtin; refine wpListIn_append_own _ rfl _ _ 27 rfl w.heap.size 3 i0 (.int .i64 0) 1 8 und27I hi hz0 hz1 hz2 rfl (by decide) _ _ _ rfl (hrow.alloc _) ⟨W.heap.size,0,none⟩ 1 1 [.int .i64 x] rfl rfl (cell_one_new _ _ _) (by simp [Value.oneCell']) (by omega) (by omega) (by have:=hB.size; simp; omega) ?_; intro v' w1 hown' hgrow _; obtain ⟨g',cap',rfl⟩:=ownsRow_succ hown'; obtain ⟨hv1,hv2,hr2,hk2,hb2⟩:=hv.appended (by decide) hrow hB.size (Nat.le_refl _) hown' hgrow; have hc1:=hv1.cell; have hf1:=hv1.frozen)
  exact ⟨hk2.from _,hb2,⟨_,hv2,by simpa using hr2,by simp⟩,hB.trans hb2⟩
 case done =>
  rintro D ys W hD rfl ⟨⟨v,hv,hrow,hnil⟩,hB⟩ hK
  have hc:=hv.cell
  gi_wp2
  refine ⟨by simp,.inl ⟨_,_,rfl,run_takeDeferred hK,?_⟩⟩;exact ⟨_,results_tmp rfl _ _ _,v,rfl,ownsRow_putObj hrow _ hK rfl,hnil,hB.trans (belowK_b (w:=w) (Nat.le_refl _) W D _ _ (by simp at hD; omega) hK rfl rfl)⟩
 case stop =>
  rintro D c pre W _ _ h _
  exact h.elim
open Go.Abs in
def seqOf:Value→Option Nat
 | .func (.func f) fs gs=>if f=62∧fs.size=0 then match gs.toList with
  | [.pointer (some ⟨p,0,none⟩)]=>some p
  | _=>none
  else none
 | _=>none
theorem ze7 {v:Value} {p:Nat} (h:seqOf v=some p):v=.func (.func 62) #[] #[.pointer (some ⟨p,0,none⟩)]:=by
 unfold seqOf at h;split at h
 ·split at h
  ·rename_i hh;obtain ⟨rfl,h2⟩:=hh;split at h
   ·rename_i gs _ p' hg;cases h;have h3:=Array.eq_empty_of_size_eq_zero h2;subst h3;have:gs=#[.pointer (some ⟨p,0,none⟩)]:=by
     apply Array.ext';rw [hg]
    rw [this]
   ·cases h
  ·cases h
 ·cases h
open Go.Abs in
noncomputable def X4 (_L:LC) (_m:Nat) (H:AH) (a0:Sl3) (a1:Value):Option (Sl3×AH) :=
 match a0.p,seqOf a1 with
 | none,some p=>if a0.n=0∧a0.c=0 then match H.get p with
  | some { obj:=.cells c _ (0,0),opn:=false,.. }=>match c[0]? with
   | some (Value.slice (some a) n _)=>match rdCells H a 0 n with
    | some l=>match intsZ l with
     | some zs=>if a.spot=none∧zs.length=n∧0<n∧n≤1099511627776 then some (⟨some ⟨H.next,0,none⟩,n,OPEN⟩,H.push (rowB 3 zs)) else none
     | none=>none
    | none=>none
   | _=>none
  | _=>none
  else none
 | _,_=>none
open Go.Abs in
def z1l:(Sl3×AH)→Value
 | (r0,_)=>(Sl3.v r0)
open Go.Abs in
def z2t (_:AH):(Sl3×AH)→AH:=fun r=>r.2
open Go.Abs in
theorem zfk {H:AH} {a:Addr}:∀(n i:Nat) (l:List Value),rdCells H a i n=some l→∀j,j<n→H.cell (a.add (i+j))=l[j]? := by
 intro n;induction n with
 | zero=>intro i l _ j hj; omega
 | succ n ih =>
  intro i l h j hj;unfold rdCells at h;split at h
  ·rename_i v r h1 h2;cases h;cases j with
   | zero=>rw [Nat.add_zero,h1]; rfl
   | succ j =>
    have:=ih (i+1) _ h2 j (by omega);rw [show i+(j+1)=i+1+j by omega,this];rfl
  ·cases h
open Go.Abs in
theorem z2v {L:LC} {m:Nat} {H:AH} {a0:Sl3} {a1:Value} {r:(Sl3×AH)} (h:X4 L m H a0 a1=some r):CallS Tryd.prog (NE.plain 1000) m 75 #[(Sl3.v a0),a1] H (z1l r) (z2t H r):=by
 obtain ⟨q,n0,cp0⟩:=a0;unfold X4 at h;split at h
 ·rename_i p hq hs;simp only at hq;subst hq;split at h
  ·rename_i hh;simp only at hh;obtain ⟨rfl,rfl⟩:=hh;have hv:=ze7 hs;subst hv;split at h
   ·rename_i c e esz ro hb;split at h
    ·rename_i a n cp hc;split at h
     ·rename_i l hl;split at h
      ·rename_i zs hz;split at h
       ·rename_i hh;obtain ⟨k1,rfl,k3,k4⟩:=hh;cases h;have hlz:=z54 hz;refine za7 ⟨Tryd.f75,(Tryd.f75.body).getD .skip,Tryd.func75,by kernel_rfl⟩ k3 (fun Bs b off cap w h1 h2 h3 h4=>?_) hb hc k1 fun j hj=>?_
        ·exact callsIn_wide.1 (zbs Fence.wide 2 trivial trivial rfl (Nat.le_refl _) Bs b off cap zs (by omega) w h1 h2 h3 h4)
        ·have:=zfk zs.length 0 l hl j hj;rw [Nat.zero_add,hlz,List.getElem?_map,List.getElem?_eq_getElem (by simpa using hj)] at this
         simpa [List.getElem?_eq_getElem hj] using this
       ·cases h
      ·cases h
     ·cases h
    ·cases h
   ·cases h
  ·cases h
 ·cases h
end Go.Proofs.YtgkhbmoidenjaaaDoor
namespace Go.Proofs.YtgkhbmoidenjaaaDoor
open Go Go.Abs
open Go.Value renaming int → vI, string → vS, pointer → vP, agg → vA, bool → vB
set_option maxRecDepth 100000
def zo:Bool→Value
 | r0=>(vB r0)
def z2f (H:AH):Bool→AH:=fun _=>H
noncomputable def B38:Code:=(Tryd.f38.body).getD .skip
noncomputable def U2 (_L:LC) (H:AH) (a0:Option Addr):Option Bool :=
 match a0 with
 | none =>
  some false
 | some q1 =>
  (rd deM H (Addr.add q1 1)).bind fun x2 => match x2 with
  | none =>
   some false
  | some _ =>
   some true
theorem Q4 {L:LC} {m:Nat} {H:AH} {a0:Option Addr} {r:Bool} (h:U2 L H a0=some r) :
  CallS Tryd.prog (NE.plain 1000) m 38 #[(vP a0)] H (zo r) (z2f H r):=by
 refine CallS.mk (args:=[(vP a0)]) Tryd.func38 (B:=B38) (by kernel_rfl) (fun E _=>?_);unfold U2 at h;refine B0 (C0 (u0 1 [kB 2 false] (RS.dn (A0 (B0 (C0 (u0 1 [(3,.val (vP a0))] ?_)))))));rcases a0 with _ | q1
 ·try dsimp only at h
  refine u0 9 [kB 2 false,kB 11 false,kU 10,kU 9,kU 8,kU 7,kU 6,kB 5 false,kB 4 false] (RS.dn (A0 (G0 ?_)));cases h;exact fun a w hs=>rtR (rS hs)
 ·try dsimp only at h
  refine u0 5 [(8,.val (vP (some (Addr.add q1 1)))),kP 7 q1,kP 6 q1,kB 5 true,kB 4 true] ?_;obtain ⟨x2,hx,h⟩:=bind_some h;refine M0 9 58 (.tmp 8) (W0 hx A6) ?_;rcases x2 with _ | q3
  ·try dsimp only at h
   refine u0 3 [kB 2 false,kB 11 false,kB 10 false] (RS.dn (A0 (G0 ?_)));cases h;exact fun a w hs=>rtR (rS hs)
  ·try dsimp only at h
   refine u0 3 [kB 2 true,kB 11 true,kB 10 true] (RS.dn (A0 (G0 ?_)));cases h;exact fun a w hs=>rtR (rS hs)
def z1h:Bool→Value
 | r0=>(vB r0)
def z2r (H:AH):Bool→AH:=fun _=>H
noncomputable def B31:Code:=(Tryd.f31.body).getD .skip
noncomputable def T2 (L:LC) (H:AH) (a0:Option Addr) (a1:Int):Option Bool :=
 (U2 L H a0).bind fun x1 => if x1=true then
  if a1≥0 then
   a0.bind fun q2 => (rd deSl H (Addr.add q2 0)).bind fun x3 => some (decide (a1<(x3.n:Int)))
  else
   some false
 else
  some false
theorem X3 {L:LC} {m:Nat} {H:AH} {a0:Option Addr} {a1:Int} {r:Bool} (h:T2 L H a0 a1=some r) :
  CallS Tryd.prog (NE.plain 1000) m 31 #[(vP a0),(vI .i64 a1)] H (z1h r) (z2r H r):=by
 refine CallS.mk (args:=[(vP a0),(vI .i64 a1)]) Tryd.func31 (B:=B31) (by kernel_rfl) (fun E _=>?_);unfold T2 at h;refine B0 (C0 (u0 1 [kB 4 false] (RS.dn (A0 (B0 (C0 (u0 1 [(5,.val (vP a0))] ?_)))))));obtain ⟨x1,hx,h⟩:=bind_some h;refine RS.cl (some 6) (v:=(vB x1)) 38 _ (Q4 hx) (u0 1 [kB 7 x1] ?_);rcases X0 h with ⟨hp,h⟩ | ⟨hp,h⟩
 ·refine N0 7 true hp (u0 4 [kB 11 (decide (a1≥0)),kB 10 (decide (a1≥0)),kB 9 (decide (a1≥0)),kI 8 a1] ?_);rcases X0 h with ⟨hp,h⟩ | ⟨hp,h⟩
  ·refine N0 11 true (decide_eq_true hp) (u0 2 [(13,.val (vP a0)),kI 12 a1] ?_);obtain ⟨q2,hx,hq2⟩:=bind_some h;subst hx;have h:=hq2;refine u0 2 [(15,.val (vP (some (Addr.add q2 0)))),kP 14 q2] ?_;obtain ⟨x3,hx,h⟩:=bind_some h;refine M0 16 57 (.tmp 15) (W0 hx Z0) (u0 4 [kB 4 (decide (a1<(x3.n:Int))),kB 19 (decide (a1<(x3.n:Int))),kB 18 (decide (a1<(x3.n:Int))),kI 17 (x3.n:Int)] (RS.dn (A0 (G0 ?_))));cases h;exact fun a w hs=>rtR (rS hs)
  ·refine N0 11 false (decide_eq_false hp) (u0 9 [kB 4 false,kB 19 false,kU 18,kU 17,kU 16,kU 15,kU 14,kU 13,kU 12] (RS.dn (A0 (G0 ?_))));cases h;exact fun a w hs=>rtR (rS hs)
 ·refine N0 7 false (b_not hp) (u0 13 [kB 4 false,kB 19 false,kU 18,kU 17,kU 16,kU 15,kU 14,kU 13,kU 12,kB 11 false,kB 10 false,kU 9,kU 8] (RS.dn (A0 (G0 ?_))));cases h;exact fun a w hs=>rtR (rS hs)
def z14:(Int×Bool)→Value
 | (r0,r1)=>(Value.tuple #[(vI .i64 r0),(vB r1)])
def z1i (H:AH):(Int×Bool)→AH:=fun _=>H
noncomputable def B14:Code:=(Tryd.f14.body).getD .skip
noncomputable def C2 (L:LC) (H:AH) (a0:Option Addr) (a1:Int):Option (Int×Bool) :=
 (T2 L H a0 a1).bind fun x1 => if x1=true then
  a0.bind fun q2 => (rd deSl H (Addr.add q2 5)).bind fun x3 => (rd deSl H (Addr.add q2 4)).bind fun x4 => (idxA 1 x4 a1).bind fun p5 => (rd (deI .i64) H p5).bind fun x6 => (idxA 1 x3 x6).bind fun p7 => (rd deP H p7).bind fun x8 => x8.bind fun q9 => (rd (deI .i64) H (Addr.add q9 3)).bind fun x10 => some (x10,true)
 else
  some (0,false)
theorem A3 {L:LC} {m:Nat} {H:AH} {a0:Option Addr} {a1:Int} {r:(Int×Bool)} (h:C2 L H a0 a1=some r) :
  CallS Tryd.prog (NE.plain 1000) m 14 #[(vP a0),(vI .i64 a1)] H (z14 r) (z1i H r):=by
 refine CallS.mk (args:=[(vP a0),(vI .i64 a1)]) Tryd.func14 (B:=B14) (by kernel_rfl) (fun E _=>?_);unfold C2 at h;refine B0 (C0 (u0 2 [kB 5 false,kI 4 0] (RS.dn (A0 (B0 (B0 (C0 (u0 2 [kI 7 a1,(6,.val (vP a0))] ?_))))))));obtain ⟨x1,hx,h⟩:=bind_some h;refine RS.cl (some 8) (v:=(vB x1)) 31 _ (X3 hx) (u0 1 [kB 9 (!x1)] (RS.dn (A0 ?_)));rcases X0 h with ⟨hp,h⟩ | ⟨hp,h⟩
 ·refine E0 9 false (nb_not hp) (J0 (K0 (A0 (B0 ?_))));refine P0 [0,1,2,3,4,5,6,7,8,9,10,11,12,13,14,15] [0,1,3,7,0,16,48,112,0,496,1008,2047,4095,8191,16383,32767,65535,131071] 18 (fun hcl=>?_);refine D0 0 (some 10) (vP a0) ?_;obtain ⟨q2,hx,hq2⟩:=bind_some h;subst hx;have h:=hq2;refine D0 1 (some 11) (vP (some q2)) (D0 2 (some 12) (vP (some (Addr.add q2 5))) ?_);obtain ⟨x3,hx,h⟩:=bind_some h;refine F0 3 (some 13) (Sl3.v x3) (Abs.det_load (t:=60) (x:=.tmp 12) (a:=(Addr.add q2 5)) (by kernel_rfl) (by kernel_rfl) (by kernel_rfl) (by kernel_rfl) (W0 hx Z0)) (D0 4 (some 14) (vP (some q2)) (D0 5 (some 15) (vP (some q2)) (D0 6 (some 16) (vP (some (Addr.add q2 4))) ?_)));obtain ⟨x4,hx,h⟩:=bind_some h;refine F0 7 (some 17) (Sl3.v x4) (Abs.det_load (t:=27) (x:=.tmp 16) (a:=(Addr.add q2 4)) (by kernel_rfl) (by kernel_rfl) (by kernel_rfl) (by kernel_rfl) (W0 hx Z0)) (D0 8 (some 18) (vI .i64 a1) ?_);obtain ⟨p5,hx,h⟩:=bind_some h;refine F0 9 (some 19) (vP (some p5)) (Abs.det_idx (s:=x4) (k:=.i64) (t:=27) (e:=3) (x:=.tmp 17) (y:=.tmp 18) (by kernel_rfl) (by kernel_rfl) (by kernel_rfl) (by kernel_rfl) (by kernel_rfl) hx) ?_;obtain ⟨x6,hx,h⟩:=bind_some h;refine F0 10 (some 20) (vI .i64 x6) (Abs.det_load (t:=3) (x:=.tmp 19) (a:=p5) (by kernel_rfl) (by kernel_rfl) (by kernel_rfl) (by kernel_rfl) (W0 hx D1)) ?_;obtain ⟨p7,hx,h⟩:=bind_some h;refine F0 11 (some 21) (vP (some p7)) (Abs.det_idx (s:=x3) (k:=.i64) (t:=60) (e:=79) (x:=.tmp 13) (y:=.tmp 20) (by kernel_rfl) (by kernel_rfl) (by kernel_rfl) (by kernel_rfl) (by kernel_rfl) hx) ?_;obtain ⟨x8,hx,h⟩:=bind_some h;refine F0 12 (some 22) (vP x8) (Abs.det_load (t:=79) (x:=.tmp 21) (a:=p7) (by kernel_rfl) (by kernel_rfl) (by kernel_rfl) (by kernel_rfl) (W0 hx O5)) ?_;obtain ⟨q9,hx,hq9⟩:=bind_some h;subst hx;have h:=hq9;refine D0 13 (some 23) (vP (some q9)) (D0 14 (some 24) (vP (some (Addr.add q9 3))) ?_);obtain ⟨x10,hx,h⟩:=bind_some h;refine F0 15 (some 25) (vI .i64 x10) (Abs.det_load (t:=3) (x:=.tmp 24) (a:=(Addr.add q9 3)) (by kernel_rfl) (by kernel_rfl) (by kernel_rfl) (by kernel_rfl) (W0 hx D1)) (DA.tP 16 (some 4) (vI .i64 x10) (DA.tP 17 (some 5) (vB true) (DA.dn (A0 (G0 ?_)))));cases h;exact fun a w hs=>rtR (rS hs)
 ·refine E0 9 true (U4 hp) (I0 (B0 (C0 (u0 2 [kB 5 false,kI 4 0] (RS.dn (A0 (G0 ?_)))))));cases h;exact fun a w hs=>sqR (rtR (rS hs))
def z6h:((Option Addr)×AH)→Value
 | (r0,_)=>(vP r0)
def z7s (_:AH):((Option Addr)×AH)→AH:=fun r=>r.2
noncomputable def B16:Code:=(Tryd.f16.body).getD .skip
noncomputable def c9 (_L:LC) (_m:Nat) (H:AH):Option ((Option Addr)×AH) :=
 (newM H).bind fun (p1,H2) => (newM H2).bind fun (p3,H4) => (newB 63 [(Sl3.v Sl3.nil),(Value.map (some p1)),(Sl3.v Sl3.nil),(Sl3.v Sl3.nil),(Sl3.v Sl3.nil),(Sl3.v Sl3.nil),(Sl3.v Sl3.nil),(Value.map (some p3))] H4).bind fun (p5,H6) => some ((some p5),H6)
theorem z7n {L:LC} {m:Nat} {H:AH} {r:((Option Addr)×AH)} (h:c9 L m H=some r) :
  CallS Tryd.prog (NE.plain 1000) m 16 #[] H (z6h r) (z7s H r):=by
 refine CallS.mk (args:=[]) Tryd.func16 (B:=B16) (by kernel_rfl) (fun E _=>?_);unfold c9 at h;refine B0 (C0 (u0 1 [(0,.val (vP none))] (RS.dn (A0 (B0 (C0 ?_))))));obtain ⟨⟨p1,H2⟩,hx,h⟩:=bind_some h;try dsimp only at h
 refine RS.o (H':=H2) (some 1) (Value.map (some p1)) (Abs.run_newM (by kernel_rfl) hx) ?_;obtain ⟨⟨p3,H4⟩,hx,h⟩:=bind_some h;try dsimp only at h
 refine RS.o (H':=H4) (some 2) (Value.map (some p3)) (Abs.run_newM (by kernel_rfl) hx) (u0 1 [kA 3 #[(Sl3.v Sl3.nil),(Value.map (some p1)),(Sl3.v Sl3.nil),(Sl3.v Sl3.nil),(Sl3.v Sl3.nil),(Sl3.v Sl3.nil),(Sl3.v Sl3.nil),(Value.map (some p3))]] ?_);obtain ⟨⟨p5,H6⟩,hx,h⟩:=bind_some h;try dsimp only at h
 refine RS.o (H':=H6) (some 4) (vP (some p5)) (Abs.run_newB (by kernel_rfl) hx) (u0 1 [kP 0 p5] (RS.dn (A0 (G0 ?_))));cases h;exact fun a w hs=>rtR (rS hs)
def P6:AH→Value
 | _=>(Value.tuple #[])
def W6 (_:AH):AH→AH:=fun r=>r
noncomputable def B72:Code:=(Tryd.f72.body).getD .skip
noncomputable def I1 (_L:LC) (m:Nat) (a0:Option Addr):(AH×Int×Int×Int×Int×Int×Int×Bool)→Option (Lp (AH×Int×Int×Int×Int×Int×Int×Bool) AH):=fun (H1,v1_2,v4_3,w0_4,w0_5,w0_6,w0_7,w0_8) =>
 if v1_2≥0 then
  a0.bind fun q9 => (rd deSl H1 (Addr.add q9 6)).bind fun x10 => (idxA 5 x10 v1_2).bind fun p11 => (rd (deI .i64) H1 (Addr.add p11 0)).bind fun x12_0 => (rd (deI .i64) H1 (Addr.add p11 1)).bind fun x12_1 => (rd (deI .i64) H1 (Addr.add p11 2)).bind fun x12_2 => (rd (deI .i64) H1 (Addr.add p11 3)).bind fun x12_3 => (rd deB H1 (Addr.add p11 4)).bind fun x12_4 => Option.bind (α:=(AH×Int×Int×Int×Int×Bool)) (
   if v4_3<0 then
    (rd deSl H1 (Addr.add q9 6)).bind fun x19 => (idxA 5 x19 v1_2).bind fun p20 => (wrCells m p20 0 [(vI .i64 (-1)),(vI .i64 0),(vI .i64 0),(vI .i64 0),(vB false)] H1).bind fun H21 => some (H21,w0_4,w0_5,w0_6,w0_7,w0_8)
   else
    (rd deSl H1 (Addr.add q9 6)).bind fun x22 => (idxA 5 x22 v1_2).bind fun p23 => (wrCells m p23 0 [(vI .i64 v4_3),(vI .i64 w0_5),(vI .i64 w0_6),(vI .i64 w0_7),(vB w0_8)] H1).bind fun H24 => some (H24,v4_3,w0_5,w0_6,w0_7,w0_8)) fun (H13,_,_,_,_,_) =>
  some (.next (H13,x12_0,v1_2,x12_0,x12_1,x12_2,x12_3,x12_4))
 else
  some (.brk (H1,v1_2,v4_3,w0_4,w0_5,w0_6,w0_7,w0_8))
def U8 (_L:LC) (_m:Nat) (a0:Option Addr):(AH×Int×Int×Int×Int×Int×Int×Bool)→KN×Lcs:=fun (_,v1_2,v4_3,w0_4,w0_5,w0_6,w0_7,w0_8)=>([kI 1 v1_2,kI 4 v4_3,(0,.val (vP a0)),kL 5 0 0],[some (109,[(vI .i64 w0_4),(vI .i64 w0_5),(vI .i64 w0_6),(vI .i64 w0_7),(vB w0_8)])])
noncomputable def J3 (L:LC) (m:Nat) (H:AH) (a0:Option Addr) (a1:Int):Option AH :=
 (L.run (I1 L m a0) (H,a1,(-1),0,0,0,0,false)).bind fun o=>match o with
 | .inl (H25,_,_,_,_,_,_,_) =>
  some H25
 | .inr r=>some r
theorem T5 {E H L m a0} :LoopF Tryd.prog (NE.plain 1000) m E Tryd.f72 ((cfst (csnd B72))) (U8 L m a0) (fun s=>s.1) 0 P6 (W6 H) (I1 L m a0):=by
 rintro ⟨H1,v1_2,v4_3,w0_4,w0_5,w0_6,w0_7,w0_8⟩ o h
 unfold I1 at h;try dsimp only at h
 refine B0 (B0 (C0 (u0 2 [kB 9 (decide (v1_2≥0)),kI 8 v1_2] (RS.dn (A0 ?_)))));rcases X0 h with ⟨hp,h⟩ | ⟨hp,h⟩
 ·refine E0 9 true (decide_eq_true hp) (I0 (K0 (A0 (O0 1 (B0 (C0 (u0 1 [(10,.val (vP a0))] ?_)))))));obtain ⟨q9,hx,hq9⟩:=bind_some h;subst hx;have h:=hq9;refine u0 2 [(12,.val (vP (some (Addr.add q9 6)))),kP 11 q9] ?_;obtain ⟨x10,hx,h⟩:=bind_some h;refine M0 13 61 (.tmp 12) (W0 hx Z0) (u0 1 [kI 14 v1_2] ?_);obtain ⟨p11,hx,h⟩:=bind_some h;refine Q0 15 61 109 (.tmp 13) (.tmp 14) hx ?_;obtain ⟨x12_0,hx0,h⟩:=bind_some h;obtain ⟨x12_1,hx1,h⟩:=bind_some h;obtain ⟨x12_2,hx2,h⟩:=bind_some h;obtain ⟨x12_3,hx3,h⟩:=bind_some h;obtain ⟨x12_4,hx4,h⟩:=bind_some h;refine RS.la 16 109 (.tmp 15) 5 (G1 (W0 hx0 D1) (G1 (W0 hx1 D1) (G1 (W0 hx2 D1) (G1 (W0 hx3 D1) (G1 (W0 hx4 F6) E6))))) (V0 2 [kL 6 1 0] ([some (109,[(vI .i64 w0_4),(vI .i64 w0_5),(vI .i64 w0_6),(vI .i64 w0_7),(vB w0_8)]),some (109,[(vI .i64 x12_0),(vI .i64 x12_1),(vI .i64 x12_2),(vI .i64 x12_3),(vB x12_4)])]) (RS.dn (A0 ?_)));obtain ⟨⟨H13,w0_14,w0_15,w0_16,w0_17,w0_18⟩,hx,h⟩:=bind_some h;try dsimp only at h
  refine B0 ?_;refine WS.join ([kP 0 q9,kI 1 v1_2,kL 5 0 0,kL 6 1 0]) ([some (109,[(vI .i64 w0_14),(vI .i64 w0_15),(vI .i64 w0_16),(vI .i64 w0_17),(vB w0_18)]),some (109,[(vI .i64 x12_0),(vI .i64 x12_1),(vI .i64 x12_2),(vI .i64 x12_3),(vB x12_4)])]) H13 ?_ (fun a w hs=>A0 ?_ a w hs)
  ·clear h; rename _=>h;refine B0 (C0 (u0 2 [kB 18 (decide (v4_3<0)),kI 17 v4_3] (RS.dn (A0 ?_))));rcases X0 h with ⟨hp,h⟩ | ⟨hp,h⟩
   ·refine E0 18 true (decide_eq_true hp) (I0 (C0 (u0 3 [(21,.val (vP (some (Addr.add q9 6)))),kP 20 q9,kP 19 q9] ?_)));obtain ⟨x19,hx,h⟩:=bind_some h;refine M0 22 61 (.tmp 21) (W0 hx Z0) (u0 2 [kA 24 #[(vI .i64 (-1)),(vI .i64 0),(vI .i64 0),(vI .i64 0),(vB false)],kI 23 v1_2] ?_);obtain ⟨p20,hx,h⟩:=bind_some h;refine Q0 25 61 109 (.tmp 22) (.tmp 23) hx ?_;obtain ⟨H21,hx,h⟩:=bind_some h;refine RS.o (H':=H21) none undef (Abs.run_storeA (t:=109) (x:=.tmp 25) (y:=.tmp 24) (a:=p20) (v:=(vA #[(vI .i64 (-1)),(vI .i64 0),(vI .i64 0),(vI .i64 0),(vB false)])) (by kernel_rfl) (by kernel_rfl) (by kernel_rfl) (by kernel_rfl) (by kernel_rfl) hx) (RS.dn ?_);cases h;exact fun a w hs=>(jsN (hs.sb 2))
   ·refine E0 18 false (decide_eq_false hp) (J0 (B0 (C0 (V0 3 [kL 27 0 0,kI 26 v4_3] ([some (109,[(vI .i64 v4_3),(vI .i64 w0_5),(vI .i64 w0_6),(vI .i64 w0_7),(vB w0_8)]),some (109,[(vI .i64 x12_0),(vI .i64 x12_1),(vI .i64 x12_2),(vI .i64 x12_3),(vB x12_4)])]) (RS.dn (A0 ?_))))));refine P0 [0,1,2,3,5] [0,1,3,7,0,0,63,127] 8 (fun hcl=>?_);refine D0 0 (some 28) (vP (some q9)) (D0 1 (some 29) (vP (some q9)) (D0 2 (some 30) (vP (some (Addr.add q9 6))) ?_));obtain ⟨x22,hx,h⟩:=bind_some h;refine F0 3 (some 31) (Sl3.v x22) (Abs.det_load (t:=61) (x:=.tmp 30) (a:=(Addr.add q9 6)) (by kernel_rfl) (by kernel_rfl) (by kernel_rfl) (by kernel_rfl) (W0 hx Z0)) (DA.tL 5 (some 33) (.val (vA #[(vI .i64 v4_3),(vI .i64 w0_5),(vI .i64 w0_6),(vI .i64 w0_7),(vB w0_8)])) (DA.tP 4 (some 32) (vI .i64 v1_2) ?_));obtain ⟨p23,hx,h⟩:=bind_some h;refine DA.tPx 6 (some 34) (vP (some p23)) (Abs.det_idx (s:=x22) (k:=.i64) (t:=61) (e:=109) (x:=.tmp 31) (y:=.tmp 32) (by kernel_rfl) (by kernel_rfl) (by kernel_rfl) (by kernel_rfl) (by kernel_rfl) hx) ?_;obtain ⟨H24,hx,h⟩:=bind_some h;refine DA.on 7 (S0 (H':=H24) 7 none undef (Abs.run_storeA (t:=109) (x:=.tmp 34) (y:=.tmp 33) (a:=p23) (v:=(vA #[(vI .i64 v4_3),(vI .i64 w0_5),(vI .i64 w0_6),(vI .i64 w0_7),(vB w0_8)])) (by kernel_rfl) (by kernel_rfl) (by kernel_rfl) (by kernel_rfl) (by kernel_rfl) hx) (DA.dn ?_));cases h;exact fun a w hs=>(jsN (hs.sb 2))
  ·clear hx;refine B0 ?_;refine P0 [1] [0,0,1,7] 4 (fun hcl=>?_);refine DA.tL 1 (some 36) (.val (vA #[(vI .i64 x12_0),(vI .i64 x12_1),(vI .i64 x12_2),(vI .i64 x12_3),(vB x12_4)])) (DA.tP 0 (some 35) (vI .i64 v1_2) (DA.tP 2 (some 4) (vI .i64 v1_2) (DA.on 3 (DA.aL 3 none (.val undef) ([some (109,[(vI .i64 x12_0),(vI .i64 x12_1),(vI .i64 x12_2),(vI .i64 x12_3),(vB x12_4)]),some (109,[(vI .i64 x12_0),(vI .i64 x12_1),(vI .i64 x12_2),(vI .i64 x12_3),(vB x12_4)])]) false (DA.dn (A0 (C0 (u0 3 [kI 1 x12_0,kI 38 x12_0,kL 37 1 0] (RS.dn ?_)))))))));cases h;exact fun a w hs=>bkN (lsN rfl (hs.sb 1))
 ·refine E0 9 false (decide_eq_false hp) (J0 (WS.ex 0 ?_));cases h;exact fun a w hs=>sqE (lsB rfl (hs.sb 1))
theorem U9 {L:LC} {m:Nat} {H:AH} {a0:Option Addr} {a1:Int} {r:AH} (h:J3 L m H a0 a1=some r) :
  CallS Tryd.prog (NE.plain 1000) m 72 #[(vP a0),(vI .i64 a1)] H (P6 r) (W6 H r):=by
 refine CallS.mk (args:=[(vP a0),(vI .i64 a1)]) Tryd.func72 (B:=B72) (by kernel_rfl) (fun E _=>?_);unfold J3 at h;refine B0 (C0 (V0 4 [kI 4 (-1),kL 5 0 0,kA 7 #[(vI .i64 0),(vI .i64 0),(vI .i64 0),(vI .i64 0),(vB false)]] ([some (109,[(vI .i64 0),(vI .i64 0),(vI .i64 0),(vI .i64 0),(vB false)])]) (RS.dn (A0 (O0 0 ?_)))));obtain ⟨o,hl,h⟩:=bind_some h;rcases o with ⟨H25,v1_26,v4_27,w0_28,w0_29,w0_30,w0_31,w0_32⟩ | r
 ·try dsimp only at h
  refine U0 (T5 (L:=L) (E:=E) (m:=m) (H:=H)) (L.ok hl) 1 ?_;clear hl;cases h;exact fun a w hs=>bkE (rtN (rS hs))
 ·try dsimp only at h
  refine T0 (T5 (L:=L) (E:=E) (m:=m) (H:=H)) (L.ok hl) 1 ?_;cases h;exact fun a w hq=>bkR (rtR hq)
def z2o:AH→Value
 | _=>(Value.tuple #[])
def z3d (_:AH):AH→AH:=fun r=>r
noncomputable def B70:Code:=(Tryd.f70.body).getD .skip
noncomputable def S3 (_L:LC) (m:Nat) (H:AH) (a0:Option Addr) (a1:Sl3):Option AH :=
 a0.bind fun q1 => (rd deSl H (Addr.add q1 0)).bind fun x2 => (appS m 3 1 8 H x2 a1).bind fun (s3,H4) => (H4.setCell m (Addr.add q1 0) (Sl3.v s3)).bind fun H5 => some H5
theorem C8 {L:LC} {m:Nat} {H:AH} {a0:Option Addr} {a1:Sl3} {r:AH} (h:S3 L m H a0 a1=some r) :
  CallS Tryd.prog (NE.plain 1000) m 70 #[(vP a0),(Sl3.v a1)] H (z2o r) (z3d H r):=by
 refine CallS.mk (args:=[(vP a0),(Sl3.v a1)]) Tryd.func70 (B:=B70) (by kernel_rfl) (fun E _=>?_);unfold S3 at h;refine C0 (u0 2 [(5,.val (vP a0)),(4,.val (vP a0))] ?_);obtain ⟨q1,hx,hq1⟩:=bind_some h;subst hx;have h:=hq1;refine u0 2 [(7,.val (vP (some (Addr.add q1 0)))),kP 6 q1] ?_;obtain ⟨x2,hx,h⟩:=bind_some h;refine M0 8 27 (.tmp 7) (W0 hx Z0) (u0 1 [kS 9 a1] ?_);obtain ⟨⟨s3,H4⟩,hx,h⟩:=bind_some h;try dsimp only at h
 refine RS.o (H':=H4) (some 10) (Sl3.v s3) (Abs.run_app (x:=.tmp 8) (y:=.tmp 9) (ts:=#[27,27]) (s:=x2) (z:=a1) (by kernel_rfl) (by kernel_rfl) (by kernel_rfl) (by kernel_rfl) hx) (u0 2 [(12,.val (vP (some (Addr.add q1 0)))),kP 11 q1] ?_);obtain ⟨H5,hx,h⟩:=bind_some h;refine RS.o (H':=H5) none undef (Abs.run_store1 (t:=27) (x:=.tmp 12) (y:=.tmp 10) (a:=(Addr.add q1 0)) (v:=(Sl3.v s3)) (by kernel_rfl) (by kernel_rfl) (by kernel_rfl) (by kernel_rfl) (by kernel_rfl) hx) (RS.dn ?_);cases h;exact fun a w hs=>rtN (rS hs)
def S9:(ByteArray×AH)→Value
 | (r0,_)=>(vS r0)
def z1a (_:AH):(ByteArray×AH)→AH:=fun r=>r.2
noncomputable def B63:Code:=(Tryd.f63.body).getD .skip
noncomputable def m4 (L:LC) (m:Nat) (a2:Sl3):(AH×ByteArray×Int)→Option (Lp (AH×ByteArray×Int) (ByteArray×AH)):=fun (H5,v7_6,v17_7) =>
 if v17_7<(a2.n:Int) then
  (idxA 1 a2 v17_7).bind fun p8 => (rd (deI .i64) H5 p8).bind fun x9 => (strconv_Itoa L m H5 x9).bind fun (x10,H11) => (strcat (⟨#[32]⟩:ByteArray) x10).bind fun s12 => (strcat v7_6 s12).bind fun s13 => some (.next (H11,s13,(IntKind.i64.wrap (v17_7+1))))
 else
  some (.brk (H5,v7_6,v17_7))
def z3x (_L:LC) (_m:Nat) (a2:Sl3):(AH×ByteArray×Int)→KN×Lcs:=fun (_,v7_6,v17_7)=>([kT 7 v7_6,kI 17 v17_7,kS 15 a2,kI 16 (a2.n:Int)],[])
noncomputable def N5 (L:LC) (m:Nat) (H:AH) (a0:Bool) (a1:Int) (a2:Sl3):Option (ByteArray×AH) :=
 Option.bind (α:=ByteArray) (
  if a0=true then
   some (⟨#[118]⟩:ByteArray)
  else
   some (⟨#[115]⟩:ByteArray)) fun v7_1 =>
 (strconv_Itoa L m H a1).bind fun (x2,H3) => (strcat v7_1 x2).bind fun s4 => (L.run (m4 L m a2) (H3,s4,0)).bind fun o=>match o with
 | .inl (H14,v7_15,_) =>
  some (v7_15,H14)
 | .inr r=>some r
theorem S8 {E H L m a2} :LoopF Tryd.prog (NE.plain 1000) m E Tryd.f63 ((cfst (csnd (cfst (csnd (csnd (csnd (csnd B63)))))))) (z3x L m a2) (fun s=>s.1) 0 S9 (z1a H) (m4 L m a2):=by
 rintro ⟨H5,v7_6,v17_7⟩ o h
 unfold m4 at h;try dsimp only at h
 refine B0 (C0 (u0 1 [kB 18 (decide (v17_7<(a2.n:Int)))] (RS.dn (A0 (B0 ?_)))));rcases X0 h with ⟨hp,h⟩ | ⟨hp,h⟩
 ·refine E0 18 true (decide_eq_true hp) (I0 (K0 (A0 (B0 (O0 1 (B0 (C0 ?_)))))));obtain ⟨p8,hx,h⟩:=bind_some h;refine Q0 19 27 3 (.tmp 15) (.tmp 17) hx ?_;obtain ⟨x9,hx,h⟩:=bind_some h;refine M0 20 3 (.tmp 19) (W0 hx D1) (u0 1 [kI 9 x9] (RS.dn (A0 (C0 (u0 2 [kI 22 x9,kT 21 v7_6] ?_)))));obtain ⟨⟨x10,H11⟩,hx,h⟩:=bind_some h;try dsimp only at h
  refine RS.cl (some 23) (v:=(vS x10)) 76 _ (P9 hx) ?_;obtain ⟨s12,hx,h⟩:=bind_some h;refine RS.o (H':=H11) (some 24) (vS s12) (Abs.run_strcat (t:=9) (u:=9) (x:=.const (vS (⟨#[32]⟩:ByteArray))) (y:=.tmp 23) (a:=(⟨#[32]⟩:ByteArray)) (b:=x10) (by kernel_rfl) (by kernel_rfl) (by kernel_rfl) hx) ?_;obtain ⟨s13,hx,h⟩:=bind_some h;refine RS.o (H':=H11) (some 25) (vS s13) (Abs.run_strcat (t:=9) (u:=9) (x:=.tmp 21) (y:=.tmp 24) (a:=v7_6) (b:=s12) (by kernel_rfl) (by kernel_rfl) (by kernel_rfl) hx) (u0 1 [kT 7 s13] (RS.dn ?_));refine fun a w hs=>bkN ((A0 ?_ a w hs));refine C0 (u0 2 [kI 17 (IntKind.i64.wrap (v17_7+1)),kI 26 (IntKind.i64.wrap (v17_7+1))] (RS.dn ?_));cases h;exact fun a w hs=>lsN rfl (hs.sb 0)
 ·refine E0 18 false (decide_eq_false hp) (J0 (WS.ex 0 ?_));cases h;exact fun a w hs=>sqE (lsB rfl (hs.sb 0))
theorem zm {L:LC} {m:Nat} {H:AH} {a0:Bool} {a1:Int} {a2:Sl3} {r:(ByteArray×AH)} (h:N5 L m H a0 a1 a2=some r) :
  CallS Tryd.prog (NE.plain 1000) m 63 #[(vB a0),(vI .i64 a1),(Sl3.v a2)] H (S9 r) (z1a H r):=by
 refine CallS.mk (args:=[(vB a0),(vI .i64 a1),(Sl3.v a2)]) Tryd.func63 (B:=B63) (by kernel_rfl) (fun E _=>?_);unfold N5 at h;refine B0 (C0 (u0 1 [kT 6 (⟨#[]⟩:ByteArray)] (RS.dn (A0 (B0 (C0 (u0 1 [kT 7 (⟨#[115]⟩:ByteArray)] (RS.dn (A0 ?_)))))))));obtain ⟨v7_1,hx,h⟩:=bind_some h;refine B0 ?_;refine WS.join ([kT 7 v7_1,kI 1 a1,kS 2 a2]) ([]) H ?_ (fun a w hs=>A0 ?_ a w hs)
 ·clear h; rename _=>h;refine B0 (C0 (u0 1 [kB 10 a0] (RS.dn (A0 ?_))));rcases X0 h with ⟨hp,h⟩ | ⟨hp,h⟩
  ·refine E0 10 true hp (I0 (C0 (u0 1 [kT 7 (⟨#[118]⟩:ByteArray)] (RS.dn ?_))));cases h;exact fun a w hs=>(jsN (hs.sb 0))
  ·refine E0 10 false (b_not hp) (J0 (K0 ?_));cases h;exact fun a w hs=>(jsN (hs.sb 0))
 ·clear hx;refine B0 (C0 (u0 2 [kI 12 a1,kT 11 v7_1] ?_));obtain ⟨⟨x2,H3⟩,hx,h⟩:=bind_some h;try dsimp only at h
  refine RS.cl (some 13) (v:=(vS x2)) 76 _ (P9 hx) ?_;obtain ⟨s4,hx,h⟩:=bind_some h;refine RS.o (H':=H3) (some 14) (vS s4) (Abs.run_strcat (t:=9) (u:=9) (x:=.tmp 11) (y:=.tmp 13) (a:=v7_1) (b:=x2) (by kernel_rfl) (by kernel_rfl) (by kernel_rfl) hx) (u0 1 [kT 7 s4] (RS.dn (A0 (B0 (B0 (C0 (u0 3 [kI 17 0,kI 16 (a2.n:Int),kS 15 a2] (RS.dn (A0 ?_)))))))));refine O0 0 ?_;obtain ⟨o,hl,h⟩:=bind_some h;rcases o with ⟨H14,v7_15,v17_16⟩ | r
  ·try dsimp only at h
   refine U0 (S8 (L:=L) (E:=E) (m:=m) (H:=H)) (L.ok hl) 0 ?_;clear hl;refine fun a w hs=>bkE ((A0 ?_ a w hs));refine B0 (C0 (u0 2 [kT 6 v7_15,kT 27 v7_15] (RS.dn (A0 (G0 ?_)))));cases h;exact fun a w hs=>rtR (rS hs)
  ·try dsimp only at h
   refine T0 (S8 (L:=L) (E:=E) (m:=m) (H:=H)) (L.ok hl) 0 ?_;cases h;exact fun a w hq=>bkR (sqR (rtR hq))
def L5:(ByteArray×AH)→Value
 | (r0,_)=>(vS r0)
def Q5 (_:AH):(ByteArray×AH)→AH:=fun r=>r.2
noncomputable def B71:Code:=(Tryd.f71.body).getD .skip
noncomputable def T1 (_L:LC) (m:Nat) (q1:Addr) (_x4_0:Int) (x4_1:Sl3) (_x4_2:Bool):(AH×Sl3×Int)→Option (Lp (AH×Sl3×Int) (ByteArray×AH)):=fun (H5,v6_6,v19_7) =>
 if v19_7<(x4_1.n:Int) then
  (idxA 1 x4_1 v19_7).bind fun p8 => (rd (deI .i64) H5 p8).bind fun x9 => (rd deSl H5 (Addr.add q1 4)).bind fun x10 => (idxA 1 x10 x9).bind fun p11 => (rd (deI .i64) H5 p11).bind fun x12 => (newR 3 1 #[(vI .i64 x12)] H5).bind fun (s13,H14) => (appS m 3 1 8 H14 v6_6 s13).bind fun (s15,H16) => some (.next (H16,s15,(IntKind.i64.wrap (v19_7+1))))
 else
  some (.brk (H5,v6_6,v19_7))
def i8 (_L:LC) (_m:Nat) (q1:Addr) (x4_0:Int) (x4_1:Sl3) (x4_2:Bool):(AH×Sl3×Int)→KN×Lcs:=fun (_,v6_6,v19_7)=>([kS 6 v6_6,kI 19 v19_7,kP 0 q1,kL 5 0 0,kS 17 x4_1,kI 18 (x4_1.n:Int)],[some (86,[(vI .i64 x4_0),(Sl3.v x4_1),(vB x4_2)])])
noncomputable def F1 (L:LC) (m:Nat) (H:AH) (a0:Option Addr) (a1:Int):Option (ByteArray×AH) :=
 a0.bind fun q1 => (rd deSl H (Addr.add q1 0)).bind fun x2 => (idxA 3 x2 a1).bind fun p3 => (rd (deI .i64) H (Addr.add p3 0)).bind fun x4_0 => (rd deSl H (Addr.add p3 1)).bind fun x4_1 => (rd deB H (Addr.add p3 2)).bind fun x4_2 => (L.run (T1 L m q1 x4_0 x4_1 x4_2) (H,Sl3.nil,0)).bind fun o=>match o with
 | .inl (H17,v6_18,_) =>
  (N5 L m H17 x4_2 x4_0 v6_18).bind fun (x20,H21) => some (x20,H21)
 | .inr r=>some r
theorem F5 {E H L m q1 x4_0 x4_1 x4_2} :LoopF Tryd.prog (NE.plain 1000) m E Tryd.f71 ((cfst (csnd (cfst (csnd (csnd (csnd B71))))))) (i8 L m q1 x4_0 x4_1 x4_2) (fun s=>s.1) 0 L5 (Q5 H) (T1 L m q1 x4_0 x4_1 x4_2):=by
 rintro ⟨H5,v6_6,v19_7⟩ o h
 unfold T1 at h;try dsimp only at h
 refine B0 (C0 (u0 1 [kB 20 (decide (v19_7<(x4_1.n:Int)))] (RS.dn (A0 (B0 ?_)))));rcases X0 h with ⟨hp,h⟩ | ⟨hp,h⟩
 ·refine E0 20 true (decide_eq_true hp) (I0 (K0 (A0 (B0 (O0 1 (B0 (C0 ?_)))))));obtain ⟨p8,hx,h⟩:=bind_some h;refine Q0 21 27 3 (.tmp 17) (.tmp 19) hx ?_;obtain ⟨x9,hx,h⟩:=bind_some h;refine M0 22 3 (.tmp 21) (W0 hx D1) (u0 1 [kI 8 x9] (RS.dn (A0 (C0 (u0 4 [(26,.val (vP (some (Addr.add q1 4)))),kP 25 q1,kP 24 q1,kS 23 v6_6] ?_)))));obtain ⟨x10,hx,h⟩:=bind_some h;refine M0 27 27 (.tmp 26) (W0 hx Z0) (u0 1 [kI 28 x9] ?_);obtain ⟨p11,hx,h⟩:=bind_some h;refine Q0 29 27 3 (.tmp 27) (.tmp 28) hx ?_;obtain ⟨x12,hx,h⟩:=bind_some h;refine M0 30 3 (.tmp 29) (W0 hx D1) ?_;obtain ⟨⟨s13,H14⟩,hx,h⟩:=bind_some h;try dsimp only at h
  refine RS.o (H':=H14) (some 31) (Sl3.v s13) (Abs.run_newR (by kernel_rfl) (by kernel_rfl) hx) ?_;obtain ⟨⟨s15,H16⟩,hx,h⟩:=bind_some h;try dsimp only at h
  refine RS.o (H':=H16) (some 32) (Sl3.v s15) (Abs.run_app (x:=.tmp 23) (y:=.tmp 31) (ts:=#[27,27]) (s:=v6_6) (z:=s13) (by kernel_rfl) (by kernel_rfl) (by kernel_rfl) (by kernel_rfl) hx) (u0 1 [kS 6 s15] (RS.dn ?_));refine fun a w hs=>bkN ((A0 ?_ a w hs));refine C0 (u0 2 [kI 19 (IntKind.i64.wrap (v19_7+1)),kI 33 (IntKind.i64.wrap (v19_7+1))] (RS.dn ?_));cases h;exact fun a w hs=>lsN rfl (hs.sb 1)
 ·refine E0 20 false (decide_eq_false hp) (J0 (WS.ex 0 ?_));cases h;exact fun a w hs=>sqE (lsB rfl (hs.sb 1))
theorem Q3 {L:LC} {m:Nat} {H:AH} {a0:Option Addr} {a1:Int} {r:(ByteArray×AH)} (h:F1 L m H a0 a1=some r) :
  CallS Tryd.prog (NE.plain 1000) m 71 #[(vP a0),(vI .i64 a1)] H (L5 r) (Q5 H r):=by
 refine CallS.mk (args:=[(vP a0),(vI .i64 a1)]) Tryd.func71 (B:=B71) (by kernel_rfl) (fun E _=>?_);unfold F1 at h;refine B0 (C0 (u0 1 [kT 4 (⟨#[]⟩:ByteArray)] (RS.dn (A0 (B0 (C0 (u0 1 [(9,.val (vP a0))] ?_)))))));obtain ⟨q1,hx,hq1⟩:=bind_some h;subst hx;have h:=hq1;refine u0 2 [(11,.val (vP (some (Addr.add q1 0)))),kP 10 q1] ?_;obtain ⟨x2,hx,h⟩:=bind_some h;refine M0 12 57 (.tmp 11) (W0 hx Z0) (u0 1 [kI 13 a1] ?_);obtain ⟨p3,hx,h⟩:=bind_some h;refine Q0 14 57 86 (.tmp 12) (.tmp 13) hx ?_;obtain ⟨x4_0,hx0,h⟩:=bind_some h;obtain ⟨x4_1,hx1,h⟩:=bind_some h;obtain ⟨x4_2,hx2,h⟩:=bind_some h;refine RS.la 15 86 (.tmp 14) 3 (G1 (W0 hx0 D1) (G1 (W0 hx1 Z0) (G1 (W0 hx2 F6) E6))) (V0 2 [kL 5 0 0] ([some (86,[(vI .i64 x4_0),(Sl3.v x4_1),(vB x4_2)])]) (RS.dn (A0 (B0 (C0 (u0 1 [kS 6 Sl3.nil] (RS.dn (A0 (B0 ?_)))))))));refine B0 (C0 (u0 4 [kI 19 0,kI 18 (x4_1.n:Int),kS 17 x4_1,kL 16 0 1] (RS.dn (A0 (O0 0 ?_)))));obtain ⟨o,hl,h⟩:=bind_some h;rcases o with ⟨H17,v6_18,v19_19⟩ | r
 ·try dsimp only at h
  refine U0 (F5 (L:=L) (E:=E) (m:=m) (H:=H)) (L.ok hl) 1 ?_;clear hl;refine fun a w hs=>bkE ((A0 ?_ a w hs));refine B0 (C0 (u0 5 [kS 38 v6_18,kI 37 x4_0,kL 36 0 0,kB 35 x4_2,kL 34 0 2] ?_));obtain ⟨⟨x20,H21⟩,hx,h⟩:=bind_some h;try dsimp only at h
  refine RS.cl (some 39) (v:=(vS x20)) 63 _ (zm hx) (u0 1 [kT 4 x20] (RS.dn (A0 (G0 ?_))));cases h;exact fun a w hs=>rtR (rS hs)
 ·try dsimp only at h
  refine T0 (F5 (L:=L) (E:=E) (m:=m) (H:=H)) (L.ok hl) 1 ?_;cases h;exact fun a w hq=>bkR (sqR (rtR hq))
def K4:(Sl3×AH)→Value
 | (r0,_)=>(Sl3.v r0)
def O4 (_:AH):(Sl3×AH)→AH:=fun r=>r.2
noncomputable def B73:Code:=(Tryd.f73.body).getD .skip
noncomputable def V1 (L:LC) (m:Nat) (_a2:Int) (q1:Addr) (_x7:Option Addr) (_q8:Addr) (x9:Sl3):(AH×Int)→Option (Lp (AH×Int) (Sl3×AH)):=fun (H10,v41_11) =>
 if v41_11<(x9.n:Int) then
  Option.bind (α:=AH) (
   (idxA 1 x9 v41_11).bind fun p13 => (rd (deI .i64) H10 p13).bind fun x14 => (rd deM H10 (Addr.add q1 7)).bind fun x15 => (F1 L (Nat.max m H10.next) H10 (some q1) x14).bind fun (x16,H17) => (lkM Tryd.prog 58 (deI .i64) H17 x15 (vS x16)).bind fun (x18,b19) => Option.bind (α:=Bool) (
    if b19=true then
     some (decide (x18=x14))
    else
     some false) fun v61_20 =>
   if v61_20=true then
    (rd deM H17 (Addr.add q1 7)).bind fun x21 => (F1 L (Nat.max m H17.next) H17 (some q1) x14).bind fun (x22,H23) => Option.bind (gOp Tryd.prog m (opsOf (cfst (csnd (csnd (csnd (cfst (cfst (csnd (csnd (cfst (cfst (csnd (cfst (csnd (csnd B73))))))))))))))) 7 [(65,.val (Value.map x21)),(68,.val (vS x22))] deV H23) fun (_,H25) => some H25
   else
    some H17) fun H12 =>
  some (.next (H12,(IntKind.i64.wrap (v41_11+1))))
 else
  some (.brk (H10,v41_11))
def I9 (_L:LC) (_m:Nat) (a2:Int) (q1:Addr) (x7:Option Addr) (q8:Addr) (x9:Sl3):(AH×Int)→KN×Lcs:=fun (_,v41_11)=>([kI 41 v41_11,kP 0 q1,kI 2 a2,kP 7 q8,(8,.val (vP x7)),kS 39 x9,kI 40 (x9.n:Int)],[])
noncomputable def E2 (_L:LC) (m:Nat) (a2:Int) (q1:Addr) (_x7:Option Addr) (_q8:Addr) (x28:Sl3):(AH×Int)→Option (Lp (AH×Int) (Sl3×AH)):=fun (H29,v75_30) =>
 if v75_30<(x28.n:Int) then
  (idxA 1 x28 v75_30).bind fun p31 => (rd (deI .i64) H29 p31).bind fun x32 => (rd deSl H29 (Addr.add q1 4)).bind fun x33 => (idxA 1 x33 x32).bind fun p34 => (H29.setCell m p34 (vI .i64 a2)).bind fun H35 => some (.next (H35,(IntKind.i64.wrap (v75_30+1))))
 else
  some (.brk (H29,v75_30))
def K9 (_L:LC) (_m:Nat) (a2:Int) (q1:Addr) (x7:Option Addr) (q8:Addr) (x28:Sl3):(AH×Int)→KN×Lcs:=fun (_,v75_30)=>([kI 75 v75_30,kP 0 q1,kI 2 a2,kP 7 q8,(8,.val (vP x7)),kS 73 x28,kI 74 (x28.n:Int)],[])
noncomputable def U1 (L:LC) (m:Nat) (q1:Addr) (_x7:Option Addr) (_q8:Addr) (x38:Sl3):(AH×Sl3×Int)→Option (Lp (AH×Sl3×Int) (Sl3×AH)):=fun (H39,v15_40,v93_41) =>
 if v93_41<(x38.n:Int) then
  Option.bind (α:=(AH×Sl3)) (
   (idxA 1 x38 v93_41).bind fun p44 => (rd (deI .i64) H39 p44).bind fun x45 => (F1 L m H39 (some q1) x45).bind fun (x46,H47) => (rd deM H47 (Addr.add q1 7)).bind fun x48 => (lkM Tryd.prog 58 (deI .i64) H47 x48 (vS x46)).bind fun (x49,b50) => if b50=true then
    if x49=x45 then
     some (H47,v15_40)
    else
     (newR 122 1 #[(vI .i64 x45),(vI .i64 x49),(vI .i64 0),(vI .i64 0),(vI .i64 x45),(vI .i64 x49),(vB true)] H47).bind fun (s51,H52) => (appS m 122 7 56 H52 v15_40 s51).bind fun (s53,H54) => some (H54,s53)
   else
    (rd deM H47 (Addr.add q1 7)).bind fun x55 => (upM Tryd.prog m 58 H47 x55 (vS x46) (vI .i64 x45)).bind fun H56 => some (H56,v15_40)) fun (H42,v15_43) =>
  some (.next (H42,v15_43,(IntKind.i64.wrap (v93_41+1))))
 else
  some (.brk (H39,v15_40,v93_41))
def J9 (_L:LC) (_m:Nat) (q1:Addr) (x7:Option Addr) (q8:Addr) (x38:Sl3):(AH×Sl3×Int)→KN×Lcs:=fun (_,v15_40,v93_41)=>([kS 15 v15_40,kI 93 v93_41,kP 0 q1,kP 7 q8,(8,.val (vP x7)),kS 91 x38,kI 92 (x38.n:Int)],[])
noncomputable def U3 (L:LC) (m:Nat) (H:AH) (a0:Option Addr) (a1 a2:Int):Option (Sl3×AH) :=
 a0.bind fun q1 => (rd deSl H (Addr.add q1 5)).bind fun x2 => (idxA 1 x2 a1).bind fun p3 => (rd deP H p3).bind fun x4 => (rd deSl H (Addr.add q1 5)).bind fun x5 => (idxA 1 x5 a2).bind fun p6 => (rd deP H p6).bind fun x7 => x4.bind fun q8 => (rd deSl H (Addr.add (Addr.add q8 0) 0)).bind fun x9 => (L.run (V1 L m a2 q1 x7 q8 x9) (H,0)).bind fun o=>match o with
 | .inl (H26,_) =>
  (rd deSl H26 (Addr.add q8 1)).bind fun x28 => (L.run (E2 L m a2 q1 x7 q8 x28) (H26,0)).bind fun o=>match o with
  | .inl (H36,_) =>
   (rd deSl H36 (Addr.add (Addr.add q8 0) 0)).bind fun x38 => (L.run (U1 L m q1 x7 q8 x38) (H36,Sl3.nil,0)).bind fun o=>match o with
   | .inl (H57,v15_58,_) =>
    (rd deSl H57 (Addr.add (Addr.add q8 0) 0)).bind fun x60 => x7.bind fun q61 => (S3 L m H57 (some (Addr.add q61 0)) x60).bind fun H62 => (rd deSl H62 (Addr.add q61 1)).bind fun x63 => (rd deSl H62 (Addr.add q8 1)).bind fun x64 => (appS m 3 1 8 H62 x63 x64).bind fun (s65,H66) => (H66.setCell m (Addr.add q61 1) (Sl3.v s65)).bind fun H67 => (rd deSl H67 (Addr.add q61 2)).bind fun x68 => (rd deSl H67 (Addr.add q8 2)).bind fun x69 => (appS m 3 1 8 H67 x68 x69).bind fun (s70,H71) => (H71.setCell m (Addr.add q61 2) (Sl3.v s70)).bind fun H72 => (rd (deI .i64) H72 (Addr.add q61 3)).bind fun x73 => (rd (deI .i64) H72 (Addr.add q8 3)).bind fun x74 => Option.bind (gOp1 Tryd.prog (opsOf (cfst (csnd (csnd (csnd (csnd (csnd (csnd (csnd (csnd (csnd B73))))))))))) 9 [(166,.val (vI .i64 x73)),(170,.val (vI .i64 x74))] (deI .i64) H72) fun x75 => (H72.setCell m (Addr.add q61 3) (vI .i64 x75)).bind fun H76 => some (v15_58,H76)
   | .inr r=>some r
  | .inr r=>some r
 | .inr r=>some r
theorem O6 {E H L m a2 q1 x7 q8 x9} :LoopF Tryd.prog (NE.plain 1000) m E Tryd.f73 ((cfst (csnd (cfst (csnd (csnd B73)))))) (I9 L m a2 q1 x7 q8 x9) (fun s=>s.1) 0 K4 (O4 H) (V1 L m a2 q1 x7 q8 x9):=by
 rintro ⟨H10,v41_11⟩ o h
 unfold V1 at h;try dsimp only at h
 refine B0 (C0 (u0 1 [kB 42 (decide (v41_11<(x9.n:Int)))] (RS.dn (A0 (B0 ?_)))));rcases X0 h with ⟨hp,h⟩ | ⟨hp,h⟩
 ·refine E0 42 true (decide_eq_true hp) (I0 (K0 (A0 ?_)));obtain ⟨H12,hx,h⟩:=bind_some h;refine B0 ?_;refine WS.join ([kP 0 q1,kI 2 a2,kP 7 q8,(8,.val (vP x7)),kS 39 x9,kI 40 (x9.n:Int),kI 41 v41_11]) ([]) H12 ?_ (fun a w hs=>A0 ?_ a w hs)
  ·clear h; rename _=>h;refine O0 1 (B0 (C0 ?_));obtain ⟨p13,hx,h⟩:=bind_some h;refine Q0 43 27 3 (.tmp 39) (.tmp 41) hx ?_;obtain ⟨x14,hx,h⟩:=bind_some h;refine M0 44 3 (.tmp 43) (W0 hx D1) (u0 1 [kI 10 x14] (RS.dn (A0 (B0 ?_))));refine P0 [0,1,2,3] [0,1,3,7,0,0,48,127,255,511,511,1023,4095] 13 (fun hcl=>?_);refine D0 0 (some 46) (vP (some q1)) (D0 1 (some 47) (vP (some q1)) (D0 2 (some 48) (vP (some (Addr.add q1 7))) ?_));obtain ⟨x15,hx,h⟩:=bind_some h;refine F0 3 (some 49) (Value.map x15) (Abs.det_load (t:=58) (x:=.tmp 48) (a:=(Addr.add q1 7)) (by kernel_rfl) (by kernel_rfl) (by kernel_rfl) (by kernel_rfl) (W0 hx A6)) (DA.tP 4 (some 50) (vP (some q1)) (DA.tP 5 (some 51) (vI .i64 x14) ?_));obtain ⟨⟨x16,H17⟩,hx,h⟩:=bind_some h;try dsimp only at h
   refine DA.on 6 (DA.aCj 6 (some 52) false (v:=(vS x16)) 71 #[(vP (some q1)),(vI .i64 x14)] (Q3 hx) ?_);obtain ⟨⟨x18,b19⟩,hx,h⟩:=bind_some h;try dsimp only at h
   refine DA.on 7 (S0 (H':=H17) 7 (some 53) (Value.tuple #[(vI .i64 x18),(vB b19)]) (Abs.run_look (t:=58) (x:=.tmp 49) (y:=.tmp 52) (mm:=x15) (k:=(vS x16)) (by kernel_rfl) (by kernel_rfl) (by kernel_rfl) (by kernel_rfl) (lkM_eq hx D1)) (DA.tP 8 (some 45) (Value.tuple #[(vI .i64 x18),(vB b19)]) (DA.tP 9 (some 54) (vI .i64 x18) (DA.tP 10 (some 55) (vB b19) (DA.tP 11 (some 11) (vI .i64 x18) (DA.tP 12 (some 12) (vB b19) (DA.dn (A0 ?_))))))));obtain ⟨v61_20,hx,h⟩:=bind_some h;refine B0 ?_;refine WS.join ([kB 61 v61_20,kP 0 q1,kI 2 a2,kP 7 q8,(8,.val (vP x7)),kI 10 x14,kS 39 x9,kI 40 (x9.n:Int),kI 41 v41_11]) ([]) H17 ?_ (fun a w hs=>A0 ?_ a w hs)
   ·clear h; rename _=>h;refine C0 (u0 2 [kB 57 b19,kB 56 b19] ?_);rcases X0 h with ⟨hp,h⟩ | ⟨hp,h⟩
    ·refine N0 57 true hp (u0 4 [kB 61 (decide (x18=x14)),kB 60 (decide (x18=x14)),kI 59 x14,kI 58 x18] (RS.dn ?_));cases h;exact fun a w hs=>(jsN (hs.sb 0))
    ·refine N0 57 false (b_not hp) (u0 4 [kB 61 false,kU 60,kU 59,kU 58] (RS.dn ?_));cases h;exact fun a w hs=>(jsN (hs.sb 0))
   ·clear hx;rcases X0 h with ⟨hp,h⟩ | ⟨hp,h⟩
    ·refine E0 61 true hp (I0 ?_);refine P0 [0,1,2,3] [0,1,3,7,0,0,48,127] 8 (fun hcl=>?_);refine D0 0 (some 62) (vP (some q1)) (D0 1 (some 63) (vP (some q1)) (D0 2 (some 64) (vP (some (Addr.add q1 7))) ?_));obtain ⟨x21,hx,h⟩:=bind_some h;refine F0 3 (some 65) (Value.map x21) (Abs.det_load (t:=58) (x:=.tmp 64) (a:=(Addr.add q1 7)) (by kernel_rfl) (by kernel_rfl) (by kernel_rfl) (by kernel_rfl) (W0 hx A6)) (DA.tP 4 (some 66) (vP (some q1)) (DA.tP 5 (some 67) (vI .i64 x14) ?_));obtain ⟨⟨x22,H23⟩,hx,h⟩:=bind_some h;try dsimp only at h
     refine DA.on 6 (DA.aCj 6 (some 68) false (v:=(vS x22)) 71 #[(vP (some q1)),(vI .i64 x14)] (Q3 hx) ?_);obtain ⟨⟨x24,H25⟩,hx,h⟩:=bind_some h;try dsimp only at h
     refine DA.on 7 (S0 (H':=H25) 7 none x24 (zal hx zga (by kernel_rfl)) (DA.dn ?_));cases h;exact fun a w hs=>bkN ((jsN (hs.sb 0)))
    ·refine E0 61 false (b_not hp) (J0 (K0 ?_));cases h;exact fun a w hs=>bkN ((jsN (hs.sb 0)))
  ·clear hx;refine C0 (u0 2 [kI 41 (IntKind.i64.wrap (v41_11+1)),kI 69 (IntKind.i64.wrap (v41_11+1))] (RS.dn ?_));cases h;exact fun a w hs=>lsN rfl (hs.sb 0)
 ·refine E0 42 false (decide_eq_false hp) (J0 (WS.ex 0 ?_));cases h;exact fun a w hs=>sqE (lsB rfl (hs.sb 0))
theorem M6 {E H L m a2 q1 x7 q8 x28} :LoopF Tryd.prog (NE.plain 1000) m E Tryd.f73 ((cfst (csnd (cfst (csnd (csnd (csnd B73))))))) (K9 L m a2 q1 x7 q8 x28) (fun s=>s.1) 2 K4 (O4 H) (E2 L m a2 q1 x7 q8 x28):=by
 rintro ⟨H29,v75_30⟩ o h
 unfold E2 at h;try dsimp only at h
 refine B0 (C0 (u0 1 [kB 76 (decide (v75_30<(x28.n:Int)))] (RS.dn (A0 (B0 ?_)))));rcases X0 h with ⟨hp,h⟩ | ⟨hp,h⟩
 ·refine E0 76 true (decide_eq_true hp) (I0 (K0 (A0 (B0 (O0 3 (B0 (C0 ?_)))))));obtain ⟨p31,hx,h⟩:=bind_some h;refine Q0 77 27 3 (.tmp 73) (.tmp 75) hx ?_;obtain ⟨x32,hx,h⟩:=bind_some h;refine M0 78 3 (.tmp 77) (W0 hx D1) (u0 1 [kI 14 x32] (RS.dn (A0 (C0 (u0 3 [(81,.val (vP (some (Addr.add q1 4)))),kP 80 q1,kP 79 q1] ?_)))));obtain ⟨x33,hx,h⟩:=bind_some h;refine M0 82 27 (.tmp 81) (W0 hx Z0) (u0 2 [kI 84 a2,kI 83 x32] ?_);obtain ⟨p34,hx,h⟩:=bind_some h;refine Q0 85 27 3 (.tmp 82) (.tmp 83) hx ?_;obtain ⟨H35,hx,h⟩:=bind_some h;refine RS.o (H':=H35) none undef (Abs.run_store1 (t:=3) (x:=.tmp 85) (y:=.tmp 84) (a:=p34) (v:=(vI .i64 a2)) (by kernel_rfl) (by kernel_rfl) (by kernel_rfl) (by kernel_rfl) (by kernel_rfl) hx) (RS.dn ?_);refine fun a w hs=>bkN ((A0 ?_ a w hs));refine C0 (u0 2 [kI 75 (IntKind.i64.wrap (v75_30+1)),kI 86 (IntKind.i64.wrap (v75_30+1))] (RS.dn ?_));cases h;exact fun a w hs=>lsN rfl (hs.sb 0)
 ·refine E0 76 false (decide_eq_false hp) (J0 (WS.ex 2 ?_));cases h;exact fun a w hs=>sqE (lsB rfl (hs.sb 0))
theorem K6 {E H L m q1 x7 q8 x38} :LoopF Tryd.prog (NE.plain 1000) m E Tryd.f73 ((cfst (csnd (cfst (csnd (csnd (csnd (csnd (csnd B73))))))))) (J9 L m q1 x7 q8 x38) (fun s=>s.1) 4 K4 (O4 H) (U1 L m q1 x7 q8 x38):=by
 rintro ⟨H39,v15_40,v93_41⟩ o h
 unfold U1 at h;try dsimp only at h
 refine B0 (C0 (u0 1 [kB 94 (decide (v93_41<(x38.n:Int)))] (RS.dn (A0 (B0 ?_)))));rcases X0 h with ⟨hp,h⟩ | ⟨hp,h⟩
 ·refine E0 94 true (decide_eq_true hp) (I0 (K0 (A0 ?_)));obtain ⟨⟨H42,v15_43⟩,hx,h⟩:=bind_some h;try dsimp only at h
  refine B0 ?_;refine WS.join ([kS 15 v15_43,kP 0 q1,kP 7 q8,(8,.val (vP x7)),kS 91 x38,kI 92 (x38.n:Int),kI 93 v93_41]) ([]) H42 ?_ (fun a w hs=>A0 ?_ a w hs)
  ·clear h; rename _=>h;refine O0 5 (B0 (C0 ?_));obtain ⟨p44,hx,h⟩:=bind_some h;refine Q0 95 27 3 (.tmp 91) (.tmp 93) hx ?_;obtain ⟨x45,hx,h⟩:=bind_some h;refine M0 96 3 (.tmp 95) (W0 hx D1) (u0 1 [kI 17 x45] (RS.dn (A0 (B0 (C0 (u0 2 [kI 98 x45,kP 97 q1] ?_))))));obtain ⟨⟨x46,H47⟩,hx,h⟩:=bind_some h;try dsimp only at h
   refine RS.cl (some 99) (v:=(vS x46)) 71 _ (Q3 hx) (u0 1 [kT 18 x46] (RS.dn (A0 (B0 (C0 (u0 3 [(103,.val (vP (some (Addr.add q1 7)))),kP 102 q1,kP 101 q1] ?_))))));obtain ⟨x48,hx,h⟩:=bind_some h;refine M0 104 58 (.tmp 103) (W0 hx A6) (u0 1 [kT 105 x46] ?_);obtain ⟨⟨x49,b50⟩,hx,h⟩:=bind_some h;try dsimp only at h
   refine RS.o (H':=H47) (some 106) (Value.tuple #[(vI .i64 x49),(vB b50)]) (Abs.run_look (t:=58) (x:=.tmp 104) (y:=.tmp 105) (mm:=x48) (k:=(vS x46)) (by kernel_rfl) (by kernel_rfl) (by kernel_rfl) (by kernel_rfl) (lkM_eq hx D1)) (u0 5 [kB 20 b50,kI 19 x49,kB 108 b50,kI 107 x49,(100,.val (Value.tuple #[(vI .i64 x49),(vB b50)]))] (RS.dn (A0 (B0 (C0 (u0 1 [kB 109 b50] (RS.dn (A0 ?_))))))));rcases X0 h with ⟨hp,h⟩ | ⟨hp,h⟩
   ·refine E0 109 true hp (I0 (B0 (C0 (u0 3 [kB 112 (!decide (x49=x45)),kI 111 x45,kI 110 x49] (RS.dn (A0 ?_))))));rcases X0 h with ⟨hp,h⟩ | ⟨hp,h⟩
    ·refine E0 112 false (A7 hp) (J0 (K0 ?_));cases h;exact fun a w hs=>bkN ((jsN (hs.sb 0)))
    ·refine E0 112 true (l6 hp) (I0 (C0 (u0 7 [kA 119 #[(vI .i64 x45),(vI .i64 x49),(vI .i64 0),(vI .i64 0),(vI .i64 x45),(vI .i64 x49),(vB true)],kA 118 #[(vI .i64 0),(vI .i64 0),(vI .i64 x45),(vI .i64 x49),(vB true)],kI 117 x49,kI 116 x45,kI 115 x49,kI 114 x45,kS 113 v15_40] ?_)));obtain ⟨⟨s51,H52⟩,hx,h⟩:=bind_some h;try dsimp only at h
     refine RS.o (H':=H52) (some 120) (Sl3.v s51) (Abs.run_newR (by kernel_rfl) (by kernel_rfl) hx) ?_;obtain ⟨⟨s53,H54⟩,hx,h⟩:=bind_some h;try dsimp only at h
     refine RS.o (H':=H54) (some 121) (Sl3.v s53) (Abs.run_app (x:=.tmp 113) (y:=.tmp 120) (ts:=#[123,123]) (s:=v15_40) (z:=s51) (by kernel_rfl) (by kernel_rfl) (by kernel_rfl) (by kernel_rfl) hx) (u0 1 [kS 15 s53] (RS.dn ?_));cases h;exact fun a w hs=>bkN ((jsN (hs.sb 0)))
   ·refine E0 109 false (b_not hp) (J0 (C0 (u0 3 [(124,.val (vP (some (Addr.add q1 7)))),kP 123 q1,kP 122 q1] ?_)));obtain ⟨x55,hx,h⟩:=bind_some h;refine M0 125 58 (.tmp 124) (W0 hx A6) (u0 2 [kI 127 x45,kT 126 x46] ?_);obtain ⟨H56,hx,h⟩:=bind_some h;refine RS.o (H':=H56) none undef (Abs.run_upM (t:=58) (x:=.tmp 125) (y:=.tmp 126) (z:=.tmp 127) (mm:=x55) (k:=(vS x46)) (v:=(vI .i64 x45)) (by kernel_rfl) (by kernel_rfl) (by kernel_rfl) (by kernel_rfl) (by kernel_rfl) hx) (RS.dn ?_);cases h;exact fun a w hs=>bkN ((jsN (hs.sb 0)))
  ·clear hx;refine C0 (u0 2 [kI 93 (IntKind.i64.wrap (v93_41+1)),kI 128 (IntKind.i64.wrap (v93_41+1))] (RS.dn ?_));cases h;exact fun a w hs=>lsN rfl (hs.sb 0)
 ·refine E0 94 false (decide_eq_false hp) (J0 (WS.ex 4 ?_));cases h;exact fun a w hs=>sqE (lsB rfl (hs.sb 0))
theorem z1t {L:LC} {m:Nat} {H:AH} {a0:Option Addr} {a1 a2:Int} {r:(Sl3×AH)} (h:U3 L m H a0 a1 a2=some r) :
  CallS Tryd.prog (NE.plain 1000) m 73 #[(vP a0),(vI .i64 a1),(vI .i64 a2)] H (K4 r) (O4 H r):=by
 refine CallS.mk (args:=[(vP a0),(vI .i64 a1),(vI .i64 a2)]) Tryd.func73 (B:=B73) (by kernel_rfl) (fun E _=>?_);unfold U3 at h;refine B0 (C0 (u0 1 [kS 6 Sl3.nil] (RS.dn (A0 (B0 ?_)))));refine P0 [0,1,2,3,4,5,6,7,8,9,10,11,12,13] [0,1,3,7,0,31,63,0,128,384,896,0,3968,8064,127,32767] 16 (fun hcl=>?_);refine D0 0 (some 21) (vP a0) ?_;obtain ⟨q1,hx,hq1⟩:=bind_some h;subst hx;have h:=hq1;refine D0 1 (some 22) (vP (some q1)) (D0 2 (some 23) (vP (some (Addr.add q1 5))) ?_);obtain ⟨x2,hx,h⟩:=bind_some h;refine F0 3 (some 24) (Sl3.v x2) (Abs.det_load (t:=60) (x:=.tmp 23) (a:=(Addr.add q1 5)) (by kernel_rfl) (by kernel_rfl) (by kernel_rfl) (by kernel_rfl) (W0 hx Z0)) (D0 4 (some 25) (vI .i64 a1) ?_);obtain ⟨p3,hx,h⟩:=bind_some h;refine F0 5 (some 26) (vP (some p3)) (Abs.det_idx (s:=x2) (k:=.i64) (t:=60) (e:=79) (x:=.tmp 24) (y:=.tmp 25) (by kernel_rfl) (by kernel_rfl) (by kernel_rfl) (by kernel_rfl) (by kernel_rfl) hx) ?_;obtain ⟨x4,hx,h⟩:=bind_some h;refine F0 6 (some 27) (vP x4) (Abs.det_load (t:=79) (x:=.tmp 26) (a:=p3) (by kernel_rfl) (by kernel_rfl) (by kernel_rfl) (by kernel_rfl) (W0 hx O5)) (D0 7 (some 28) (vP (some q1)) (D0 8 (some 29) (vP (some q1)) (D0 9 (some 30) (vP (some (Addr.add q1 5))) ?_)));obtain ⟨x5,hx,h⟩:=bind_some h;refine F0 10 (some 31) (Sl3.v x5) (Abs.det_load (t:=60) (x:=.tmp 30) (a:=(Addr.add q1 5)) (by kernel_rfl) (by kernel_rfl) (by kernel_rfl) (by kernel_rfl) (W0 hx Z0)) (D0 11 (some 32) (vI .i64 a2) ?_);obtain ⟨p6,hx,h⟩:=bind_some h;refine F0 12 (some 33) (vP (some p6)) (Abs.det_idx (s:=x5) (k:=.i64) (t:=60) (e:=79) (x:=.tmp 31) (y:=.tmp 32) (by kernel_rfl) (by kernel_rfl) (by kernel_rfl) (by kernel_rfl) (by kernel_rfl) hx) ?_;obtain ⟨x7,hx,h⟩:=bind_some h;refine F0 13 (some 34) (vP x7) (Abs.det_load (t:=79) (x:=.tmp 33) (a:=p6) (by kernel_rfl) (by kernel_rfl) (by kernel_rfl) (by kernel_rfl) (W0 hx O5)) (DA.tP 14 (some 7) (vP x4) (DA.tP 15 (some 8) (vP x7) (DA.dn (A0 (B0 (B0 (C0 (u0 1 [(35,.val (vP x4))] ?_))))))));obtain ⟨q8,hx,hq8⟩:=bind_some h;subst hx;have h:=hq8;refine u0 3 [(38,.val (vP (some (Addr.add (Addr.add q8 0) 0)))),(37,.val (vP (some (Addr.add q8 0)))),kP 36 q8] ?_;obtain ⟨x9,hx,h⟩:=bind_some h;refine M0 39 27 (.tmp 38) (W0 hx Z0) (u0 2 [kI 41 0,kI 40 (x9.n:Int)] (RS.dn (A0 (O0 0 ?_))));obtain ⟨o,hl,h⟩:=bind_some h;rcases o with ⟨H26,v41_27⟩ | r
 ·try dsimp only at h
  refine U0 (O6 (L:=L) (E:=E) (m:=m) (H:=H)) (L.ok hl) 0 ?_;clear hl;refine fun a w hs=>bkE ((A0 ?_ a w hs));refine B0 (B0 (C0 (u0 3 [(72,.val (vP (some (Addr.add q8 1)))),kP 71 q8,kP 70 q8] ?_)));obtain ⟨x28,hx,h⟩:=bind_some h;refine M0 73 27 (.tmp 72) (W0 hx Z0) (u0 2 [kI 75 0,kI 74 (x28.n:Int)] (RS.dn (A0 (O0 2 ?_))));obtain ⟨o,hl,h⟩:=bind_some h;rcases o with ⟨H36,v75_37⟩ | r
  ·try dsimp only at h
   refine U0 (M6 (L:=L) (E:=E) (m:=m) (H:=H)) (L.ok hl) 0 ?_;clear hl;refine fun a w hs=>bkE ((A0 ?_ a w hs));refine B0 (C0 (u0 1 [kS 15 Sl3.nil] (RS.dn (A0 (B0 (B0 (C0 (u0 4 [(90,.val (vP (some (Addr.add (Addr.add q8 0) 0)))),(89,.val (vP (some (Addr.add q8 0)))),kP 88 q8,kP 87 q8] ?_))))))));obtain ⟨x38,hx,h⟩:=bind_some h;refine M0 91 27 (.tmp 90) (W0 hx Z0) (u0 2 [kI 93 0,kI 92 (x38.n:Int)] (RS.dn (A0 (O0 4 ?_))));obtain ⟨o,hl,h⟩:=bind_some h;rcases o with ⟨H57,v15_58,v93_59⟩ | r
   ·try dsimp only at h
    refine U0 (K6 (L:=L) (E:=E) (m:=m) (H:=H)) (L.ok hl) 0 ?_;clear hl;refine fun a w hs=>bkE ((A0 ?_ a w hs));refine B0 ?_;refine P0 [3,4,5,6,7] [0,1,3,0,8,24,56,120,255] 9 (fun hcl=>?_);refine D0 3 (some 132) (vP (some q8)) (D0 4 (some 133) (vP (some q8)) (D0 5 (some 134) (vP (some (Addr.add q8 0))) (D0 6 (some 135) (vP (some (Addr.add (Addr.add q8 0) 0))) ?_)));obtain ⟨x60,hx,h⟩:=bind_some h;refine F0 7 (some 136) (Sl3.v x60) (Abs.det_load (t:=27) (x:=.tmp 135) (a:=(Addr.add (Addr.add q8 0) 0)) (by kernel_rfl) (by kernel_rfl) (by kernel_rfl) (by kernel_rfl) (W0 hx Z0)) (DA.tP 0 (some 129) (vP x7) ?_);obtain ⟨q61,hx,hq61⟩:=bind_some h;subst hx;have h:=hq61;refine DA.on 1 (DA.aHj (H':=H57) 1 (some 130) true (vP (some q61)) (by kernel_rfl) (DA.on 2 (DA.aHj (H':=H57) 2 (some 131) false (vP (some (Addr.add q61 0))) (by kernel_rfl) ?_)));obtain ⟨H62,hx,h⟩:=bind_some h;refine DA.on 8 (DA.aC 8 (some 137) (v:=(Value.tuple #[])) 70 #[(vP (some (Addr.add q61 0))),(Sl3.v x60)] (C8 hx) (DA.dn (A0 (B0 ?_))));refine P0 [1,2,3,4,5,6,7,8] [0,0,2,6,14,0,32,96,224,510,1023,2047,4095] 13 (fun hcl=>?_);refine D0 1 (some 139) (vP (some q61)) (D0 2 (some 140) (vP (some q61)) (D0 3 (some 141) (vP (some (Addr.add q61 1))) ?_));obtain ⟨x63,hx,h⟩:=bind_some h;refine F0 4 (some 142) (Sl3.v x63) (Abs.det_load (t:=27) (x:=.tmp 141) (a:=(Addr.add q61 1)) (by kernel_rfl) (by kernel_rfl) (by kernel_rfl) (by kernel_rfl) (W0 hx Z0)) (D0 5 (some 143) (vP (some q8)) (D0 6 (some 144) (vP (some q8)) (D0 7 (some 145) (vP (some (Addr.add q8 1))) ?_)));obtain ⟨x64,hx,h⟩:=bind_some h;refine F0 8 (some 146) (Sl3.v x64) (Abs.det_load (t:=27) (x:=.tmp 145) (a:=(Addr.add q8 1)) (by kernel_rfl) (by kernel_rfl) (by kernel_rfl) (by kernel_rfl) (W0 hx Z0)) (DA.tP 0 (some 138) (vP (some q61)) ?_);obtain ⟨⟨s65,H66⟩,hx,h⟩:=bind_some h;try dsimp only at h
    refine DA.on 9 (S0 (H':=H66) 9 (some 147) (Sl3.v s65) (Abs.run_app (x:=.tmp 142) (y:=.tmp 146) (ts:=#[27,27]) (s:=x63) (z:=x64) (by kernel_rfl) (by kernel_rfl) (by kernel_rfl) (by kernel_rfl) hx) (DA.tP 10 (some 148) (vP (some q61)) (DA.tP 11 (some 149) (vP (some (Addr.add q61 1))) ?_)));obtain ⟨H67,hx,h⟩:=bind_some h;refine DA.on 12 (S0 (H':=H67) 12 none undef (Abs.run_store1 (t:=27) (x:=.tmp 149) (y:=.tmp 147) (a:=(Addr.add q61 1)) (v:=(Sl3.v s65)) (by kernel_rfl) (by kernel_rfl) (by kernel_rfl) (by kernel_rfl) (by kernel_rfl) hx) (DA.dn (A0 (B0 ?_))));refine P0 [1,2,3,4,5,6,7,8] [0,0,2,6,14,0,32,96,224,510,1023,2047,4095] 13 (fun hcl=>?_);refine D0 1 (some 151) (vP (some q61)) (D0 2 (some 152) (vP (some q61)) (D0 3 (some 153) (vP (some (Addr.add q61 2))) ?_));obtain ⟨x68,hx,h⟩:=bind_some h;refine F0 4 (some 154) (Sl3.v x68) (Abs.det_load (t:=27) (x:=.tmp 153) (a:=(Addr.add q61 2)) (by kernel_rfl) (by kernel_rfl) (by kernel_rfl) (by kernel_rfl) (W0 hx Z0)) (D0 5 (some 155) (vP (some q8)) (D0 6 (some 156) (vP (some q8)) (D0 7 (some 157) (vP (some (Addr.add q8 2))) ?_)));obtain ⟨x69,hx,h⟩:=bind_some h;refine F0 8 (some 158) (Sl3.v x69) (Abs.det_load (t:=27) (x:=.tmp 157) (a:=(Addr.add q8 2)) (by kernel_rfl) (by kernel_rfl) (by kernel_rfl) (by kernel_rfl) (W0 hx Z0)) (DA.tP 0 (some 150) (vP (some q61)) ?_);obtain ⟨⟨s70,H71⟩,hx,h⟩:=bind_some h;try dsimp only at h
    refine DA.on 9 (S0 (H':=H71) 9 (some 159) (Sl3.v s70) (Abs.run_app (x:=.tmp 154) (y:=.tmp 158) (ts:=#[27,27]) (s:=x68) (z:=x69) (by kernel_rfl) (by kernel_rfl) (by kernel_rfl) (by kernel_rfl) hx) (DA.tP 10 (some 160) (vP (some q61)) (DA.tP 11 (some 161) (vP (some (Addr.add q61 2))) ?_)));obtain ⟨H72,hx,h⟩:=bind_some h;refine DA.on 12 (S0 (H':=H72) 12 none undef (Abs.run_store1 (t:=27) (x:=.tmp 161) (y:=.tmp 159) (a:=(Addr.add q61 2)) (v:=(Sl3.v s70)) (by kernel_rfl) (by kernel_rfl) (by kernel_rfl) (by kernel_rfl) (by kernel_rfl) hx) (DA.dn (A0 (B0 ?_))));refine P0 [1,2,3,4,5,6,7,8] [0,0,2,6,14,0,32,96,224,510,1023,2047,4095] 13 (fun hcl=>?_);refine D0 1 (some 163) (vP (some q61)) (D0 2 (some 164) (vP (some q61)) (D0 3 (some 165) (vP (some (Addr.add q61 3))) ?_));obtain ⟨x73,hx,h⟩:=bind_some h;refine F0 4 (some 166) (vI .i64 x73) (Abs.det_load (t:=3) (x:=.tmp 165) (a:=(Addr.add q61 3)) (by kernel_rfl) (by kernel_rfl) (by kernel_rfl) (by kernel_rfl) (W0 hx D1)) (D0 5 (some 167) (vP (some q8)) (D0 6 (some 168) (vP (some q8)) (D0 7 (some 169) (vP (some (Addr.add q8 3))) ?_)));obtain ⟨x74,hx,h⟩:=bind_some h;refine F0 8 (some 170) (vI .i64 x74) (Abs.det_load (t:=3) (x:=.tmp 169) (a:=(Addr.add q8 3)) (by kernel_rfl) (by kernel_rfl) (by kernel_rfl) (by kernel_rfl) (W0 hx D1)) (DA.tP 0 (some 162) (vP (some q61)) ?_);obtain ⟨x75,hx,h⟩:=bind_some h;refine DA.on 9 (S0 (H':=H72) 9 (some 171) (vI .i64 x75) (zeo hx D1 (by kernel_rfl) (by kernel_rfl)) (DA.tP 10 (some 172) (vP (some q61)) (DA.tP 11 (some 173) (vP (some (Addr.add q61 3))) ?_)));obtain ⟨H76,hx,h⟩:=bind_some h;refine DA.on 12 (S0 (H':=H76) 12 none undef (Abs.run_store1 (t:=3) (x:=.tmp 173) (y:=.tmp 171) (a:=(Addr.add q61 3)) (v:=(vI .i64 x75)) (by kernel_rfl) (by kernel_rfl) (by kernel_rfl) (by kernel_rfl) (by kernel_rfl) hx) (DA.dn (A0 (B0 (C0 (u0 2 [kS 6 v15_58,kS 174 v15_58] (RS.dn (A0 (G0 ?_)))))))));cases h;exact fun a w hs=>rtR (rS hs)
   ·try dsimp only at h
    refine T0 (K6 (L:=L) (E:=E) (m:=m) (H:=H)) (L.ok hl) 0 ?_;cases h;exact fun a w hq=>bkR (sqR (rtR hq))
  ·try dsimp only at h
   refine T0 (M6 (L:=L) (E:=E) (m:=m) (H:=H)) (L.ok hl) 0 ?_;cases h;exact fun a w hq=>bkR (sqR (rtR hq))
 ·try dsimp only at h
  refine T0 (O6 (L:=L) (E:=E) (m:=m) (H:=H)) (L.ok hl) 0 ?_;cases h;exact fun a w hq=>bkR (sqR (rtR hq))
def R6:AH→Value
 | _=>(Value.tuple #[])
def w7 (_:AH):AH→AH:=fun r=>r
noncomputable def B58:Code:=(Tryd.f58.body).getD .skip
noncomputable def M1 (L:LC) (m:Nat) (a0:Option Addr) (_a3_0 _a3_1:Int) (_a3_2 _a3_3:Int) (_a3_4:Bool):(AH×Sl3)→Option (Lp (AH×Sl3) AH):=fun (H3,v8_4) =>
 if (v8_4.n:Int) > 0 then
  (idxA 7 v8_4 0).bind fun p5 => (rd (deI .i64) H3 (Addr.add p5 0)).bind fun x6_0 => (rd (deI .i64) H3 (Addr.add p5 1)).bind fun x6_1 => (rd (deI .i64) H3 (Addr.add p5 2)).bind fun x6_2 => (rd (deI .i64) H3 (Addr.add p5 3)).bind fun x6_3 => (rd (deI .i64) H3 (Addr.add p5 4)).bind fun x6_4 => (rd (deI .i64) H3 (Addr.add p5 5)).bind fun x6_5 => (rd deB H3 (Addr.add p5 6)).bind fun x6_6 => (slc 7 H3 v8_4 (some 1) none none).bind fun s7 => a0.bind fun q8 => (rd deSl H3 (Addr.add q8 4)).bind fun x9 => (idxA 1 x9 x6_0).bind fun p10 => (rd (deI .i64) H3 p10).bind fun x11 => (rd deSl H3 (Addr.add q8 4)).bind fun x12 => (idxA 1 x12 x6_1).bind fun p13 => (rd (deI .i64) H3 p13).bind fun x14 => if x11=x14 then
   some (.next (H3,s7))
  else
   Option.bind (α:=(Int×Int×Int×Int×Int×Int×Int×Int×Bool)) (
    (rd deSl H3 (Addr.add q8 5)).bind fun x24 => (idxA 1 x24 x11).bind fun p25 => (rd deP H3 p25).bind fun x26 => x26.bind fun q27 => (rd deSl H3 (Addr.add q27 1)).bind fun x28 => (rd deSl H3 (Addr.add q8 5)).bind fun x29 => (idxA 1 x29 x14).bind fun p30 => (rd deP H3 p30).bind fun x31 => x31.bind fun q32 => (rd deSl H3 (Addr.add q32 1)).bind fun x33 => if (x28.n:Int) > (x33.n:Int) then
     some (x14,x11,x6_1,x6_0,x6_2,x6_3,x6_4,x6_5,x6_6)
    else
     some (x11,x14,x6_0,x6_1,x6_2,x6_3,x6_4,x6_5,x6_6)) fun (v10_15,v11_16,w1_17,w1_18,_,w1_20,w1_21,w1_22,w1_23) =>
   (J3 L m H3 (some q8) w1_17).bind fun H34 => (rd deSl H34 (Addr.add q8 6)).bind fun x35 => (idxA 5 x35 w1_17).bind fun p36 => (wrCells m p36 0 [(vI .i64 w1_18),(vI .i64 w1_20),(vI .i64 w1_21),(vI .i64 w1_22),(vB w1_23)] H34).bind fun H37 => (U3 L m H37 (some q8) v10_15 v11_16).bind fun (x38,H39) => (appS m 122 7 56 H39 s7 x38).bind fun (s40,H41) => some (.next (H41,s40))
 else
  some (.brk (H3,v8_4))
def k9 (_L:LC) (_m:Nat) (a0:Option Addr) (a3_0 a3_1:Int) (a3_2 a3_3:Int) (a3_4:Bool):(AH×Sl3)→KN×Lcs:=fun (_,v8_4)=>([kS 8 v8_4,(0,.val (vP a0))],[some (109,[(vI .i64 a3_0),(vI .i64 a3_1),(vI .i64 a3_2),(vI .i64 a3_3),(vB a3_4)])])
noncomputable def W1 (L:LC) (m:Nat) (H:AH) (a0:Option Addr) (a1 a2:Int) (a3_0 a3_1:Int) (a3_2 a3_3:Int) (a3_4:Bool):Option AH :=
 (newR 122 1 #[(vI .i64 a1),(vI .i64 a2),(vI .i64 a3_0),(vI .i64 a3_1),(vI .i64 a3_2),(vI .i64 a3_3),(vB a3_4)] H).bind fun (s1,H2) => (L.run (M1 L m a0 a3_0 a3_1 a3_2 a3_3 a3_4) (H2,s1)).bind fun o=>match o with
 | .inl (H42,_) =>
  some H42
 | .inr r=>some r
theorem X5 {E H L m a0 a3_0 a3_1 a3_2 a3_3 a3_4} :LoopF Tryd.prog (NE.plain 1000) m E Tryd.f58 ((cfst (csnd (csnd B58)))) (k9 L m a0 a3_0 a3_1 a3_2 a3_3 a3_4) (fun s=>s.1) 0 R6 (w7 H) (M1 L m a0 a3_0 a3_1 a3_2 a3_3 a3_4):=by
 rintro ⟨H3,v8_4⟩ o h
 unfold M1 at h;try dsimp only at h
 refine B0 (B0 (C0 (u0 3 [kB 19 (decide ((v8_4.n:Int) > 0)),kI 18 (v8_4.n:Int),kS 17 v8_4] (RS.dn (A0 ?_)))));rcases X0 h with ⟨hp,h⟩ | ⟨hp,h⟩
 ·refine E0 19 true (decide_eq_true hp) (I0 (K0 (A0 (O0 1 (B0 (C0 (u0 1 [kS 20 v8_4] ?_)))))));obtain ⟨p5,hx,h⟩:=bind_some h;refine Q0 21 123 122 (.tmp 20) (.const (vI .i64 0)) hx ?_;obtain ⟨x6_0,hx0,h⟩:=bind_some h;obtain ⟨x6_1,hx1,h⟩:=bind_some h;obtain ⟨x6_2,hx2,h⟩:=bind_some h;obtain ⟨x6_3,hx3,h⟩:=bind_some h;obtain ⟨x6_4,hx4,h⟩:=bind_some h;obtain ⟨x6_5,hx5,h⟩:=bind_some h;obtain ⟨x6_6,hx6,h⟩:=bind_some h;refine RS.la 22 122 (.tmp 21) 7 (G1 (W0 hx0 D1) (G1 (W0 hx1 D1) (G1 (W0 hx2 D1) (G1 (W0 hx3 D1) (G1 (W0 hx4 D1) (G1 (W0 hx5 D1) (G1 (W0 hx6 F6) E6))))))) (V0 2 [kL 9 1 0] ([some (109,[(vI .i64 a3_0),(vI .i64 a3_1),(vI .i64 a3_2),(vI .i64 a3_3),(vB a3_4)]),some (122,[(vI .i64 x6_0),(vI .i64 x6_1),(vI .i64 x6_2),(vI .i64 x6_3),(vI .i64 x6_4),(vI .i64 x6_5),(vB x6_6)])]) (RS.dn (A0 (B0 (C0 (u0 1 [kS 23 v8_4] ?_))))));obtain ⟨s7,hx,h⟩:=bind_some h;refine RS.o (H':=H3) (some 24) (Sl3.v s7) (Abs.run_slice (t:=123) (e:=122) (x:=.tmp 23) (lo:=(some (.const (vI .i64 1)))) (hi:=none) (mx:=none) (s:=v8_4) (k1:=.i64) (k2:=.i64) (k3:=.i64) (by kernel_rfl) (by kernel_rfl) (by kernel_rfl) (by kernel_rfl) (by kernel_rfl) (by kernel_rfl) (by kernel_rfl) hx) (u0 1 [kS 8 s7] (RS.dn (A0 (B0 ?_))));refine P0 [0,1,2,3,4,5,6,7,8,9,10,11,12,13,14,15] [0,1,3,7,0,16,63,127,0,256,768,1792,0,4096,16128,32512,255,131071] 18 (fun hcl=>?_);refine D0 0 (some 25) (vP a0) ?_;obtain ⟨q8,hx,hq8⟩:=bind_some h;subst hx;have h:=hq8;refine D0 1 (some 26) (vP (some q8)) (D0 2 (some 27) (vP (some (Addr.add q8 4))) ?_);obtain ⟨x9,hx,h⟩:=bind_some h;refine F0 3 (some 28) (Sl3.v x9) (Abs.det_load (t:=27) (x:=.tmp 27) (a:=(Addr.add q8 4)) (by kernel_rfl) (by kernel_rfl) (by kernel_rfl) (by kernel_rfl) (W0 hx Z0)) (DA.tL 4 (some 29) (.loc 1 0) (DA.tL 5 (some 30) (.val (vI .i64 x6_0)) ?_));obtain ⟨p10,hx,h⟩:=bind_some h;refine F0 6 (some 31) (vP (some p10)) (Abs.det_idx (s:=x9) (k:=.i64) (t:=27) (e:=3) (x:=.tmp 28) (y:=.tmp 30) (by kernel_rfl) (by kernel_rfl) (by kernel_rfl) (by kernel_rfl) (by kernel_rfl) hx) ?_;obtain ⟨x11,hx,h⟩:=bind_some h;refine F0 7 (some 32) (vI .i64 x11) (Abs.det_load (t:=3) (x:=.tmp 31) (a:=p10) (by kernel_rfl) (by kernel_rfl) (by kernel_rfl) (by kernel_rfl) (W0 hx D1)) (D0 8 (some 33) (vP (some q8)) (D0 9 (some 34) (vP (some q8)) (D0 10 (some 35) (vP (some (Addr.add q8 4))) ?_)));obtain ⟨x12,hx,h⟩:=bind_some h;refine F0 11 (some 36) (Sl3.v x12) (Abs.det_load (t:=27) (x:=.tmp 35) (a:=(Addr.add q8 4)) (by kernel_rfl) (by kernel_rfl) (by kernel_rfl) (by kernel_rfl) (W0 hx Z0)) (DA.tL 12 (some 37) (.loc 1 1) (DA.tL 13 (some 38) (.val (vI .i64 x6_1)) ?_));obtain ⟨p13,hx,h⟩:=bind_some h;refine F0 14 (some 39) (vP (some p13)) (Abs.det_idx (s:=x12) (k:=.i64) (t:=27) (e:=3) (x:=.tmp 36) (y:=.tmp 38) (by kernel_rfl) (by kernel_rfl) (by kernel_rfl) (by kernel_rfl) (by kernel_rfl) hx) ?_;obtain ⟨x14,hx,h⟩:=bind_some h;refine F0 15 (some 40) (vI .i64 x14) (Abs.det_load (t:=3) (x:=.tmp 39) (a:=p13) (by kernel_rfl) (by kernel_rfl) (by kernel_rfl) (by kernel_rfl) (W0 hx D1)) (DA.tP 16 (some 10) (vI .i64 x11) (DA.tP 17 (some 11) (vI .i64 x14) (DA.dn (A0 (B0 (B0 (C0 (u0 3 [kB 43 (decide (x11=x14)),kI 42 x14,kI 41 x11] (RS.dn ?_)))))))));refine A0 ?_;rcases X0 h with ⟨hp,h⟩ | ⟨hp,h⟩
  ·refine E0 43 true (decide_eq_true hp) (I0 (WS.ex 1 ?_));cases h;exact fun a w hs=>sqE (bkE (lsN rfl (hs.sb 1)))
  ·refine E0 43 false (decide_eq_false hp) (J0 (K0 (A0 ?_)));obtain ⟨⟨v10_15,v11_16,w1_17,w1_18,w1_19,w1_20,w1_21,w1_22,w1_23⟩,hx,h⟩:=bind_some h;try dsimp only at h
   refine B0 ?_;refine WS.join ([kI 10 v10_15,kI 11 v11_16,kP 0 q8,kS 8 s7,kL 9 1 0]) ([some (109,[(vI .i64 a3_0),(vI .i64 a3_1),(vI .i64 a3_2),(vI .i64 a3_3),(vB a3_4)]),some (122,[(vI .i64 w1_17),(vI .i64 w1_18),(vI .i64 w1_19),(vI .i64 w1_20),(vI .i64 w1_21),(vI .i64 w1_22),(vB w1_23)])]) H3 ?_ (fun a w hs=>A0 ?_ a w hs)
   ·clear h; rename _=>h;refine B0 ?_;refine P0 [0,1,2,3,4,5,6,7,8,9,11,12,13,14,15,16,17,18,19,20] [0,1,3,7,0,31,63,127,255,511,1023,0,2048,6144,14336,0,63488,129024,260096,522240,1046528,2095104,4194303] 23 (fun hcl=>?_);refine D0 0 (some 44) (vP (some q8)) (D0 1 (some 45) (vP (some q8)) (D0 2 (some 46) (vP (some (Addr.add q8 5))) ?_));obtain ⟨x24,hx,h⟩:=bind_some h;refine F0 3 (some 47) (Sl3.v x24) (Abs.det_load (t:=60) (x:=.tmp 46) (a:=(Addr.add q8 5)) (by kernel_rfl) (by kernel_rfl) (by kernel_rfl) (by kernel_rfl) (W0 hx Z0)) (D0 4 (some 48) (vI .i64 x11) ?_);obtain ⟨p25,hx,h⟩:=bind_some h;refine F0 5 (some 49) (vP (some p25)) (Abs.det_idx (s:=x24) (k:=.i64) (t:=60) (e:=79) (x:=.tmp 47) (y:=.tmp 48) (by kernel_rfl) (by kernel_rfl) (by kernel_rfl) (by kernel_rfl) (by kernel_rfl) hx) ?_;obtain ⟨x26,hx,h⟩:=bind_some h;refine F0 6 (some 50) (vP x26) (Abs.det_load (t:=79) (x:=.tmp 49) (a:=p25) (by kernel_rfl) (by kernel_rfl) (by kernel_rfl) (by kernel_rfl) (W0 hx O5)) ?_;obtain ⟨q27,hx,hq27⟩:=bind_some h;subst hx;have h:=hq27;refine D0 7 (some 51) (vP (some q27)) (D0 8 (some 52) (vP (some (Addr.add q27 1))) ?_);obtain ⟨x28,hx,h⟩:=bind_some h;refine F0 9 (some 53) (Sl3.v x28) (Abs.det_load (t:=27) (x:=.tmp 52) (a:=(Addr.add q27 1)) (by kernel_rfl) (by kernel_rfl) (by kernel_rfl) (by kernel_rfl) (W0 hx Z0)) (D0 11 (some 55) (vP (some q8)) (D0 12 (some 56) (vP (some q8)) (D0 13 (some 57) (vP (some (Addr.add q8 5))) ?_)));obtain ⟨x29,hx,h⟩:=bind_some h;refine F0 14 (some 58) (Sl3.v x29) (Abs.det_load (t:=60) (x:=.tmp 57) (a:=(Addr.add q8 5)) (by kernel_rfl) (by kernel_rfl) (by kernel_rfl) (by kernel_rfl) (W0 hx Z0)) (D0 15 (some 59) (vI .i64 x14) ?_);obtain ⟨p30,hx,h⟩:=bind_some h;refine F0 16 (some 60) (vP (some p30)) (Abs.det_idx (s:=x29) (k:=.i64) (t:=60) (e:=79) (x:=.tmp 58) (y:=.tmp 59) (by kernel_rfl) (by kernel_rfl) (by kernel_rfl) (by kernel_rfl) (by kernel_rfl) hx) ?_;obtain ⟨x31,hx,h⟩:=bind_some h;refine F0 17 (some 61) (vP x31) (Abs.det_load (t:=79) (x:=.tmp 60) (a:=p30) (by kernel_rfl) (by kernel_rfl) (by kernel_rfl) (by kernel_rfl) (W0 hx O5)) ?_;obtain ⟨q32,hx,hq32⟩:=bind_some h;subst hx;have h:=hq32;refine D0 18 (some 62) (vP (some q32)) (D0 19 (some 63) (vP (some (Addr.add q32 1))) ?_);obtain ⟨x33,hx,h⟩:=bind_some h;refine F0 20 (some 64) (Sl3.v x33) (Abs.det_load (t:=27) (x:=.tmp 63) (a:=(Addr.add q32 1)) (by kernel_rfl) (by kernel_rfl) (by kernel_rfl) (by kernel_rfl) (W0 hx Z0)) (DA.restart [0,1,2,3,4,5,6,7,8,9,10,11,12,13,14,15,16,17,18,19,20,21] (by kernel_rfl) (D0 10 (some 54) (vI .i64 (x28.n:Int)) (D0 21 (some 65) (vI .i64 (x33.n:Int)) (DA.tP 22 (some 66) (vB (decide ((x28.n:Int) > (x33.n:Int)))) (DA.dn (A0 ?_))))));rcases X0 h with ⟨hp,h⟩ | ⟨hp,h⟩
    ·refine E0 66 true (decide_eq_true hp) (I0 (B0 (C0 (u0 4 [kI 11 x11,kI 10 x14,kI 68 x11,kI 67 x14] (RS.dn (A0 (C0 (V0 8 [kL 74 1 1,kL 73 1 0,kI 72 x6_0,kL 71 1 0,kI 70 x6_1,kL 69 1 1] ([some (109,[(vI .i64 a3_0),(vI .i64 a3_1),(vI .i64 a3_2),(vI .i64 a3_3),(vB a3_4)]),some (122,[(vI .i64 x6_1),(vI .i64 x6_0),(vI .i64 x6_2),(vI .i64 x6_3),(vI .i64 x6_4),(vI .i64 x6_5),(vB x6_6)])]) (RS.dn ?_)))))))));cases h;exact fun a w hs=>(jsN (hs.sb 2))
    ·refine E0 66 false (decide_eq_false hp) (J0 (K0 ?_));cases h;exact fun a w hs=>(jsN (hs.sb 2))
   ·clear hx;refine B0 (C0 (u0 3 [kI 77 w1_17,kL 76 1 0,kP 75 q8] ?_));obtain ⟨H34,hx,h⟩:=bind_some h;refine RS.cl (some 78) (v:=(Value.tuple #[])) 72 _ (U9 hx) (RS.dn (A0 (B0 (C0 (V0 5 [kL 82 1 2,kL 81 1 2,kI 80 w1_18,kL 79 1 1] ([some (109,[(vI .i64 a3_0),(vI .i64 a3_1),(vI .i64 a3_2),(vI .i64 a3_3),(vB a3_4)]),some (122,[(vI .i64 w1_17),(vI .i64 w1_18),(vI .i64 w1_18),(vI .i64 w1_20),(vI .i64 w1_21),(vI .i64 w1_22),(vB w1_23)])]) (RS.dn (A0 (B0 ?_))))))));refine P0 [0,1,2,3,4,5,6,7] [0,1,3,7,0,16,0,64,255,511] 10 (fun hcl=>?_);refine D0 0 (some 83) (vP (some q8)) (D0 1 (some 84) (vP (some q8)) (D0 2 (some 85) (vP (some (Addr.add q8 6))) ?_));obtain ⟨x35,hx,h⟩:=bind_some h;refine F0 3 (some 86) (Sl3.v x35) (Abs.det_load (t:=61) (x:=.tmp 85) (a:=(Addr.add q8 6)) (by kernel_rfl) (by kernel_rfl) (by kernel_rfl) (by kernel_rfl) (W0 hx Z0)) (DA.tL 4 (some 87) (.loc 1 0) (DA.tL 5 (some 88) (.val (vI .i64 w1_17)) (DA.tL 6 (some 89) (.loc 1 2) (DA.tL 7 (some 90) (.val (vA #[(vI .i64 w1_18),(vI .i64 w1_20),(vI .i64 w1_21),(vI .i64 w1_22),(vB w1_23)])) ?_))));obtain ⟨p36,hx,h⟩:=bind_some h;refine DA.tPx 8 (some 91) (vP (some p36)) (Abs.det_idx (s:=x35) (k:=.i64) (t:=61) (e:=109) (x:=.tmp 86) (y:=.tmp 88) (by kernel_rfl) (by kernel_rfl) (by kernel_rfl) (by kernel_rfl) (by kernel_rfl) hx) ?_;obtain ⟨H37,hx,h⟩:=bind_some h;refine DA.on 9 (S0 (H':=H37) 9 none undef (Abs.run_storeA (t:=109) (x:=.tmp 91) (y:=.tmp 90) (a:=p36) (v:=(vA #[(vI .i64 w1_18),(vI .i64 w1_20),(vI .i64 w1_21),(vI .i64 w1_22),(vB w1_23)])) (by kernel_rfl) (by kernel_rfl) (by kernel_rfl) (by kernel_rfl) (by kernel_rfl) hx) (DA.dn (A0 (C0 (u0 4 [kI 95 v11_16,kI 94 v10_15,kP 93 q8,kS 92 s7] ?_)))));obtain ⟨⟨x38,H39⟩,hx,h⟩:=bind_some h;try dsimp only at h
    refine RS.cl (some 96) (v:=(Sl3.v x38)) 73 _ (z1t hx) ?_;obtain ⟨⟨s40,H41⟩,hx,h⟩:=bind_some h;try dsimp only at h
    refine RS.o (H':=H41) (some 97) (Sl3.v s40) (Abs.run_app (x:=.tmp 92) (y:=.tmp 96) (ts:=#[123,123]) (s:=s7) (z:=x38) (by kernel_rfl) (by kernel_rfl) (by kernel_rfl) (by kernel_rfl) hx) (u0 1 [kS 8 s40] (RS.dn ?_));cases h;exact fun a w hs=>bkN (lsN rfl (hs.sb 1))
 ·refine E0 19 false (decide_eq_false hp) (J0 (WS.ex 0 ?_));cases h;exact fun a w hs=>sqE (lsB rfl (hs.sb 1))
theorem E7 {L:LC} {m:Nat} {H:AH} {a0:Option Addr} {a1 a2:Int} {a3_0 a3_1:Int} {a3_2 a3_3:Int} {a3_4:Bool} {r:AH} (h:W1 L m H a0 a1 a2 a3_0 a3_1 a3_2 a3_3 a3_4=some r) :
  CallS Tryd.prog (NE.plain 1000) m 58 #[(vP a0),(vI .i64 a1),(vI .i64 a2),(vA #[(vI .i64 a3_0),(vI .i64 a3_1),(vI .i64 a3_2),(vI .i64 a3_3),(vB a3_4)])] H (R6 r) (w7 H r):=by
 refine CallS.mk (args:=[(vP a0),(vI .i64 a1),(vI .i64 a2),(vA #[(vI .i64 a3_0),(vI .i64 a3_1),(vI .i64 a3_2),(vI .i64 a3_3),(vB a3_4)])]) Tryd.func58 (B:=B58) (by kernel_rfl) (fun E _=>?_);unfold W1 at h;refine B0 (C0 (V0 1 [kL 7 0 0] ([some (109,[(vI .i64 a3_0),(vI .i64 a3_1),(vI .i64 a3_2),(vI .i64 a3_3),(vB a3_4)])]) (RS.dn (A0 (B0 (C0 (u0 4 [kA 15 #[(vI .i64 a1),(vI .i64 a2),(vI .i64 a3_0),(vI .i64 a3_1),(vI .i64 a3_2),(vI .i64 a3_3),(vB a3_4)],kA 14 #[(vI .i64 a3_0),(vI .i64 a3_1),(vI .i64 a3_2),(vI .i64 a3_3),(vB a3_4)],kI 13 a2,kI 12 a1] ?_)))))));obtain ⟨⟨s1,H2⟩,hx,h⟩:=bind_some h;try dsimp only at h
 refine RS.o (H':=H2) (some 16) (Sl3.v s1) (Abs.run_newR (by kernel_rfl) (by kernel_rfl) hx) (u0 1 [kS 8 s1] (RS.dn (A0 (O0 0 ?_))));obtain ⟨o,hl,h⟩:=bind_some h;rcases o with ⟨H42,v8_43⟩ | r
 ·try dsimp only at h
  refine U0 (X5 (L:=L) (E:=E) (m:=m) (H:=H)) (L.ok hl) 1 ?_;clear hl;cases h;exact fun a w hs=>bkE (rtN (rS hs))
 ·try dsimp only at h
  refine T0 (X5 (L:=L) (E:=E) (m:=m) (H:=H)) (L.ok hl) 1 ?_;cases h;exact fun a w hq=>bkR (rtR hq)
def U6:AH→Value
 | _=>(Value.tuple #[])
def t7 (_:AH):AH→AH:=fun r=>r
noncomputable def B57:Code:=(Tryd.f57.body).getD .skip
noncomputable def A2 (L:LC) (m:Nat) (a1:Int) (q13:Addr) (x35:Sl3):(AH×Int)→Option (Lp (AH×Int) AH):=fun (H36,v71_37) =>
 if v71_37<(x35.n:Int) then
  (idxA 1 x35 v71_37).bind fun p38 => (rd (deI .i64) H36 p38).bind fun x39 => (rd deSl H36 (Addr.add q13 5)).bind fun x40 => (rd deSl H36 (Addr.add q13 4)).bind fun x41 => (idxA 1 x41 x39).bind fun p42 => (rd (deI .i64) H36 p42).bind fun x43 => (idxA 1 x40 x43).bind fun p44 => (rd deP H36 p44).bind fun x45 => x45.bind fun q46 => (newR 3 1 #[(vI .i64 a1)] H36).bind fun (s47,H48) => (S3 L m H48 (some (Addr.add q46 0)) s47).bind fun H49 => some (.next (H49,(IntKind.i64.wrap (v71_37+1))))
 else
  some (.brk (H36,v71_37))
def r9 (_L:LC) (_m:Nat) (a1:Int) (q13:Addr) (x35:Sl3):(AH×Int)→KN×Lcs:=fun (_,v71_37)=>([kI 71 v71_37,kP 0 q13,kI 1 a1,kS 69 x35,kI 70 (x35.n:Int)],[])
noncomputable def X2 (L:LC) (m:Nat) (H:AH) (a0:Option Addr) (a1:Int):Option AH :=
 (newR 3 1 #[(vI .i64 a1)] H).bind fun (s1,H2) => (newB 78 [(Sl3.v Sl3.nil),(Sl3.v s1),(Sl3.v Sl3.nil),(vI .i64 a1)] H2).bind fun (p3,H4) => Option.bind (α:=AH) (
  a0.bind fun q6 => (rd deSl H4 (Addr.add q6 0)).bind fun x7 => (idxA 3 x7 a1).bind fun p8 => (rd deB H4 (Addr.add p8 2)).bind fun x9 => if x9=true then
   (newR 3 1 #[(vI .i64 a1)] H4).bind fun (s10,H11) => (H11.setCell m (Addr.add p3 2) (Sl3.v s10)).bind fun H12 => some H12
  else
   some H4) fun H5 =>
 a0.bind fun q13 => (rd deSl H5 (Addr.add q13 4)).bind fun x14 => (rd deSl H5 (Addr.add q13 5)).bind fun x15 => (newR 3 1 #[(vI .i64 (x15.n:Int))] H5).bind fun (s16,H17) => (appS m 3 1 8 H17 x14 s16).bind fun (s18,H19) => (H19.setCell m (Addr.add q13 4) (Sl3.v s18)).bind fun H20 => (rd deSl H20 (Addr.add q13 5)).bind fun x21 => (newR 79 1 #[(vP (some p3))] H20).bind fun (s22,H23) => (appS m 79 1 8 H23 x21 s22).bind fun (s24,H25) => (H25.setCell m (Addr.add q13 5) (Sl3.v s24)).bind fun H26 => (rd deSl H26 (Addr.add q13 6)).bind fun x27 => (newR 109 1 #[(vI .i64 (-1)),(vI .i64 0),(vI .i64 0),(vI .i64 0),(vB false)] H26).bind fun (s28,H29) => (appS m 109 5 40 H29 x27 s28).bind fun (s30,H31) => (H31.setCell m (Addr.add q13 6) (Sl3.v s30)).bind fun H32 => (rd deSl H32 (Addr.add q13 0)).bind fun x33 => (idxA 3 x33 a1).bind fun p34 => (rd deSl H32 (Addr.add p34 1)).bind fun x35 => (L.run (A2 L m a1 q13 x35) (H32,0)).bind fun o=>match o with
 | .inl (H50,_) =>
  (F1 L m H50 (some q13) a1).bind fun (x52,H53) => (rd deM H53 (Addr.add q13 7)).bind fun x54 => (lkM Tryd.prog 58 (deI .i64) H53 x54 (vS x52)).bind fun (x55,b56) => if b56=true then
   (W1 L m H53 (some q13) a1 x55 0 0 a1 x55 true).bind fun H57 => some H57
  else
   (rd deM H53 (Addr.add q13 7)).bind fun x58 => (upM Tryd.prog m 58 H53 x58 (vS x52) (vI .i64 a1)).bind fun H59 => some H59
 | .inr r=>some r
theorem W5 {E H L m a1 q13 x35} :LoopF Tryd.prog (NE.plain 1000) m E Tryd.f57 ((cfst (csnd (cfst (csnd (csnd (csnd (csnd (csnd B57))))))))) (r9 L m a1 q13 x35) (fun s=>s.1) 0 U6 (t7 H) (A2 L m a1 q13 x35):=by
 rintro ⟨H36,v71_37⟩ o h
 unfold A2 at h;try dsimp only at h
 refine B0 (C0 (u0 1 [kB 72 (decide (v71_37<(x35.n:Int)))] (RS.dn (A0 (B0 ?_)))));rcases X0 h with ⟨hp,h⟩ | ⟨hp,h⟩
 ·refine E0 72 true (decide_eq_true hp) (I0 (K0 (A0 (B0 (O0 1 (B0 (C0 ?_)))))));obtain ⟨p38,hx,h⟩:=bind_some h;refine Q0 73 27 3 (.tmp 69) (.tmp 71) hx ?_;obtain ⟨x39,hx,h⟩:=bind_some h;refine M0 74 3 (.tmp 73) (W0 hx D1) (u0 1 [kI 6 x39] (RS.dn (A0 ?_)));refine P0 [0,1,2,3,4,5,6,7,8,9,10,11,12] [0,1,3,7,0,16,48,112,0,496,1008,2047,4095,8191,16383,0,32768,131071] 18 (fun hcl=>?_);refine D0 0 (some 75) (vP (some q13)) (D0 1 (some 76) (vP (some q13)) (D0 2 (some 77) (vP (some (Addr.add q13 5))) ?_));obtain ⟨x40,hx,h⟩:=bind_some h;refine F0 3 (some 78) (Sl3.v x40) (Abs.det_load (t:=60) (x:=.tmp 77) (a:=(Addr.add q13 5)) (by kernel_rfl) (by kernel_rfl) (by kernel_rfl) (by kernel_rfl) (W0 hx Z0)) (D0 4 (some 79) (vP (some q13)) (D0 5 (some 80) (vP (some q13)) (D0 6 (some 81) (vP (some (Addr.add q13 4))) ?_)));obtain ⟨x41,hx,h⟩:=bind_some h;refine F0 7 (some 82) (Sl3.v x41) (Abs.det_load (t:=27) (x:=.tmp 81) (a:=(Addr.add q13 4)) (by kernel_rfl) (by kernel_rfl) (by kernel_rfl) (by kernel_rfl) (W0 hx Z0)) (D0 8 (some 83) (vI .i64 x39) ?_);obtain ⟨p42,hx,h⟩:=bind_some h;refine F0 9 (some 84) (vP (some p42)) (Abs.det_idx (s:=x41) (k:=.i64) (t:=27) (e:=3) (x:=.tmp 82) (y:=.tmp 83) (by kernel_rfl) (by kernel_rfl) (by kernel_rfl) (by kernel_rfl) (by kernel_rfl) hx) ?_;obtain ⟨x43,hx,h⟩:=bind_some h;refine F0 10 (some 85) (vI .i64 x43) (Abs.det_load (t:=3) (x:=.tmp 84) (a:=p42) (by kernel_rfl) (by kernel_rfl) (by kernel_rfl) (by kernel_rfl) (W0 hx D1)) ?_;obtain ⟨p44,hx,h⟩:=bind_some h;refine F0 11 (some 86) (vP (some p44)) (Abs.det_idx (s:=x40) (k:=.i64) (t:=60) (e:=79) (x:=.tmp 78) (y:=.tmp 85) (by kernel_rfl) (by kernel_rfl) (by kernel_rfl) (by kernel_rfl) (by kernel_rfl) hx) ?_;obtain ⟨x45,hx,h⟩:=bind_some h;refine F0 12 (some 87) (vP x45) (Abs.det_load (t:=79) (x:=.tmp 86) (a:=p44) (by kernel_rfl) (by kernel_rfl) (by kernel_rfl) (by kernel_rfl) (W0 hx O5)) ?_;obtain ⟨q46,hx,hq46⟩:=bind_some h;subst hx;have h:=hq46;refine DA.tP 13 (some 88) (vP (some q46)) (DA.tP 14 (some 89) (vP (some (Addr.add q46 0))) (DA.tP 15 (some 90) (vI .i64 a1) ?_));obtain ⟨⟨s47,H48⟩,hx,h⟩:=bind_some h;try dsimp only at h
  refine DA.on 16 (DA.aHj (H':=H48) 16 (some 91) false (Sl3.v s47) (Abs.run_newR (by kernel_rfl) (by kernel_rfl) hx) ?_);obtain ⟨H49,hx,h⟩:=bind_some h;refine DA.on 17 (DA.aC 17 (some 92) (v:=(Value.tuple #[])) 70 #[(vP (some (Addr.add q46 0))),(Sl3.v s47)] (C8 hx) (DA.dn ?_));refine fun a w hs=>bkN ((A0 ?_ a w hs));refine C0 (u0 2 [kI 71 (IntKind.i64.wrap (v71_37+1)),kI 93 (IntKind.i64.wrap (v71_37+1))] (RS.dn ?_));cases h;exact fun a w hs=>lsN rfl (hs.sb 0)
 ·refine E0 72 false (decide_eq_false hp) (J0 (WS.ex 0 ?_));cases h;exact fun a w hs=>sqE (lsB rfl (hs.sb 0))
theorem z18 {L:LC} {m:Nat} {H:AH} {a0:Option Addr} {a1:Int} {r:AH} (h:X2 L m H a0 a1=some r) :
  CallS Tryd.prog (NE.plain 1000) m 57 #[(vP a0),(vI .i64 a1)] H (U6 r) (t7 H r):=by
 refine CallS.mk (args:=[(vP a0),(vI .i64 a1)]) Tryd.func57 (B:=B57) (by kernel_rfl) (fun E _=>?_);unfold X2 at h;refine B0 (C0 (u0 1 [kI 10 a1] ?_));obtain ⟨⟨s1,H2⟩,hx,h⟩:=bind_some h;try dsimp only at h
 refine RS.o (H':=H2) (some 11) (Sl3.v s1) (Abs.run_newR (by kernel_rfl) (by kernel_rfl) hx) (u0 2 [kA 13 #[(Sl3.v Sl3.nil),(Sl3.v s1),(Sl3.v Sl3.nil),(vI .i64 a1)],kI 12 a1] ?_);obtain ⟨⟨p3,H4⟩,hx,h⟩:=bind_some h;try dsimp only at h
 refine RS.o (H':=H4) (some 14) (vP (some p3)) (Abs.run_newB (by kernel_rfl) hx) (u0 1 [kP 4 p3] (RS.dn (A0 ?_)));obtain ⟨H5,hx,h⟩:=bind_some h;refine B0 ?_;refine WS.join ([(0,.val (vP a0)),kI 1 a1,kP 4 p3]) ([]) H5 ?_ (fun a w hs=>A0 ?_ a w hs)
 ·clear h; rename _=>h;refine B0 (C0 (u0 1 [(15,.val (vP a0))] ?_));obtain ⟨q6,hx,hq6⟩:=bind_some h;subst hx;have h:=hq6;refine u0 2 [(17,.val (vP (some (Addr.add q6 0)))),kP 16 q6] ?_;obtain ⟨x7,hx,h⟩:=bind_some h;refine M0 18 57 (.tmp 17) (W0 hx Z0) (u0 1 [kI 19 a1] ?_);obtain ⟨p8,hx,h⟩:=bind_some h;refine Q0 20 57 86 (.tmp 18) (.tmp 19) hx (u0 1 [(21,.val (vP (some (Addr.add p8 2))))] ?_);obtain ⟨x9,hx,h⟩:=bind_some h;refine M0 22 4 (.tmp 21) (W0 hx F6) (RS.dn (A0 ?_));rcases X0 h with ⟨hp,h⟩ | ⟨hp,h⟩
  ·refine E0 22 true hp (I0 (C0 (u0 2 [kI 24 a1,kP 23 p3] ?_)));obtain ⟨⟨s10,H11⟩,hx,h⟩:=bind_some h;try dsimp only at h
   refine RS.o (H':=H11) (some 25) (Sl3.v s10) (Abs.run_newR (by kernel_rfl) (by kernel_rfl) hx) (u0 2 [(27,.val (vP (some (Addr.add p3 2)))),kP 26 p3] ?_);obtain ⟨H12,hx,h⟩:=bind_some h;refine RS.o (H':=H12) none undef (Abs.run_store1 (t:=27) (x:=.tmp 27) (y:=.tmp 25) (a:=(Addr.add p3 2)) (v:=(Sl3.v s10)) (by kernel_rfl) (by kernel_rfl) (by kernel_rfl) (by kernel_rfl) (by kernel_rfl) hx) (RS.dn ?_);cases h;exact fun a w hs=>(jsN (hs.sb 0))
  ·refine E0 22 false (b_not hp) (J0 (K0 ?_));cases h;exact fun a w hs=>(jsN (hs.sb 0))
 ·clear hx;refine B0 ?_;refine P0 [1,2,3,4,5,6,7,8] [0,0,2,6,14,0,32,96,224,480,992,2046,4095,8191,16383] 15 (fun hcl=>?_);refine D0 1 (some 29) (vP a0) ?_;obtain ⟨q13,hx,hq13⟩:=bind_some h;subst hx;have h:=hq13;refine D0 2 (some 30) (vP (some q13)) (D0 3 (some 31) (vP (some (Addr.add q13 4))) ?_);obtain ⟨x14,hx,h⟩:=bind_some h;refine F0 4 (some 32) (Sl3.v x14) (Abs.det_load (t:=27) (x:=.tmp 31) (a:=(Addr.add q13 4)) (by kernel_rfl) (by kernel_rfl) (by kernel_rfl) (by kernel_rfl) (W0 hx Z0)) (D0 5 (some 33) (vP (some q13)) (D0 6 (some 34) (vP (some q13)) (D0 7 (some 35) (vP (some (Addr.add q13 5))) ?_)));obtain ⟨x15,hx,h⟩:=bind_some h;refine F0 8 (some 36) (Sl3.v x15) (Abs.det_load (t:=60) (x:=.tmp 35) (a:=(Addr.add q13 5)) (by kernel_rfl) (by kernel_rfl) (by kernel_rfl) (by kernel_rfl) (W0 hx Z0)) (DA.tP 0 (some 28) (vP (some q13)) (DA.on 9 (DA.aHj (H':=H5) 9 (some 37) true (vI .i64 (x15.n:Int)) (by kernel_rfl) ?_)));obtain ⟨⟨s16,H17⟩,hx,h⟩:=bind_some h;try dsimp only at h
  refine DA.on 10 (DA.aHj (H':=H17) 10 (some 38) false (Sl3.v s16) (Abs.run_newR (by kernel_rfl) (by kernel_rfl) hx) ?_);obtain ⟨⟨s18,H19⟩,hx,h⟩:=bind_some h;try dsimp only at h
  refine DA.on 11 (S0 (H':=H19) 11 (some 39) (Sl3.v s18) (Abs.run_app (x:=.tmp 32) (y:=.tmp 38) (ts:=#[27,27]) (s:=x14) (z:=s16) (by kernel_rfl) (by kernel_rfl) (by kernel_rfl) (by kernel_rfl) hx) (DA.tP 12 (some 40) (vP (some q13)) (DA.tP 13 (some 41) (vP (some (Addr.add q13 4))) ?_)));obtain ⟨H20,hx,h⟩:=bind_some h;refine DA.on 14 (S0 (H':=H20) 14 none undef (Abs.run_store1 (t:=27) (x:=.tmp 41) (y:=.tmp 39) (a:=(Addr.add q13 4)) (v:=(Sl3.v s18)) (by kernel_rfl) (by kernel_rfl) (by kernel_rfl) (by kernel_rfl) (by kernel_rfl) hx) (DA.dn (A0 (B0 (C0 (u0 4 [(45,.val (vP (some (Addr.add q13 5)))),kP 44 q13,kP 43 q13,kP 42 q13] ?_))))));obtain ⟨x21,hx,h⟩:=bind_some h;refine M0 46 60 (.tmp 45) (W0 hx Z0) (u0 1 [kP 47 p3] ?_);obtain ⟨⟨s22,H23⟩,hx,h⟩:=bind_some h;try dsimp only at h
  refine RS.o (H':=H23) (some 48) (Sl3.v s22) (Abs.run_newR (by kernel_rfl) (by kernel_rfl) hx) ?_;obtain ⟨⟨s24,H25⟩,hx,h⟩:=bind_some h;try dsimp only at h
  refine RS.o (H':=H25) (some 49) (Sl3.v s24) (Abs.run_app (x:=.tmp 46) (y:=.tmp 48) (ts:=#[60,60]) (s:=x21) (z:=s22) (by kernel_rfl) (by kernel_rfl) (by kernel_rfl) (by kernel_rfl) hx) (u0 2 [(51,.val (vP (some (Addr.add q13 5)))),kP 50 q13] ?_);obtain ⟨H26,hx,h⟩:=bind_some h;refine RS.o (H':=H26) none undef (Abs.run_store1 (t:=60) (x:=.tmp 51) (y:=.tmp 49) (a:=(Addr.add q13 5)) (v:=(Sl3.v s24)) (by kernel_rfl) (by kernel_rfl) (by kernel_rfl) (by kernel_rfl) (by kernel_rfl) hx) (RS.dn (A0 (B0 (C0 (u0 4 [(55,.val (vP (some (Addr.add q13 6)))),kP 54 q13,kP 53 q13,kP 52 q13] ?_)))));obtain ⟨x27,hx,h⟩:=bind_some h;refine M0 56 61 (.tmp 55) (W0 hx Z0) (u0 1 [kA 57 #[(vI .i64 (-1)),(vI .i64 0),(vI .i64 0),(vI .i64 0),(vB false)]] ?_);obtain ⟨⟨s28,H29⟩,hx,h⟩:=bind_some h;try dsimp only at h
  refine RS.o (H':=H29) (some 58) (Sl3.v s28) (Abs.run_newR (by kernel_rfl) (by kernel_rfl) hx) ?_;obtain ⟨⟨s30,H31⟩,hx,h⟩:=bind_some h;try dsimp only at h
  refine RS.o (H':=H31) (some 59) (Sl3.v s30) (Abs.run_app (x:=.tmp 56) (y:=.tmp 58) (ts:=#[61,61]) (s:=x27) (z:=s28) (by kernel_rfl) (by kernel_rfl) (by kernel_rfl) (by kernel_rfl) hx) (u0 2 [(61,.val (vP (some (Addr.add q13 6)))),kP 60 q13] ?_);obtain ⟨H32,hx,h⟩:=bind_some h;refine RS.o (H':=H32) none undef (Abs.run_store1 (t:=61) (x:=.tmp 61) (y:=.tmp 59) (a:=(Addr.add q13 6)) (v:=(Sl3.v s30)) (by kernel_rfl) (by kernel_rfl) (by kernel_rfl) (by kernel_rfl) (by kernel_rfl) hx) (RS.dn (A0 (B0 (B0 (C0 (u0 3 [(64,.val (vP (some (Addr.add q13 0)))),kP 63 q13,kP 62 q13] ?_))))));obtain ⟨x33,hx,h⟩:=bind_some h;refine M0 65 57 (.tmp 64) (W0 hx Z0) (u0 1 [kI 66 a1] ?_);obtain ⟨p34,hx,h⟩:=bind_some h;refine Q0 67 57 86 (.tmp 65) (.tmp 66) hx (u0 1 [(68,.val (vP (some (Addr.add p34 1))))] ?_);obtain ⟨x35,hx,h⟩:=bind_some h;refine M0 69 27 (.tmp 68) (W0 hx Z0) (u0 2 [kI 71 0,kI 70 (x35.n:Int)] (RS.dn (A0 (O0 0 ?_))));obtain ⟨o,hl,h⟩:=bind_some h;rcases o with ⟨H50,v71_51⟩ | r
  ·try dsimp only at h
   refine U0 (W5 (L:=L) (E:=E) (m:=m) (H:=H)) (L.ok hl) 0 ?_;clear hl;refine fun a w hs=>bkE ((A0 ?_ a w hs));refine B0 (C0 (u0 2 [kI 95 a1,kP 94 q13] ?_));obtain ⟨⟨x52,H53⟩,hx,h⟩:=bind_some h;try dsimp only at h
   refine RS.cl (some 96) (v:=(vS x52)) 71 _ (Q3 hx) (u0 1 [kT 7 x52] (RS.dn (A0 (B0 (B0 (C0 (u0 3 [(100,.val (vP (some (Addr.add q13 7)))),kP 99 q13,kP 98 q13] ?_)))))));obtain ⟨x54,hx,h⟩:=bind_some h;refine M0 101 58 (.tmp 100) (W0 hx A6) (u0 1 [kT 102 x52] ?_);obtain ⟨⟨x55,b56⟩,hx,h⟩:=bind_some h;try dsimp only at h
   refine RS.o (H':=H53) (some 103) (Value.tuple #[(vI .i64 x55),(vB b56)]) (Abs.run_look (t:=58) (x:=.tmp 101) (y:=.tmp 102) (mm:=x54) (k:=(vS x52)) (by kernel_rfl) (by kernel_rfl) (by kernel_rfl) (by kernel_rfl) (lkM_eq hx D1)) (u0 5 [kB 9 b56,kI 8 x55,kB 105 b56,kI 104 x55,(97,.val (Value.tuple #[(vI .i64 x55),(vB b56)]))] (RS.dn (A0 (B0 (C0 (u0 1 [kB 106 b56] (RS.dn (A0 ?_))))))));rcases X0 h with ⟨hp,h⟩ | ⟨hp,h⟩
   ·refine E0 106 true hp (I0 (B0 (C0 (u0 6 [kA 112 #[(vI .i64 0),(vI .i64 0),(vI .i64 a1),(vI .i64 x55),(vB true)],kI 111 x55,kI 110 a1,kI 109 x55,kI 108 a1,kP 107 q13] ?_))));obtain ⟨H57,hx,h⟩:=bind_some h;refine RS.cl (some 113) (v:=(Value.tuple #[])) 58 _ (E7 hx) (RS.dn (A0 (G0 ?_)));cases h;exact fun a w hs=>sqR (rtR (rS hs))
   ·refine E0 106 false (b_not hp) (J0 (K0 (A0 (C0 (u0 3 [(116,.val (vP (some (Addr.add q13 7)))),kP 115 q13,kP 114 q13] ?_)))));obtain ⟨x58,hx,h⟩:=bind_some h;refine M0 117 58 (.tmp 116) (W0 hx A6) (u0 2 [kI 119 a1,kT 118 x52] ?_);obtain ⟨H59,hx,h⟩:=bind_some h;refine RS.o (H':=H59) none undef (Abs.run_upM (t:=58) (x:=.tmp 117) (y:=.tmp 118) (z:=.tmp 119) (mm:=x58) (k:=(vS x52)) (v:=(vI .i64 a1)) (by kernel_rfl) (by kernel_rfl) (by kernel_rfl) (by kernel_rfl) (by kernel_rfl) hx) (RS.dn ?_);cases h;exact fun a w hs=>rtN (rS hs)
  ·try dsimp only at h
   refine T0 (W5 (L:=L) (E:=E) (m:=m) (H:=H)) (L.ok hl) 0 ?_;cases h;exact fun a w hq=>bkR (sqR (rtR hq))
def z2e:(Int×Int×AH)→Value
 | (r0,r1,_)=>(Value.tuple #[(vI .i64 r0),(vI .i64 r1)])
def z2p (_:AH):(Int×Int×AH)→AH:=fun r=>r.2.2
noncomputable def B39:Code:=(Tryd.f39.body).getD .skip
noncomputable def Z1 (L:LC) (m:Nat) (H:AH) (a0:Option Addr) (a1_0:Int) (a1_1:Sl3) (a1_2:Bool):Option (Int×Int×AH) :=
 (N5 L m H a1_2 a1_0 a1_1).bind fun (x1,H2) => a0.bind fun q3 => (rd deM H2 (Addr.add q3 1)).bind fun x4 => (lkM Tryd.prog 58 (deI .i64) H2 x4 (vS x1)).bind fun (x5,b6) => if b6=true then
  some (x5,0,H2)
 else
  (rd deSl H2 (Addr.add q3 0)).bind fun x7 => if (x7.n:Int)≥1048576 then
   some (0,3,H2)
  else
   (rd deSl H2 (Addr.add q3 0)).bind fun x8 => (rd deM H2 (Addr.add q3 1)).bind fun x9 => (upM Tryd.prog m 58 H2 x9 (vS x1) (vI .i64 (x8.n:Int))).bind fun H10 => (rd deSl H10 (Addr.add q3 0)).bind fun x11 => (newR 86 1 #[(vI .i64 a1_0),(Sl3.v a1_1),(vB a1_2)] H10).bind fun (s12,H13) => (appS m 86 3 40 H13 x11 s12).bind fun (s14,H15) => (H15.setCell m (Addr.add q3 0) (Sl3.v s14)).bind fun H16 => (X2 L m H16 (some q3) (x8.n:Int)).bind fun H17 => some ((x8.n:Int),0,H17)
theorem Y7 {L:LC} {m:Nat} {H:AH} {a0:Option Addr} {a1_0:Int} {a1_1:Sl3} {a1_2:Bool} {r:(Int×Int×AH)} (h:Z1 L m H a0 a1_0 a1_1 a1_2=some r) :
  CallS Tryd.prog (NE.plain 1000) m 39 #[(vP a0),(vA #[(vI .i64 a1_0),(Sl3.v a1_1),(vB a1_2)])] H (z2e r) (z2p H r):=by
 refine CallS.mk (args:=[(vP a0),(vA #[(vI .i64 a1_0),(Sl3.v a1_1),(vB a1_2)])]) Tryd.func39 (B:=B39) (by kernel_rfl) (fun E _=>?_);unfold Z1 at h;refine B0 (C0 (V0 3 [kI 5 0,kI 4 0,kL 3 0 0] ([some (86,[(vI .i64 a1_0),(Sl3.v a1_1),(vB a1_2)])]) (RS.dn (A0 (B0 (C0 (u0 6 [kS 15 a1_1,kL 14 0 1,kI 13 a1_0,kL 12 0 0,kB 11 a1_2,kL 10 0 2] ?_)))))));obtain ⟨⟨x1,H2⟩,hx,h⟩:=bind_some h;try dsimp only at h
 refine RS.cl (some 16) (v:=(vS x1)) 63 _ (zm hx) (u0 1 [kT 6 x1] (RS.dn (A0 (B0 (B0 (C0 (u0 1 [(18,.val (vP a0))] ?_)))))));obtain ⟨q3,hx,hq3⟩:=bind_some h;subst hx;have h:=hq3;refine u0 2 [(20,.val (vP (some (Addr.add q3 1)))),kP 19 q3] ?_;obtain ⟨x4,hx,h⟩:=bind_some h;refine M0 21 58 (.tmp 20) (W0 hx A6) (u0 1 [kT 22 x1] ?_);obtain ⟨⟨x5,b6⟩,hx,h⟩:=bind_some h;try dsimp only at h
 refine RS.o (H':=H2) (some 23) (Value.tuple #[(vI .i64 x5),(vB b6)]) (Abs.run_look (t:=58) (x:=.tmp 21) (y:=.tmp 22) (mm:=x4) (k:=(vS x1)) (by kernel_rfl) (by kernel_rfl) (by kernel_rfl) (by kernel_rfl) (lkM_eq hx D1)) (u0 5 [kB 8 b6,kI 7 x5,kB 25 b6,kI 24 x5,(17,.val (Value.tuple #[(vI .i64 x5),(vB b6)]))] (RS.dn (A0 (B0 (C0 (u0 1 [kB 26 b6] (RS.dn (A0 ?_))))))));rcases X0 h with ⟨hp,h⟩ | ⟨hp,h⟩
 ·refine E0 26 true hp (I0 (B0 (C0 (u0 3 [kI 5 0,kI 4 x5,kI 27 x5] (RS.dn (A0 (G0 ?_)))))));cases h;exact fun a w hs=>sqR (rtR (rS hs))
 ·refine E0 26 false (b_not hp) (J0 (K0 (A0 (B0 (B0 (C0 (u0 3 [(30,.val (vP (some (Addr.add q3 0)))),kP 29 q3,kP 28 q3] ?_)))))));obtain ⟨x7,hx,h⟩:=bind_some h;refine M0 31 57 (.tmp 30) (W0 hx Z0) (u0 2 [kB 33 (decide ((x7.n:Int)≥1048576)),kI 32 (x7.n:Int)] (RS.dn (A0 ?_)));rcases X0 h with ⟨hp,h⟩ | ⟨hp,h⟩
  ·refine E0 33 true (decide_eq_true hp) (I0 (B0 (C0 (u0 2 [kI 5 3,kI 4 0] (RS.dn (A0 (G0 ?_)))))));cases h;exact fun a w hs=>sqR (rtR (rS hs))
  ·refine E0 33 false (decide_eq_false hp) (J0 (K0 (A0 (B0 (C0 (u0 3 [(36,.val (vP (some (Addr.add q3 0)))),kP 35 q3,kP 34 q3] ?_))))));obtain ⟨x8,hx,h⟩:=bind_some h;refine M0 37 57 (.tmp 36) (W0 hx Z0) (u0 2 [kI 9 (x8.n:Int),kI 38 (x8.n:Int)] (RS.dn (A0 (B0 (C0 (u0 3 [(41,.val (vP (some (Addr.add q3 1)))),kP 40 q3,kP 39 q3] ?_))))));obtain ⟨x9,hx,h⟩:=bind_some h;refine M0 42 58 (.tmp 41) (W0 hx A6) (u0 2 [kI 44 (x8.n:Int),kT 43 x1] ?_);obtain ⟨H10,hx,h⟩:=bind_some h;refine RS.o (H':=H10) none undef (Abs.run_upM (t:=58) (x:=.tmp 42) (y:=.tmp 43) (z:=.tmp 44) (mm:=x9) (k:=(vS x1)) (v:=(vI .i64 (x8.n:Int))) (by kernel_rfl) (by kernel_rfl) (by kernel_rfl) (by kernel_rfl) (by kernel_rfl) hx) (RS.dn (A0 (B0 ?_)));refine P0 [1,2,3,4,5] [0,0,2,6,14,0,32,126,255,511,1023] 11 (fun hcl=>?_);refine D0 1 (some 46) (vP (some q3)) (D0 2 (some 47) (vP (some q3)) (D0 3 (some 48) (vP (some (Addr.add q3 0))) ?_));obtain ⟨x11,hx,h⟩:=bind_some h;refine F0 4 (some 49) (Sl3.v x11) (Abs.det_load (t:=57) (x:=.tmp 48) (a:=(Addr.add q3 0)) (by kernel_rfl) (by kernel_rfl) (by kernel_rfl) (by kernel_rfl) (W0 hx Z0)) (DA.tL 5 (some 50) (.val (vA #[(vI .i64 a1_0),(Sl3.v a1_1),(vB a1_2)])) (DA.tP 0 (some 45) (vP (some q3)) ?_));obtain ⟨⟨s12,H13⟩,hx,h⟩:=bind_some h;try dsimp only at h
   refine DA.on 6 (DA.aHj (H':=H13) 6 (some 51) false (Sl3.v s12) (Abs.run_newR (by kernel_rfl) (by kernel_rfl) hx) ?_);obtain ⟨⟨s14,H15⟩,hx,h⟩:=bind_some h;try dsimp only at h
   refine DA.on 7 (S0 (H':=H15) 7 (some 52) (Sl3.v s14) (Abs.run_app (x:=.tmp 49) (y:=.tmp 51) (ts:=#[57,57]) (s:=x11) (z:=s12) (by kernel_rfl) (by kernel_rfl) (by kernel_rfl) (by kernel_rfl) hx) (DA.tP 8 (some 53) (vP (some q3)) (DA.tP 9 (some 54) (vP (some (Addr.add q3 0))) ?_)));obtain ⟨H16,hx,h⟩:=bind_some h;refine DA.on 10 (S0 (H':=H16) 10 none undef (Abs.run_store1 (t:=57) (x:=.tmp 54) (y:=.tmp 52) (a:=(Addr.add q3 0)) (v:=(Sl3.v s14)) (by kernel_rfl) (by kernel_rfl) (by kernel_rfl) (by kernel_rfl) (by kernel_rfl) hx) (DA.dn (A0 (B0 (C0 (u0 2 [kI 56 (x8.n:Int),kP 55 q3] ?_))))));obtain ⟨H17,hx,h⟩:=bind_some h;refine RS.cl (some 57) (v:=(Value.tuple #[])) 57 _ (z18 hx) (RS.dn (A0 (B0 (C0 (u0 3 [kI 5 0,kI 4 (x8.n:Int),kI 58 (x8.n:Int)] (RS.dn (A0 (G0 ?_))))))));cases h;exact fun a w hs=>rtR (rS hs)
def ze:(Int×Int×AH)→Value
 | (r0,r1,_)=>(Value.tuple #[(vI .i64 r0),(vI .i64 r1)])
def z1f (_:AH):(Int×Int×AH)→AH:=fun r=>r.2.2
noncomputable def B17:Code:=(Tryd.f17.body).getD .skip
noncomputable def G4 (L:LC) (m:Nat) (H:AH) (a0:Option Addr) (a1:Int):Option (Int×Int×AH) :=
 (U2 L H a0).bind fun x1 => if x1=true then
  (Z1 L m H a0 a1 Sl3.nil true).bind fun (x2,x3,H4) => some (x2,x3,H4)
 else
  some (0,4,H)
theorem z17 {L:LC} {m:Nat} {H:AH} {a0:Option Addr} {a1:Int} {r:(Int×Int×AH)} (h:G4 L m H a0 a1=some r) :
  CallS Tryd.prog (NE.plain 1000) m 17 #[(vP a0),(vI .i64 a1)] H (ze r) (z1f H r):=by
 refine CallS.mk (args:=[(vP a0),(vI .i64 a1)]) Tryd.func17 (B:=B17) (by kernel_rfl) (fun E _=>?_);unfold G4 at h;refine B0 (C0 (u0 2 [kI 5 0,kI 4 0] (RS.dn (A0 (B0 (B0 (C0 (u0 1 [(6,.val (vP a0))] ?_))))))));obtain ⟨x1,hx,h⟩:=bind_some h;refine RS.cl (some 7) (v:=(vB x1)) 38 _ (Q4 hx) (u0 1 [kB 8 (!x1)] (RS.dn (A0 ?_)));rcases X0 h with ⟨hp,h⟩ | ⟨hp,h⟩
 ·refine E0 8 false (nb_not hp) (J0 (K0 (A0 (B0 (C0 (u0 3 [kA 11 #[(vI .i64 a1),(Sl3.v Sl3.nil),(vB true)],kI 10 a1,(9,.val (vP a0))] ?_))))));obtain ⟨⟨x2,x3,H4⟩,hx,h⟩:=bind_some h;try dsimp only at h
  refine RS.cl (some 12) (v:=(Value.tuple #[(vI .i64 x2),(vI .i64 x3)])) 39 _ (Y7 hx) (u0 4 [kI 5 x3,kI 4 x2,kI 14 x3,kI 13 x2] (RS.dn (A0 (G0 ?_))));cases h;exact fun a w hs=>rtR (rS hs)
 ·refine E0 8 true (U4 hp) (I0 (B0 (C0 (u0 2 [kI 5 4,kI 4 0] (RS.dn (A0 (G0 ?_)))))));cases h;exact fun a w hs=>sqR (rtR (rS hs))
def zb:Bool→Value
 | r0=>(vB r0)
def z19 (H:AH):Bool→AH:=fun _=>H
noncomputable def B41:Code:=(Tryd.f41.body).getD .skip
noncomputable def F4 (L:LC) (H:AH) (a0:Int) (a1:Option Addr):Option Bool :=
 a1.bind fun q1 => (rd deP H q1).bind fun x2 => (T2 L H x2 a0).bind fun x3 => some (!x3)
theorem zw {L:LC} {m:Nat} {H:AH} {a0:Int} {a1:Option Addr} {r:Bool} (h:F4 L H a0 a1=some r) :
  CallS Tryd.prog (NE.plain 1000) m 41 #[(vI .i64 a0),(vP a1)] H (zb r) (z19 H r):=by
 refine CallS.mk (args:=[(vI .i64 a0),(vP a1)]) Tryd.func41 (B:=B41) (by kernel_rfl) (fun E _=>?_);unfold F4 at h;refine B0 (C0 (u0 1 [kB 3 false] (RS.dn (A0 (B0 (C0 ?_))))));obtain ⟨q1,hx,hq1⟩:=bind_some h;subst hx;have h:=hq1;obtain ⟨x2,hx,h⟩:=bind_some h;refine M0 4 23 (.tmp 1) (W0 hx O5) (u0 1 [kI 5 a0] ?_);obtain ⟨x3,hx,h⟩:=bind_some h;refine RS.cl (some 6) (v:=(vB x3)) 31 _ (X3 hx) (u0 2 [kB 3 (!x3),kB 7 (!x3)] (RS.dn (A0 (G0 ?_))));cases h;exact fun a w hs=>rtR (rS hs)
def m6:Int→Value
 | r0=>(vI .i64 r0)
def N6 (H:AH):Int→AH:=fun _=>H
noncomputable def B64:Code:=(Tryd.f64.body).getD .skip
noncomputable def S1 (L:LC) (H:AH) (a0:Sl3) (a1_0:Option Addr):Int→Option (Lp Int Int):=fun v8_1 =>
 if v8_1<(a0.n:Int) then
  (idxA 1 a0 v8_1).bind fun p2 => (rd (deI .i64) H p2).bind fun x3 => (F4 L H x3 a1_0).bind fun x4 => if x4=true then
   some (.ret v8_1)
  else
   some (.next (IntKind.i64.wrap (v8_1+1)))
 else
  some (.brk v8_1)
def M8 (_L:LC) (_H:AH) (a0:Sl3) (a1_0:Option Addr):Int→KN×Lcs:=fun v8_1=>([kI 8 v8_1,kS 0 a0,(1,.val (Value.func (.func 41) #[] #[(vP a1_0)])),kI 7 (a0.n:Int)],[])
noncomputable def S4 (L:LC) (H:AH) (a0:Sl3) (a1_0:Option Addr):Option Int :=
 (L.run (S1 L H a0 a1_0) 0).bind fun o=>match o with
 | .inl _ =>
  some (-1)
 | .inr r=>some r
theorem K5 {E m L H a0 a1_0} :LoopF Tryd.prog (NE.plain 1000) m E Tryd.f64 ((cfst (csnd (cfst (csnd B64))))) (M8 L H a0 a1_0) (fun _=>H) 0 m6 (N6 H) (S1 L H a0 a1_0):=by
 rintro v8_1 o h
 unfold S1 at h;try dsimp only at h
 refine B0 (C0 (u0 1 [kB 9 (decide (v8_1<(a0.n:Int)))] (RS.dn (A0 (B0 ?_)))));rcases X0 h with ⟨hp,h⟩ | ⟨hp,h⟩
 ·refine E0 9 true (decide_eq_true hp) (I0 (K0 (A0 (B0 (O0 1 (B0 (C0 (u0 2 [kI 5 v8_1,kI 10 v8_1] (RS.dn ?_)))))))));refine A0 (B0 (C0 (u0 3 [kI 13 v8_1,kS 12 a0,(11,.val (Value.func (.func 41) #[] #[(vP a1_0)]))] ?_)));obtain ⟨p2,hx,h⟩:=bind_some h;refine Q0 14 27 3 (.tmp 12) (.tmp 13) hx ?_;obtain ⟨x3,hx,h⟩:=bind_some h;refine M0 15 3 (.tmp 14) (W0 hx D1) ?_;obtain ⟨x4,hx,h⟩:=bind_some h;refine RS.cl (some 16) (v:=(vB x4)) 41 _ (zw hx) (RS.dn (A0 ?_));rcases X0 h with ⟨hp,h⟩ | ⟨hp,h⟩
  ·refine E0 16 true hp (I0 (B0 (C0 (u0 2 [kI 4 v8_1,kI 17 v8_1] (RS.dn (A0 (G0 ?_)))))));cases h;exact fun a w hs=>bkR (sqR (lsR rfl (rS hs)))
  ·refine E0 16 false (b_not hp) (J0 (K0 ?_));refine fun a w hs=>bkN ((A0 ?_ a w hs));refine C0 (u0 2 [kI 8 (IntKind.i64.wrap (v8_1+1)),kI 18 (IntKind.i64.wrap (v8_1+1))] (RS.dn ?_));cases h;exact fun a w hs=>lsN rfl (hs.sb 0)
 ·refine E0 9 false (decide_eq_false hp) (J0 (WS.ex 0 ?_));cases h;exact fun a w hs=>sqE (lsB rfl (hs.sb 0))
theorem L9 {L:LC} {m:Nat} {H:AH} {a0:Sl3} {a1_0:Option Addr} {r:Int} (h:S4 L H a0 a1_0=some r) :
  CallS Tryd.prog (NE.plain 1000) m 64 #[(Sl3.v a0),(Value.func (.func 41) #[] #[(vP a1_0)])] H (m6 r) (N6 H r):=by
 refine CallS.mk (args:=[(Sl3.v a0),(Value.func (.func 41) #[] #[(vP a1_0)])]) Tryd.func64 (B:=B64) (by kernel_rfl) (fun E _=>?_);unfold S4 at h;refine B0 (C0 (u0 1 [kI 4 0] (RS.dn (A0 (B0 (B0 (C0 (u0 3 [kI 8 0,kI 7 (a0.n:Int),kS 6 a0] (RS.dn ?_)))))))));refine A0 (O0 0 ?_);obtain ⟨o,hl,h⟩:=bind_some h;rcases o with v8_5 | r
 ·try dsimp only at h
  refine U0 (K5 (L:=L) (E:=E) (m:=m) (H:=H)) (L.ok hl) 0 ?_;clear hl;refine fun a w hs=>bkE ((A0 ?_ a w hs));refine B0 (C0 (u0 1 [kI 4 (-1)] (RS.dn (A0 (G0 ?_)))));cases h;exact fun a w hs=>rtR (rS hs)
 ·try dsimp only at h
  refine T0 (K5 (L:=L) (E:=E) (m:=m) (H:=H)) (L.ok hl) 0 ?_;cases h;exact fun a w hq=>bkR (sqR (rtR hq))
def G8:Bool→Value
 | r0=>(vB r0)
def L8 (H:AH):Bool→AH:=fun _=>H
noncomputable def B40:Code:=(Tryd.f40.body).getD .skip
noncomputable def D3 (L:LC) (H:AH) (a0:Sl3) (a1_0:Option Addr):Option Bool :=
 (S4 L H a0 a1_0).bind fun x1 => some (decide (x1≥0))
theorem K8 {L:LC} {m:Nat} {H:AH} {a0:Sl3} {a1_0:Option Addr} {r:Bool} (h:D3 L H a0 a1_0=some r) :
  CallS Tryd.prog (NE.plain 1000) m 40 #[(Sl3.v a0),(Value.func (.func 41) #[] #[(vP a1_0)])] H (G8 r) (L8 H r):=by
 refine CallS.mk (args:=[(Sl3.v a0),(Value.func (.func 41) #[] #[(vP a1_0)])]) Tryd.func40 (B:=B40) (by kernel_rfl) (fun E _=>?_);unfold D3 at h;refine B0 (C0 (u0 1 [kB 4 false] (RS.dn (A0 (B0 (C0 (u0 2 [(6,.val (Value.func (.func 41) #[] #[(vP a1_0)])),kS 5 a0] ?_)))))));obtain ⟨x1,hx,h⟩:=bind_some h;refine RS.cl (some 7) (v:=(vI .i64 x1)) 64 _ (L9 hx) (u0 2 [kB 4 (decide (x1≥0)),kB 8 (decide (x1≥0))] (RS.dn (A0 (G0 ?_))));cases h;exact fun a w hs=>rtR (rS hs)
def z4v:(Sl3×AH)→Value
 | (r0,_)=>(Sl3.v r0)
def z5m (_:AH):(Sl3×AH)→AH:=fun r=>r.2
noncomputable def B42:Code:=(Tryd.f42.body).getD .skip
noncomputable def I5 (_L:LC) (m:Nat) (H:AH) (a0:Sl3):Option (Sl3×AH) :=
 if (isNilS a0)=true then
  some (Sl3.nil,H)
 else
  (newR 3 0 #[] H).bind fun (s1,H2) => (appS m 3 1 8 H2 s1 a0).bind fun (s3,H4) => some (s3,H4)
theorem z5t {L:LC} {m:Nat} {H:AH} {a0:Sl3} {r:(Sl3×AH)} (h:I5 L m H a0=some r) :
  CallS Tryd.prog (NE.plain 1000) m 42 #[(Sl3.v a0)] H (z4v r) (z5m H r):=by
 refine CallS.mk (args:=[(Sl3.v a0)]) Tryd.func42 (B:=B42) (by kernel_rfl) (fun E _=>?_);unfold I5 at h;refine B0 (C0 (u0 1 [kS 2 Sl3.nil] (RS.dn (A0 (B0 (B0 (C0 (u0 1 [kS 3 a0] (RS.o (H':=H) (some 4) (vB (isNilS a0)) (za6 (t:=27) (e:=3) (u:=27) (x:=.tmp 3) (y:=.const (Sl3.v Sl3.nil)) (s:=a0) (by kernel_rfl) (by kernel_rfl) (by kernel_rfl) (by kernel_rfl)) ?_)))))))));refine RS.dn (A0 ?_);rcases X0 h with ⟨hp,h⟩ | ⟨hp,h⟩
 ·refine E0 4 true hp (I0 (B0 (C0 (u0 1 [kS 2 Sl3.nil] (RS.dn (A0 (G0 ?_)))))));cases h;exact fun a w hs=>sqR (rtR (rS hs))
 ·refine E0 4 false (b_not hp) (J0 (K0 (A0 (B0 (C0 ?_)))));obtain ⟨⟨s1,H2⟩,hx,h⟩:=bind_some h;try dsimp only at h
  refine RS.o (H':=H2) (some 5) (Sl3.v s1) (Abs.run_newR (by kernel_rfl) (by kernel_rfl) hx) (u0 1 [kS 6 a0] ?_);obtain ⟨⟨s3,H4⟩,hx,h⟩:=bind_some h;try dsimp only at h
  refine RS.o (H':=H4) (some 7) (Sl3.v s3) (Abs.run_app (x:=.tmp 5) (y:=.tmp 6) (ts:=#[27,27]) (s:=s1) (z:=a0) (by kernel_rfl) (by kernel_rfl) (by kernel_rfl) (by kernel_rfl) hx) (u0 1 [kS 2 s3] (RS.dn (A0 (G0 ?_))));cases h;exact fun a w hs=>rtR (rS hs)
def z1n:(Int×Int×AH)→Value
 | (r0,r1,_)=>(Value.tuple #[(vI .i64 r0),(vI .i64 r1)])
def z2w (_:AH):(Int×Int×AH)→AH:=fun r=>r.2.2
noncomputable def B18:Code:=(Tryd.f18.body).getD .skip
noncomputable def Y3 (L:LC) (m:Nat) (H:AH) (a0:Option Addr) (a1:Int) (a2:Sl3):Option (Int×Int×AH) :=
 (newB 23 [(vP a0)] H).bind fun (p1,H2) => (rd deP H2 p1).bind fun x3 => (U2 L H2 x3).bind fun x4 => if x4=true then
  if (a2.n:Int) > 64 then
   some (0,51,H2)
  else
   (D3 L H2 a2 (some p1)).bind fun x5 => if x5=true then
    some (0,150,H2)
   else
    (rd deP H2 p1).bind fun x6 => (I5 L (Nat.max m H2.next) H2 a2).bind fun (x7,H8) => (Z1 L m H8 x6 a1 x7 false).bind fun (x9,x10,H11) => some (x9,x10,H11)
 else
  some (0,4,H2)
theorem z2n {L:LC} {m:Nat} {H:AH} {a0:Option Addr} {a1:Int} {a2:Sl3} {r:(Int×Int×AH)} (h:Y3 L m H a0 a1 a2=some r) :
  CallS Tryd.prog (NE.plain 1000) m 18 #[(vP a0),(vI .i64 a1),(Sl3.v a2)] H (z1n r) (z2w H r):=by
 refine CallS.mk (args:=[(vP a0),(vI .i64 a1),(Sl3.v a2)]) Tryd.func18 (B:=B18) (by kernel_rfl) (fun E _=>?_);unfold Y3 at h;refine B0 (C0 ?_);obtain ⟨⟨p1,H2⟩,hx,h⟩:=bind_some h;try dsimp only at h
 refine RS.o (H':=H2) (some 3) (vP (some p1)) (Abs.run_newB (by kernel_rfl) hx) (u0 2 [kI 7 0,kI 6 0] (RS.dn (A0 (B0 (B0 (C0 ?_))))));obtain ⟨x3,hx,h⟩:=bind_some h;refine M0 8 23 (.tmp 3) (W0 hx O5) ?_;obtain ⟨x4,hx,h⟩:=bind_some h;refine RS.cl (some 9) (v:=(vB x4)) 38 _ (Q4 hx) (u0 1 [kB 10 (!x4)] (RS.dn (A0 ?_)));rcases X0 h with ⟨hp,h⟩ | ⟨hp,h⟩
 ·refine E0 10 false (nb_not hp) (J0 (K0 (A0 (B0 (B0 (C0 (u0 3 [kB 13 (decide ((a2.n:Int) > 64)),kI 12 (a2.n:Int),kS 11 a2] (RS.dn (A0 ?_)))))))));rcases X0 h with ⟨hp,h⟩ | ⟨hp,h⟩
  ·refine E0 13 true (decide_eq_true hp) (I0 (B0 (C0 (u0 2 [kI 7 51,kI 6 0] (RS.dn (A0 (G0 ?_)))))));cases h;exact fun a w hs=>sqR (rtR (rS hs))
  ·refine E0 13 false (decide_eq_false hp) (J0 (K0 (A0 (B0 (B0 (C0 (u0 2 [(15,.val (Value.func (.func 41) #[] #[(vP (some p1))])),kS 14 a2] ?_)))))));obtain ⟨x5,hx,h⟩:=bind_some h;refine RS.cl (some 16) (v:=(vB x5)) 40 _ (K8 hx) (RS.dn (A0 ?_));rcases X0 h with ⟨hp,h⟩ | ⟨hp,h⟩
   ·refine E0 16 true hp (I0 (B0 (C0 (u0 2 [kI 7 150,kI 6 0] (RS.dn (A0 (G0 ?_)))))));cases h;exact fun a w hs=>sqR (rtR (rS hs))
   ·refine E0 16 false (b_not hp) (J0 (K0 (A0 (B0 ?_))));refine P0 [0] [0,0,0,4,14,31,63,63,255,511] 10 (fun hcl=>?_);obtain ⟨x6,hx,h⟩:=bind_some h;refine F0 0 (some 17) (vP x6) (Abs.det_load (t:=23) (x:=.tmp 3) (a:=p1) (by kernel_rfl) (by kernel_rfl) (by kernel_rfl) (by kernel_rfl) (W0 hx O5)) (DA.tP 1 (some 18) (vI .i64 a1) (DA.tP 2 (some 19) (Sl3.v a2) ?_));obtain ⟨⟨x7,H8⟩,hx,h⟩:=bind_some h;try dsimp only at h
    refine DA.on 3 (DA.aCj 3 (some 20) true (v:=(Sl3.v x7)) 42 #[(Sl3.v a2)] (z5t hx) (DA.on 4 (DA.aHj (H':=H8) 4 (some 21) false (vA #[(vI .i64 a1),(Sl3.v x7),(vB false)]) (by kernel_rfl) ?_)));obtain ⟨⟨x9,x10,H11⟩,hx,h⟩:=bind_some h;try dsimp only at h
    refine DA.on 5 (DA.aC 5 (some 22) (v:=(Value.tuple #[(vI .i64 x9),(vI .i64 x10)])) 39 #[(vP x6),(vA #[(vI .i64 a1),(Sl3.v x7),(vB false)])] (Y7 hx) (DA.tP 6 (some 23) (vI .i64 x9) (DA.tP 7 (some 24) (vI .i64 x10) (DA.tP 8 (some 6) (vI .i64 x9) (DA.tP 9 (some 7) (vI .i64 x10) (DA.dn (A0 (G0 ?_))))))));cases h;exact fun a w hs=>rtR (rS hs)
 ·refine E0 10 true (U4 hp) (I0 (B0 (C0 (u0 2 [kI 7 4,kI 6 0] (RS.dn (A0 (G0 ?_)))))));cases h;exact fun a w hs=>sqR (rtR (rS hs))
def z2c:(Int×AH)→Value
 | (r0,_)=>(vI .i64 r0)
def z2q (_:AH):(Int×AH)→AH:=fun r=>r.2
noncomputable def B43:Code:=(Tryd.f43.body).getD .skip
noncomputable def Z2 (L:LC) (m:Nat) (H:AH) (a0:Option Addr) (a1_0 a1_1 a1_2:Int) (a1_3:Bool):Option (Int×AH) :=
 (U2 L H a0).bind fun x1 => if x1=true then
  Option.bind (α:=Bool) (
   (T2 L H a0 a1_0).bind fun x3 => if x3=true then
    (T2 L H a0 a1_1).bind fun x4 => some (!x4)
   else
    some true) fun v19_2 =>
  if v19_2=true then
   some (150,H)
  else
   a0.bind fun q5 => (rd deSl H (Addr.add q5 2)).bind fun x6 => (newR 91 1 #[(vI .i64 a1_0),(vI .i64 a1_1),(vI .i64 a1_2),(vB a1_3)] H).bind fun (s7,H8) => (appS m 91 4 32 H8 x6 s7).bind fun (s9,H10) => (H10.setCell m (Addr.add q5 2) (Sl3.v s9)).bind fun H11 => Option.bind (α:=AH) (
    if a1_3=true then
     some H11
    else
     (W1 L m H11 (some q5) a1_0 a1_1 0 a1_2 0 0 false).bind fun H13 => some H13) fun H12 =>
   some (0,H12)
 else
  some (4,H)
theorem X7 {L:LC} {m:Nat} {H:AH} {a0:Option Addr} {a1_0 a1_1 a1_2:Int} {a1_3:Bool} {r:(Int×AH)} (h:Z2 L m H a0 a1_0 a1_1 a1_2 a1_3=some r) :
  CallS Tryd.prog (NE.plain 1000) m 43 #[(vP a0),(vA #[(vI .i64 a1_0),(vI .i64 a1_1),(vI .i64 a1_2),(vB a1_3)])] H (z2c r) (z2q H r):=by
 refine CallS.mk (args:=[(vP a0),(vA #[(vI .i64 a1_0),(vI .i64 a1_1),(vI .i64 a1_2),(vB a1_3)])]) Tryd.func43 (B:=B43) (by kernel_rfl) (fun E _=>?_);unfold Z2 at h;refine B0 (C0 (V0 2 [kI 4 0,kL 3 0 0] ([some (91,[(vI .i64 a1_0),(vI .i64 a1_1),(vI .i64 a1_2),(vB a1_3)])]) (RS.dn (A0 (B0 (B0 (C0 (u0 1 [(5,.val (vP a0))] ?_))))))));obtain ⟨x1,hx,h⟩:=bind_some h;refine RS.cl (some 6) (v:=(vB x1)) 38 _ (Q4 hx) (u0 1 [kB 7 (!x1)] (RS.dn (A0 ?_)));rcases X0 h with ⟨hp,h⟩ | ⟨hp,h⟩
 ·refine E0 7 false (nb_not hp) (J0 (K0 (A0 (B0 ?_))));obtain ⟨v19_2,hx,h⟩:=bind_some h;refine B0 ?_;refine WS.join ([kB 19 v19_2,(0,.val (vP a0)),kL 3 0 0]) ([some (91,[(vI .i64 a1_0),(vI .i64 a1_1),(vI .i64 a1_2),(vB a1_3)])]) H ?_ (fun a w hs=>A0 ?_ a w hs)
  ·clear h; rename _=>h;refine C0 (u0 3 [kI 10 a1_0,kL 9 0 0,(8,.val (vP a0))] ?_);obtain ⟨x3,hx,h⟩:=bind_some h;refine RS.cl (some 11) (v:=(vB x3)) 31 _ (X3 hx) (u0 2 [kB 13 (!x3),kB 12 (!x3)] ?_);rcases X0 h with ⟨hp,h⟩ | ⟨hp,h⟩
   ·refine N0 13 false (nb_not hp) (u0 3 [kI 16 a1_1,kL 15 0 1,(14,.val (vP a0))] ?_);obtain ⟨x4,hx,h⟩:=bind_some h;refine RS.cl (some 17) (v:=(vB x4)) 31 _ (X3 hx) (u0 2 [kB 19 (!x4),kB 18 (!x4)] (RS.dn ?_));cases h;exact fun a w hs=>(jsN (hs.sb 1))
   ·refine N0 13 true (U4 hp) (u0 6 [kB 19 true,kU 18,kU 17,kU 16,kU 15,kU 14] (RS.dn ?_));cases h;exact fun a w hs=>(jsN (hs.sb 1))
  ·clear hx;rcases X0 h with ⟨hp,h⟩ | ⟨hp,h⟩
   ·refine E0 19 true hp (I0 (B0 (C0 (u0 1 [kI 4 150] (RS.dn (A0 (G0 ?_)))))));cases h;exact fun a w hs=>sqR (rtR (rS hs))
   ·refine E0 19 false (b_not hp) (J0 (K0 (A0 (B0 ?_))));refine P0 [1,2,3,4,5] [0,0,2,6,14,0,32,126,255,511,1023] 11 (fun hcl=>?_);refine D0 1 (some 21) (vP a0) ?_;obtain ⟨q5,hx,hq5⟩:=bind_some h;subst hx;have h:=hq5;refine D0 2 (some 22) (vP (some q5)) (D0 3 (some 23) (vP (some (Addr.add q5 2))) ?_);obtain ⟨x6,hx,h⟩:=bind_some h;refine F0 4 (some 24) (Sl3.v x6) (Abs.det_load (t:=59) (x:=.tmp 23) (a:=(Addr.add q5 2)) (by kernel_rfl) (by kernel_rfl) (by kernel_rfl) (by kernel_rfl) (W0 hx Z0)) (DA.tL 5 (some 25) (.val (vA #[(vI .i64 a1_0),(vI .i64 a1_1),(vI .i64 a1_2),(vB a1_3)])) (DA.tP 0 (some 20) (vP (some q5)) ?_));obtain ⟨⟨s7,H8⟩,hx,h⟩:=bind_some h;try dsimp only at h
    refine DA.on 6 (DA.aHj (H':=H8) 6 (some 26) false (Sl3.v s7) (Abs.run_newR (by kernel_rfl) (by kernel_rfl) hx) ?_);obtain ⟨⟨s9,H10⟩,hx,h⟩:=bind_some h;try dsimp only at h
    refine DA.on 7 (S0 (H':=H10) 7 (some 27) (Sl3.v s9) (Abs.run_app (x:=.tmp 24) (y:=.tmp 26) (ts:=#[59,59]) (s:=x6) (z:=s7) (by kernel_rfl) (by kernel_rfl) (by kernel_rfl) (by kernel_rfl) hx) (DA.tP 8 (some 28) (vP (some q5)) (DA.tP 9 (some 29) (vP (some (Addr.add q5 2))) ?_)));obtain ⟨H11,hx,h⟩:=bind_some h;refine DA.on 10 (S0 (H':=H11) 10 none undef (Abs.run_store1 (t:=59) (x:=.tmp 29) (y:=.tmp 27) (a:=(Addr.add q5 2)) (v:=(Sl3.v s9)) (by kernel_rfl) (by kernel_rfl) (by kernel_rfl) (by kernel_rfl) (by kernel_rfl) hx) (DA.dn (A0 ?_)));obtain ⟨H12,hx,h⟩:=bind_some h;refine B0 ?_;refine WS.join ([]) ([some (91,[(vI .i64 a1_0),(vI .i64 a1_1),(vI .i64 a1_2),(vB a1_3)])]) H12 ?_ (fun a w hs=>A0 ?_ a w hs)
    ·clear h; rename _=>h;refine B0 (C0 (u0 3 [kB 32 (!a1_3),kB 31 a1_3,kL 30 0 3] (RS.dn (A0 ?_))));rcases X0 h with ⟨hp,h⟩ | ⟨hp,h⟩
     ·refine E0 32 false (nb_not hp) (J0 (K0 ?_));cases h;exact fun a w hs=>(jsN (hs.sb 1))
     ·refine E0 32 true (U4 hp) (I0 (C0 (u0 8 [kA 40 #[(vI .i64 0),(vI .i64 a1_2),(vI .i64 0),(vI .i64 0),(vB false)],kI 39 a1_2,kL 38 0 2,kI 37 a1_1,kL 36 0 1,kI 35 a1_0,kL 34 0 0,kP 33 q5] ?_)));obtain ⟨H13,hx,h⟩:=bind_some h;refine RS.cl (some 41) (v:=(Value.tuple #[])) 58 _ (E7 hx) (RS.dn ?_);cases h;exact fun a w hs=>(jsN (hs.sb 1))
    ·clear hx;refine B0 (C0 (u0 1 [kI 4 0] (RS.dn (A0 (G0 ?_)))));cases h;exact fun a w hs=>rtR (rS hs)
 ·refine E0 7 true (U4 hp) (I0 (B0 (C0 (u0 1 [kI 4 4] (RS.dn (A0 (G0 ?_)))))));cases h;exact fun a w hs=>sqR (rtR (rS hs))
def X9:(Int×AH)→Value
 | (r0,_)=>(vI .i64 r0)
def zg (_:AH):(Int×AH)→AH:=fun r=>r.2
noncomputable def B19:Code:=(Tryd.f19.body).getD .skip
noncomputable def A5 (L:LC) (m:Nat) (H:AH) (a0:Option Addr) (a1 a2 a3:Int):Option (Int×AH) :=
 (Z2 L m H a0 a1 a2 a3 true).bind fun (x1,H2) => some (x1,H2)
theorem zr {L:LC} {m:Nat} {H:AH} {a0:Option Addr} {a1 a2 a3:Int} {r:(Int×AH)} (h:A5 L m H a0 a1 a2 a3=some r) :
  CallS Tryd.prog (NE.plain 1000) m 19 #[(vP a0),(vI .i64 a1),(vI .i64 a2),(vI .i64 a3)] H (X9 r) (zg H r):=by
 refine CallS.mk (args:=[(vP a0),(vI .i64 a1),(vI .i64 a2),(vI .i64 a3)]) Tryd.func19 (B:=B19) (by kernel_rfl) (fun E _=>?_);unfold A5 at h;refine B0 (C0 (u0 1 [kI 8 0] (RS.dn (A0 (B0 (C0 (u0 5 [kA 13 #[(vI .i64 a1),(vI .i64 a2),(vI .i64 a3),(vB true)],kI 12 a3,kI 11 a2,kI 10 a1,(9,.val (vP a0))] ?_)))))));obtain ⟨⟨x1,H2⟩,hx,h⟩:=bind_some h;try dsimp only at h
 refine RS.cl (some 14) (v:=(vI .i64 x1)) 43 _ (X7 hx) (u0 1 [kI 8 x1] (RS.dn (A0 (G0 ?_))));cases h;exact fun a w hs=>rtR (rS hs)
def zd:(Int×AH)→Value
 | (r0,_)=>(vI .i64 r0)
def zx (_:AH):(Int×AH)→AH:=fun r=>r.2
noncomputable def B20:Code:=(Tryd.f20.body).getD .skip
noncomputable def B5 (L:LC) (m:Nat) (H:AH) (a0:Option Addr) (a1 a2 a3:Int):Option (Int×AH) :=
 (Z2 L m H a0 a1 a2 a3 false).bind fun (x1,H2) => some (x1,H2)
theorem zj {L:LC} {m:Nat} {H:AH} {a0:Option Addr} {a1 a2 a3:Int} {r:(Int×AH)} (h:B5 L m H a0 a1 a2 a3=some r) :
  CallS Tryd.prog (NE.plain 1000) m 20 #[(vP a0),(vI .i64 a1),(vI .i64 a2),(vI .i64 a3)] H (zd r) (zx H r):=by
 refine CallS.mk (args:=[(vP a0),(vI .i64 a1),(vI .i64 a2),(vI .i64 a3)]) Tryd.func20 (B:=B20) (by kernel_rfl) (fun E _=>?_);unfold B5 at h;refine B0 (C0 (u0 1 [kI 8 0] (RS.dn (A0 (B0 (C0 (u0 5 [kA 13 #[(vI .i64 a1),(vI .i64 a2),(vI .i64 a3),(vB false)],kI 12 a3,kI 11 a2,kI 10 a1,(9,.val (vP a0))] ?_)))))));obtain ⟨⟨x1,H2⟩,hx,h⟩:=bind_some h;try dsimp only at h
 refine RS.cl (some 14) (v:=(vI .i64 x1)) 43 _ (X7 hx) (u0 1 [kI 8 x1] (RS.dn (A0 (G0 ?_))));cases h;exact fun a w hs=>rtR (rS hs)
def z28:Bool→Value
 | r0=>(vB r0)
def z2s (H:AH):Bool→AH:=fun _=>H
noncomputable def B65:Code:=(Tryd.f65.body).getD .skip
noncomputable def S2 (_L:LC) (H:AH) (a0:Option Addr) (a1:Int):Option Bool :=
 if a1≥0 then
  a0.bind fun q1 => (rd deSl H (Addr.add q1 0)).bind fun x2 => some (decide (a1<(x2.n:Int)))
 else
  some false
theorem P5 {L:LC} {m:Nat} {H:AH} {a0:Option Addr} {a1:Int} {r:Bool} (h:S2 L H a0 a1=some r) :
  CallS Tryd.prog (NE.plain 1000) m 65 #[(vP a0),(vI .i64 a1)] H (z28 r) (z2s H r):=by
 refine CallS.mk (args:=[(vP a0),(vI .i64 a1)]) Tryd.func65 (B:=B65) (by kernel_rfl) (fun E _=>?_);unfold S2 at h;refine B0 (C0 (u0 1 [kB 4 false] (RS.dn (A0 (B0 (C0 (u0 3 [kB 7 (decide (a1≥0)),kB 6 (decide (a1≥0)),kI 5 a1] ?_)))))));rcases X0 h with ⟨hp,h⟩ | ⟨hp,h⟩
 ·refine N0 7 true (decide_eq_true hp) (u0 2 [(9,.val (vP a0)),kI 8 a1] ?_);obtain ⟨q1,hx,hq1⟩:=bind_some h;subst hx;have h:=hq1;refine u0 2 [(11,.val (vP (some (Addr.add q1 0)))),kP 10 q1] ?_;obtain ⟨x2,hx,h⟩:=bind_some h;refine M0 12 29 (.tmp 11) (W0 hx Z0) (u0 4 [kB 4 (decide (a1<(x2.n:Int))),kB 15 (decide (a1<(x2.n:Int))),kB 14 (decide (a1<(x2.n:Int))),kI 13 (x2.n:Int)] (RS.dn (A0 (G0 ?_))));cases h;exact fun a w hs=>rtR (rS hs)
 ·refine N0 7 false (decide_eq_false hp) (u0 9 [kB 4 false,kB 15 false,kU 14,kU 13,kU 12,kU 11,kU 10,kU 9,kU 8] (RS.dn (A0 (G0 ?_))));cases h;exact fun a w hs=>rtR (rS hs)
def z1c:Bool→Value
 | r0=>(vB r0)
def z2g (H:AH):Bool→AH:=fun _=>H
noncomputable def B77:Code:=(Tryd.f77.body).getD .skip
noncomputable def N3 (_L:LC) (H:AH) (_a0_0:Int) (_a0_1:Bool) (a0_2:Sl3) (_a1_0:Int) (_a1_1:Bool) (a1_2:Sl3):Int→Option (Lp Int Bool):=fun v5_2 =>
 if v5_2<(a0_2.n:Int) then
  (idxA 1 a0_2 v5_2).bind fun p3 => (rd (deI .i64) H p3).bind fun x4 => (idxA 1 a1_2 v5_2).bind fun p5 => (rd (deI .i64) H p5).bind fun x6 => if x4=x6 then
   some (.next (IntKind.i64.wrap (v5_2+1)))
  else
   some (.ret false)
 else
  some (.brk v5_2)
def z59 (_L:LC) (_H:AH) (a0_0:Int) (a0_1:Bool) (a0_2:Sl3) (a1_0:Int) (a1_1:Bool) (a1_2:Sl3):Int→KN×Lcs:=fun v5_2=>([kI 5 v5_2,kL 2 0 0,kL 3 1 0],[some (42,[(vI .i64 a0_0),(vB a0_1),(Sl3.v a0_2)]),some (42,[(vI .i64 a1_0),(vB a1_1),(Sl3.v a1_2)])])
noncomputable def M7 (L:LC) (H:AH) (a0_0:Int) (a0_1:Bool) (a0_2:Sl3) (a1_0:Int) (a1_1:Bool) (a1_2:Sl3):Option Bool :=
 Option.bind (α:=Bool) (
  if a0_0=a1_0 then
   if (a0_1 == a1_1)=true then
    some (!decide ((a0_2.n:Int)=(a1_2.n:Int)))
   else
    some true
  else
   some true) fun v26_1 =>
 if v26_1=true then
  some false
 else
  (L.run (N3 L H a0_0 a0_1 a0_2 a1_0 a1_1 a1_2) 0).bind fun o=>match o with
  | .inl _ =>
   some true
  | .inr r=>some r
theorem l9 {E m L H a0_0 a0_1 a0_2 a1_0 a1_1 a1_2} :LoopF Tryd.prog (NE.plain 1000) m E Tryd.f77 ((cfst (csnd (cfst (csnd (csnd B77)))))) (z59 L H a0_0 a0_1 a0_2 a1_0 a1_1 a1_2) (fun _=>H) 0 z1c (z2g H) (N3 L H a0_0 a0_1 a0_2 a1_0 a1_1 a1_2):=by
 rintro v5_2 o h
 unfold N3 at h;try dsimp only at h
 refine B0 (B0 (C0 (u0 5 [kB 31 (decide (v5_2<(a0_2.n:Int))),kI 30 (a0_2.n:Int),kS 29 a0_2,kL 28 0 2,kI 27 v5_2] (RS.dn (A0 ?_)))));rcases X0 h with ⟨hp,h⟩ | ⟨hp,h⟩
 ·refine E0 31 true (decide_eq_true hp) (I0 (K0 (A0 (B0 (O0 1 (B0 ?_))))));refine P0 [0,1,2,3,4,5,6,7,8,9] [0,1,0,7,15,0,32,0,224,480,1023] 11 (fun hcl=>?_);refine DA.tL 0 (some 34) (.loc 0 2) (DA.tL 1 (some 35) (.val (Sl3.v a0_2)) (D0 2 (some 36) (vI .i64 v5_2) ?_));obtain ⟨p3,hx,h⟩:=bind_some h;refine F0 3 (some 37) (vP (some p3)) (Abs.det_idx (s:=a0_2) (k:=.i64) (t:=27) (e:=3) (x:=.tmp 35) (y:=.tmp 36) (by kernel_rfl) (by kernel_rfl) (by kernel_rfl) (by kernel_rfl) (by kernel_rfl) hx) ?_;obtain ⟨x4,hx,h⟩:=bind_some h;refine F0 4 (some 38) (vI .i64 x4) (Abs.det_load (t:=3) (x:=.tmp 37) (a:=p3) (by kernel_rfl) (by kernel_rfl) (by kernel_rfl) (by kernel_rfl) (W0 hx D1)) (DA.tL 5 (some 39) (.loc 1 2) (DA.tL 6 (some 40) (.val (Sl3.v a1_2)) (D0 7 (some 41) (vI .i64 v5_2) ?_)));obtain ⟨p5,hx,h⟩:=bind_some h;refine F0 8 (some 42) (vP (some p5)) (Abs.det_idx (s:=a1_2) (k:=.i64) (t:=27) (e:=3) (x:=.tmp 40) (y:=.tmp 41) (by kernel_rfl) (by kernel_rfl) (by kernel_rfl) (by kernel_rfl) (by kernel_rfl) hx) ?_;obtain ⟨x6,hx,h⟩:=bind_some h;refine F0 9 (some 43) (vI .i64 x6) (Abs.det_load (t:=3) (x:=.tmp 42) (a:=p5) (by kernel_rfl) (by kernel_rfl) (by kernel_rfl) (by kernel_rfl) (W0 hx D1)) (DA.tP 10 (some 44) (vB (!decide (x4=x6))) (DA.dn (A0 ?_)));rcases X0 h with ⟨hp,h⟩ | ⟨hp,h⟩
  ·refine E0 44 false (A7 hp) (J0 (K0 ?_));refine fun a w hs=>bkN ((A0 ?_ a w hs));refine C0 (u0 3 [kI 5 (IntKind.i64.wrap (v5_2+1)),kI 33 (IntKind.i64.wrap (v5_2+1)),kI 32 v5_2] (RS.dn ?_));cases h;exact fun a w hs=>lsN rfl (hs.sb 2)
  ·refine E0 44 true (l6 hp) (I0 (B0 (C0 (u0 1 [kB 4 false] (RS.dn (A0 (G0 ?_)))))));cases h;exact fun a w hs=>bkR (sqR (lsR rfl (rS hs)))
 ·refine E0 31 false (decide_eq_false hp) (J0 (WS.ex 0 ?_));cases h;exact fun a w hs=>sqE (lsB rfl (hs.sb 2))
theorem z7l {L:LC} {m:Nat} {H:AH} {a0_0:Int} {a0_1:Bool} {a0_2:Sl3} {a1_0:Int} {a1_1:Bool} {a1_2:Sl3} {r:Bool} (h:M7 L H a0_0 a0_1 a0_2 a1_0 a1_1 a1_2=some r) :
  CallS Tryd.prog (NE.plain 1000) m 77 #[(vA #[(vI .i64 a0_0),(vB a0_1),(Sl3.v a0_2)]),(vA #[(vI .i64 a1_0),(vB a1_1),(Sl3.v a1_2)])] H (z1c r) (z2g H r):=by
 refine CallS.mk (args:=[(vA #[(vI .i64 a0_0),(vB a0_1),(Sl3.v a0_2)]),(vA #[(vI .i64 a1_0),(vB a1_1),(Sl3.v a1_2)])]) Tryd.func77 (B:=B77) (by kernel_rfl) (fun E _=>?_);unfold M7 at h;refine B0 (C0 (V0 3 [kB 4 false,kL 3 1 0,kL 2 0 0] ([some (42,[(vI .i64 a0_0),(vB a0_1),(Sl3.v a0_2)]),some (42,[(vI .i64 a1_0),(vB a1_1),(Sl3.v a1_2)])]) (RS.dn (A0 (B0 ?_)))));obtain ⟨v26_1,hx,h⟩:=bind_some h;refine B0 ?_;refine WS.join ([kB 26 v26_1,kL 2 0 0,kL 3 1 0]) ([some (42,[(vI .i64 a0_0),(vB a0_1),(Sl3.v a0_2)]),some (42,[(vI .i64 a1_0),(vB a1_1),(Sl3.v a1_2)])]) H ?_ (fun a w hs=>A0 ?_ a w hs)
 ·clear h; rename _=>h;refine C0 (u0 6 [kB 11 (!decide (a0_0=a1_0)),kB 10 (!decide (a0_0=a1_0)),kI 9 a1_0,kL 8 1 0,kI 7 a0_0,kL 6 0 0] ?_);rcases X0 h with ⟨hp,h⟩ | ⟨hp,h⟩
  ·refine N0 11 false (A7 hp) (u0 7 [kB 18 (!(a0_1 == a1_1)),kB 17 (!(a0_1 == a1_1)),kB 16 (!(a0_1 == a1_1)),kB 15 a1_1,kL 14 1 1,kB 13 a0_1,kL 12 0 1] ?_);rcases X0 h with ⟨hp,h⟩ | ⟨hp,h⟩
   ·refine N0 18 false (nb_not hp) (u0 8 [kB 26 (!decide ((a0_2.n:Int)=(a1_2.n:Int))),kB 25 (!decide ((a0_2.n:Int)=(a1_2.n:Int))),kI 24 (a1_2.n:Int),kS 23 a1_2,kL 22 1 2,kI 21 (a0_2.n:Int),kS 20 a0_2,kL 19 0 2] (RS.dn ?_));cases h;exact fun a w hs=>(jsN (hs.sb 2))
   ·refine N0 18 true (U4 hp) (u0 8 [kB 26 true,kU 25,kU 24,kU 23,kU 22,kU 21,kU 20,kU 19] (RS.dn ?_));cases h;exact fun a w hs=>(jsN (hs.sb 2))
  ·refine N0 11 true (l6 hp) (u0 15 [kB 26 true,kU 25,kU 24,kU 23,kU 22,kU 21,kU 20,kU 19,kB 18 true,kB 17 true,kU 16,kU 15,kU 14,kU 13,kU 12] (RS.dn ?_));cases h;exact fun a w hs=>(jsN (hs.sb 2))
 ·clear hx;rcases X0 h with ⟨hp,h⟩ | ⟨hp,h⟩
  ·refine E0 26 true hp (I0 (B0 (C0 (u0 1 [kB 4 false] (RS.dn (A0 (G0 ?_)))))));cases h;exact fun a w hs=>sqR (rtR (rS hs))
  ·refine E0 26 false (b_not hp) (J0 (K0 (A0 (B0 (B0 (C0 (u0 1 [kI 5 0] (RS.dn (A0 ?_)))))))));refine O0 0 ?_;obtain ⟨o,hl,h⟩:=bind_some h;rcases o with v5_7 | r
   ·try dsimp only at h
    refine U0 (l9 (L:=L) (E:=E) (m:=m) (H:=H)) (L.ok hl) 2 ?_;clear hl;refine fun a w hs=>bkE ((A0 ?_ a w hs));refine B0 (C0 (u0 1 [kB 4 true] (RS.dn (A0 (G0 ?_)))));cases h;exact fun a w hs=>rtR (rS hs)
   ·try dsimp only at h
    refine T0 (l9 (L:=L) (E:=E) (m:=m) (H:=H)) (L.ok hl) 2 ?_;cases h;exact fun a w hq=>bkR (sqR (rtR hq))
def U7:(Int×Int×AH)→Value
 | (r0,r1,_)=>(Value.tuple #[(vI .i64 r0),(vI .i64 r1)])
def A8 (_:AH):(Int×Int×AH)→AH:=fun r=>r.2.2
noncomputable def B66:Code:=(Tryd.f66.body).getD .skip
noncomputable def G2 (L:LC) (H:AH) (a0:Option Addr) (a1_0:Int) (a1_1:Bool) (a1_2:Sl3):Int→Option (Lp Int (Int×Int×AH)):=fun v6_1 =>
 a0.bind fun q2 => (rd deSl H (Addr.add q2 0)).bind fun x3 => if v6_1<(x3.n:Int) then
  (rd deSl H (Addr.add q2 0)).bind fun x4 => (idxA 3 x4 v6_1).bind fun p5 => (rd (deI .i64) H (Addr.add p5 0)).bind fun x6_0 => (rd deB H (Addr.add p5 1)).bind fun x6_1 => (rd deSl H (Addr.add p5 2)).bind fun x6_2 => (M7 L H x6_0 x6_1 x6_2 a1_0 a1_1 a1_2).bind fun x7 => if x7=true then
   some (.ret (v6_1,0,H))
  else
   some (.next (IntKind.i64.wrap (v6_1+1)))
 else
  some (.brk v6_1)
def zu (_L:LC) (_H:AH) (a0:Option Addr) (a1_0:Int) (a1_1:Bool) (a1_2:Sl3):Int→KN×Lcs:=fun v6_1=>([kI 6 v6_1,(0,.val (vP a0)),kL 3 0 0],[some (42,[(vI .i64 a1_0),(vB a1_1),(Sl3.v a1_2)])])
noncomputable def I3 (L:LC) (m:Nat) (H:AH) (a0:Option Addr) (a1_0:Int) (a1_1:Bool) (a1_2:Sl3):Option (Int×Int×AH) :=
 (L.run (G2 L H a0 a1_0 a1_1 a1_2) 0).bind fun o=>match o with
 | .inl _ =>
  a0.bind fun q9 => (rd deSl H (Addr.add q9 0)).bind fun x10 => if (x10.n:Int)≥1048576 then
   some (0,3,H)
  else
   (rd deSl H (Addr.add q9 0)).bind fun x11 => (newR 42 1 #[(vI .i64 a1_0),(vB a1_1),(Sl3.v a1_2)] H).bind fun (s12,H13) => (appS m 42 3 40 H13 x11 s12).bind fun (s14,H15) => (H15.setCell m (Addr.add q9 0) (Sl3.v s14)).bind fun H16 => (rd deSl H16 (Addr.add q9 0)).bind fun x17 => some ((IntKind.i64.wrap ((x17.n:Int) - 1)),0,H16)
 | .inr r=>some r
theorem u7 {E m L H a0 a1_0 a1_1 a1_2} :LoopF Tryd.prog (NE.plain 1000) m E Tryd.f66 ((cfst (csnd (cfst (csnd B66))))) (zu L H a0 a1_0 a1_1 a1_2) (fun _=>H) 0 U7 (A8 H) (G2 L H a0 a1_0 a1_1 a1_2):=by
 rintro v6_1 o h
 unfold G2 at h;try dsimp only at h
 refine B0 (B0 (C0 (u0 2 [(8,.val (vP a0)),kI 7 v6_1] ?_)));obtain ⟨q2,hx,hq2⟩:=bind_some h;subst hx;have h:=hq2;refine u0 2 [(10,.val (vP (some (Addr.add q2 0)))),kP 9 q2] ?_;obtain ⟨x3,hx,h⟩:=bind_some h;refine M0 11 29 (.tmp 10) (W0 hx Z0) (u0 2 [kB 13 (decide (v6_1<(x3.n:Int))),kI 12 (x3.n:Int)] (RS.dn (A0 ?_)));rcases X0 h with ⟨hp,h⟩ | ⟨hp,h⟩
 ·refine E0 13 true (decide_eq_true hp) (I0 (K0 (A0 (B0 (O0 1 (B0 ?_))))));refine P0 [0,1,2,3,4,5,6,7] [0,1,3,7,0,31,63,0,255] 9 (fun hcl=>?_);refine D0 0 (some 16) (vP (some q2)) (D0 1 (some 17) (vP (some q2)) (D0 2 (some 18) (vP (some (Addr.add q2 0))) ?_));obtain ⟨x4,hx,h⟩:=bind_some h;refine F0 3 (some 19) (Sl3.v x4) (Abs.det_load (t:=29) (x:=.tmp 18) (a:=(Addr.add q2 0)) (by kernel_rfl) (by kernel_rfl) (by kernel_rfl) (by kernel_rfl) (W0 hx Z0)) (D0 4 (some 20) (vI .i64 v6_1) ?_);obtain ⟨p5,hx,h⟩:=bind_some h;refine F0 5 (some 21) (vP (some p5)) (Abs.det_idx (s:=x4) (k:=.i64) (t:=29) (e:=42) (x:=.tmp 19) (y:=.tmp 20) (by kernel_rfl) (by kernel_rfl) (by kernel_rfl) (by kernel_rfl) (by kernel_rfl) hx) ?_;obtain ⟨x6_0,hx0,h⟩:=bind_some h;obtain ⟨x6_1,hx1,h⟩:=bind_some h;obtain ⟨x6_2,hx2,h⟩:=bind_some h;refine F0 6 (some 22) (vA #[(vI .i64 x6_0),(vB x6_1),(Sl3.v x6_2)]) (Abs.det_loadA (t:=42) (x:=.tmp 21) (a:=p5) (k:=3) (by kernel_rfl) (by kernel_rfl) (by kernel_rfl) (by kernel_rfl) (G1 (W0 hx0 D1) (G1 (W0 hx1 F6) (G1 (W0 hx2 Z0) E6)))) (DA.tL 7 (some 23) (.val (vA #[(vI .i64 a1_0),(vB a1_1),(Sl3.v a1_2)])) ?_);obtain ⟨x7,hx,h⟩:=bind_some h;refine DA.on 8 (DA.aC 8 (some 24) (v:=(vB x7)) 77 #[(vA #[(vI .i64 x6_0),(vB x6_1),(Sl3.v x6_2)]),(vA #[(vI .i64 a1_0),(vB a1_1),(Sl3.v a1_2)])] (z7l hx) (DA.dn (A0 ?_)));rcases X0 h with ⟨hp,h⟩ | ⟨hp,h⟩
  ·refine E0 24 true hp (I0 (B0 (C0 (u0 3 [kI 5 0,kI 4 v6_1,kI 25 v6_1] (RS.dn (A0 (G0 ?_)))))));cases h;exact fun a w hs=>bkR (sqR (lsR rfl (rS hs)))
  ·refine E0 24 false (b_not hp) (J0 (K0 ?_));refine fun a w hs=>bkN ((A0 ?_ a w hs));refine C0 (u0 3 [kI 6 (IntKind.i64.wrap (v6_1+1)),kI 15 (IntKind.i64.wrap (v6_1+1)),kI 14 v6_1] (RS.dn ?_));cases h;exact fun a w hs=>lsN rfl (hs.sb 1)
 ·refine E0 13 false (decide_eq_false hp) (J0 (WS.ex 0 ?_));cases h;exact fun a w hs=>sqE (lsB rfl (hs.sb 1))
theorem D8 {L:LC} {m:Nat} {H:AH} {a0:Option Addr} {a1_0:Int} {a1_1:Bool} {a1_2:Sl3} {r:(Int×Int×AH)} (h:I3 L m H a0 a1_0 a1_1 a1_2=some r) :
  CallS Tryd.prog (NE.plain 1000) m 66 #[(vP a0),(vA #[(vI .i64 a1_0),(vB a1_1),(Sl3.v a1_2)])] H (U7 r) (A8 H r):=by
 refine CallS.mk (args:=[(vP a0),(vA #[(vI .i64 a1_0),(vB a1_1),(Sl3.v a1_2)])]) Tryd.func66 (B:=B66) (by kernel_rfl) (fun E _=>?_);unfold I3 at h;refine B0 (C0 (V0 3 [kI 5 0,kI 4 0,kL 3 0 0] ([some (42,[(vI .i64 a1_0),(vB a1_1),(Sl3.v a1_2)])]) (RS.dn (A0 (B0 (B0 (C0 (u0 1 [kI 6 0] (RS.dn ?_)))))))));refine A0 (O0 0 ?_);obtain ⟨o,hl,h⟩:=bind_some h;rcases o with v6_8 | r
 ·try dsimp only at h
  refine U0 (u7 (L:=L) (E:=E) (m:=m) (H:=H)) (L.ok hl) 1 ?_;clear hl;refine fun a w hs=>bkE ((A0 ?_ a w hs));refine B0 (B0 (C0 (u0 1 [(26,.val (vP a0))] ?_)));obtain ⟨q9,hx,hq9⟩:=bind_some h;subst hx;have h:=hq9;refine u0 2 [(28,.val (vP (some (Addr.add q9 0)))),kP 27 q9] ?_;obtain ⟨x10,hx,h⟩:=bind_some h;refine M0 29 29 (.tmp 28) (W0 hx Z0) (u0 2 [kB 31 (decide ((x10.n:Int)≥1048576)),kI 30 (x10.n:Int)] (RS.dn (A0 ?_)));rcases X0 h with ⟨hp,h⟩ | ⟨hp,h⟩
  ·refine E0 31 true (decide_eq_true hp) (I0 (B0 (C0 (u0 2 [kI 5 3,kI 4 0] (RS.dn (A0 (G0 ?_)))))));cases h;exact fun a w hs=>sqR (rtR (rS hs))
  ·refine E0 31 false (decide_eq_false hp) (J0 (K0 (A0 (B0 ?_))));refine P0 [1,2,3,4,5] [0,0,2,6,14,0,32,126,255,511,1023] 11 (fun hcl=>?_);refine D0 1 (some 33) (vP (some q9)) (D0 2 (some 34) (vP (some q9)) (D0 3 (some 35) (vP (some (Addr.add q9 0))) ?_));obtain ⟨x11,hx,h⟩:=bind_some h;refine F0 4 (some 36) (Sl3.v x11) (Abs.det_load (t:=29) (x:=.tmp 35) (a:=(Addr.add q9 0)) (by kernel_rfl) (by kernel_rfl) (by kernel_rfl) (by kernel_rfl) (W0 hx Z0)) (DA.tL 5 (some 37) (.val (vA #[(vI .i64 a1_0),(vB a1_1),(Sl3.v a1_2)])) (DA.tP 0 (some 32) (vP (some q9)) ?_));obtain ⟨⟨s12,H13⟩,hx,h⟩:=bind_some h;try dsimp only at h
   refine DA.on 6 (DA.aHj (H':=H13) 6 (some 38) false (Sl3.v s12) (Abs.run_newR (by kernel_rfl) (by kernel_rfl) hx) ?_);obtain ⟨⟨s14,H15⟩,hx,h⟩:=bind_some h;try dsimp only at h
   refine DA.on 7 (S0 (H':=H15) 7 (some 39) (Sl3.v s14) (Abs.run_app (x:=.tmp 36) (y:=.tmp 38) (ts:=#[29,29]) (s:=x11) (z:=s12) (by kernel_rfl) (by kernel_rfl) (by kernel_rfl) (by kernel_rfl) hx) (DA.tP 8 (some 40) (vP (some q9)) (DA.tP 9 (some 41) (vP (some (Addr.add q9 0))) ?_)));obtain ⟨H16,hx,h⟩:=bind_some h;refine DA.on 10 (S0 (H':=H16) 10 none undef (Abs.run_store1 (t:=29) (x:=.tmp 41) (y:=.tmp 39) (a:=(Addr.add q9 0)) (v:=(Sl3.v s14)) (by kernel_rfl) (by kernel_rfl) (by kernel_rfl) (by kernel_rfl) (by kernel_rfl) hx) (DA.dn (A0 (B0 (C0 (u0 3 [(44,.val (vP (some (Addr.add q9 0)))),kP 43 q9,kP 42 q9] ?_))))));obtain ⟨x17,hx,h⟩:=bind_some h;refine M0 45 29 (.tmp 44) (W0 hx Z0) (u0 4 [kI 5 0,kI 4 (IntKind.i64.wrap ((x17.n:Int) - 1)),kI 47 (IntKind.i64.wrap ((x17.n:Int) - 1)),kI 46 (x17.n:Int)] (RS.dn (A0 (G0 ?_))));cases h;exact fun a w hs=>rtR (rS hs)
 ·try dsimp only at h
  refine T0 (u7 (L:=L) (E:=E) (m:=m) (H:=H)) (L.ok hl) 1 ?_;cases h;exact fun a w hq=>bkR (sqR (rtR hq))
def V7:(Int×Int×AH)→Value
 | (r0,r1,_)=>(Value.tuple #[(vI .i64 r0),(vI .i64 r1)])
def F8 (_:AH):(Int×Int×AH)→AH:=fun r=>r.2.2
noncomputable def B45:Code:=(Tryd.f45.body).getD .skip
noncomputable def D2 (L:LC) (H:AH) (a0:Option Addr) (_a1:Int) (a2:Sl3):Int→Option (Lp Int (Int×Int×AH)):=fun v8_1 =>
 if v8_1<(a2.n:Int) then
  (idxA 1 a2 v8_1).bind fun p2 => (rd (deI .i64) H p2).bind fun x3 => (S2 L H a0 x3).bind fun x4 => if x4=true then
   some (.next (IntKind.i64.wrap (v8_1+1)))
  else
   some (.ret (0,150,H))
 else
  some (.brk v8_1)
def z12 (_L:LC) (_H:AH) (a0:Option Addr) (a1:Int) (a2:Sl3):Int→KN×Lcs:=fun v8_1=>([kI 8 v8_1,(0,.val (vP a0)),kI 1 a1,kS 2 a2],[])
noncomputable def C5 (L:LC) (m:Nat) (H:AH) (a0:Option Addr) (a1:Int) (a2:Sl3):Option (Int×Int×AH) :=
 if (a2.n:Int) > 64 then
  some (0,51,H)
 else
  (L.run (D2 L H a0 a1 a2) 0).bind fun o=>match o with
  | .inl _ =>
   (appS m 3 1 8 H Sl3.nil a2).bind fun (s6,H7) => (I3 L m H7 a0 a1 false s6).bind fun (x8,x9,H10) => some (x8,x9,H10)
  | .inr r=>some r
theorem v7 {E m L H a0 a1 a2} :LoopF Tryd.prog (NE.plain 1000) m E Tryd.f45 ((cfst (csnd (cfst (csnd (csnd B45)))))) (z12 L H a0 a1 a2) (fun _=>H) 0 V7 (F8 H) (D2 L H a0 a1 a2):=by
 rintro v8_1 o h
 unfold D2 at h;try dsimp only at h
 refine B0 (B0 (C0 (u0 4 [kB 16 (decide (v8_1<(a2.n:Int))),kI 15 (a2.n:Int),kS 14 a2,kI 13 v8_1] (RS.dn (A0 ?_)))));rcases X0 h with ⟨hp,h⟩ | ⟨hp,h⟩
 ·refine E0 16 true (decide_eq_true hp) (I0 (K0 (A0 (B0 (O0 1 (B0 (C0 (u0 3 [kI 21 v8_1,kS 20 a2,(19,.val (vP a0))] ?_))))))));obtain ⟨p2,hx,h⟩:=bind_some h;refine Q0 22 27 3 (.tmp 20) (.tmp 21) hx ?_;obtain ⟨x3,hx,h⟩:=bind_some h;refine M0 23 3 (.tmp 22) (W0 hx D1) ?_;obtain ⟨x4,hx,h⟩:=bind_some h;refine RS.cl (some 24) (v:=(vB x4)) 65 _ (P5 hx) (u0 1 [kB 25 (!x4)] (RS.dn (A0 ?_)));rcases X0 h with ⟨hp,h⟩ | ⟨hp,h⟩
  ·refine E0 25 false (nb_not hp) (J0 (K0 ?_));refine fun a w hs=>bkN ((A0 ?_ a w hs));refine C0 (u0 3 [kI 8 (IntKind.i64.wrap (v8_1+1)),kI 18 (IntKind.i64.wrap (v8_1+1)),kI 17 v8_1] (RS.dn ?_));cases h;exact fun a w hs=>lsN rfl (hs.sb 0)
  ·refine E0 25 true (U4 hp) (I0 (B0 (C0 (u0 2 [kI 7 150,kI 6 0] (RS.dn (A0 (G0 ?_)))))));cases h;exact fun a w hs=>bkR (sqR (lsR rfl (rS hs)))
 ·refine E0 16 false (decide_eq_false hp) (J0 (WS.ex 0 ?_));cases h;exact fun a w hs=>sqE (lsB rfl (hs.sb 0))
theorem z2y {L:LC} {m:Nat} {H:AH} {a0:Option Addr} {a1:Int} {a2:Sl3} {r:(Int×Int×AH)} (h:C5 L m H a0 a1 a2=some r) :
  CallS Tryd.prog (NE.plain 1000) m 45 #[(vP a0),(vI .i64 a1),(Sl3.v a2)] H (V7 r) (F8 H r):=by
 refine CallS.mk (args:=[(vP a0),(vI .i64 a1),(Sl3.v a2)]) Tryd.func45 (B:=B45) (by kernel_rfl) (fun E _=>?_);unfold C5 at h;refine B0 (C0 (u0 2 [kI 7 0,kI 6 0] (RS.dn (A0 (B0 (B0 (C0 (u0 3 [kB 12 (decide ((a2.n:Int) > 64)),kI 11 (a2.n:Int),kS 10 a2] (RS.dn ?_)))))))));refine A0 ?_;rcases X0 h with ⟨hp,h⟩ | ⟨hp,h⟩
 ·refine E0 12 true (decide_eq_true hp) (I0 (B0 (C0 (u0 2 [kI 7 51,kI 6 0] (RS.dn (A0 (G0 ?_)))))));cases h;exact fun a w hs=>sqR (rtR (rS hs))
 ·refine E0 12 false (decide_eq_false hp) (J0 (K0 (A0 (B0 (B0 (C0 (u0 1 [kI 8 0] (RS.dn (A0 ?_)))))))));refine O0 0 ?_;obtain ⟨o,hl,h⟩:=bind_some h;rcases o with v8_5 | r
  ·try dsimp only at h
   refine U0 (v7 (L:=L) (E:=E) (m:=m) (H:=H)) (L.ok hl) 0 ?_;clear hl;refine fun a w hs=>bkE ((A0 ?_ a w hs));refine B0 (C0 (u0 1 [kS 9 Sl3.nil] (RS.dn (A0 (B0 (C0 (u0 2 [kS 27 a2,kS 26 Sl3.nil] ?_)))))));obtain ⟨⟨s6,H7⟩,hx,h⟩:=bind_some h;try dsimp only at h
   refine RS.o (H':=H7) (some 28) (Sl3.v s6) (Abs.run_app (x:=.tmp 26) (y:=.tmp 27) (ts:=#[27,27]) (s:=Sl3.nil) (z:=a2) (by kernel_rfl) (by kernel_rfl) (by kernel_rfl) (by kernel_rfl) hx) (u0 1 [kS 9 s6] (RS.dn (A0 (B0 (C0 (u0 4 [kA 32 #[(vI .i64 a1),(vB false),(Sl3.v s6)],kS 31 s6,kI 30 a1,(29,.val (vP a0))] ?_))))));obtain ⟨⟨x8,x9,H10⟩,hx,h⟩:=bind_some h;try dsimp only at h
   refine RS.cl (some 33) (v:=(Value.tuple #[(vI .i64 x8),(vI .i64 x9)])) 66 _ (D8 hx) (u0 4 [kI 7 x9,kI 6 x8,kI 35 x9,kI 34 x8] (RS.dn (A0 (G0 ?_))));cases h;exact fun a w hs=>rtR (rS hs)
  ·try dsimp only at h
   refine T0 (v7 (L:=L) (E:=E) (m:=m) (H:=H)) (L.ok hl) 0 ?_;cases h;exact fun a w hq=>bkR (sqR (rtR hq))
def zh:(Int×Int×AH)→Value
 | (r0,r1,_)=>(Value.tuple #[(vI .i64 r0),(vI .i64 r1)])
def z1r (_:AH):(Int×Int×AH)→AH:=fun r=>r.2.2
noncomputable def B46:Code:=(Tryd.f46.body).getD .skip
noncomputable def M4 (L:LC) (m:Nat) (H:AH) (a0:Option Addr) (a1:Int):Option (Int×Int×AH) :=
 (I3 L m H a0 a1 true Sl3.nil).bind fun (x1,x2,H3) => some (x1,x2,H3)
theorem z1q {L:LC} {m:Nat} {H:AH} {a0:Option Addr} {a1:Int} {r:(Int×Int×AH)} (h:M4 L m H a0 a1=some r) :
  CallS Tryd.prog (NE.plain 1000) m 46 #[(vP a0),(vI .i64 a1)] H (zh r) (z1r H r):=by
 refine CallS.mk (args:=[(vP a0),(vI .i64 a1)]) Tryd.func46 (B:=B46) (by kernel_rfl) (fun E _=>?_);unfold M4 at h;refine B0 (C0 (u0 2 [kI 5 0,kI 4 0] (RS.dn (A0 (B0 (C0 (u0 3 [kA 8 #[(vI .i64 a1),(vB true),(Sl3.v Sl3.nil)],kI 7 a1,(6,.val (vP a0))] ?_)))))));obtain ⟨⟨x1,x2,H3⟩,hx,h⟩:=bind_some h;try dsimp only at h
 refine RS.cl (some 9) (v:=(Value.tuple #[(vI .i64 x1),(vI .i64 x2)])) 66 _ (D8 hx) (u0 4 [kI 5 x2,kI 4 x1,kI 11 x2,kI 10 x1] (RS.dn (A0 (G0 ?_))));cases h;exact fun a w hs=>rtR (rS hs)
def z2u:(Int×AH)→Value
 | (r0,_)=>(vI .i64 r0)
def z3a (_:AH):(Int×AH)→AH:=fun r=>r.2
noncomputable def B47:Code:=(Tryd.f47.body).getD .skip
noncomputable def J4 (L:LC) (m:Nat) (H:AH) (a0:Option Addr) (a1_0 a1_1 a1_2:Int) (a1_3:Bool):Option (Int×AH) :=
 Option.bind (α:=Bool) (
  (S2 L H a0 a1_0).bind fun x2 => if x2=true then
   (S2 L H a0 a1_1).bind fun x3 => some (!x3)
  else
   some true) fun v16_1 =>
 if v16_1=true then
  some (150,H)
 else
  a0.bind fun q4 => (rd deSl H (Addr.add q4 1)).bind fun x5 => (newR 49 1 #[(vI .i64 a1_0),(vI .i64 a1_1),(vI .i64 a1_2),(vB a1_3)] H).bind fun (s6,H7) => (appS m 49 4 32 H7 x5 s6).bind fun (s8,H9) => (H9.setCell m (Addr.add q4 1) (Sl3.v s8)).bind fun H10 => some (0,H10)
theorem B8 {L:LC} {m:Nat} {H:AH} {a0:Option Addr} {a1_0 a1_1 a1_2:Int} {a1_3:Bool} {r:(Int×AH)} (h:J4 L m H a0 a1_0 a1_1 a1_2 a1_3=some r) :
  CallS Tryd.prog (NE.plain 1000) m 47 #[(vP a0),(vA #[(vI .i64 a1_0),(vI .i64 a1_1),(vI .i64 a1_2),(vB a1_3)])] H (z2u r) (z3a H r):=by
 refine CallS.mk (args:=[(vP a0),(vA #[(vI .i64 a1_0),(vI .i64 a1_1),(vI .i64 a1_2),(vB a1_3)])]) Tryd.func47 (B:=B47) (by kernel_rfl) (fun E _=>?_);unfold J4 at h;refine B0 (C0 (V0 2 [kI 4 0,kL 3 0 0] ([some (49,[(vI .i64 a1_0),(vI .i64 a1_1),(vI .i64 a1_2),(vB a1_3)])]) (RS.dn (A0 (B0 ?_)))));obtain ⟨v16_1,hx,h⟩:=bind_some h;refine B0 ?_;refine WS.join ([kB 16 v16_1,(0,.val (vP a0)),kL 3 0 0]) ([some (49,[(vI .i64 a1_0),(vI .i64 a1_1),(vI .i64 a1_2),(vB a1_3)])]) H ?_ (fun a w hs=>A0 ?_ a w hs)
 ·clear h; rename _=>h;refine C0 (u0 3 [kI 7 a1_0,kL 6 0 0,(5,.val (vP a0))] ?_);obtain ⟨x2,hx,h⟩:=bind_some h;refine RS.cl (some 8) (v:=(vB x2)) 65 _ (P5 hx) (u0 2 [kB 10 (!x2),kB 9 (!x2)] ?_);rcases X0 h with ⟨hp,h⟩ | ⟨hp,h⟩
  ·refine N0 10 false (nb_not hp) (u0 3 [kI 13 a1_1,kL 12 0 1,(11,.val (vP a0))] ?_);obtain ⟨x3,hx,h⟩:=bind_some h;refine RS.cl (some 14) (v:=(vB x3)) 65 _ (P5 hx) (u0 2 [kB 16 (!x3),kB 15 (!x3)] (RS.dn ?_));cases h;exact fun a w hs=>(jsN (hs.sb 1))
  ·refine N0 10 true (U4 hp) (u0 6 [kB 16 true,kU 15,kU 14,kU 13,kU 12,kU 11] (RS.dn ?_));cases h;exact fun a w hs=>(jsN (hs.sb 1))
 ·clear hx;rcases X0 h with ⟨hp,h⟩ | ⟨hp,h⟩
  ·refine E0 16 true hp (I0 (B0 (C0 (u0 1 [kI 4 150] (RS.dn (A0 (G0 ?_)))))));cases h;exact fun a w hs=>sqR (rtR (rS hs))
  ·refine E0 16 false (b_not hp) (J0 (K0 (A0 (B0 ?_))));refine P0 [1,2,3,4,5] [0,0,2,6,14,0,32,126,255,511,1023] 11 (fun hcl=>?_);refine D0 1 (some 18) (vP a0) ?_;obtain ⟨q4,hx,hq4⟩:=bind_some h;subst hx;have h:=hq4;refine D0 2 (some 19) (vP (some q4)) (D0 3 (some 20) (vP (some (Addr.add q4 1))) ?_);obtain ⟨x5,hx,h⟩:=bind_some h;refine F0 4 (some 21) (Sl3.v x5) (Abs.det_load (t:=30) (x:=.tmp 20) (a:=(Addr.add q4 1)) (by kernel_rfl) (by kernel_rfl) (by kernel_rfl) (by kernel_rfl) (W0 hx Z0)) (DA.tL 5 (some 22) (.val (vA #[(vI .i64 a1_0),(vI .i64 a1_1),(vI .i64 a1_2),(vB a1_3)])) (DA.tP 0 (some 17) (vP (some q4)) ?_));obtain ⟨⟨s6,H7⟩,hx,h⟩:=bind_some h;try dsimp only at h
   refine DA.on 6 (DA.aHj (H':=H7) 6 (some 23) false (Sl3.v s6) (Abs.run_newR (by kernel_rfl) (by kernel_rfl) hx) ?_);obtain ⟨⟨s8,H9⟩,hx,h⟩:=bind_some h;try dsimp only at h
   refine DA.on 7 (S0 (H':=H9) 7 (some 24) (Sl3.v s8) (Abs.run_app (x:=.tmp 21) (y:=.tmp 23) (ts:=#[30,30]) (s:=x5) (z:=s6) (by kernel_rfl) (by kernel_rfl) (by kernel_rfl) (by kernel_rfl) hx) (DA.tP 8 (some 25) (vP (some q4)) (DA.tP 9 (some 26) (vP (some (Addr.add q4 1))) ?_)));obtain ⟨H10,hx,h⟩:=bind_some h;refine DA.on 10 (S0 (H':=H10) 10 none undef (Abs.run_store1 (t:=30) (x:=.tmp 26) (y:=.tmp 24) (a:=(Addr.add q4 1)) (v:=(Sl3.v s8)) (by kernel_rfl) (by kernel_rfl) (by kernel_rfl) (by kernel_rfl) (by kernel_rfl) hx) (DA.dn (A0 (B0 (C0 (u0 1 [kI 4 0] (RS.dn (A0 (G0 ?_)))))))));cases h;exact fun a w hs=>rtR (rS hs)
def z6f:(Bool×AH)→Value
 | (r0,_)=>(vB r0)
def z7u (_:AH):(Bool×AH)→AH:=fun r=>r.2
noncomputable def B24:Code:=(Tryd.f24.body).getD .skip
noncomputable def B6 (L:LC) (m:Nat) (H:AH) (a0 a1:Option Addr) (a2_0 a2_1:Int) (a2_2:Sl3) (a2_3 a2_4 a2_5:Int):Option (Bool×AH) :=
 if a2_0=1 then
  (Y3 L m H a0 a2_1 a2_2).bind fun (x1,x2,H3) => (C5 L m H3 a1 a2_1 a2_2).bind fun (x4,x5,H6) => if x1=x4 then
   some ((decide (x2=x5)),H6)
  else
   some (false,H6)
 else
  if a2_0=2 then
   (G4 L m H a0 a2_1).bind fun (x7,x8,H9) => (M4 L m H9 a1 a2_1).bind fun (x10,x11,H12) => if x7=x10 then
    some ((decide (x8=x11)),H12)
   else
    some (false,H12)
  else
   if a2_0=3 then
    (B5 L m H a0 a2_3 a2_4 a2_5).bind fun (x13,H14) => (J4 L m H14 a1 a2_3 a2_4 a2_5 false).bind fun (x15,H16) => some ((decide (x13=x15)),H16)
   else
    if a2_0=4 then
     (A5 L m H a0 a2_3 a2_4 a2_5).bind fun (x17,H18) => (J4 L m H18 a1 a2_3 a2_4 a2_5 true).bind fun (x19,H20) => some ((decide (x17=x19)),H20)
    else
     none
theorem z7w {L:LC} {m:Nat} {H:AH} {a0 a1:Option Addr} {a2_0 a2_1:Int} {a2_2:Sl3} {a2_3 a2_4 a2_5:Int} {r:(Bool×AH)} (h:B6 L m H a0 a1 a2_0 a2_1 a2_2 a2_3 a2_4 a2_5=some r) :
  CallS Tryd.prog (NE.plain 1000) m 24 #[(vP a0),(vP a1),(vA #[(vI .i64 a2_0),(vI .i64 a2_1),(Sl3.v a2_2),(vI .i64 a2_3),(vI .i64 a2_4),(vI .i64 a2_5)])] H (z6f r) (z7u H r):=by
 refine CallS.mk (args:=[(vP a0),(vP a1),(vA #[(vI .i64 a2_0),(vI .i64 a2_1),(Sl3.v a2_2),(vI .i64 a2_3),(vI .i64 a2_4),(vI .i64 a2_5)])]) Tryd.func24 (B:=B24) (by kernel_rfl) (fun E _=>?_);unfold B6 at h;refine B0 (C0 (V0 2 [kB 6 false,kL 5 0 0] ([some (55,[(vI .i64 a2_0),(vI .i64 a2_1),(Sl3.v a2_2),(vI .i64 a2_3),(vI .i64 a2_4),(vI .i64 a2_5)])]) (RS.dn (A0 (B0 (B0 (C0 (u0 2 [kI 25 a2_0,kL 24 0 0] (RS.dn ?_)))))))));refine A0 (O0 0 (B0 (C0 (u0 2 [kB 26 (decide (a2_0=1)),kB 27 (decide (a2_0=1))] (RS.dn (A0 ?_))))));rcases X0 h with ⟨hp,h⟩ | ⟨hp,h⟩
 ·refine E0 26 true (decide_eq_true hp) (I0 (B0 (C0 (u0 5 [kS 33 a2_2,kL 32 0 2,kI 31 a2_1,kL 30 0 1,(29,.val (vP a0))] ?_))));obtain ⟨⟨x1,x2,H3⟩,hx,h⟩:=bind_some h;try dsimp only at h
  refine RS.cl (some 34) (v:=(Value.tuple #[(vI .i64 x1),(vI .i64 x2)])) 18 _ (z2n hx) (u0 5 [kI 8 x2,kI 7 x1,kI 36 x2,kI 35 x1,(28,.val (Value.tuple #[(vI .i64 x1),(vI .i64 x2)]))] (RS.dn (A0 (B0 (C0 (u0 5 [kS 42 a2_2,kL 41 0 2,kI 40 a2_1,kL 39 0 1,(38,.val (vP a1))] ?_))))));obtain ⟨⟨x4,x5,H6⟩,hx,h⟩:=bind_some h;try dsimp only at h
  refine RS.cl (some 43) (v:=(Value.tuple #[(vI .i64 x4),(vI .i64 x5)])) 45 _ (z2y hx) (u0 5 [kI 10 x5,kI 9 x4,kI 45 x5,kI 44 x4,(37,.val (Value.tuple #[(vI .i64 x4),(vI .i64 x5)]))] (RS.dn (A0 (B0 (C0 (u0 4 [kB 49 (decide (x1=x4)),kB 48 (decide (x1=x4)),kI 47 x4,kI 46 x1] ?_))))));rcases X0 h with ⟨hp,h⟩ | ⟨hp,h⟩
  ·refine N0 49 true (decide_eq_true hp) (u0 5 [kB 6 (decide (x2=x5)),kB 53 (decide (x2=x5)),kB 52 (decide (x2=x5)),kI 51 x5,kI 50 x2] (RS.dn (A0 (G0 ?_))));cases h;exact fun a w hs=>bkR (sqR (rtR (rS hs)))
  ·refine N0 49 false (decide_eq_false hp) (u0 5 [kB 6 false,kB 53 false,kU 52,kU 51,kU 50] (RS.dn (A0 (G0 ?_))));cases h;exact fun a w hs=>bkR (sqR (rtR (rS hs)))
 ·refine E0 26 false (decide_eq_false hp) (J0 (B0 (C0 (u0 2 [kB 54 (decide (a2_0=2)),kB 55 (decide (a2_0=2))] (RS.dn (A0 ?_))))));rcases X0 h with ⟨hp,h⟩ | ⟨hp,h⟩
  ·refine E0 54 true (decide_eq_true hp) (I0 (B0 (C0 (u0 3 [kI 59 a2_1,kL 58 0 1,(57,.val (vP a0))] ?_))));obtain ⟨⟨x7,x8,H9⟩,hx,h⟩:=bind_some h;try dsimp only at h
   refine RS.cl (some 60) (v:=(Value.tuple #[(vI .i64 x7),(vI .i64 x8)])) 17 _ (z17 hx) (u0 5 [kI 12 x8,kI 11 x7,kI 62 x8,kI 61 x7,(56,.val (Value.tuple #[(vI .i64 x7),(vI .i64 x8)]))] (RS.dn (A0 (B0 (C0 (u0 3 [kI 66 a2_1,kL 65 0 1,(64,.val (vP a1))] ?_))))));obtain ⟨⟨x10,x11,H12⟩,hx,h⟩:=bind_some h;try dsimp only at h
   refine RS.cl (some 67) (v:=(Value.tuple #[(vI .i64 x10),(vI .i64 x11)])) 46 _ (z1q hx) (u0 5 [kI 14 x11,kI 13 x10,kI 69 x11,kI 68 x10,(63,.val (Value.tuple #[(vI .i64 x10),(vI .i64 x11)]))] (RS.dn (A0 (B0 (C0 (u0 4 [kB 73 (decide (x7=x10)),kB 72 (decide (x7=x10)),kI 71 x10,kI 70 x7] ?_))))));rcases X0 h with ⟨hp,h⟩ | ⟨hp,h⟩
   ·refine N0 73 true (decide_eq_true hp) (u0 5 [kB 6 (decide (x8=x11)),kB 77 (decide (x8=x11)),kB 76 (decide (x8=x11)),kI 75 x11,kI 74 x8] (RS.dn (A0 (G0 ?_))));cases h;exact fun a w hs=>bkR (sqR (rtR (rS hs)))
   ·refine N0 73 false (decide_eq_false hp) (u0 5 [kB 6 false,kB 77 false,kU 76,kU 75,kU 74] (RS.dn (A0 (G0 ?_))));cases h;exact fun a w hs=>bkR (sqR (rtR (rS hs)))
  ·refine E0 54 false (decide_eq_false hp) (J0 (B0 (C0 (u0 2 [kB 78 (decide (a2_0=3)),kB 79 (decide (a2_0=3))] (RS.dn (A0 ?_))))));rcases X0 h with ⟨hp,h⟩ | ⟨hp,h⟩
   ·refine E0 78 true (decide_eq_true hp) (I0 (B0 ?_));refine WS.drl [0,0,2,0,8,0,32,127,0,0,512,0,2048,0,8192,32256,65535,131071,262143] 19 (fun hcl=>?_);refine DB.tL 1 (some 81) (.loc 0 3) (DB.tL 2 (some 82) (.val (vI .i64 a2_3)) (DB.tL 3 (some 83) (.loc 0 4) (DB.tL 4 (some 84) (.val (vI .i64 a2_4)) (DB.tL 5 (some 85) (.loc 0 5) (DB.tL 6 (some 86) (.val (vI .i64 a2_5)) (DB.tL 9 (some 89) (.loc 0 3) (DB.tL 10 (some 90) (.val (vI .i64 a2_3)) (DB.tL 11 (some 91) (.loc 0 4) (DB.tL 12 (some 92) (.val (vI .i64 a2_4)) ?_)))))))));refine DB.tL 13 (some 93) (.loc 0 5) (DB.tL 14 (some 94) (.val (vI .i64 a2_5)) (DB.tP 0 (some 80) (vP a0) (DB.tP 8 (some 88) (vP a1) ?_)));refine ?_;refine DB.tP 15 (some 95) (vA #[(vI .i64 a2_3),(vI .i64 a2_4),(vI .i64 a2_5),(vB false)]) ?_;obtain ⟨⟨x13,H14⟩,hx,h⟩:=bind_some h;try dsimp only at h
    refine DB.on 7 (DB.aC 7 (some 87) (v:=(vI .i64 x13)) 20 #[(vP a0),(vI .i64 a2_3),(vI .i64 a2_4),(vI .i64 a2_5)] (zj hx) ?_);obtain ⟨⟨x15,H16⟩,hx,h⟩:=bind_some h;try dsimp only at h
    refine DB.on 16 (DB.aC 16 (some 96) (v:=(vI .i64 x15)) 47 #[(vP a1),(vA #[(vI .i64 a2_3),(vI .i64 a2_4),(vI .i64 a2_5),(vB false)])] (B8 hx) (DB.tP 17 (some 97) (vB (decide (x13=x15))) (DB.tP 18 (some 6) (vB (decide (x13=x15))) (DB.dn (A0 (G0 ?_))))));cases h;exact fun a w hs=>bkR (sqR (rtR (rS hs)))
   ·refine E0 78 false (decide_eq_false hp) (J0 (B0 (C0 (u0 2 [kB 98 (decide (a2_0=4)),kB 99 (decide (a2_0=4))] (RS.dn (A0 ?_))))));rcases X0 h with ⟨hp,h⟩ | ⟨hp,h⟩
    ·refine E0 98 true (decide_eq_true hp) (I0 (B0 ?_));refine WS.drl [0,0,2,0,8,0,32,127,0,0,512,0,2048,0,8192,32256,65535,131071,262143] 19 (fun hcl=>?_);refine DB.tL 1 (some 101) (.loc 0 3) (DB.tL 2 (some 102) (.val (vI .i64 a2_3)) (DB.tL 3 (some 103) (.loc 0 4) (DB.tL 4 (some 104) (.val (vI .i64 a2_4)) (DB.tL 5 (some 105) (.loc 0 5) (DB.tL 6 (some 106) (.val (vI .i64 a2_5)) (DB.tL 9 (some 109) (.loc 0 3) (DB.tL 10 (some 110) (.val (vI .i64 a2_3)) (DB.tL 11 (some 111) (.loc 0 4) (DB.tL 12 (some 112) (.val (vI .i64 a2_4)) ?_)))))))));refine DB.tL 13 (some 113) (.loc 0 5) (DB.tL 14 (some 114) (.val (vI .i64 a2_5)) (DB.tP 0 (some 100) (vP a0) (DB.tP 8 (some 108) (vP a1) ?_)));refine ?_;refine DB.tP 15 (some 115) (vA #[(vI .i64 a2_3),(vI .i64 a2_4),(vI .i64 a2_5),(vB true)]) ?_;obtain ⟨⟨x17,H18⟩,hx,h⟩:=bind_some h;try dsimp only at h
     refine DB.on 7 (DB.aC 7 (some 107) (v:=(vI .i64 x17)) 19 #[(vP a0),(vI .i64 a2_3),(vI .i64 a2_4),(vI .i64 a2_5)] (zr hx) ?_);obtain ⟨⟨x19,H20⟩,hx,h⟩:=bind_some h;try dsimp only at h
     refine DB.on 16 (DB.aC 16 (some 116) (v:=(vI .i64 x19)) 47 #[(vP a1),(vA #[(vI .i64 a2_3),(vI .i64 a2_4),(vI .i64 a2_5),(vB true)])] (B8 hx) (DB.tP 17 (some 117) (vB (decide (x17=x19))) (DB.tP 18 (some 6) (vB (decide (x17=x19))) (DB.dn (A0 (G0 ?_))))));cases h;exact fun a w hs=>bkR (sqR (rtR (rS hs)))
    ·refine E0 98 false (decide_eq_false hp) (J0 ?_);cases h
def R9:((Option Addr)×(Option Addr)×Bool×AH)→Value
 | (r0,r1,r2,_)=>(Value.tuple #[(vP r0),(vP r1),(vB r2)])
def z11 (_:AH):((Option Addr)×(Option Addr)×Bool×AH)→AH:=fun r=>r.2.2.2
noncomputable def B9:Code:=(Tryd.f9.body).getD .skip
noncomputable def Z3 (L:LC) (m:Nat) (a0:Sl3) (p3 q5:Addr):(AH×Int)→Option (Lp (AH×Int) ((Option Addr)×(Option Addr)×Bool×AH)):=fun (H6,v7_7) =>
 if v7_7<(a0.n:Int) then
  Option.bind (α:=(AH×Bool)) (
   (idxA 6 a0 v7_7).bind fun p10 => (rd (deI .i64) H6 (Addr.add p10 0)).bind fun x11 => if x11≥1 then
    (idxA 6 a0 v7_7).bind fun p12 => (rd (deI .i64) H6 (Addr.add p12 0)).bind fun x13 => if x13≤4 then
     (idxA 6 a0 v7_7).bind fun p14 => (rd (deI .i64) H6 (Addr.add p14 0)).bind fun x15_0 => (rd (deI .i64) H6 (Addr.add p14 1)).bind fun x15_1 => (rd deSl H6 (Addr.add p14 2)).bind fun x15_2 => (rd (deI .i64) H6 (Addr.add p14 3)).bind fun x15_3 => (rd (deI .i64) H6 (Addr.add p14 4)).bind fun x15_4 => (rd (deI .i64) H6 (Addr.add p14 5)).bind fun x15_5 => (B6 L m H6 (some q5) (some p3) x15_0 x15_1 x15_2 x15_3 x15_4 x15_5).bind fun (x16,H17) => some (H17,(!x16))
    else
     some (H6,false)
   else
    some (H6,false)) fun (H8,v42_9) =>
  if v42_9=true then
   some (.ret (none,none,false,H8))
  else
   some (.next (H8,(IntKind.i64.wrap (v7_7+1))))
 else
  some (.brk (H6,v7_7))
def z45 (_L:LC) (_m:Nat) (a0:Sl3) (p3 q5:Addr):(AH×Int)→KN×Lcs:=fun (_,v7_7)=>([kI 7 v7_7,kS 0 a0,kP 5 q5,kP 6 p3],[])
noncomputable def S6 (L:LC) (m:Nat) (H:AH) (a0:Sl3):Option ((Option Addr)×(Option Addr)×Bool×AH) :=
 (c9 L m H).bind fun (x1,H2) => (newB 32 [(Sl3.v Sl3.nil),(Sl3.v Sl3.nil),(Sl3.v Sl3.nil)] H2).bind fun (p3,H4) => match x1 with
 | none =>
  some (none,none,false,H4)
 | some q5 =>
  (L.run (Z3 L m a0 p3 q5) (H4,0)).bind fun o=>match o with
  | .inl (H18,_) =>
   some ((some q5),(some p3),true,H18)
  | .inr r=>some r
theorem T8 {E H L m a0 p3 q5} :LoopF Tryd.prog (NE.plain 1000) m E Tryd.f9 ((cfst (csnd (cfst (csnd (csnd (csnd (csnd B9)))))))) (z45 L m a0 p3 q5) (fun s=>s.1) 0 R9 (z11 H) (Z3 L m a0 p3 q5):=by
 rintro ⟨H6,v7_7⟩ o h
 unfold Z3 at h;try dsimp only at h
 refine B0 (B0 (C0 (u0 4 [kB 16 (decide (v7_7<(a0.n:Int))),kI 15 (a0.n:Int),kS 14 a0,kI 13 v7_7] (RS.dn (A0 ?_)))));rcases X0 h with ⟨hp,h⟩ | ⟨hp,h⟩
 ·refine E0 16 true (decide_eq_true hp) (I0 (K0 (A0 (B0 (O0 1 ?_)))));obtain ⟨⟨H8,v42_9⟩,hx,h⟩:=bind_some h;try dsimp only at h
  refine B0 ?_;refine WS.join ([kB 42 v42_9,kS 0 a0,kP 5 q5,kP 6 p3,kI 7 v7_7]) ([]) H8 ?_ (fun a w hs=>A0 ?_ a w hs)
  ·clear h; rename _=>h;refine C0 (u0 2 [kI 20 v7_7,kS 19 a0] ?_);obtain ⟨p10,hx,h⟩:=bind_some h;refine Q0 21 22 55 (.tmp 19) (.tmp 20) hx (u0 1 [(22,.val (vP (some (Addr.add p10 0))))] ?_);obtain ⟨x11,hx,h⟩:=bind_some h;refine M0 23 3 (.tmp 22) (W0 hx D1) (u0 2 [kB 25 (decide (x11≥1)),kB 24 (decide (x11≥1))] ?_);rcases X0 h with ⟨hp,h⟩ | ⟨hp,h⟩
   ·refine N0 25 true (decide_eq_true hp) (u0 2 [kI 27 v7_7,kS 26 a0] ?_);obtain ⟨p12,hx,h⟩:=bind_some h;refine Q0 28 22 55 (.tmp 26) (.tmp 27) hx (u0 1 [(29,.val (vP (some (Addr.add p12 0))))] ?_);obtain ⟨x13,hx,h⟩:=bind_some h;refine M0 30 3 (.tmp 29) (W0 hx D1) (u0 3 [kB 33 (decide (x13≤4)),kB 32 (decide (x13≤4)),kB 31 (decide (x13≤4))] ?_);rcases X0 h with ⟨hp,h⟩ | ⟨hp,h⟩
    ·refine N0 33 true (decide_eq_true hp) (u0 4 [kI 37 v7_7,kS 36 a0,kP 35 p3,kP 34 q5] ?_);obtain ⟨p14,hx,h⟩:=bind_some h;refine Q0 38 22 55 (.tmp 36) (.tmp 37) hx ?_;obtain ⟨x15_0,hx0,h⟩:=bind_some h;obtain ⟨x15_1,hx1,h⟩:=bind_some h;obtain ⟨x15_2,hx2,h⟩:=bind_some h;obtain ⟨x15_3,hx3,h⟩:=bind_some h;obtain ⟨x15_4,hx4,h⟩:=bind_some h;obtain ⟨x15_5,hx5,h⟩:=bind_some h;refine RS.la 39 55 (.tmp 38) 6 (G1 (W0 hx0 D1) (G1 (W0 hx1 D1) (G1 (W0 hx2 Z0) (G1 (W0 hx3 D1) (G1 (W0 hx4 D1) (G1 (W0 hx5 D1) E6)))))) ?_;obtain ⟨⟨x16,H17⟩,hx,h⟩:=bind_some h;try dsimp only at h
     refine RS.cl (some 40) (v:=(vB x16)) 24 _ (z7w hx) (u0 2 [kB 42 (!x16),kB 41 (!x16)] (RS.dn ?_));cases h;exact fun a w hs=>(jsN (hs.sb 0))
    ·refine N0 33 false (decide_eq_false hp) (u0 9 [kB 42 false,kU 41,kU 40,kU 39,kU 38,kU 37,kU 36,kU 35,kU 34] (RS.dn ?_));cases h;exact fun a w hs=>(jsN (hs.sb 0))
   ·refine N0 25 false (decide_eq_false hp) (u0 17 [kB 42 false,kU 41,kU 40,kU 39,kU 38,kU 37,kU 36,kU 35,kU 34,kB 33 false,kB 32 false,kU 31,kU 30,kU 29,kU 28,kU 27,kU 26] (RS.dn ?_));cases h;exact fun a w hs=>(jsN (hs.sb 0))
  ·clear hx;rcases X0 h with ⟨hp,h⟩ | ⟨hp,h⟩
   ·refine E0 42 true hp (I0 (B0 (C0 (u0 3 [kB 4 false,(3,.val (vP none)),(2,.val (vP none))] (RS.dn (A0 (G0 ?_)))))));cases h;exact fun a w hs=>bkR (sqR (lsR rfl (rS hs)))
   ·refine E0 42 false (b_not hp) (J0 (K0 ?_));refine fun a w hs=>bkN ((A0 ?_ a w hs));refine C0 (u0 3 [kI 7 (IntKind.i64.wrap (v7_7+1)),kI 18 (IntKind.i64.wrap (v7_7+1)),kI 17 v7_7] (RS.dn ?_));cases h;exact fun a w hs=>lsN rfl (hs.sb 0)
 ·refine E0 16 false (decide_eq_false hp) (J0 (WS.ex 0 ?_));cases h;exact fun a w hs=>sqE (lsB rfl (hs.sb 0))
theorem z6j {L:LC} {m:Nat} {H:AH} {a0:Sl3} {r:((Option Addr)×(Option Addr)×Bool×AH)} (h:S6 L m H a0=some r) :
  CallS Tryd.prog (NE.plain 1000) m 9 #[(Sl3.v a0)] H (R9 r) (z11 H r):=by
 refine CallS.mk (args:=[(Sl3.v a0)]) Tryd.func9 (B:=B9) (by kernel_rfl) (fun E _=>?_);unfold S6 at h;refine B0 (C0 (u0 3 [kB 4 false,(3,.val (vP none)),(2,.val (vP none))] (RS.dn (A0 (B0 (C0 ?_))))));obtain ⟨⟨x1,H2⟩,hx,h⟩:=bind_some h;try dsimp only at h
 refine RS.cl (some 8) (v:=(vP x1)) 16 _ (z7n hx) (u0 1 [(5,.val (vP x1))] (RS.dn (A0 (B0 (C0 (u0 1 [kA 9 #[(Sl3.v Sl3.nil),(Sl3.v Sl3.nil),(Sl3.v Sl3.nil)]] ?_))))));obtain ⟨⟨p3,H4⟩,hx,h⟩:=bind_some h;try dsimp only at h
 refine RS.o (H':=H4) (some 10) (vP (some p3)) (Abs.run_newB (by kernel_rfl) hx) (u0 1 [kP 6 p3] (RS.dn (A0 (B0 (B0 (C0 (u0 1 [(11,.val (vP x1))] ?_)))))));rcases x1 with _ | q5
 ·try dsimp only at h
  refine u0 1 [kB 12 true] (RS.dn (A0 (I0 (B0 (C0 (u0 3 [kB 4 false,(3,.val (vP none)),(2,.val (vP none))] (RS.dn (A0 (G0 ?_)))))))));cases h;exact fun a w hs=>sqR (rtR (rS hs))
 ·try dsimp only at h
  refine u0 1 [kB 12 false] (RS.dn (A0 (J0 (K0 (A0 (B0 (B0 (C0 (u0 1 [kI 7 0] ?_)))))))));refine RS.dn (A0 (O0 0 ?_));obtain ⟨o,hl,h⟩:=bind_some h;rcases o with ⟨H18,v7_19⟩ | r
  ·try dsimp only at h
   refine U0 (T8 (L:=L) (E:=E) (m:=m) (H:=H)) (L.ok hl) 0 ?_;clear hl;refine fun a w hs=>bkE ((A0 ?_ a w hs));refine B0 (C0 (u0 5 [kB 4 true,kP 3 p3,kP 2 q5,kP 44 p3,kP 43 q5] (RS.dn (A0 (G0 ?_)))));cases h;exact fun a w hs=>rtR (rS hs)
  ·try dsimp only at h
   refine T0 (T8 (L:=L) (E:=E) (m:=m) (H:=H)) (L.ok hl) 0 ?_;cases h;exact fun a w hq=>bkR (sqR (rtR hq))
def z3h:(Sl3×AH)→Value
 | (r0,_)=>(Sl3.v r0)
def z3z (_:AH):(Sl3×AH)→AH:=fun r=>r.2
noncomputable def B61:Code:=(Tryd.f61.body).getD .skip
noncomputable def J6 (L:LC) (m:Nat) (H:AH) (a0:Value):Option (Sl3×AH) :=
 (X4 L m H Sl3.nil a0).bind fun (x1,H2) => some (x1,H2)
theorem z47 {L:LC} {m:Nat} {H:AH} {a0:Value} {r:(Sl3×AH)} (h:J6 L m H a0=some r) :
  CallS Tryd.prog (NE.plain 1000) m 61 #[a0] H (z3h r) (z3z H r):=by
 refine CallS.mk (args:=[a0]) Tryd.func61 (B:=B61) (by kernel_rfl) (fun E _=>?_);unfold J6 at h;refine B0 (C0 (u0 1 [kS 2 Sl3.nil] (RS.dn (A0 (B0 (C0 (u0 1 [(3,.val a0)] ?_)))))));obtain ⟨⟨x1,H2⟩,hx,h⟩:=bind_some h;try dsimp only at h
 refine RS.cl (some 4) (v:=(Sl3.v x1)) 75 _ (z2v hx) (u0 1 [kS 2 x1] (RS.dn (A0 (G0 ?_))));cases h;exact fun a w hs=>rtR (rS hs)
def z42:(Sl3×AH)→Value
 | (r0,_)=>(Sl3.v r0)
def z56 (_:AH):(Sl3×AH)→AH:=fun r=>r.2
noncomputable def B36:Code:=(Tryd.f36.body).getD .skip
noncomputable def M5 (L:LC) (m:Nat) (H:AH) (a0:Value):Option (Sl3×AH) :=
 (J6 L m H a0).bind fun (x1,H2) => (T6 L m H2 x1).bind fun H3 => some (x1,H3)
theorem z5a {L:LC} {m:Nat} {H:AH} {a0:Value} {r:(Sl3×AH)} (h:M5 L m H a0=some r) :
  CallS Tryd.prog (NE.plain 1000) m 36 #[a0] H (z42 r) (z56 H r):=by
 refine CallS.mk (args:=[a0]) Tryd.func36 (B:=B36) (by kernel_rfl) (fun E _=>?_);unfold M5 at h;refine B0 (C0 (u0 1 [kS 2 Sl3.nil] (RS.dn (A0 (B0 (C0 (u0 1 [(4,.val a0)] ?_)))))));obtain ⟨⟨x1,H2⟩,hx,h⟩:=bind_some h;try dsimp only at h
 refine RS.cl (some 5) (v:=(Sl3.v x1)) 61 _ (z47 hx) (u0 1 [kS 3 x1] (RS.dn (A0 (B0 (C0 (u0 1 [kS 6 x1] ?_))))));obtain ⟨H3,hx,h⟩:=bind_some h;refine RS.cl (some 7) (v:=(Value.tuple #[])) 55 _ (z6g hx) (RS.dn (A0 (B0 (C0 (u0 2 [kS 2 x1,kS 8 x1] (RS.dn (A0 (G0 ?_))))))));cases h;exact fun a w hs=>rtR (rS hs)
def z40:(Value×AH)→Value
 | (r0,_)=>r0
def z52 (_:AH):(Value×AH)→AH:=fun r=>r.2
noncomputable def B37:Code:=(Tryd.f37.body).getD .skip
noncomputable def Z6 (_L:LC) (_m:Nat) (H:AH) (a0:Sl3):Option (Value×AH) :=
 (newB 27 [(Sl3.v a0)] H).bind fun (p1,H2) => some ((Value.func (.func 62) #[] #[(vP (some p1))]),H2)
theorem z4s {L:LC} {m:Nat} {H:AH} {a0:Sl3} {r:(Value×AH)} (h:Z6 L m H a0=some r) :
  CallS Tryd.prog (NE.plain 1000) m 37 #[(Sl3.v a0)] H (z40 r) (z52 H r):=by
 refine CallS.mk (args:=[(Sl3.v a0)]) Tryd.func37 (B:=B37) (by kernel_rfl) (fun E _=>?_);unfold Z6 at h;refine B0 (C0 ?_);obtain ⟨⟨p1,H2⟩,hx,h⟩:=bind_some h;try dsimp only at h
 refine RS.o (H':=H2) (some 1) (vP (some p1)) (Abs.run_newB (by kernel_rfl) hx) (u0 1 [(2,.val Value.nilFunc)] (RS.dn (A0 (B0 (C0 (u0 2 [(2,.val (Value.func (.func 62) #[] #[(vP (some p1))])),(3,.val (Value.func (.func 62) #[] #[(vP (some p1))]))] (RS.dn (A0 (G0 ?_)))))))));cases h;exact fun a w hs=>rtR (rS hs)
def V9:(Sl3×AH)→Value
 | (r0,_)=>(Sl3.v r0)
def zl (_:AH):(Sl3×AH)→AH:=fun r=>r.2
noncomputable def B15:Code:=(Tryd.f15.body).getD .skip
noncomputable def E4 (L:LC) (m:Nat) (H:AH) (a0:Option Addr) (a1:Int):Option (Sl3×AH) :=
 (T2 L H a0 a1).bind fun x1 => if x1=true then
  a0.bind fun q2 => (rd deSl H (Addr.add q2 5)).bind fun x3 => (rd deSl H (Addr.add q2 4)).bind fun x4 => (idxA 1 x4 a1).bind fun p5 => (rd (deI .i64) H p5).bind fun x6 => (idxA 1 x3 x6).bind fun p7 => (rd deP H p7).bind fun x8 => x8.bind fun q9 => (rd deSl H (Addr.add q9 1)).bind fun x10 => (Z6 L m H x10).bind fun (x11,H12) => (M5 L m H12 x11).bind fun (x13,H14) => some (x13,H14)
 else
  some (Sl3.nil,H)
theorem zi {L:LC} {m:Nat} {H:AH} {a0:Option Addr} {a1:Int} {r:(Sl3×AH)} (h:E4 L m H a0 a1=some r) :
  CallS Tryd.prog (NE.plain 1000) m 15 #[(vP a0),(vI .i64 a1)] H (V9 r) (zl H r):=by
 refine CallS.mk (args:=[(vP a0),(vI .i64 a1)]) Tryd.func15 (B:=B15) (by kernel_rfl) (fun E _=>?_);unfold E4 at h;refine B0 (C0 (u0 1 [kS 4 Sl3.nil] (RS.dn (A0 (B0 (B0 (C0 (u0 2 [kI 6 a1,(5,.val (vP a0))] ?_))))))));obtain ⟨x1,hx,h⟩:=bind_some h;refine RS.cl (some 7) (v:=(vB x1)) 31 _ (X3 hx) (u0 1 [kB 8 (!x1)] (RS.dn (A0 ?_)));rcases X0 h with ⟨hp,h⟩ | ⟨hp,h⟩
 ·refine E0 8 false (nb_not hp) (J0 (K0 (A0 (B0 ?_))));refine P0 [0,1,2,3,4,5,6,7,8,9,10,11,12,13,14,15] [0,1,3,7,0,16,48,112,0,496,1008,2047,4095,8191,16383,32767,65535,131071,262143] 19 (fun hcl=>?_);refine D0 0 (some 9) (vP a0) ?_;obtain ⟨q2,hx,hq2⟩:=bind_some h;subst hx;have h:=hq2;refine D0 1 (some 10) (vP (some q2)) (D0 2 (some 11) (vP (some (Addr.add q2 5))) ?_);obtain ⟨x3,hx,h⟩:=bind_some h;refine F0 3 (some 12) (Sl3.v x3) (Abs.det_load (t:=60) (x:=.tmp 11) (a:=(Addr.add q2 5)) (by kernel_rfl) (by kernel_rfl) (by kernel_rfl) (by kernel_rfl) (W0 hx Z0)) (D0 4 (some 13) (vP (some q2)) (D0 5 (some 14) (vP (some q2)) (D0 6 (some 15) (vP (some (Addr.add q2 4))) ?_)));obtain ⟨x4,hx,h⟩:=bind_some h;refine F0 7 (some 16) (Sl3.v x4) (Abs.det_load (t:=27) (x:=.tmp 15) (a:=(Addr.add q2 4)) (by kernel_rfl) (by kernel_rfl) (by kernel_rfl) (by kernel_rfl) (W0 hx Z0)) (D0 8 (some 17) (vI .i64 a1) ?_);obtain ⟨p5,hx,h⟩:=bind_some h;refine F0 9 (some 18) (vP (some p5)) (Abs.det_idx (s:=x4) (k:=.i64) (t:=27) (e:=3) (x:=.tmp 16) (y:=.tmp 17) (by kernel_rfl) (by kernel_rfl) (by kernel_rfl) (by kernel_rfl) (by kernel_rfl) hx) ?_;obtain ⟨x6,hx,h⟩:=bind_some h;refine F0 10 (some 19) (vI .i64 x6) (Abs.det_load (t:=3) (x:=.tmp 18) (a:=p5) (by kernel_rfl) (by kernel_rfl) (by kernel_rfl) (by kernel_rfl) (W0 hx D1)) ?_;obtain ⟨p7,hx,h⟩:=bind_some h;refine F0 11 (some 20) (vP (some p7)) (Abs.det_idx (s:=x3) (k:=.i64) (t:=60) (e:=79) (x:=.tmp 12) (y:=.tmp 19) (by kernel_rfl) (by kernel_rfl) (by kernel_rfl) (by kernel_rfl) (by kernel_rfl) hx) ?_;obtain ⟨x8,hx,h⟩:=bind_some h;refine F0 12 (some 21) (vP x8) (Abs.det_load (t:=79) (x:=.tmp 20) (a:=p7) (by kernel_rfl) (by kernel_rfl) (by kernel_rfl) (by kernel_rfl) (W0 hx O5)) ?_;obtain ⟨q9,hx,hq9⟩:=bind_some h;subst hx;have h:=hq9;refine D0 13 (some 22) (vP (some q9)) (D0 14 (some 23) (vP (some (Addr.add q9 1))) ?_);obtain ⟨x10,hx,h⟩:=bind_some h;refine F0 15 (some 24) (Sl3.v x10) (Abs.det_load (t:=27) (x:=.tmp 23) (a:=(Addr.add q9 1)) (by kernel_rfl) (by kernel_rfl) (by kernel_rfl) (by kernel_rfl) (W0 hx Z0)) ?_;obtain ⟨⟨x11,H12⟩,hx,h⟩:=bind_some h;try dsimp only at h
  refine DA.on 16 (DA.aC 16 (some 25) (v:=x11) 37 #[(Sl3.v x10)] (z4s hx) ?_);obtain ⟨⟨x13,H14⟩,hx,h⟩:=bind_some h;try dsimp only at h
  refine DA.on 17 (DA.aC 17 (some 26) (v:=(Sl3.v x13)) 36 #[x11] (z5a hx) (DA.tP 18 (some 4) (Sl3.v x13) (DA.dn (A0 (G0 ?_)))));cases h;exact fun a w hs=>rtR (rS hs)
 ·refine E0 8 true (U4 hp) (I0 (B0 (C0 (u0 1 [kS 4 Sl3.nil] (RS.dn (A0 (G0 ?_)))))));cases h;exact fun a w hs=>sqR (rtR (rS hs))
def M3:(Bool×AH)→Value
 | (r0,_)=>(vB r0)
def P3 (_:AH):(Bool×AH)→AH:=fun r=>r.2
noncomputable def B4:Code:=(Tryd.f4.body).getD .skip
noncomputable def O2 (L:LC) (x1:Option Addr) (_q5:Addr) (_x6:Sl3) (v7_8 x9:Int) (x11:Sl3) (H12:AH):(Bool×Int)→Option (Lp (Bool×Int) (Bool×AH)):=fun (v11_16,v12_17) =>
 if v12_17<(x11.n:Int) then
  (idxA 1 x11 v12_17).bind fun p18 => (rd (deI .i64) H12 p18).bind fun x19 => (C2 L H12 x1 x19).bind fun (x20,_) => Option.bind (α:=Bool) (
   if v11_16=true then
    some true
   else
    (idxA 1 x11 v12_17).bind fun p23 => (rd (deI .i64) H12 p23).bind fun x24 => some (decide (x24=v7_8))) fun v11_22 =>
  Option.bind (α:=Bool) (
   if x20=x9 then
    if v12_17 > 0 then
     (idxA 1 x11 v12_17).bind fun p26 => (rd (deI .i64) H12 p26).bind fun x27 => (idxA 1 x11 (IntKind.i64.wrap (v12_17 - 1))).bind fun p28 => (rd (deI .i64) H12 p28).bind fun x29 => some (decide (x27≤x29))
    else
     some false
   else
    some true) fun v109_25 =>
  if v109_25=true then
   some (.ret (false,H12))
  else
   some (.next (v11_22,(IntKind.i64.wrap (v12_17+1))))
 else
  some (.brk (v11_16,v12_17))
def m9 (_L:LC) (x1:Option Addr) (q5:Addr) (x6:Sl3) (v7_8 x9:Int) (x11:Sl3) (_H12:AH):(Bool×Int)→KN×Lcs:=fun (v11_16,v12_17)=>([kB 11 v11_16,kI 12 v12_17,(3,.val (vP x1)),kP 4 q5,kI 6 (x6.n:Int),kI 7 v7_8,kI 8 x9,kS 10 x11],[])
noncomputable def P2 (L:LC) (x1:Option Addr) (_q5:Addr) (_x6:Sl3) (_v7_8 _x9:Int) (H12:AH) (_v15_32 _x37_0:Int) (_x37_1:Bool) (x37_2:Sl3) (_x40_0:Int) (_x40_1:Bool) (x40_2:Sl3):(Bool×Int)→Option (Lp (Bool×Int) (Bool×AH)):=fun (v20_42,v21_43) =>
 if v21_43<(x37_2.n:Int) then
  Option.bind (α:=Bool) (
   (idxA 1 x37_2 v21_43).bind fun p45 => (rd (deI .i64) H12 p45).bind fun x46 => (C2 L H12 x1 x46).bind fun (x47,_) => (idxA 1 x40_2 v21_43).bind fun p49 => (rd (deI .i64) H12 p49).bind fun x50 => (C2 L H12 x1 x50).bind fun (x51,_) => if v20_42=true then
    some (decide (x47=x51))
   else
    some false) fun v20_44 =>
  some (.next (v20_44,(IntKind.i64.wrap (v21_43+1))))
 else
  some (.brk (v20_42,v21_43))
def F9 (_L:LC) (x1:Option Addr) (q5:Addr) (x6:Sl3) (v7_8 x9:Int) (_H12:AH) (v15_32 x37_0:Int) (x37_1:Bool) (x37_2:Sl3) (x40_0:Int) (x40_1:Bool) (x40_2:Sl3):(Bool×Int)→KN×Lcs:=fun (v20_42,v21_43)=>([kB 20 v20_42,kI 21 v21_43,(3,.val (vP x1)),kP 4 q5,kI 6 (x6.n:Int),kI 7 v7_8,kI 8 x9,kI 15 v15_32,kL 18 0 0,kL 19 1 0],[some (42,[(vI .i64 x37_0),(vB x37_1),(Sl3.v x37_2)]),some (42,[(vI .i64 x40_0),(vB x40_1),(Sl3.v x40_2)])])
noncomputable def Q2 (L:LC) (x1:Option Addr) (q5:Addr) (x6:Sl3) (v7_8 x9:Int) (H12:AH):Int→Option (Lp Int (Bool×AH)):=fun v15_32 =>
 if v15_32<v7_8 then
  Option.bind (α:=Unit⊕(Lp Int (Bool×AH))) (
   (C2 L H12 x1 v15_32).bind fun (x33,_) => (rd deSl H12 (Addr.add q5 0)).bind fun x35 => (idxA 3 x35 v7_8).bind fun p36 => (rd (deI .i64) H12 (Addr.add p36 0)).bind fun x37_0 => (rd deB H12 (Addr.add p36 1)).bind fun x37_1 => (rd deSl H12 (Addr.add p36 2)).bind fun x37_2 => (rd deSl H12 (Addr.add q5 0)).bind fun x38 => (idxA 3 x38 v15_32).bind fun p39 => (rd (deI .i64) H12 (Addr.add p39 0)).bind fun x40_0 => (rd deB H12 (Addr.add p39 1)).bind fun x40_1 => (rd deSl H12 (Addr.add p39 2)).bind fun x40_2 => Option.bind (α:=Bool) (
    if x37_1=true then
     some true
    else
     if x40_1=true then
      some true
     else
      if x37_0=x40_0 then
       if (x37_2.n:Int)=(x40_2.n:Int) then
        some (decide (x9=x33))
       else
        some true
      else
       some true) fun v163_41 =>
   if v163_41=true then
    some (.inl ())
   else
    (L.run (P2 L x1 q5 x6 v7_8 x9 H12 v15_32 x37_0 x37_1 x37_2 x40_0 x40_1 x40_2) (true,0)).bind fun o=>match o with
    | .inl (v20_53,_) =>
     if v20_53=true then
      ((some (.ret (false,H12))).map .inr)
     else
      some (.inl ())
    | .inr r=>((some (.ret r)).map .inr)) fun o=>match o with
  | .inl _ =>
   some (.next (IntKind.i64.wrap (v15_32+1)))
  | .inr r=>some r
 else
  some (.brk v15_32)
def o9 (_L:LC) (x1:Option Addr) (q5:Addr) (x6:Sl3) (v7_8 x9:Int) (_H12:AH):Int→KN×Lcs:=fun v15_32=>([kI 15 v15_32,(3,.val (vP x1)),kP 4 q5,kI 6 (x6.n:Int),kI 7 v7_8,kI 8 x9],[])
noncomputable def W2 (L:LC) (m:Nat) (x1:Option Addr) (q5:Addr) (x6:Sl3):(AH×Int)→Option (Lp (AH×Int) (Bool×AH)):=fun (H7,v7_8) =>
 if v7_8<(x6.n:Int) then
  (C2 L H7 x1 v7_8).bind fun (x9,x10) => (E4 L m H7 x1 v7_8).bind fun (x11,H12) => Option.bind (α:=Bool) (
   if x10=true then
    if (x11.n:Int)=0 then
     some true
    else
     (idxA 1 x11 0).bind fun p14 => (rd (deI .i64) H12 p14).bind fun x15 => some (!decide (x15=x9))
   else
    some true) fun v66_13 =>
  if v66_13=true then
   some (.ret (false,H12))
  else
   (L.run (O2 L x1 q5 x6 v7_8 x9 x11 H12) (false,0)).bind fun o=>match o with
   | .inl (v11_30,_) =>
    if v11_30=true then
     (L.run (Q2 L x1 q5 x6 v7_8 x9 H12) 0).bind fun o=>match o with
     | .inl _ =>
      some (.next (H12,(IntKind.i64.wrap (v7_8+1))))
     | .inr r=>some (.ret r)
    else
     some (.ret (false,H12))
   | .inr r=>some (.ret r)
 else
  some (.brk (H7,v7_8))
def p9 (_L:LC) (_m:Nat) (x1:Option Addr) (q5:Addr) (x6:Sl3):(AH×Int)→KN×Lcs:=fun (_,v7_8)=>([kI 7 v7_8,(3,.val (vP x1)),kP 4 q5,kI 6 (x6.n:Int)],[])
noncomputable def D5 (L:LC) (m:Nat) (H:AH) (a0:Sl3):Option (Bool×AH) :=
 (S6 L m H a0).bind fun (x1,x2,x3,H4) => if x3=true then
  x2.bind fun q5 => (rd deSl H4 (Addr.add q5 0)).bind fun x6 => (L.run (W2 L m x1 q5 x6) (H4,0)).bind fun o=>match o with
  | .inl (H56,_) =>
   (V6 L H56).bind fun x58 => some (x58,H56)
  | .inr r=>some r
 else
  some (false,H4)
theorem i6 {E m H L x1 q5 x6 v7_8 x9 x11 H12} :LoopF Tryd.prog (NE.plain 1000) m E Tryd.f4 ((cfst (csnd (cfst (csnd (csnd (csnd (csnd (cfst (cfst (csnd (cfst (cfst (csnd (cfst (csnd (csnd (csnd (csnd B4))))))))))))))))))) (m9 L x1 q5 x6 v7_8 x9 x11 H12) (fun _=>H12) 2 M3 (P3 H) (O2 L x1 q5 x6 v7_8 x9 x11 H12):=by
 rintro ⟨v11_16,v12_17⟩ o h
 unfold O2 at h;try dsimp only at h
 refine B0 (B0 (C0 (u0 4 [kB 70 (decide (v12_17<(x11.n:Int))),kI 69 (x11.n:Int),kS 68 x11,kI 67 v12_17] (RS.dn (A0 ?_)))));rcases X0 h with ⟨hp,h⟩ | ⟨hp,h⟩
 ·refine E0 70 true (decide_eq_true hp) (I0 (K0 (A0 (B0 (O0 3 (B0 (C0 (u0 3 [kI 76 v12_17,kS 75 x11,(74,.val (vP x1))] ?_))))))));obtain ⟨p18,hx,h⟩:=bind_some h;refine Q0 77 27 3 (.tmp 75) (.tmp 76) hx ?_;obtain ⟨x19,hx,h⟩:=bind_some h;refine M0 78 3 (.tmp 77) (W0 hx D1) ?_;obtain ⟨⟨x20,x21⟩,hx,h⟩:=bind_some h;try dsimp only at h
  refine RS.cl (some 79) (v:=(Value.tuple #[(vI .i64 x20),(vB x21)])) 14 _ (A3 hx) (u0 5 [kB 14 x21,kI 13 x20,kB 81 x21,kI 80 x20,(73,.val (Value.tuple #[(vI .i64 x20),(vB x21)]))] (RS.dn (A0 ?_)));obtain ⟨v11_22,hx,h⟩:=bind_some h;refine B0 ?_;refine WS.join ([kB 11 v11_22,(3,.val (vP x1)),kP 4 q5,kI 6 (x6.n:Int),kI 7 v7_8,kI 8 x9,kS 10 x11,kI 12 v12_17,kI 13 x20]) ([]) H12 ?_ (fun a w hs=>A0 ?_ a w hs)
  ·clear h; rename _=>h;refine C0 (u0 2 [kB 83 v11_16,kB 82 v11_16] ?_);rcases X0 h with ⟨hp,h⟩ | ⟨hp,h⟩
   ·refine N0 83 true hp (u0 8 [kB 11 true,kB 90 true,kU 89,kU 88,kU 87,kU 86,kU 85,kU 84] (RS.dn ?_));cases h;exact fun a w hs=>(jsN (hs.sb 0))
   ·refine N0 83 false (b_not hp) (u0 2 [kI 85 v12_17,kS 84 x11] ?_);obtain ⟨p23,hx,h⟩:=bind_some h;refine Q0 86 27 3 (.tmp 84) (.tmp 85) hx ?_;obtain ⟨x24,hx,h⟩:=bind_some h;refine M0 87 3 (.tmp 86) (W0 hx D1) (u0 4 [kB 11 (decide (x24=v7_8)),kB 90 (decide (x24=v7_8)),kB 89 (decide (x24=v7_8)),kI 88 v7_8] (RS.dn ?_));cases h;exact fun a w hs=>(jsN (hs.sb 0))
  ·clear hx;obtain ⟨v109_25,hx,h⟩:=bind_some h;refine B0 ?_;refine WS.join ([kB 109 v109_25,(3,.val (vP x1)),kP 4 q5,kI 6 (x6.n:Int),kI 7 v7_8,kI 8 x9,kS 10 x11,kB 11 v11_22,kI 12 v12_17]) ([]) H12 ?_ (fun a w hs=>A0 ?_ a w hs)
   ·clear h; rename _=>h;refine P0 [0,1,2,3,4,5,6,7,8,9,10,11,12,13,14,15] [0,0,3,7,15,31,63,127,127,511,1023,127,127,4223,14463,30847,65535,131071,262143] 19 (fun hcl=>?_);refine D0 0 (some 91) (vI .i64 x20) (D0 1 (some 92) (vI .i64 x9) (D0 2 (some 93) (vB (!decide (x20=x9))) (D0 3 (some 94) (vB (!decide (x20=x9))) ?_)));rcases X0 h with ⟨hp,h⟩ | ⟨hp,h⟩
    ·refine DA.fx 94 false (A7 hp) (D0 4 (some 95) (vI .i64 v12_17) (D0 5 (some 96) (vB (decide (v12_17 > 0))) (D0 6 (some 97) (vB (decide (v12_17 > 0))) ?_)));rcases X0 h with ⟨hp,h⟩ | ⟨hp,h⟩
     ·refine DA.fx 97 true (decide_eq_true hp) (D0 7 (some 98) (Sl3.v x11) (D0 8 (some 99) (vI .i64 v12_17) ?_));obtain ⟨p26,hx,h⟩:=bind_some h;refine F0 9 (some 100) (vP (some p26)) (Abs.det_idx (s:=x11) (k:=.i64) (t:=27) (e:=3) (x:=.tmp 98) (y:=.tmp 99) (by kernel_rfl) (by kernel_rfl) (by kernel_rfl) (by kernel_rfl) (by kernel_rfl) hx) ?_;obtain ⟨x27,hx,h⟩:=bind_some h;refine F0 10 (some 101) (vI .i64 x27) (Abs.det_load (t:=3) (x:=.tmp 100) (a:=p26) (by kernel_rfl) (by kernel_rfl) (by kernel_rfl) (by kernel_rfl) (W0 hx D1)) (D0 11 (some 102) (Sl3.v x11) (D0 12 (some 103) (vI .i64 v12_17) (D0 13 (some 104) (vI .i64 (IntKind.i64.wrap (v12_17 - 1))) ?_)));obtain ⟨p28,hx,h⟩:=bind_some h;refine F0 14 (some 105) (vP (some p28)) (Abs.det_idx (s:=x11) (k:=.i64) (t:=27) (e:=3) (x:=.tmp 102) (y:=.tmp 104) (by kernel_rfl) (by kernel_rfl) (by kernel_rfl) (by kernel_rfl) (by kernel_rfl) hx) ?_;obtain ⟨x29,hx,h⟩:=bind_some h;refine F0 15 (some 106) (vI .i64 x29) (Abs.det_load (t:=3) (x:=.tmp 105) (a:=p28) (by kernel_rfl) (by kernel_rfl) (by kernel_rfl) (by kernel_rfl) (W0 hx D1)) (DA.tP 16 (some 107) (vB (decide (x27≤x29))) (DA.tP 17 (some 108) (vB (decide (x27≤x29))) (DA.tP 18 (some 109) (vB (decide (x27≤x29))) (DA.dn ?_))));cases h;exact fun a w hs=>(jsN (hs.sb 0))
     ·refine DA.fx 97 false (decide_eq_false hp) ?_;refine R0 7 (some 98) (by kernel_rfl) (by kernel_rfl) (by kernel_rfl) hcl (fun _ _ _ h=>h) (by kernel_rfl) ?_;refine R0 8 (some 99) (by kernel_rfl) (by kernel_rfl) (by kernel_rfl) hcl (fun _ _ _ h=>h) (by kernel_rfl) ?_;refine R0 9 (some 100) (by kernel_rfl) (by kernel_rfl) (by kernel_rfl) hcl (fun _ _ _ h=>h) (by kernel_rfl) ?_;refine R0 10 (some 101) (by kernel_rfl) (by kernel_rfl) (by kernel_rfl) hcl (fun _ _ _ h=>h) (by kernel_rfl) ?_;refine R0 11 (some 102) (by kernel_rfl) (by kernel_rfl) (by kernel_rfl) hcl (fun _ _ _ h=>h) (by kernel_rfl) ?_;refine R0 12 (some 103) (by kernel_rfl) (by kernel_rfl) (by kernel_rfl) hcl (fun _ _ _ h=>h) (by kernel_rfl) ?_;refine R0 13 (some 104) (by kernel_rfl) (by kernel_rfl) (by kernel_rfl) hcl (fun _ _ _ h=>h) (by kernel_rfl) ?_;refine R0 14 (some 105) (by kernel_rfl) (by kernel_rfl) (by kernel_rfl) hcl (fun _ _ _ h=>h) (by kernel_rfl) ?_;refine R0 15 (some 106) (by kernel_rfl) (by kernel_rfl) (by kernel_rfl) hcl (fun _ _ _ h=>h) (by kernel_rfl) ?_;refine DA.tskipP 16 (some 107) (by kernel_rfl) (by kernel_rfl) (by kernel_rfl) hcl (fun _ _ _ h=>h) (by kernel_rfl) ?_;refine DA.tP 17 (some 108) (vB false) (DA.tP 18 (some 109) (vB false) (DA.dn ?_));cases h;exact fun a w hs=>(jsN (hs.sb 0))
    ·refine DA.fx 94 true (l6 hp) ?_;refine R0 4 (some 95) (by kernel_rfl) (by kernel_rfl) (by kernel_rfl) hcl (fun _ _ _ h=>h) (by kernel_rfl) ?_;refine R0 5 (some 96) (by kernel_rfl) (by kernel_rfl) (by kernel_rfl) hcl (fun _ _ _ h=>h) (by kernel_rfl) ?_;refine R0 6 (some 97) (by kernel_rfl) (by kernel_rfl) (by kernel_rfl) hcl (fun _ _ _ h=>h) (by kernel_rfl) ?_;refine R0 7 (some 98) (by kernel_rfl) (by kernel_rfl) (by kernel_rfl) hcl (fun _ _ _ h=>h) (by kernel_rfl) ?_;refine R0 8 (some 99) (by kernel_rfl) (by kernel_rfl) (by kernel_rfl) hcl (fun _ _ _ h=>h) (by kernel_rfl) ?_;refine R0 9 (some 100) (by kernel_rfl) (by kernel_rfl) (by kernel_rfl) hcl (fun _ _ _ h=>h) (by kernel_rfl) ?_;refine R0 10 (some 101) (by kernel_rfl) (by kernel_rfl) (by kernel_rfl) hcl (fun _ _ _ h=>h) (by kernel_rfl) ?_;refine R0 11 (some 102) (by kernel_rfl) (by kernel_rfl) (by kernel_rfl) hcl (fun _ _ _ h=>h) (by kernel_rfl) ?_;refine R0 12 (some 103) (by kernel_rfl) (by kernel_rfl) (by kernel_rfl) hcl (fun _ _ _ h=>h) (by kernel_rfl) ?_;refine R0 13 (some 104) (by kernel_rfl) (by kernel_rfl) (by kernel_rfl) hcl (fun _ _ _ h=>h) (by kernel_rfl) ?_;refine R0 14 (some 105) (by kernel_rfl) (by kernel_rfl) (by kernel_rfl) hcl (fun _ _ _ h=>h) (by kernel_rfl) ?_;refine R0 15 (some 106) (by kernel_rfl) (by kernel_rfl) (by kernel_rfl) hcl (fun _ _ _ h=>h) (by kernel_rfl) ?_;refine DA.tskipP 16 (some 107) (by kernel_rfl) (by kernel_rfl) (by kernel_rfl) hcl (fun _ _ _ h=>h) (by kernel_rfl) ?_;refine DA.tskipP 17 (some 108) (by kernel_rfl) (by kernel_rfl) (by kernel_rfl) hcl (fun _ _ _ h=>h) (by kernel_rfl) ?_;refine DA.tP 18 (some 109) (vB true) (DA.dn ?_);cases h;exact fun a w hs=>(jsN (hs.sb 0))
   ·clear hx;rcases X0 h with ⟨hp,h⟩ | ⟨hp,h⟩
    ·refine E0 109 true hp (I0 (B0 (C0 (u0 1 [kB 2 false] (RS.dn (A0 (G0 ?_)))))));cases h;exact fun a w hs=>bkR (sqR (lsR rfl (rS hs)))
    ·refine E0 109 false (b_not hp) (J0 (K0 ?_));refine fun a w hs=>bkN ((A0 ?_ a w hs));refine C0 (u0 3 [kI 12 (IntKind.i64.wrap (v12_17+1)),kI 72 (IntKind.i64.wrap (v12_17+1)),kI 71 v12_17] (RS.dn ?_));cases h;exact fun a w hs=>lsN rfl (hs.sb 0)
 ·refine E0 70 false (decide_eq_false hp) (J0 (WS.ex 2 ?_));cases h;exact fun a w hs=>sqE (lsB rfl (hs.sb 0))
theorem T3 {E m H L x1 q5 x6 v7_8 x9 H12 v15_32 x37_0 x37_1 x37_2 x40_0 x40_1 x40_2} :LoopF Tryd.prog (NE.plain 1000) m E Tryd.f4 ((cfst (csnd (cfst (csnd (csnd (csnd (csnd (cfst (cfst (csnd (cfst (cfst (csnd (csnd (csnd (csnd (csnd (csnd (csnd (cfst (cfst (csnd (cfst (cfst (csnd (cfst (csnd (csnd (csnd (csnd B4))))))))))))))))))))))))))))))) (F9 L x1 q5 x6 v7_8 x9 H12 v15_32 x37_0 x37_1 x37_2 x40_0 x40_1 x40_2) (fun _=>H12) 6 M3 (P3 H) (P2 L x1 q5 x6 v7_8 x9 H12 v15_32 x37_0 x37_1 x37_2 x40_0 x40_1 x40_2):=by
 rintro ⟨v20_42,v21_43⟩ o h
 unfold P2 at h;try dsimp only at h
 refine B0 (B0 (C0 (u0 5 [kB 168 (decide (v21_43<(x37_2.n:Int))),kI 167 (x37_2.n:Int),kS 166 x37_2,kL 165 0 2,kI 164 v21_43] (RS.dn (A0 ?_)))));rcases X0 h with ⟨hp,h⟩ | ⟨hp,h⟩
 ·refine E0 168 true (decide_eq_true hp) (I0 (K0 (A0 ?_)));obtain ⟨v20_44,hx,h⟩:=bind_some h;refine B0 ?_;refine WS.join ([kB 20 v20_44,(3,.val (vP x1)),kP 4 q5,kI 6 (x6.n:Int),kI 7 v7_8,kI 8 x9,kI 15 v15_32,kL 18 0 0,kL 19 1 0,kI 21 v21_43]) ([some (42,[(vI .i64 x37_0),(vB x37_1),(Sl3.v x37_2)]),some (42,[(vI .i64 x40_0),(vB x40_1),(Sl3.v x40_2)])]) H12 ?_ (fun a w hs=>A0 ?_ a w hs)
  ·clear h; rename _=>h;refine O0 7 (B0 (C0 (u0 4 [kI 175 v21_43,kS 174 x37_2,kL 173 0 2,(172,.val (vP x1))] ?_)));obtain ⟨p45,hx,h⟩:=bind_some h;refine Q0 176 27 3 (.tmp 174) (.tmp 175) hx ?_;obtain ⟨x46,hx,h⟩:=bind_some h;refine M0 177 3 (.tmp 176) (W0 hx D1) ?_;obtain ⟨⟨x47,x48⟩,hx,h⟩:=bind_some h;try dsimp only at h
   refine RS.cl (some 178) (v:=(Value.tuple #[(vI .i64 x47),(vB x48)])) 14 _ (A3 hx) (u0 5 [kB 23 x48,kI 22 x47,kB 180 x48,kI 179 x47,(171,.val (Value.tuple #[(vI .i64 x47),(vB x48)]))] (RS.dn (A0 (B0 (C0 (u0 4 [kI 185 v21_43,kS 184 x40_2,kL 183 1 2,(182,.val (vP x1))] ?_))))));obtain ⟨p49,hx,h⟩:=bind_some h;refine Q0 186 27 3 (.tmp 184) (.tmp 185) hx ?_;obtain ⟨x50,hx,h⟩:=bind_some h;refine M0 187 3 (.tmp 186) (W0 hx D1) ?_;obtain ⟨⟨x51,x52⟩,hx,h⟩:=bind_some h;try dsimp only at h
   refine RS.cl (some 188) (v:=(Value.tuple #[(vI .i64 x51),(vB x52)])) 14 _ (A3 hx) (u0 5 [kB 25 x52,kI 24 x51,kB 190 x52,kI 189 x51,(181,.val (Value.tuple #[(vI .i64 x51),(vB x52)]))] (RS.dn (A0 (C0 (u0 2 [kB 192 v20_42,kB 191 v20_42] ?_)))));rcases X0 h with ⟨hp,h⟩ | ⟨hp,h⟩
   ·refine N0 192 true hp (u0 5 [kB 20 (decide (x47=x51)),kB 196 (decide (x47=x51)),kB 195 (decide (x47=x51)),kI 194 x51,kI 193 x47] (RS.dn ?_));cases h;exact fun a w hs=>bkN ((jsN (hs.sb 2)))
   ·refine N0 192 false (b_not hp) (u0 5 [kB 20 false,kB 196 false,kU 195,kU 194,kU 193] (RS.dn ?_));cases h;exact fun a w hs=>bkN ((jsN (hs.sb 2)))
  ·clear hx;refine C0 (u0 3 [kI 21 (IntKind.i64.wrap (v21_43+1)),kI 170 (IntKind.i64.wrap (v21_43+1)),kI 169 v21_43] (RS.dn ?_));cases h;exact fun a w hs=>lsN rfl (hs.sb 2)
 ·refine E0 168 false (decide_eq_false hp) (J0 (WS.ex 6 ?_));cases h;exact fun a w hs=>sqE (lsB rfl (hs.sb 2))
theorem Z5 {E m H L x1 q5 x6 v7_8 x9 H12} :LoopF Tryd.prog (NE.plain 1000) m E Tryd.f4 ((cfst (csnd (csnd (csnd (csnd (csnd (csnd (csnd (cfst (cfst (csnd (cfst (cfst (csnd (cfst (csnd (csnd (csnd (csnd B4)))))))))))))))))))) (o9 L x1 q5 x6 v7_8 x9 H12) (fun _=>H12) 4 M3 (P3 H) (Q2 L x1 q5 x6 v7_8 x9 H12):=by
 rintro v15_32 o h
 unfold Q2 at h;try dsimp only at h
 refine B0 (B0 (C0 (u0 3 [kB 114 (decide (v15_32<v7_8)),kI 113 v7_8,kI 112 v15_32] (RS.dn (A0 ?_)))));rcases X0 h with ⟨hp,h⟩ | ⟨hp,h⟩
 ·refine E0 114 true (decide_eq_true hp) (I0 (K0 (A0 ?_)));obtain ⟨o,hx,h⟩:=bind_some h;rcases o with _ | ro
  ·try dsimp only at h
   refine B0 ?_;refine WS.join ([(3,.val (vP x1)),kP 4 q5,kI 6 (x6.n:Int),kI 7 v7_8,kI 8 x9,kI 15 v15_32]) ([]) H12 ?_ (fun a w hs=>A0 ?_ a w hs)
   ·clear h; rename _=>h;refine O0 5 (B0 (C0 (u0 2 [kI 119 v15_32,(118,.val (vP x1))] ?_)));obtain ⟨⟨x33,x34⟩,hx,h⟩:=bind_some h;try dsimp only at h
    refine RS.cl (some 120) (v:=(Value.tuple #[(vI .i64 x33),(vB x34)])) 14 _ (A3 hx) (u0 5 [kB 17 x34,kI 16 x33,kB 122 x34,kI 121 x33,(117,.val (Value.tuple #[(vI .i64 x33),(vB x34)]))] (RS.dn (A0 (B0 ?_))));obtain ⟨x35,hx_3,h⟩:=bind_some h;obtain ⟨p36,hx_5,h⟩:=bind_some h;obtain ⟨x37_0,hx0_6,h⟩:=bind_some h;obtain ⟨x37_1,hx1_6,h⟩:=bind_some h;obtain ⟨x37_2,hx2_6,h⟩:=bind_some h;obtain ⟨x38,hx_10,h⟩:=bind_some h;obtain ⟨p39,hx_12,h⟩:=bind_some h;obtain ⟨x40_0,hx0_13,h⟩:=bind_some h;obtain ⟨x40_1,hx1_13,h⟩:=bind_some h;obtain ⟨x40_2,hx2_13,h⟩:=bind_some h;refine WS.toone ([(3,.val (vP x1)),kP 4 q5,kI 6 (x6.n:Int),kI 7 v7_8,kI 8 x9,kI 15 v15_32,kI 16 x33,kL 18 0 0,kL 19 1 0]) ([some (42,[(vI .i64 x37_0),(vB x37_1),(Sl3.v x37_2)]),some (42,[(vI .i64 x40_0),(vB x40_1),(Sl3.v x40_2)])]) H12 ?_ ?_
    ·clear h;refine P0 [0,1,2,3,4,5,6,7,8,9,10,11,12,13] [0,1,3,7,0,31,63,0,128,384,896,0,3968,8064,0,0,49279,131071] 18 (fun hcl=>?_);refine D0 0 (some 123) (vP (some q5)) (D0 1 (some 124) (vP (some q5)) (D0 2 (some 125) (vP (some (Addr.add q5 0))) (F0 3 (some 126) (Sl3.v x35) (Abs.det_load (t:=29) (x:=.tmp 125) (a:=(Addr.add q5 0)) (by kernel_rfl) (by kernel_rfl) (by kernel_rfl) (by kernel_rfl) (W0 hx_3 Z0)) (D0 4 (some 127) (vI .i64 v7_8) (F0 5 (some 128) (vP (some p36)) (Abs.det_idx (s:=x35) (k:=.i64) (t:=29) (e:=42) (x:=.tmp 126) (y:=.tmp 127) (by kernel_rfl) (by kernel_rfl) (by kernel_rfl) (by kernel_rfl) (by kernel_rfl) hx_5) (F0 6 (some 129) (vA #[(vI .i64 x37_0),(vB x37_1),(Sl3.v x37_2)]) (Abs.det_loadA (t:=42) (x:=.tmp 128) (a:=p36) (k:=3) (by kernel_rfl) (by kernel_rfl) (by kernel_rfl) (by kernel_rfl) (G1 (W0 hx0_6 D1) (G1 (W0 hx1_6 F6) (G1 (W0 hx2_6 Z0) E6)))) (D0 7 (some 130) (vP (some q5)) (D0 8 (some 131) (vP (some q5)) (D0 9 (some 132) (vP (some (Addr.add q5 0))) ?_)))))))));refine F0 10 (some 133) (Sl3.v x38) (Abs.det_load (t:=29) (x:=.tmp 132) (a:=(Addr.add q5 0)) (by kernel_rfl) (by kernel_rfl) (by kernel_rfl) (by kernel_rfl) (W0 hx_10 Z0)) (D0 11 (some 134) (vI .i64 v15_32) (F0 12 (some 135) (vP (some p39)) (Abs.det_idx (s:=x38) (k:=.i64) (t:=29) (e:=42) (x:=.tmp 133) (y:=.tmp 134) (by kernel_rfl) (by kernel_rfl) (by kernel_rfl) (by kernel_rfl) (by kernel_rfl) hx_12) (F0 13 (some 136) (vA #[(vI .i64 x40_0),(vB x40_1),(Sl3.v x40_2)]) (Abs.det_loadA (t:=42) (x:=.tmp 135) (a:=p39) (k:=3) (by kernel_rfl) (by kernel_rfl) (by kernel_rfl) (by kernel_rfl) (G1 (W0 hx0_13 D1) (G1 (W0 hx1_13 F6) (G1 (W0 hx2_13 Z0) E6)))) ?_)));refine DA.two 14 15 (by kernel_rfl) ?_ ?_
     ·refine DA.aL 14 (some 18) (.loc 0 0) ([some (42,[(vI .i64 0),(vB false),(Sl3.v Sl3.nil)])]) true (DA.on 15 (DA.aL 15 (some 19) (.loc 1 0) ([some (42,[(vI .i64 0),(vB false),(Sl3.v Sl3.nil)]),some (42,[(vI .i64 0),(vB false),(Sl3.v Sl3.nil)])]) true (DA.on 16 (DA.aN 16 none (.val undef) ([some (42,[(vI .i64 x37_0),(vB x37_1),(Sl3.v x37_2)]),some (42,[(vI .i64 0),(vB false),(Sl3.v Sl3.nil)])]) false (DA.on 17 (DA.aL 17 none (.val undef) ([some (42,[(vI .i64 x37_0),(vB x37_1),(Sl3.v x37_2)]),some (42,[(vI .i64 x40_0),(vB x40_1),(Sl3.v x40_2)])]) false (DA.dn ?_)))))));exact fun a w hs=>jsN (hs.sb 2)
     ·refine DA.aL 15 (some 19) (.loc 0 0) ([some (42,[(vI .i64 0),(vB false),(Sl3.v Sl3.nil)])]) true (DA.on 14 (DA.aL 14 (some 18) (.loc 1 0) ([some (42,[(vI .i64 0),(vB false),(Sl3.v Sl3.nil)]),some (42,[(vI .i64 0),(vB false),(Sl3.v Sl3.nil)])]) true (DA.on 16 (DA.aN 16 none (.val undef) ([some (42,[(vI .i64 0),(vB false),(Sl3.v Sl3.nil)]),some (42,[(vI .i64 x37_0),(vB x37_1),(Sl3.v x37_2)])]) false (DA.on 17 (DA.aL 17 none (.val undef) ([some (42,[(vI .i64 x40_0),(vB x40_1),(Sl3.v x40_2)]),some (42,[(vI .i64 x37_0),(vB x37_1),(Sl3.v x37_2)])]) false (DA.dn ?_)))))));exact fun a w hs=>jsN ((hs.sw 0 1).sb 2)
    ·refine A0 (B0 ?_);obtain ⟨v163_41,hx,h⟩:=bind_some h;refine B0 ?_;refine WS.join ([kB 163 v163_41,(3,.val (vP x1)),kP 4 q5,kI 6 (x6.n:Int),kI 7 v7_8,kI 8 x9,kI 15 v15_32,kL 18 0 0,kL 19 1 0]) ([some (42,[(vI .i64 x37_0),(vB x37_1),(Sl3.v x37_2)]),some (42,[(vI .i64 x40_0),(vB x40_1),(Sl3.v x40_2)])]) H12 ?_ (fun a w hs=>A0 ?_ a w hs)
     ·clear h; rename _=>h;refine C0 (u0 3 [kB 139 x37_1,kB 138 x37_1,kL 137 0 1] ?_);rcases X0 h with ⟨hp,h⟩ | ⟨hp,h⟩
      ·refine N0 139 true hp (u0 24 [kB 163 true,kU 162,kU 161,kU 160,kB 159 true,kB 158 true,kU 157,kU 156,kU 155,kU 154,kU 153,kU 152,kU 151,kB 150 true,kB 149 true,kU 148,kU 147,kU 146,kU 145,kU 144,kB 143 true,kB 142 true,kU 141,kU 140] (RS.dn ?_));cases h;exact fun a w hs=>(jsN (hs.sb 2))
      ·refine N0 139 false (b_not hp) (u0 4 [kB 143 x40_1,kB 142 x40_1,kB 141 x40_1,kL 140 1 1] ?_);rcases X0 h with ⟨hp,h⟩ | ⟨hp,h⟩
       ·refine N0 143 true hp (u0 20 [kB 163 true,kU 162,kU 161,kU 160,kB 159 true,kB 158 true,kU 157,kU 156,kU 155,kU 154,kU 153,kU 152,kU 151,kB 150 true,kB 149 true,kU 148,kU 147,kU 146,kU 145,kU 144] (RS.dn ?_));cases h;exact fun a w hs=>(jsN (hs.sb 2))
       ·refine N0 143 false (b_not hp) (u0 7 [kB 150 (!decide (x37_0=x40_0)),kB 149 (!decide (x37_0=x40_0)),kB 148 (!decide (x37_0=x40_0)),kI 147 x40_0,kL 146 1 0,kI 145 x37_0,kL 144 0 0] ?_);rcases X0 h with ⟨hp,h⟩ | ⟨hp,h⟩
        ·refine N0 150 false (A7 hp) (u0 9 [kB 159 (!decide ((x37_2.n:Int)=(x40_2.n:Int))),kB 158 (!decide ((x37_2.n:Int)=(x40_2.n:Int))),kB 157 (!decide ((x37_2.n:Int)=(x40_2.n:Int))),kI 156 (x40_2.n:Int),kS 155 x40_2,kL 154 1 2,kI 153 (x37_2.n:Int),kS 152 x37_2,kL 151 0 2] ?_);rcases X0 h with ⟨hp,h⟩ | ⟨hp,h⟩
         ·refine N0 159 false (A7 hp) (u0 4 [kB 163 (decide (x9=x33)),kB 162 (decide (x9=x33)),kI 161 x33,kI 160 x9] (RS.dn ?_));cases h;exact fun a w hs=>(jsN (hs.sb 2))
         ·refine N0 159 true (l6 hp) (u0 4 [kB 163 true,kU 162,kU 161,kU 160] (RS.dn ?_));cases h;exact fun a w hs=>(jsN (hs.sb 2))
        ·refine N0 150 true (l6 hp) (u0 13 [kB 163 true,kU 162,kU 161,kU 160,kB 159 true,kB 158 true,kU 157,kU 156,kU 155,kU 154,kU 153,kU 152,kU 151] (RS.dn ?_));cases h;exact fun a w hs=>(jsN (hs.sb 2))
     ·clear hx;rcases X0 h with ⟨hp,h⟩ | ⟨hp,h⟩
      ·refine E0 163 true hp (I0 (WS.ex 5 ?_));cases h;exact fun a w hs=>sqE (bkE ((jsN (hs.sb 0))))
      ·refine E0 163 false (b_not hp) (J0 (K0 (A0 (B0 (C0 (u0 1 [kB 20 true] (RS.dn (A0 (B0 ?_)))))))));refine B0 (C0 (u0 1 [kI 21 0] (RS.dn (A0 (O0 6 ?_)))));obtain ⟨o,hl,h⟩:=bind_some h;rcases o with ⟨v20_53,v21_54⟩ | r
       ·try dsimp only at h
        refine U0 (T3 (L:=L) (E:=E) (m:=m) (H:=H)) (L.ok hl) 2 ?_;clear hl;refine fun a w hs=>bkE ((A0 ?_ a w hs));refine B0 (C0 (u0 1 [kB 197 v20_53] (RS.dn (A0 ?_))));rcases X0 h with ⟨hp,h⟩ | ⟨hp,h⟩
        ·refine E0 197 true hp (I0 (B0 (C0 (u0 1 [kB 2 false] (RS.dn (A0 (G0 ?_)))))));exact (zag h).elim
        ·refine E0 197 false (b_not hp) (J0 (K0 ?_));cases h;exact fun a w hs=>bkN ((jsN (hs.sb 0)))
       ·try dsimp only at h
        refine T0 (T3 (L:=L) (E:=E) (m:=m) (H:=H)) (L.ok hl) 2 ?_;exact (zag h).elim
   ·clear hx;refine C0 (u0 3 [kI 15 (IntKind.i64.wrap (v15_32+1)),kI 116 (IntKind.i64.wrap (v15_32+1)),kI 115 v15_32] (RS.dn ?_));cases h;exact fun a w hs=>lsN rfl (hs.sb 0)
  ·cases h; rename _=>h;refine B0 (O0 5 (B0 (C0 (u0 2 [kI 119 v15_32,(118,.val (vP x1))] ?_))));obtain ⟨⟨x33,x34⟩,hx,h⟩:=bind_some h;try dsimp only at h
   refine RS.cl (some 120) (v:=(Value.tuple #[(vI .i64 x33),(vB x34)])) 14 _ (A3 hx) (u0 5 [kB 17 x34,kI 16 x33,kB 122 x34,kI 121 x33,(117,.val (Value.tuple #[(vI .i64 x33),(vB x34)]))] (RS.dn (A0 (B0 ?_))));obtain ⟨x35,hx_3,h⟩:=bind_some h;obtain ⟨p36,hx_5,h⟩:=bind_some h;obtain ⟨x37_0,hx0_6,h⟩:=bind_some h;obtain ⟨x37_1,hx1_6,h⟩:=bind_some h;obtain ⟨x37_2,hx2_6,h⟩:=bind_some h;obtain ⟨x38,hx_10,h⟩:=bind_some h;obtain ⟨p39,hx_12,h⟩:=bind_some h;obtain ⟨x40_0,hx0_13,h⟩:=bind_some h;obtain ⟨x40_1,hx1_13,h⟩:=bind_some h;obtain ⟨x40_2,hx2_13,h⟩:=bind_some h;refine WS.toone ([(3,.val (vP x1)),kP 4 q5,kI 6 (x6.n:Int),kI 7 v7_8,kI 8 x9,kI 15 v15_32,kI 16 x33,kL 18 0 0,kL 19 1 0]) ([some (42,[(vI .i64 x37_0),(vB x37_1),(Sl3.v x37_2)]),some (42,[(vI .i64 x40_0),(vB x40_1),(Sl3.v x40_2)])]) H12 ?_ ?_
   ·clear h;refine P0 [0,1,2,3,4,5,6,7,8,9,10,11,12,13] [0,1,3,7,0,31,63,0,128,384,896,0,3968,8064,0,0,49279,131071] 18 (fun hcl=>?_);refine D0 0 (some 123) (vP (some q5)) (D0 1 (some 124) (vP (some q5)) (D0 2 (some 125) (vP (some (Addr.add q5 0))) (F0 3 (some 126) (Sl3.v x35) (Abs.det_load (t:=29) (x:=.tmp 125) (a:=(Addr.add q5 0)) (by kernel_rfl) (by kernel_rfl) (by kernel_rfl) (by kernel_rfl) (W0 hx_3 Z0)) (D0 4 (some 127) (vI .i64 v7_8) (F0 5 (some 128) (vP (some p36)) (Abs.det_idx (s:=x35) (k:=.i64) (t:=29) (e:=42) (x:=.tmp 126) (y:=.tmp 127) (by kernel_rfl) (by kernel_rfl) (by kernel_rfl) (by kernel_rfl) (by kernel_rfl) hx_5) (F0 6 (some 129) (vA #[(vI .i64 x37_0),(vB x37_1),(Sl3.v x37_2)]) (Abs.det_loadA (t:=42) (x:=.tmp 128) (a:=p36) (k:=3) (by kernel_rfl) (by kernel_rfl) (by kernel_rfl) (by kernel_rfl) (G1 (W0 hx0_6 D1) (G1 (W0 hx1_6 F6) (G1 (W0 hx2_6 Z0) E6)))) (D0 7 (some 130) (vP (some q5)) (D0 8 (some 131) (vP (some q5)) (D0 9 (some 132) (vP (some (Addr.add q5 0))) ?_)))))))));refine F0 10 (some 133) (Sl3.v x38) (Abs.det_load (t:=29) (x:=.tmp 132) (a:=(Addr.add q5 0)) (by kernel_rfl) (by kernel_rfl) (by kernel_rfl) (by kernel_rfl) (W0 hx_10 Z0)) (D0 11 (some 134) (vI .i64 v15_32) (F0 12 (some 135) (vP (some p39)) (Abs.det_idx (s:=x38) (k:=.i64) (t:=29) (e:=42) (x:=.tmp 133) (y:=.tmp 134) (by kernel_rfl) (by kernel_rfl) (by kernel_rfl) (by kernel_rfl) (by kernel_rfl) hx_12) (F0 13 (some 136) (vA #[(vI .i64 x40_0),(vB x40_1),(Sl3.v x40_2)]) (Abs.det_loadA (t:=42) (x:=.tmp 135) (a:=p39) (k:=3) (by kernel_rfl) (by kernel_rfl) (by kernel_rfl) (by kernel_rfl) (G1 (W0 hx0_13 D1) (G1 (W0 hx1_13 F6) (G1 (W0 hx2_13 Z0) E6)))) ?_)));refine DA.two 14 15 (by kernel_rfl) ?_ ?_
    ·refine DA.aL 14 (some 18) (.loc 0 0) ([some (42,[(vI .i64 0),(vB false),(Sl3.v Sl3.nil)])]) true (DA.on 15 (DA.aL 15 (some 19) (.loc 1 0) ([some (42,[(vI .i64 0),(vB false),(Sl3.v Sl3.nil)]),some (42,[(vI .i64 0),(vB false),(Sl3.v Sl3.nil)])]) true (DA.on 16 (DA.aN 16 none (.val undef) ([some (42,[(vI .i64 x37_0),(vB x37_1),(Sl3.v x37_2)]),some (42,[(vI .i64 0),(vB false),(Sl3.v Sl3.nil)])]) false (DA.on 17 (DA.aL 17 none (.val undef) ([some (42,[(vI .i64 x37_0),(vB x37_1),(Sl3.v x37_2)]),some (42,[(vI .i64 x40_0),(vB x40_1),(Sl3.v x40_2)])]) false (DA.dn ?_)))))));exact fun a w hs=>jsN (hs.sb 2)
    ·refine DA.aL 15 (some 19) (.loc 0 0) ([some (42,[(vI .i64 0),(vB false),(Sl3.v Sl3.nil)])]) true (DA.on 14 (DA.aL 14 (some 18) (.loc 1 0) ([some (42,[(vI .i64 0),(vB false),(Sl3.v Sl3.nil)]),some (42,[(vI .i64 0),(vB false),(Sl3.v Sl3.nil)])]) true (DA.on 16 (DA.aN 16 none (.val undef) ([some (42,[(vI .i64 0),(vB false),(Sl3.v Sl3.nil)]),some (42,[(vI .i64 x37_0),(vB x37_1),(Sl3.v x37_2)])]) false (DA.on 17 (DA.aL 17 none (.val undef) ([some (42,[(vI .i64 x40_0),(vB x40_1),(Sl3.v x40_2)]),some (42,[(vI .i64 x37_0),(vB x37_1),(Sl3.v x37_2)])]) false (DA.dn ?_)))))));exact fun a w hs=>jsN ((hs.sw 0 1).sb 2)
   ·refine A0 (B0 ?_);obtain ⟨v163_41,hx,h⟩:=bind_some h;refine B0 ?_;refine WS.join ([kB 163 v163_41,(3,.val (vP x1)),kP 4 q5,kI 6 (x6.n:Int),kI 7 v7_8,kI 8 x9,kI 15 v15_32,kL 18 0 0,kL 19 1 0]) ([some (42,[(vI .i64 x37_0),(vB x37_1),(Sl3.v x37_2)]),some (42,[(vI .i64 x40_0),(vB x40_1),(Sl3.v x40_2)])]) H12 ?_ (fun a w hs=>A0 ?_ a w hs)
    ·clear h; rename _=>h;refine C0 (u0 3 [kB 139 x37_1,kB 138 x37_1,kL 137 0 1] ?_);rcases X0 h with ⟨hp,h⟩ | ⟨hp,h⟩
     ·refine N0 139 true hp (u0 24 [kB 163 true,kU 162,kU 161,kU 160,kB 159 true,kB 158 true,kU 157,kU 156,kU 155,kU 154,kU 153,kU 152,kU 151,kB 150 true,kB 149 true,kU 148,kU 147,kU 146,kU 145,kU 144,kB 143 true,kB 142 true,kU 141,kU 140] (RS.dn ?_));cases h;exact fun a w hs=>(jsN (hs.sb 2))
     ·refine N0 139 false (b_not hp) (u0 4 [kB 143 x40_1,kB 142 x40_1,kB 141 x40_1,kL 140 1 1] ?_);rcases X0 h with ⟨hp,h⟩ | ⟨hp,h⟩
      ·refine N0 143 true hp (u0 20 [kB 163 true,kU 162,kU 161,kU 160,kB 159 true,kB 158 true,kU 157,kU 156,kU 155,kU 154,kU 153,kU 152,kU 151,kB 150 true,kB 149 true,kU 148,kU 147,kU 146,kU 145,kU 144] (RS.dn ?_));cases h;exact fun a w hs=>(jsN (hs.sb 2))
      ·refine N0 143 false (b_not hp) (u0 7 [kB 150 (!decide (x37_0=x40_0)),kB 149 (!decide (x37_0=x40_0)),kB 148 (!decide (x37_0=x40_0)),kI 147 x40_0,kL 146 1 0,kI 145 x37_0,kL 144 0 0] ?_);rcases X0 h with ⟨hp,h⟩ | ⟨hp,h⟩
       ·refine N0 150 false (A7 hp) (u0 9 [kB 159 (!decide ((x37_2.n:Int)=(x40_2.n:Int))),kB 158 (!decide ((x37_2.n:Int)=(x40_2.n:Int))),kB 157 (!decide ((x37_2.n:Int)=(x40_2.n:Int))),kI 156 (x40_2.n:Int),kS 155 x40_2,kL 154 1 2,kI 153 (x37_2.n:Int),kS 152 x37_2,kL 151 0 2] ?_);rcases X0 h with ⟨hp,h⟩ | ⟨hp,h⟩
        ·refine N0 159 false (A7 hp) (u0 4 [kB 163 (decide (x9=x33)),kB 162 (decide (x9=x33)),kI 161 x33,kI 160 x9] (RS.dn ?_));cases h;exact fun a w hs=>(jsN (hs.sb 2))
        ·refine N0 159 true (l6 hp) (u0 4 [kB 163 true,kU 162,kU 161,kU 160] (RS.dn ?_));cases h;exact fun a w hs=>(jsN (hs.sb 2))
       ·refine N0 150 true (l6 hp) (u0 13 [kB 163 true,kU 162,kU 161,kU 160,kB 159 true,kB 158 true,kU 157,kU 156,kU 155,kU 154,kU 153,kU 152,kU 151] (RS.dn ?_));cases h;exact fun a w hs=>(jsN (hs.sb 2))
    ·clear hx;rcases X0 h with ⟨hp,h⟩ | ⟨hp,h⟩
     ·refine E0 163 true hp (I0 (WS.ex 5 ?_));cases h
     ·refine E0 163 false (b_not hp) (J0 (K0 (A0 (B0 (C0 (u0 1 [kB 20 true] (RS.dn (A0 (B0 ?_)))))))));refine B0 (C0 (u0 1 [kI 21 0] (RS.dn (A0 (O0 6 ?_)))));obtain ⟨o,hl,h⟩:=bind_some h;rcases o with ⟨v20_53,v21_54⟩ | r
      ·try dsimp only at h
       refine U0 (T3 (L:=L) (E:=E) (m:=m) (H:=H)) (L.ok hl) 2 ?_;clear hl;refine fun a w hs=>bkE ((A0 ?_ a w hs));refine B0 (C0 (u0 1 [kB 197 v20_53] (RS.dn (A0 ?_))));rcases X0 h with ⟨hp,h⟩ | ⟨hp,h⟩
       ·refine E0 197 true hp (I0 (B0 (C0 (u0 1 [kB 2 false] (RS.dn (A0 (G0 ?_)))))))
        replace h:=zak h
        cases h;exact fun a w hs=>bkR (sqR (lsR rfl (rS hs)))
       ·refine E0 197 false (b_not hp) (J0 (K0 ?_));cases h
      ·try dsimp only at h
       refine T0 (T3 (L:=L) (E:=E) (m:=m) (H:=H)) (L.ok hl) 2 ?_
       replace h:=zak h
       cases h;exact fun a w hq=>bkR (sqR (bkR (sqR (lsR rfl hq))))
 ·refine E0 114 false (decide_eq_false hp) (J0 (WS.ex 4 ?_));cases h;exact fun a w hs=>sqE (lsB rfl (hs.sb 0))
theorem V5 {E H L m x1 q5 x6} :LoopF Tryd.prog (NE.plain 1000) m E Tryd.f4 ((cfst (csnd (cfst (csnd (csnd (csnd (csnd B4)))))))) (p9 L m x1 q5 x6) (fun s=>s.1) 0 M3 (P3 H) (W2 L m x1 q5 x6):=by
 rintro ⟨H7,v7_8⟩ o h
 unfold W2 at h;try dsimp only at h
 refine B0 (B0 (C0 (u0 3 [kB 41 (decide (v7_8<(x6.n:Int))),kI 40 (x6.n:Int),kI 39 v7_8] (RS.dn (A0 ?_)))));rcases X0 h with ⟨hp,h⟩ | ⟨hp,h⟩
 ·refine E0 41 true (decide_eq_true hp) (I0 (K0 (A0 (B0 (O0 1 (B0 (C0 (u0 2 [kI 46 v7_8,(45,.val (vP x1))] ?_))))))));obtain ⟨⟨x9,x10⟩,hx,h⟩:=bind_some h;try dsimp only at h
  refine RS.cl (some 47) (v:=(Value.tuple #[(vI .i64 x9),(vB x10)])) 14 _ (A3 hx) (u0 5 [kB 9 x10,kI 8 x9,kB 49 x10,kI 48 x9,(44,.val (Value.tuple #[(vI .i64 x9),(vB x10)]))] (RS.dn (A0 (B0 (C0 (u0 2 [kI 51 v7_8,(50,.val (vP x1))] ?_))))));obtain ⟨⟨x11,H12⟩,hx,h⟩:=bind_some h;try dsimp only at h
  refine RS.cl (some 52) (v:=(Sl3.v x11)) 15 _ (zi hx) (u0 1 [kS 10 x11] (RS.dn (A0 (B0 (C0 (u0 1 [kB 11 false] (RS.dn (A0 (B0 ?_)))))))));obtain ⟨v66_13,hx,h⟩:=bind_some h;refine B0 ?_;refine WS.join ([kB 66 v66_13,(3,.val (vP x1)),kP 4 q5,kI 6 (x6.n:Int),kI 7 v7_8,kI 8 x9,kS 10 x11,kB 11 false]) ([]) H12 ?_ (fun a w hs=>A0 ?_ a w hs)
  ·clear h; rename _=>h;refine C0 (u0 3 [kB 55 (!x10),kB 54 (!x10),kB 53 x10] ?_);rcases X0 h with ⟨hp,h⟩ | ⟨hp,h⟩
   ·refine N0 55 false (nb_not hp) (u0 5 [kB 60 (decide ((x11.n:Int)=0)),kB 59 (decide ((x11.n:Int)=0)),kB 58 (decide ((x11.n:Int)=0)),kI 57 (x11.n:Int),kS 56 x11] ?_);rcases X0 h with ⟨hp,h⟩ | ⟨hp,h⟩
    ·refine N0 60 true (decide_eq_true hp) (u0 6 [kB 66 true,kU 65,kU 64,kU 63,kU 62,kU 61] (RS.dn ?_));cases h;exact fun a w hs=>(jsN (hs.sb 0))
    ·refine N0 60 false (decide_eq_false hp) (u0 1 [kS 61 x11] ?_);obtain ⟨p14,hx,h⟩:=bind_some h;refine Q0 62 27 3 (.tmp 61) (.const (vI .i64 0)) hx ?_;obtain ⟨x15,hx,h⟩:=bind_some h;refine M0 63 3 (.tmp 62) (W0 hx D1) (u0 3 [kB 66 (!decide (x15=x9)),kB 65 (!decide (x15=x9)),kI 64 x9] (RS.dn ?_));cases h;exact fun a w hs=>(jsN (hs.sb 0))
   ·refine N0 55 true (U4 hp) (u0 11 [kB 66 true,kU 65,kU 64,kU 63,kU 62,kU 61,kB 60 true,kB 59 true,kU 58,kU 57,kU 56] (RS.dn ?_));cases h;exact fun a w hs=>(jsN (hs.sb 0))
  ·clear hx;rcases X0 h with ⟨hp,h⟩ | ⟨hp,h⟩
   ·refine E0 66 true hp (I0 (B0 (C0 (u0 1 [kB 2 false] (RS.dn (A0 (G0 ?_)))))));cases h;exact fun a w hs=>sqR (bkR (sqR (lsR rfl (rS hs))))
   ·refine E0 66 false (b_not hp) (J0 (K0 (A0 (B0 (B0 (C0 (u0 1 [kI 12 0] (RS.dn (A0 ?_)))))))));refine O0 2 ?_;obtain ⟨o,hl,h⟩:=bind_some h;rcases o with ⟨v11_30,v12_31⟩ | r
    ·try dsimp only at h
     refine U0 (i6 (L:=L) (E:=E) (m:=m) (H:=H)) (L.ok hl) 0 ?_;clear hl;refine fun a w hs=>bkE ((A0 ?_ a w hs));refine B0 (B0 (C0 (u0 2 [kB 111 (!v11_30),kB 110 v11_30] (RS.dn (A0 ?_)))));rcases X0 h with ⟨hp,h⟩ | ⟨hp,h⟩
     ·refine E0 111 false (nb_not hp) (J0 (K0 (A0 (B0 (C0 (u0 1 [kI 15 0] (RS.dn (A0 (O0 4 ?_)))))))));obtain ⟨o,hl,h⟩:=bind_some h;rcases o with v15_55 | r
      ·try dsimp only at h
       refine U0 (Z5 (L:=L) (E:=E) (m:=m) (H:=H)) (L.ok hl) 0 ?_;clear hl;refine fun a w hs=>bkE (bkN ((A0 ?_ a w hs)));refine C0 (u0 3 [kI 7 (IntKind.i64.wrap (v7_8+1)),kI 43 (IntKind.i64.wrap (v7_8+1)),kI 42 v7_8] (RS.dn ?_));cases h;exact fun a w hs=>lsN rfl (hs.sb 0)
      ·try dsimp only at h
       refine T0 (Z5 (L:=L) (E:=E) (m:=m) (H:=H)) (L.ok hl) 0 ?_;cases h;exact fun a w hq=>bkR (bkR (sqR (lsR rfl hq)))
     ·refine E0 111 true (U4 hp) (I0 (B0 (C0 (u0 1 [kB 2 false] (RS.dn (A0 (G0 ?_)))))));cases h;exact fun a w hs=>sqR (bkR (sqR (lsR rfl (rS hs))))
    ·try dsimp only at h
     refine T0 (i6 (L:=L) (E:=E) (m:=m) (H:=H)) (L.ok hl) 0 ?_;cases h;exact fun a w hq=>bkR (sqR (bkR (sqR (lsR rfl hq))))
 ·refine E0 41 false (decide_eq_false hp) (J0 (WS.ex 0 ?_));cases h;exact fun a w hs=>sqE (lsB rfl (hs.sb 0))
theorem zv {L:LC} {m:Nat} {H:AH} {a0:Sl3} {r:(Bool×AH)} (h:D5 L m H a0=some r) :
  CallS Tryd.prog (NE.plain 1000) m 4 #[(Sl3.v a0)] H (M3 r) (P3 H r):=by
 refine CallS.mk (args:=[(Sl3.v a0)]) Tryd.func4 (B:=B4) (by kernel_rfl) (fun E _=>?_);unfold D5 at h;refine B0 (C0 (u0 1 [kB 2 false] (RS.dn (A0 (B0 (C0 (u0 1 [kS 27 a0] ?_)))))));obtain ⟨⟨x1,x2,x3,H4⟩,hx,h⟩:=bind_some h;try dsimp only at h
 refine RS.cl (some 28) (v:=(Value.tuple #[(vP x1),(vP x2),(vB x3)])) 9 _ (z6j hx) (u0 7 [kB 5 x3,(4,.val (vP x2)),(3,.val (vP x1)),kB 31 x3,(30,.val (vP x2)),(29,.val (vP x1)),(26,.val (Value.tuple #[(vP x1),(vP x2),(vB x3)]))] (RS.dn (A0 (B0 (B0 (C0 (u0 2 [kB 33 (!x3),kB 32 x3] (RS.dn (A0 ?_)))))))));rcases X0 h with ⟨hp,h⟩ | ⟨hp,h⟩
 ·refine E0 33 false (nb_not hp) (J0 (K0 (A0 (B0 (C0 (u0 1 [(34,.val (vP x2))] ?_))))));obtain ⟨q5,hx,hq5⟩:=bind_some h;subst hx;have h:=hq5;refine u0 2 [(36,.val (vP (some (Addr.add q5 0)))),kP 35 q5] ?_;obtain ⟨x6,hx,h⟩:=bind_some h;refine M0 37 29 (.tmp 36) (W0 hx Z0) (u0 2 [kI 6 (x6.n:Int),kI 38 (x6.n:Int)] (RS.dn (A0 (B0 (B0 (C0 (u0 1 [kI 7 0] (RS.dn (A0 ?_)))))))));refine O0 0 ?_;obtain ⟨o,hl,h⟩:=bind_some h;rcases o with ⟨H56,v7_57⟩ | r
  ·try dsimp only at h
   refine U0 (V5 (L:=L) (E:=E) (m:=m) (H:=H)) (L.ok hl) 0 ?_;clear hl;refine fun a w hs=>bkE ((A0 ?_ a w hs));refine B0 (C0 ?_);obtain ⟨x58,hx,h⟩:=bind_some h;refine RS.cl (some 198) (v:=(vB x58)) 13 _ (z6d hx) (u0 1 [kB 2 x58] (RS.dn (A0 (G0 ?_))));cases h;exact fun a w hs=>rtR (rS hs)
  ·try dsimp only at h
   refine T0 (V5 (L:=L) (E:=E) (m:=m) (H:=H)) (L.ok hl) 0 ?_;cases h;exact fun a w hq=>bkR (sqR (rtR hq))
 ·refine E0 33 true (U4 hp) (I0 (B0 (C0 (u0 1 [kB 2 false] (RS.dn (A0 (G0 ?_)))))));cases h;exact fun a w hs=>sqR (rtR (rS hs))
end Go.Proofs.YtgkhbmoidenjaaaDoor
