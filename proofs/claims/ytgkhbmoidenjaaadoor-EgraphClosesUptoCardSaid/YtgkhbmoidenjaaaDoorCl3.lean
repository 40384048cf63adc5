/- Parts of the proof: an abstract interpreter of the loaded program and its soundness, printed functions, the law's own texts; part 3. No condition. -/
import Derived.Test.YtgkhbmoidenjaaaDoorCl2
import Derived.LaidSub
import Derived.Deep.DeepHandedRow
import Derived.ChangeArms
import Derived.Shelf.SortM.Plain
import Derived.Shelf.SortM.SortNone
namespace Go.Abs
structure LC where
 run:{S R:Type}→(S→Option (Lp S R))→S→Option (S⊕R)
 fuel:Nat
 ok:∀{S R:Type} {body:S→Option (Lp S R)} {s:S} {o:S⊕R},run body s=some o→loopO body s=some o
noncomputable def LCo (k:Nat):LC:=⟨fun b s=>loopO b s,k,fun h=>h⟩
variable {P:Program} {ne:NE} {m:Nat} {ih:Ex} {ρ:Operand→Value} {o:Oper} {H H':AH}
theorem det_load {t:TypeId} {x:Operand} {a:Addr} {v:Value} (hop:o.op=.load t x) (hu:(P.underlying t).map isAggD=some false) (hi:(P.info? t).isSome=true) (hx:ρ x=.pointer (some a)) (h:H.cell a=some v):detOp P H o ρ=some v:=by
 obtain ⟨dst,op,ty,pos,after,guard⟩:=o;simp only at hop;subst hop;obtain ⟨i,hi⟩:=Option.isSome_iff_exists.1 hi;cases hd:P.underlying t with
 | none=>rw [hd] at hu; cases hu
 | some d =>
  rw [hd] at hu;simp only [Option.map_some,Option.some.injEq] at hu;simp only [detOp,tPure,hx,aLoad,hd,hi,hu,cond_false,h]
theorem det_loadA {t:TypeId} {x:Operand} {a:Addr} {l:List Value} {k:Nat} (hop:o.op=.load t x) (hu:(P.underlying t).map isAggD=some true) (hi:(P.info? t).map (·.size)=some k) (hx:ρ x=.pointer (some a)) (h:rdCells H a 0 k=some l):detOp P H o ρ=some (.agg l.toArray):=by
 obtain ⟨dst,op,ty,pos,after,guard⟩:=o;simp only at hop;subst hop;cases hie:P.info? t with
 | none=>rw [hie] at hi; cases hi
 | some i =>
  rw [hie] at hi;simp only [Option.map_some,Option.some.injEq] at hi;subst hi;cases hd:P.underlying t with
  | none=>rw [hd] at hu; cases hu
  | some d =>
   rw [hd] at hu;simp only [Option.map_some,Option.some.injEq] at hu;simp only [detOp,tPure,hx,aLoad,hd,hie,hu,cond_true,h]
theorem det_idx {t e:TypeId} {x y:Operand} {sz:Nat} {s:Sl3} {k:IntKind} {i:Int} {a:Addr} (hop:o.op=.indexAddr t x y) (hu:P.underlying t=some (.slice e)) (hi:(P.info? e).map (·.size)=some sz)
  (hx:ρ x=s.v) (hy:ρ y=.int k i) (h:idxA sz s i=some a):detOp P H o ρ=some (.pointer (some a)):=by
 obtain ⟨dst,op,ty,pos,after,guard⟩:=o;simp only at hop;subst hop;obtain ⟨p,l,c⟩:=s;cases hie:P.info? e with
 | none=>rw [hie] at hi; cases hi
 | some inf =>
  rw [hie] at hi;simp only [Option.map_some,Option.some.injEq] at hi;subst hi;unfold idxA at h;cases p with
  | none=>cases h
  | some b =>
   simp only at h;split at h
   ·rename_i hb;simp only [Option.some.injEq] at h;subst h;obtain ⟨j,rfl⟩:∃j:Nat,i=(j:Int):=⟨i.toNat,by omega⟩;have hlt:Nat.blt j l=true:=Nat.ble_eq_true_of_le (by omega);have hp:tPure P ⟨dst,.indexAddr t x y,ty,pos,after,guard⟩ ρ=some (.pointer (some (b.add (j*inf.size)))):=by
     simp only [tPure,hu,hx,hy,Sl3.v,hie];show (match (Value.int k (Int.ofNat j)) with | .int _ (.ofNat i)=>_ | _=>none)=_;simp only [hlt,cond_true]
    simp only [detOp,hp];simp
   ·cases h
theorem zbo {t:TypeId} {x:Operand} {a:Addr} {l:List Value} {k:Nat} (hop:o.op=.load t x) (hu:(P.underlying t).map isAggD=some true) (hi:(P.info? t).map (·.size)=some k) (hx:ρ x=.pointer (some a)) (h:rdCells H a 0 k=some l):runOp P ne ih m o ρ H=some (.agg l.toArray,H):=by
 obtain ⟨dst,op,ty,pos,after,guard⟩:=o;simp only at hop;subst hop;cases hie:P.info? t with
 | none=>rw [hie] at hi; cases hi
 | some i =>
  rw [hie] at hi;simp only [Option.map_some,Option.some.injEq] at hi;subst hi;cases hd:P.underlying t with
  | none=>rw [hd] at hu; cases hu
  | some d =>
   rw [hd] at hu;simp only [Option.map_some,Option.some.injEq] at hu;simp only [runOp,aOp,execOp,hx,bind];have hS:arun P m (Instr.loadAt t (.pointer (some a))) H=some (.agg l.toArray,H):=by
    unfold Instr.loadAt Go.loadVar Go.isAgg;have hl:=z3o (P:=P) (m:=m) a i.size 0 #[] H;rw [h] at hl;simp only [Instr.sureAddr,Go.underlying,Go.program,Go.sizeOf,Go.typeInfo,bind,Pure.pure,Sem.bind,arun,hd];cases d <;> first | (simp only [isAggD] at hu; cases hu; done) | (simp only [Sem.bind,arun,if_true,hie,Go.loadCells]; rw [I2,hl]; simp [arun])
   rw [I2,hS];rfl
theorem run_storeA {t:TypeId} {x y:Operand} {a:Addr} {v:Value} (hop:o.op=.store t x y) (hu:(P.info? t).map (·.size)=some v.cells.size) (hx:ρ x=.pointer (some a)) (hy:ρ y=v) {l:List Value} (hl:v.cells.toList=l) (h:wrCells m a 0 l H=some H'):runOp P ne ih m o ρ H=some (undef,H'):=by
 subst hl;exact z39 hop hu hx hy h
def mapB:Blk:={ obj:=.map #[] 0,opn:=false,esz:=0,ro:=false }
def lkM {α:Type} (P:Program) (t:TypeId) (de:Value→Option α) (H:AH) (m:Option Nat) (k:Value):Option (α×Bool) :=
 match aLookup P t (.map m) k true H with
 | some (.tuple cs)=>match cs.toList with
  | [x,.bool b]=>(de x).map (·,b)
  | _=>none
 | _=>none
theorem lkM_eq {α:Type} {t:TypeId} {de:Value→Option α} {mm:Option Nat} {k:Value} {x:α} {b:Bool} {v:Value} (h:lkM P t de H mm k=some (x,b)) (hv:∀u,de u=some x→u=v):aLookup P t (.map mm) k true H=some (.tuple #[v,.bool b]):=by
 unfold lkM at h;split at h
 ·rename_i cs hc;split at h
  ·rename_i y c hl;cases hd:de y with
   | none=>rw [hd] at h; cases h
   | some z =>
    rw [hd] at h;simp only [Option.map_some,Option.some.injEq,Prod.mk.injEq] at h;obtain ⟨rfl,rfl⟩:=h;rw [hc,← hv y hd,n8 hl]
  ·cases h
 ·cases h
theorem run_look {t:TypeId} {x y:Operand} {ok:Bool} {mm:Option Nat} {k v:Value} (hop:o.op=.lookup t x y ok) (hx:ρ x=.map mm) (hy:ρ y=k) (hf:flat depth k=true) (h:aLookup P t (.map mm) k ok H=some v):runOp P ne ih m o ρ H=some (v,H):=by
 obtain ⟨dst,op,ty,pos,after,guard⟩:=o;simp only at hop;subst hop;simp only [runOp,aOp,hx,hy,hf,cond_true,h]
def upM (P:Program) (m:Nat) (t:TypeId) (H:AH) (mm:Option Nat) (k v:Value):Option AH :=
 match aUpdate P m t (.map mm) k v H with
 | some (.tuple cs,H')=>if cs.size=0 then some H' else none
 | _=>none
theorem run_upM {t:TypeId} {x y z:Operand} {mm:Option Nat} {k v:Value} (hop:o.op=.mapUpdate t x y z) (hx:ρ x=.map mm) (hy:ρ y=k) (hz:ρ z=v) (hf:flat depth k=true) (h:upM P m t H mm k v=some H'):runOp P ne ih m o ρ H=some (undef,H'):=by
 obtain ⟨dst,op,ty,pos,after,guard⟩:=o;simp only at hop;subst hop;unfold upM at h;split at h
 ·rename_i cs H1 hu;split at h
  ·rename_i hs;simp only [Option.some.injEq] at h;subst h;have e:cs=#[]:=Array.eq_empty_of_size_eq_zero hs;subst e;simp only [runOp,aOp,hx,hy,hz,hf,cond_true,hu];rfl
  ·cases h
 ·cases h
def deM:Value→Option (Option Nat)
 | .map r=>some r
 | _=>none
theorem A6 {x:Option Nat}:∀u,deM u=some x→u=.map x:=by
 intro u h;cases u <;> simp only [deM] at h <;> cases h
 rfl
theorem G1 {a:Addr} {i k:Nat} {v:Value} {l:List Value} (h1:H.cell (a.add i)=some v) (h2:rdCells H a (i+1) k=some l):rdCells H a i (k+1)=some (v :: l):=by
 simp only [rdCells,h1,h2]
section
variable {E:Ent} {n:Nat} {kn:KN} {ls:Lcs} {ops:Array Oper} {k:Nat} {Q:Exit→Act→World→Prop}
end
end Go.Abs
namespace Go.Abs
variable {P:Program} {ne:NE} {m n:Nat}
variable {E:Ent} {kn knA:KN} {ls ls1:Lcs} {H H1 H':AH} {ops:Array Oper} {k:Nat} {Q:Exit→Act→World→Prop} {bs A:List Nat} {f:Nat} {la:Array Bool} {ag:Bool}
def newB (e:TypeId) (cells:List Value) (H:AH):Option (Addr×AH):=some (⟨H.next,0,none⟩,H.push (pubB e cells))
theorem run_newB {ih:Ex} {ρ:Operand→Value} {o:Oper} {e:TypeId} {cells:List Value} {p:Addr} (hr:runOp P ne ih m o ρ H=some (.pointer (some ⟨H.next,0,none⟩),H.push (pubB e cells))) (hx:newB e cells H=some (p,H')):runOp P ne ih m o ρ H=some (.pointer (some p),H'):=by
 cases hx;exact hr
def newM (H:AH):Option (Nat×AH):=some (H.next,H.push mapB)
theorem run_newM {ih:Ex} {ρ:Operand→Value} {o:Oper} {p:Nat} (hr:runOp P ne ih m o ρ H=some (.map (some H.next),H.push mapB)) (hx:newM H=some (p,H')):runOp P ne ih m o ρ H=some (.map (some p),H'):=by
 cases hx;exact hr
theorem RS.atD (d:Option Nat) (v:Value) (ho:ops[k]? = some (opAt ops k)) (hd:(opAt ops k).dst=d) (hB:(opV P n ops kn (opAt ops k)&&noCall (opAt ops k))=true) (hr:runOp P (NE.plain 0) ih0 m (opAt ops k) (evV kn) H=some (v,H'))
  (h:RS P ne m E n ops (k+1) (putV kn d (.val v)) ls H' Q):RS P ne m E n ops k kn ls H Q:=by
 subst hd;exact RS.at v ho hB hr h
theorem RS.callD (d:Option Nat) {v:Value} (f:Nat) (args:Array Value) (ho:ops[k]? = some (opAt ops k)) (hd:(opAt ops k).dst=d) (hB:opV P n ops kn (opAt ops k)=true) (hc:callV kn (opAt ops k)=some (f,args)) (hr:CallS P ne m f args H v H')
  (h:RS P ne m E n ops (k+1) (putV kn d (.val v)) ls H' Q):RS P ne m E n ops k kn ls H Q:=by
 subst hd;exact RS.call f args ho hB hc hr h
theorem WS.drawnX {c:Code} (ops:Array Oper) (A:List Nat) (bs:List Nat) (sz:Nat) (hc:regOf c=some (ops,true)) (hb:befores ops.toList=bs) (hs:ops.size=sz) (hB:closedOk ops.toList bs=true) (h:DA P ne m E n ops bs A H ls sz (Array.replicate sz false) true kn kn ls H Q):WS P ne m E n c kn ls H Q:=by
 subst hb hs;exact WS.drawn ops A hc hB h
theorem DA.takeD (k:Nat) (d:Option Nat) (v:Value) (ho:ops[k]? = some (opAt ops k)) (hd:(opAt ops k).dst=d) (hB:takeB P n ops A la k (opAt ops k)=true) (hc:closedOk ops.toList bs=true) (hQ:∀c a w,¬Q (.panic c) a w)
  (hw:(wantV ops kn (opAt ops k),(opAt ops k).op.operands.all (okx P),(opAt ops k).op.operands.all (knownV knA))=(some true,true,true)) (hv:detOp P H1 (opAt ops k) (evV knA)=some v)
  (h:DA P ne m E n ops bs A H1 ls1 f (la.setIfInBounds k true) true (putV knA d (.val v)) (putV kn d (.val v)) ls H Q):DA P ne m E n ops bs A H1 ls1 (f+1) la true knA kn ls H Q:=by
 subst hd;exact DA.take ho hB hc hQ hw hv h
theorem R0 (k:Nat) (d:Option Nat) (ho:ops[k]? = some (opAt ops k)) (hd:(opAt ops k).dst=d) (hB:takeB P n ops A la k (opAt ops k)=true) (hc:closedOk ops.toList bs=true) (hQ:∀c a w,¬Q (.panic c) a w) (hw:wantV ops kn (opAt ops k)=some false)
  (h:DA P ne m E n ops bs A H1 ls1 f (la.setIfInBounds k true) true (putV knA d (.val undef)) (putV kn d (.val undef)) ls H Q):DA P ne m E n ops bs A H1 ls1 (f+1) la true knA kn ls H Q:=by
 subst hd;exact DA.tskip ho hB hc hQ hw h
theorem DA.takeLD (k:Nat) (d:Option Nat) (kv:KV) (ho:ops[k]? = some (opAt ops k)) (hd:(opAt ops k).dst=d) (hB:takeB P n ops A la k (opAt ops k)=true) (hc:closedOk ops.toList bs=true) (hQ:∀c a w,¬Q (.panic c) a w) (hw:wantV ops kn (opAt ops k)=some true) (hv:locDet P knA ls1 (opAt ops k)=some kv)
  (h:DA P ne m E n ops bs A H1 ls1 f (la.setIfInBounds k true) true (putV knA d kv) (putV kn d kv) ls H Q):DA P ne m E n ops bs A H1 ls1 (f+1) la true knA kn ls H Q:=by
 subst hd;exact DA.takeL ho hB hc hQ hw hv h
theorem DA.actLD (k:Nat) (d:Option Nat) (kv:KV) (ls':Lcs) (ag':Bool) (ho:ops[k]? = some (opAt ops k)) (hdd:(opAt ops k).dst=d) (hr:(Region.ready .any ops la).contains k=true) (hc:closedOk ops.toList bs=true) (hw:wantV ops kn (opAt ops k)=some true) (hd:dstV n (opAt ops k)=true) (hl:locOp P kn ls (opAt ops k)=some (kv,ls'))
  (ha:((!demO ops A bs k||(ag&&notStore (opAt ops k)))&&(!ag'||(ag&&notStore (opAt ops k))))=true)
  (h:DA P ne m E n ops bs A H1 ls1 f (la.setIfInBounds k true) ag' (dropV d knA) (putV kn d kv) ls' H Q):DAk P ne m E n ops bs A H1 ls1 k f la ag knA kn ls H Q:=by
 subst hdd;exact DA.actL ag' ho hr hc hw hd hl ha h
theorem DA.actHD (k:Nat) (d:Option Nat) (m2:Nat) (ag':Bool) (v:Value) (ho:ops[k]? = some (opAt ops k)) (hdd:(opAt ops k).dst=d) (hr:(Region.ready .any ops la).contains k=true) (hc:closedOk ops.toList bs=true) (hB:(opV P n ops kn (opAt ops k)&&noCall (opAt ops k))=true) (hv:runOp P (NE.plain 0) ih0 m2 (opAt ops k) (evV kn) H=some (v,H'))
  (hm:m≤m2) (hm2:(demO ops A bs k||ag')=true→H.next≤m2∨H1.next≤m2) (ha:((!demO ops A bs k||ag)&&(!ag'||ag))=true)
  (h:DA P ne m E n ops bs A H1 ls1 f (la.setIfInBounds k true) ag' (dropV d knA) (putV kn d (.val v)) ls H' Q):DAk P ne m E n ops bs A H1 ls1 k f la ag knA kn ls H Q:=by
 subst hdd;rw [Bool.and_eq_true] at hB;exact DA.actH m2 ag' ho hr hc hB.1 hv hB.2 hm hm2 ha h
theorem DA.actCD (k:Nat) (d:Option Nat) (m2:Nat) (ag':Bool) {v:Value} (g:Nat) (args:Array Value) (ho:ops[k]? = some (opAt ops k)) (hdd:(opAt ops k).dst=d) (hr:(Region.ready .any ops la).contains k=true) (hc:closedOk ops.toList bs=true) (hB:opV P n ops kn (opAt ops k)=true) (hcl:callV kn (opAt ops k)=some (g,args)) (hcs:CallS P ne m2 g args H v H')
  (hm:m≤m2) (hm2:(demO ops A bs k||ag')=true→H.next≤m2∨H1.next≤m2) (ha:((!demO ops A bs k||ag)&&(!ag'||ag))=true)
  (h:DA P ne m E n ops bs A H1 ls1 f (la.setIfInBounds k true) ag' (dropV d knA) (putV kn d (.val v)) ls H' Q):DAk P ne m E n ops bs A H1 ls1 k f la ag knA kn ls H Q:=by
 subst hdd;exact DA.actC m2 ag' g args ho hr hc hB hcl hcs hm hm2 ha h
theorem E6 {a:Addr} {i:Nat}:rdCells H a i 0=some []:=rfl
def deV:Value→Option Value:=some
theorem zga {x:Value}:∀u,deV u=some x→u=x:=by
 intro u h; cases h; rfl
end Go.Abs
namespace Go.Abs
variable {P:Program} {ne:NE} {m n:Nat}
section
variable {E:Ent} {kn:KN} {ls:Lcs} {H:AH} {a:Act} {w:World} {φ:Inj} {cs:List Nat} {Q:Exit→Act→World→Prop}
def ldO (p:Nat) (t:TypeId):Oper:={ dst:=none,op:=.load t (.tmp p),type:=0,pos:=default,after:=#[],guard:=none }
def cellV (P:Program) (kn:KN) (ls:Lcs) (H:AH) (p:Nat) (t:TypeId):Option Value :=
 match lkV kn p with
 | some (.loc _ _)=>match locDet P kn ls (ldO p t) with
  | some (.val v)=>some v
  | _=>none
 | some (.val (.pointer (some q)))=>aLoad P t q H
 | _=>none
def resL (P:Program) (kn:KN) (ls:Lcs) (H:AH):List ResultVar→Option (List Value)
 | []=>some []
 | .tmp t :: l=>match lkV kn t,resL P kn ls H l with
  | some (.val u),some us=>some (u :: us)
  | _,_=>none
 | .cell p t :: l=>match cellV P kn ls H p t,resL P kn ls H l with
  | some u,some us=>some (u :: us)
  | _,_=>none
def resF (P:Program) (fn:Func) (kn:KN) (ls:Lcs) (H:AH):Option Value :=
 match resL P kn ls H fn.results.toList with
 | some [v]=>some v
 | some l=>some (.tuple l.toArray)
 | none=>none
def RT (P:Program) (ne:NE) (m:Nat) (E:Ent) (fn:Func) (v:Value) (H:AH) (a:Act) (w:World):Prop :=
 ∃n kn ls,SS P ne m E n kn ls H a w∧resF P fn kn ls H=some v
def retS (P:Program) (ne:NE) (m:Nat) (E:Ent) (fn:Func) (v:Value) (H:AH):Exit→Act→World→Prop
 | .normal,a,w | .ret,a,w=>RT P ne m E fn v H a w
 | _,_,_=>False
def argV:Nat→List Value→KN
 | _,[]=>[]
 | i,v :: l=>(i,.val v) :: argV (i+1) l
theorem zfo:∀(l:List Value) (i t:Nat) (kv:KV),lkV (argV i l) t=some kv→∃v,kv=.val v∧i≤t∧l[t - i]? = some v:=by
 intro l;induction l with
 | nil=>intro i t kv h; cases h
 | cons v l ih =>
  intro i t kv h;simp only [argV,lkV] at h;cases hb:Nat.beq i t with
  | true =>
   rw [hb] at h;have:=Nat.eq_of_beq_eq_true hb;subst this;cases h;exact ⟨v,rfl,Nat.le_refl _,by simp⟩
  | false =>
   rw [hb] at h;have hne:=Nat.ne_of_beq_eq_false hb;obtain ⟨u,h1,h2,h3⟩:=ih _ _ _ h;refine ⟨u,h1,by omega,?_⟩;rw [show t - i=(t - (i+1))+1 by omega]
   simpa using h3
theorem zcg (hs:SSφ P ne m E n kn ls H a w φ cs) {p:Nat} {t:TypeId} {v:Value} (h:cellV P kn ls H p t=some v):∃v',(resV a.tmps (.cell p t)).run P w=.ok v' w∧VR φ v v':=by
 unfold cellV at h;split at h
 ·rename_i i off hk;split at h
  ·rename_i u hu;simp only [Option.some.injEq] at h;subst h;obtain ⟨v',h1,h2⟩:=z7b hu (DC.mk hs.glob hs.inv (fun i c x h1 h2=>(hs.loc i c x h1 h2).2) hs.len) (fun t kv hl=>hs.slot t kv hl:KA φ cs kn a);refine ⟨v',?_,h1⟩;have h3:=h2 w (agree.refl w);obtain ⟨c,_,hp⟩:=e9 hs hk;have he:a.eval (.tmp p)=.pointer (some ⟨c,off,none⟩):=hp;simp only [ldO,execOp,he,Instr.loadAt,Instr.sureAddr,Sem.run_bind,Sem.run_pure,Result.andThen_ok] at h3;simp only [resV,hp,asAddr,Sem.run_bind,Sem.run_pure,Result.andThen_ok];generalize (loadVar t ⟨c,off,none⟩).run P w=q at h3 ⊢;cases q <;> simp [Result.andThen,Sem.run_pure] at h3
   obtain ⟨rfl,rfl⟩:=h3;rfl
  ·cases h
 ·rename_i q hk;have hp:=hs.slot p _ hk;obtain ⟨q',hq2,hqa⟩:=VR.ptr_inv hp;obtain ⟨v',h3,h4⟩:=z6y hs.inv h hqa;refine ⟨v',?_,h4⟩;simp only [resV,Sem.run_bind,hq2];exact h3
 ·cases h
theorem zfa (hs:SSφ P ne m E n kn ls H a w φ cs):∀{l:List ResultVar} {vs:List Value},resL P kn ls H l=some vs→∃vs',(l.mapM (resV a.tmps)).run P w=.ok vs' w∧LR φ vs vs':=by
 intro l;induction l with
 | nil=>intro vs h; simp only [resL,Option.some.injEq] at h; subst h; exact ⟨[],rfl,.nil⟩
 | cons r l ih =>
  intro vs h;cases r with
  | tmp t =>
   simp only [resL] at h;split at h
   ·rename_i u us h1 h2;simp only [Option.some.injEq] at h;subst h;obtain ⟨vs',h3,h4⟩:=ih h2;refine ⟨a.tmps.getD t undef :: vs',?_,.cons (hs.slot t _ h1) h4⟩;rw [List.mapM_cons];have hA:(resV a.tmps (.tmp t)).run P w=.ok (a.tmps.getD t undef) w:=rfl;simp only [Sem.run_bind,hA,Sem.run_pure,Result.andThen_ok,h3]
   ·cases h
  | cell p t =>
   simp only [resL] at h;split at h
   ·rename_i u us h1 h2;simp only [Option.some.injEq] at h;subst h;obtain ⟨vs',h3,h4⟩:=ih h2;obtain ⟨v',h5,h6⟩:=zcg hs h1;refine ⟨v' :: vs',?_,.cons h6 h4⟩;rw [List.mapM_cons];simp only [Sem.run_bind,h5,Sem.run_pure,Result.andThen_ok,h3]
   ·cases h
theorem CallS.mk {f:Nat} {fn:Func} {B:Code} {args:List Value} {H H':AH} {v:Value} (hf:P.funcs[f]? = some fn) (hb:fn.body=some B) (h:∀E:Ent,E.H=H→WS P ne m E fn.ntmps B (argV 0 args) [] H (retS P ne m E fn v H')):CallS P ne m f args.toArray H v H':=by
 intro hS;refine ⟨⟨fn,B,hf,hb⟩,fun φ w args' hg ha hi=>?_⟩;have hent:SS P ne m ⟨φ,H,w⟩ fn.ntmps (argV 0 args) [] H { tmps:=args'++Array.replicate (fn.ntmps - args'.size) undef,defers:=[] } w:=by
  refine ⟨φ,[],hg,hi,Step.refl _ _ _ _,rfl,fun i c x hc=>(by cases hc),fun i j c hc=>(by cases hc),fun i c hc=>(by cases hc),fun t kv hl=>?_,by simp; omega,rfl,hS,hi⟩;obtain ⟨v,rfl,_,h2⟩:=zfo _ _ _ _ hl;rw [Nat.sub_zero] at h2;have:args.toArray[t]? = some v:=by simpa using h2
  obtain ⟨y,hy,hv⟩:=ha.get this;have hlt:t<args'.size:=by rw [Array.getElem?_eq_some_iff] at hy; exact hy.1
  show VR φ v _;rw [Array.getD_eq_getD_getElem?,Array.getElem?_append,if_pos hlt,hy];exact hv
 have hw:=h ⟨φ,H,w⟩ rfl _ _ hent;refine calls_of_wp hf hb (wp_mono hw fun e a w' hpost=>?_);have fin:RT P ne m ⟨φ,H,w⟩ fn v H' a w'→a.defers=[]∧∃v',(results fn a.tmps).run P w'=.ok v' w'∧(∃φ' v'',Ending.returned v'=.returned v''∧VR φ' v v''∧Inv φ' H' w'∧Step m φ H w φ' H' w'):=by
  rintro ⟨n,kn,ls,⟨φ',cs,hs⟩,hr⟩
  refine ⟨hs.defers,?_⟩;have main:∃(vs vs':List Value),(fn.results.toList.mapM (resV a.tmps)).run P w'=.ok vs' w'∧LR φ' vs vs'∧v=(if h:vs.length=1 then vs[0]'(by omega) else .tuple vs.toArray):=by
   unfold resF at hr;cases hl:resL P kn ls H' fn.results.toList with
   | none=>rw [hl] at hr; cases hr
   | some vs =>
    rw [hl] at hr;obtain ⟨vs',h1,h2⟩:=zfa hs hl;refine ⟨vs,vs',h1,h2,?_⟩;split at hr
    ·rename_i u he;cases he;cases hr;rfl
    ·rename_i l hne he;cases he;cases hr;rw [dif_neg ?_];intro h1
     match vs,h1 with
     | [u],_=>exact hne u rfl
    ·cases hr
  obtain ⟨vs,vs',h1,h2,h3⟩:=main;have hm:(fn.results.mapM (resV a.tmps)).run P w'=.ok vs'.toArray w':=by
   rw [Array.mapM_eq_mapM_toList];show Sem.run P (List.toArray <$> _) w'=_;rw [Sem.run_map,h1]; rfl
  have hlen:=LR.length h2;have hres:(results fn a.tmps).run P w'=.ok (if h:vs'.toArray.size=1 then vs'.toArray[0] else .tuple vs'.toArray) w':=by
   rw [z5p,Sem.run_bind,hm,Result.andThen_ok]; rfl
  refine ⟨_,hres,φ',_,rfl,?_,hs.inv,hs.step⟩;rw [h3];by_cases h1':vs.length=1
  ·rw [dif_pos h1',dif_pos (by simpa [← hlen] using h1')];cases h2 with
   | nil=>cases h1'
   | cons hv ht=>exact hv
  ·rw [dif_neg h1',dif_neg (by simpa [← hlen] using h1')];have:=AR_iff.2 (show LR φ' vs.toArray.toList vs'.toArray.toList by simpa using h2);exact .tuple _ _ this.1 this.2
 cases e with
 | normal=>exact fin hpost
 | ret=>exact fin hpost
 | _=>exact hpost.elim
theorem rtR {fn:Func} {v:Value} (h:RT P ne m E fn v H a w):retS P ne m E fn v H .ret a w:=h
theorem rtN {fn:Func} {v:Value} (h:RT P ne m E fn v H a w):retS P ne m E fn v H .normal a w:=h
theorem rtS {fn:Func} {v:Value} (hs:SS P ne m E n kn ls H a w) (h:resF P fn kn ls H=some v):RT P ne m E fn v H a w:=⟨n,kn,ls,hs,h⟩
theorem WS.toone {c:Code} (kn2:KN) (ls2:Lcs) (H2:AH) (h:WS P ne m E n c kn ls H (jnS P ne m E n kn2 ls2 H2 (fun _ _ _=>False))) (hN:∀a w,SS P ne m E n kn2 ls2 H2 a w→Q .normal a w):WS P ne m E n c kn ls H Q:=by
 refine fun a w hs=>wp_mono (h a w hs) fun e a w hq=>?_;cases e with
 | normal=>exact hN a w hq
 | _=>exact hq.elim
end
end Go.Abs
namespace Go.Abs
variable {P:Program} {ne:NE} {m n:Nat}
def pureOp (P:Program) (o:Oper) (ρ:Operand→Value):Option Value :=
 match o.op with
 | .load ..=>none
 | .lookup ..=>none
 | _=>detOp P ⟨0,.nil⟩ o ρ
theorem z72 {φ:Inj} {o:Oper} {ρ ρ':Operand→Value} {v:Value} (hρ:∀x∈o.op.operands,VR φ (ρ x) (ρ' x)) (h:pureOp P o ρ=some v) :
  ∃v',VR φ v v'∧∀w,(execOp ρ' o).run P w=.ok (.value v') w:=by
 have hnl:(∀t x,o.op≠.load t x)∧(∀t x k ok,o.op≠.lookup t x k ok)∧detOp P ⟨0,.nil⟩ o ρ=some v:=by
  unfold pureOp at h;split at h
  ·cases h
  ·cases h
  ·rename_i q1 q2; exact ⟨fun t x e=>q1 t x e,fun t x k ok e=>q2 t x k ok e,h⟩
 clear h;obtain ⟨n1,n2,h⟩:=hnl;unfold detOp at h;cases ht:tPure P o ρ with
 | some u =>
  rw [ht] at h;simp only [Option.some.injEq] at h;subst h;obtain ⟨v',h1,h2⟩:=z33 hρ ht;exact ⟨v',h1,h2⟩
 | none =>
  rw [ht] at h;simp only at h;have fl:(match flatRun P o ρ ⟨0,.nil⟩ with | some (v,_)=>some v | none=>none)=some v→(∀w,∀nx,(execOp ρ' o).run P w=.ok nx w→nx≠.skip)→∃v',VR φ v v'∧∀w,(execOp ρ' o).run P w=.ok (.value v') w:=by
   intro h hns;cases hf:flatRun P o ρ ⟨0,.nil⟩ with
   | none=>rw [hf] at h; cases h
   | some p =>
    obtain ⟨u,H'⟩:=p;rw [hf] at h;simp only [Option.some.injEq] at h;subst h;obtain ⟨v',h1,h2⟩:=z8m hρ hf hns;exact ⟨v',h1,h2⟩
  obtain ⟨dst,op,ty,pos,after,guard⟩:=o;simp only at h hρ n1 n2;split at h
  ·exact (n1 _ _ rfl).elim
  ·exact (n2 _ _ _ _ rfl).elim
  ·rename_i x i;have hx:=hρ x (by simp [Op.operands]);split at h
   ·rename_i cs hc;rw [hc] at hx;generalize hq:ρ' x=q at hx;cases hx with
    | tuple f f' hf h1 =>
     have hlt:i<f'.size:=by
      rw [Array.getElem?_eq_some_iff] at h;obtain ⟨h,_⟩:=h;omega
     refine ⟨f'[i],h1 i _ _ h (by simp [hlt]),fun w=>?_⟩;have hrun:(Instr.extract (.tuple f') i).run P w=.ok f'[i] w:=by
      simp only [Instr.extract];simp [hlt]
     simp only [execOp,hq,Sem.run_bind,hrun,Result.andThen_ok];rfl
   ·cases h
  ·rename_i args ts;split at h
   ·rename_i e b k c hu hl;simp only [Option.some.injEq] at h;subst h;have hargs:AR φ (args.map ρ) (args.map ρ'):=ar_map args fun x hx=>hρ x (by simp [Op.operands,Call.operands,hx]);obtain ⟨_,x',hx',hv⟩:=ar_one hargs hl;obtain ⟨b',c',rfl⟩:=F7 hv;refine ⟨goInt k,.int _ _,fun w=>?_⟩;cases hts:ts[0]? with
    | none=>rw [hts] at hu; cases hu
    | some t =>
     rw [hts] at hu;have hu:P.underlying t=some (.slice e):=hu;have hrun:(Builtin.len_ ts ty (args.map ρ')).run P w=.ok (goInt k) w:=by
      rw [hx'];simp [Builtin.len_,hts,E1 hu]
     show (do pure (Next.value (← Builtin.len_ ts ty (args.map ρ'))):Sem Next).run P w=_;rw [Sem.run_bind,hrun]; rfl
   ·exact fl h fun w nx hr=>E3 (s:=Builtin.len_ ts ty (args.map ρ')) hr
  ·rename_i bo t x y u;exact fl h fun w nx hr=>E3 (s:=(do eqGuard bo t x y (ρ' x) (ρ' y); binOp bo t (ρ' x) (ρ' y))) hr
  ·rename_i uo t x;exact fl h fun w nx hr=>E3 (s:=Op.unary uo (ρ' x)) hr
  ·rename_i t ps;exact fl h fun w nx hr=>E3 (s:=Instr.build t (ps.map fun (i,x)=>(i,ρ' x))) hr
  ·rename_i c x y;exact fl h fun w nx hr=>by
    simp only [execOp,Sem.run_bind] at hr;cases hb:(asBool (ρ' c)).run P w with
    | ok b w' =>
     rw [hb] at hr;have:Result.ok (Next.value (if b then ρ' x else ρ' y)) w'=Result.ok nx w:=hr;simp only [Result.ok.injEq] at this;rw [← this.1]; intro e; cases e
    | halt z w'=>rw [hb] at hr; cases hr
  ·rename_i t x f;exact fl h fun w nx hr=>E3 (s:=Instr.field t (ρ' x) f) hr
  ·rename_i t x y;exact fl h fun w nx hr=>E3 (s:=Instr.index t (ρ' x) (ρ' y)) hr
  ·rename_i s d x;split at h
   ·exact fl h fun w nx hr=>E3 (s:=convert s d (ρ' x)) hr
   ·exact fl h fun w nx hr=>E3 (s:=convert s d (ρ' x)) hr
   ·cases h
  ·cases h
variable {ops:Array Oper} {Q:Exit→Act→World→Prop} {bs A:List Nat} {w1:World}
theorem z2l {i:Nat} {oi:Oper} {v:Value} (hi:ops[i]? = some oi) (hc:closedOk ops.toList bs=true) (hsel:∀(j:Nat) (o:Oper) cs b,ops[j]? = some o→o.op≠.select cs b)
  (hQ:∀c a w,¬Q (.panic c) a w) :
  ∀(fuel:Nat) (la:Array Bool) (a:Act) (w:World),JC ops bs la →
   (∀j oj,ops[j]? = some oj→j≠i→la.getD j true=false→(∀e∈oj.after,Region.binds .any e=true→e.on≠i)→oi.apart ops oj=true) →
   i∈Region.ready .any ops la→YieldsIf P ops (fun _=>True) oi v a→demO ops A bs i=false →
   wpAnyD P ops Q bs A w1 fuel (la.setIfInBounds i true) (a.put oi.dst v) w→wpAnyD P ops Q bs A w1 (fuel+1) la a w:=by
 intro fuel;induction fuel with
 | zero =>
  intro la a w hJ _ hr hy hS H;refine ⟨fun h=>(by rw [h] at hr; cases hr),fun j hj=>?_⟩;by_cases hji:j=i
  ·subst hji; exact hy.wpOp hi trivial ⟨fun hh=>(by rw [hS] at hh; cases hh),H⟩
  ·have:=ready_mono hj hji;rw [H.1] at this;cases this
 | succ fuel ih =>
  intro la a w hJ hfree hr hy hS H;refine ⟨fun h=>(by rw [h] at hr; cases hr),fun j hj=>?_⟩;by_cases hji:j=i
  ·subst hji; exact hy.wpOp hi trivial ⟨fun hh=>(by rw [hS] at hh; cases hh),H⟩
  ·have h1:=H.2 j (ready_mono hj hji);have r:=rdy_of hc hJ hj;have ri:=rdy_of hc hJ hr;obtain ⟨hjun,oj,hoj,hall⟩:=mem_ready.1 hj;have hnot:∀e∈oj.after,Region.binds .any e=true→e.on≠i:=fun e he hb heq=>by
    have h1:=hall e he hb;have h0:=(mem_ready.1 hr).1;rw [heq] at h1;rcases Nat.lt_or_ge i la.size with h' | h'
    ·simp [h'] at h0 h1; rw [h0] at h1; cases h1
    ·simp [Array.getElem?_eq_none h'] at h1
   have h2:=wpOp_putIf hoj (hfree j oj hoj hji hjun hnot) (fun cs b=>hsel i oi cs b hi) (fun cs b=>hsel j oj cs b hoj) (fun c a w h=>absurd h (hQ c _ w)) hy h1;have hfree':∀k ok,ops[k]? = some ok→k≠i→(la.setIfInBounds j true).getD k true=false →
     (∀e∈ok.after,Region.binds .any e=true→e.on≠i)→oi.apart ops ok=true:=fun k ok hk hki hun hno=>by
    refine hfree k ok hk hki ?_ hno;by_cases hjk:j=k
    ·subst hjk; exact hjun
    ·rw [getD_set_ne true hjk] at hun; exact hun
   refine wpOp_mono (fun a' w' h3=>⟨h3.2.1,ih (la.setIfInBounds j true) a' w' (hJ.next r) hfree' (ready_mono hr (Ne.symm hji)) h3.1 hS ?_⟩) h2;rw [Array.setIfInBounds_comm _ _ hji];exact h3.2.2
section
variable {E:Ent} {knA kn:KN} {ls ls1:Lcs} {H H1:AH} {f k:Nat} {la:Array Bool} {ag:Bool}
def takeQ (P:Program) (n:Nat) (ops:Array Oper) (A bs:List Nat) (la:Array Bool) (k:Nat) (o:Oper):Bool :=
 !(demO ops A bs k)&&Region.noSelect ops&&Region.free .any ops la k&&(Region.ready .any ops la).contains k&&dstV n o
theorem DA.takeP (k:Nat) (d:Option Nat) (v:Value) (ho:ops[k]? = some (opAt ops k)) (hd:(opAt ops k).dst=d) (hB:takeQ P n ops A bs la k (opAt ops k)=true) (hc:closedOk ops.toList bs=true) (hQ:∀c a w,¬Q (.panic c) a w)
  (hw:(wantV ops kn (opAt ops k),(opAt ops k).op.operands.all (okx P),(opAt ops k).op.operands.all (knownV kn))=(some true,true,true)) (hv:pureOp P (opAt ops k) (evV kn)=some v)
  (h:DA P ne m E n ops bs A H1 ls1 f (la.setIfInBounds k true) ag (dropV d knA) (putV kn d (.val v)) ls H Q):DA P ne m E n ops bs A H1 ls1 (f+1) la ag knA kn ls H Q:=by
 subst hd;intro w1 φ1 cs1 a w φ cs hd hle hs hka hpf hJ hag;unfold takeQ at hB;simp only [Bool.and_eq_true] at hB;obtain ⟨⟨⟨⟨b1,b2⟩,b3⟩,b4⟩,b5⟩:=hB;have hr:k∈Region.ready .any ops la:=by simpa using b4
 simp only [Prod.mk.injEq] at hw;obtain ⟨hw1,hw2,hw3⟩:=hw;rw [Array.all_eq_true_iff_forall_mem] at hw2 hw3;obtain ⟨v',h1,h2⟩:=z72 (ρ':=a.eval) (fun x hx=>hs.eval (hw3 x hx) (hw2 x hx)) hv;refine z2l ho hc (Region.noSelect_spec b2) hQ f la a w hJ (Region.free_spec ho b3) hr (.inl ⟨o4 hs hw1,fun w _=>h2 w⟩) (by simpa using b1) ?_;exact h w1 φ1 cs1 _ w φ cs hd hle (hs.put b5 h1) (hka.drop _ _) hpf (hJ.next (rdy_of hc hJ hr)) hag
theorem DA.tskipP (k:Nat) (d:Option Nat) (ho:ops[k]? = some (opAt ops k)) (hd:(opAt ops k).dst=d) (hB:takeQ P n ops A bs la k (opAt ops k)=true) (hc:closedOk ops.toList bs=true) (hQ:∀c a w,¬Q (.panic c) a w) (hw:wantV ops kn (opAt ops k)=some false)
  (h:DA P ne m E n ops bs A H1 ls1 f (la.setIfInBounds k true) ag (dropV d knA) (putV kn d (.val undef)) ls H Q):DA P ne m E n ops bs A H1 ls1 (f+1) la ag knA kn ls H Q:=by
 subst hd;intro w1 φ1 cs1 a w φ cs hd hle hs hka hpf hJ hag;unfold takeQ at hB;simp only [Bool.and_eq_true] at hB;obtain ⟨⟨⟨⟨b1,b2⟩,b3⟩,b4⟩,b5⟩:=hB;have hr:k∈Region.ready .any ops la:=by simpa using b4
 refine z2l (v:=undef) ho hc (Region.noSelect_spec b2) hQ f la a w hJ (Region.free_spec ho b3) hr (.inr ⟨o4 hs hw,rfl⟩) (by simpa using b1) ?_;exact h w1 φ1 cs1 _ w φ cs hd hle (hs.put b5 (kv:=.val undef) (Y4 _)) (hka.drop _ _) hpf (hJ.next (rdy_of hc hJ hr)) hag
end
def notRead (o:Oper):Bool:=match o.op with
 | .load ..=>false
 | .lookup ..=>false
 | _=>true
theorem zd4 {o:Oper} {ρ:Operand→Value} {v:Value} (hn:notRead o=true) (h:detOp P ⟨0,.nil⟩ o ρ=some v):pureOp P o ρ=some v:=by
 unfold pureOp;unfold notRead at hn;split
 ·rename_i e; rw [e] at hn; cases hn
 ·rename_i e; rw [e] at hn; cases hn
 ·exact h
end Go.Abs
namespace Go.Abs
variable {P:Program} {ne:NE} {m n:Nat}
variable {E:Ent} {kn knA:KN} {ls ls1:Lcs} {H H1 H':AH} {ops:Array Oper} {k:Nat} {Q:Exit→Act→World→Prop} {bs A:List Nat} {f:Nat} {la:Array Bool} {ag:Bool}
section
variable {S R:Type} {knOf:S→KN} {lsOf:S→Lcs} {hOf:S→AH} {i:Nat} {QR:R→Exit→Act→World→Prop} {a:Act} {w:World}
end
def gOp {α:Type} (P:Program) (m:Nat) (ops:Array Oper) (k:Nat) (kn:KN) (de:Value→Option α) (H:AH):Option (α×AH) :=
 match runOp P (NE.plain 0) ih0 m (opAt ops k) (evV kn) H with
 | some (v,H')=>(de v).map fun x=>(x,H')
 | none=>none
theorem zal {α:Type} {knS:KN} {de:Value→Option α} {x:α} {v:Value} (hx:gOp P m ops k knS de H=some (x,H')) (hv:∀u,de u=some x→u=v) (he:runOp P (NE.plain 0) ih0 m (opAt ops k) (evV knS) H=runOp P (NE.plain 0) ih0 m (opAt ops k) (evV kn) H):runOp P (NE.plain 0) ih0 m (opAt ops k) (evV kn) H=some (v,H'):=by
 rw [← he];unfold gOp at hx;split at hx
 ·rename_i u H1 hu;cases hd:de u with
  | none=>rw [hd] at hx; cases hx
  | some y =>
   rw [hd] at hx;simp only [Option.map_some,Option.some.injEq,Prod.mk.injEq] at hx;obtain ⟨rfl,rfl⟩:=hx;rw [hu,hv u hd]
 ·cases hx
def gOp1 {α:Type} (P:Program) (ops:Array Oper) (k:Nat) (kn:KN) (de:Value→Option α) (H:AH):Option α :=
 (gOp P 0 ops k kn de H).map (·.1)
theorem zeo {α:Type} {knS:KN} {de:Value→Option α} {x:α} {v:Value} (hx:gOp1 P ops k knS de H=some x) (hv:∀u,de u=some x→u=v) (hq:quiet P (opAt ops k)=true) (he:runOp P (NE.plain 0) ih0 0 (opAt ops k) (evV knS) H=runOp P (NE.plain 0) ih0 m (opAt ops k) (evV kn) H):runOp P (NE.plain 0) ih0 m (opAt ops k) (evV kn) H=some (v,H):=by
 unfold gOp1 at hx;cases hg:gOp P 0 ops k knS de H with
 | none=>rw [hg] at hx; cases hx
 | some p =>
  obtain ⟨y,H1⟩:=p;rw [hg] at hx;simp only [Option.map_some,Option.some.injEq] at hx;subst hx;rw [← he];have h1:runOp P (NE.plain 0) ih0 0 (opAt ops k) (evV knS) H=some (v,H1):=zal hg hv rfl;rw [h1,z5u hq h1]
end Go.Abs
namespace Go.Abs
variable {P:Program} {m:Nat}
theorem zfj {laid:List (String×DataW Unit)} {W:World} {name:String} {k:IntKind} {zs:List Int} {g:Nat} {e t te:TypeId} {n:Nat} (hL:laidMet P laid W) (hf:laid.filter (fun x=>x.1 == name)=[(name,Lib.tabData k zs)])
  (hg:P.globalNamed name=some g) (hty:(P.globals[g]?).map (·.type)=some t) (ht:P.underlying t=some (.array n te)) (he:P.underlying te=some (.int k)) (hce:P.cellsOf te=1) (hct:P.cellsOf t=n) (hlt:g<P.globals.size)
  (hrow:(((begin P (fun _ _=>0) default).world.heap[g]?).bind Obj.row?).map (·.2)=some e) (hsh:W.ShapedOpen P):∃fr,W.heap[g]? = some (.cells (zs.map fun z=>Value.int k z).toArray e fr):=by
 have h1:=laidMet.filter (fun x=>x.1 == name) hL;rw [hf] at h1;exact ⟨(0,0),zco hg hlt hrow hsh (Lib.tabIs_of_head hg hty ht he hce hct h1)⟩
def zsOf:DataW Unit→List Int
 | .agg l=>l.map fun | .lit (.int _ z)=>z | _=>0
 | _=>[]
end Go.Abs
namespace Go.Abs
variable {P:Program} {ne:NE} {m n:Nat}
variable {E:Ent} {kn knA:KN} {ls ls1:Lcs} {H H1 H':AH} {ops:Array Oper} {k:Nat} {Q:Exit→Act→World→Prop} {bs A:List Nat} {f:Nat} {la:Array Bool} {ag:Bool} {c:Code}
theorem B0 (h:WS P ne m E n (cfst c) kn ls H (Exit.then ((csnd c).wp P Q) Q)) (hc:isSeq c=true:=by kernel_rfl):WS P ne m E n c kn ls H Q:=WS.seq hc h
theorem K0 (h:∀a w,SS P ne m E n kn ls H a w→Q .normal a w) (hc:isSkip c=true:=by kernel_rfl):WS P ne m E n c kn ls H Q:=WS.skip hc h
theorem G0 (h:∀a w,SS P ne m E n kn ls H a w→Q .ret a w) (hc:isRet c=true:=by kernel_rfl):WS P ne m E n c kn ls H Q:=WS.ret hc h
theorem WS.ex (i:Nat) (h:∀a w,SS P ne m E n kn ls H a w→Q (.exit i) a w) (hc:isExit i c=true:=by kernel_rfl):WS P ne m E n c kn ls H Q:=WS.exit i hc h
theorem O0 (i:Nat) (h:WS P ne m E n (cfst c) kn ls H (blkS i Q)) (hc:isBlock i c=true:=by kernel_rfl):WS P ne m E n c kn ls H Q:=WS.blk i hc h
theorem I0 (h:WS P ne m E n (cfst c) kn ls H Q) (hc:(condOf c).map (fun x=>(knownV kn x,evV kn x))=some (true,.bool true):=by kernel_rfl):WS P ne m E n c kn ls H Q:=WS.condT true rfl hc h
theorem J0 (h:WS P ne m E n (csnd c) kn ls H Q) (hc:(condOf c).map (fun x=>(knownV kn x,evV kn x))=some (true,.bool false):=by kernel_rfl):WS P ne m E n c kn ls H Q:=WS.condF false rfl hc h
theorem E0 (t:Nat) {b:Bool} (d:Bool) (hb:b=d) (h:WS P ne m E n c ((t,.val (.bool d)) :: kn) ls H Q) (hl:lkV kn t=some (.val (.bool b)):=by kernel_rfl):WS P ne m E n c kn ls H Q:=WS.fix t d hb hl h
theorem N0 (t:Nat) {b:Bool} (d:Bool) (hb:b=d) (h:RS P ne m E n ops k ((t,.val (.bool d)) :: kn) ls H Q) (hl:lkV kn t=some (.val (.bool b)):=by kernel_rfl):RS P ne m E n ops k kn ls H Q:=RS.fix t d hb hl h
theorem DA.fx (t:Nat) {b:Bool} (d:Bool) (hb:b=d) (h:DA P ne m E n ops bs A H1 ls1 f la ag ((t,.val (.bool d)) :: knA) ((t,.val (.bool d)) :: kn) ls H Q) (hl:lkV kn t=some (.val (.bool b)):=by kernel_rfl):DA P ne m E n ops bs A H1 ls1 f la ag knA kn ls H Q:=DA.fix t d hb hl h
theorem C0 (h:RS P ne m E n (opsOf c) 0 kn ls H Q) (hc:(regOf c).map (·.2)=some false:=by kernel_rfl):WS P ne m E n c kn ls H Q:=by
 refine WS.region (opsOf c) ?_ h;cases c with
 | region id ops d =>
  simp only [regOf,Option.map_some,Option.some.injEq] at hc;subst hc; rfl
 | _=>cases hc
theorem RS.dn (h:∀a w,SS P ne m E n kn ls H a w→Q .normal a w) (hk:Nat.ble ops.size k=true:=by kernel_rfl):RS P ne m E n ops k kn ls H Q:=RS.done hk h
theorem u0 (j:Nat) (new:KN) (h:RS P ne m E n ops (k+j) (new++kn) ls H Q) (hr:runLs P m n ops j k kn ls H=some (new++kn,ls,H):=by kernel_rfl):RS P ne m E n ops k kn ls H Q:=RS.many j new ls hr h
theorem V0 (j:Nat) (new:KN) (ls':Lcs) (h:RS P ne m E n ops (k+j) (new++kn) ls' H Q) (hr:runLs P m n ops j k kn ls H=some (new++kn,ls',H):=by kernel_rfl):RS P ne m E n ops k kn ls H Q:=RS.many j new ls' hr h
theorem RS.o (d:Option Nat) (v:Value) (hr:runOp P (NE.plain 0) ih0 m (opAt ops k) (evV kn) H=some (v,H')) (h:RS P ne m E n ops (k+1) (putV kn d (.val v)) ls H' Q)
  (ho:ops[k]? = some (opAt ops k):=by kernel_rfl) (hd:(opAt ops k).dst=d:=by kernel_rfl) (hB:(opV P n ops kn (opAt ops k)&&noCall (opAt ops k))=true:=by kernel_rfl):RS P ne m E n ops k kn ls H Q:=RS.atD d v ho hd hB hr h
theorem RS.cl (d:Option Nat) {v:Value} (g:Nat) (args:Array Value) (hr:CallS P ne m g args H v H') (h:RS P ne m E n ops (k+1) (putV kn d (.val v)) ls H' Q)
  (ho:ops[k]? = some (opAt ops k):=by kernel_rfl) (hd:(opAt ops k).dst=d:=by kernel_rfl) (hB:opV P n ops kn (opAt ops k)=true:=by kernel_rfl) (hc:callV kn (opAt ops k)=some (g,args):=by kernel_rfl):RS P ne m E n ops k kn ls H Q:=RS.callD d g args ho hd hB hc hr h
theorem P0 (A:List Nat) (bs:List Nat) (sz:Nat) (h:closedOk (opsOf c).toList bs=true→DA P ne m E n (opsOf c) bs A H ls sz (Array.replicate sz false) true kn kn ls H Q) (hc:regOf c=some (opsOf c,true):=by kernel_rfl) (hb:befores (opsOf c).toList=bs:=by kernel_rfl) (hs:(opsOf c).size=sz:=by kernel_rfl) (hB:closedOk (opsOf c).toList bs=true:=by kernel_rfl):WS P ne m E n c kn ls H Q:=WS.drawnX (opsOf c) A bs sz hc hb hs hB (h hB)
theorem DA.dn (h:∀a w,SS P ne m E n kn ls H a w→Q .normal a w) (hr:readyIs ops la []=true:=by kernel_rfl):DA P ne m E n ops bs A H1 ls1 f la ag knA kn ls H Q:=DA.done hr h
theorem DA.on (k:Nat) (h:DAk P ne m E n ops bs A H1 ls1 k f la ag knA kn ls H Q) (hr:readyIs ops la [k]=true:=by kernel_rfl):DA P ne m E n ops bs A H1 ls1 (f+1) la ag knA kn ls H Q:=DA.one k hr h
theorem F0 (k:Nat) (d:Option Nat) (v:Value) (hv:detOp P H1 (opAt ops k) (evV knA)=some v) (h:DA P ne m E n ops bs A H1 ls1 f (la.setIfInBounds k true) true (putV knA d (.val v)) (putV kn d (.val v)) ls H Q)
  (hc:closedOk ops.toList bs=true:=by assumption) (ho:ops[k]? = some (opAt ops k):=by kernel_rfl) (hd:(opAt ops k).dst=d:=by kernel_rfl) (hB:takeB P n ops A la k (opAt ops k)=true:=by kernel_rfl) (hQ:∀c a w,¬Q (.panic c) a w:=by exact fun _ _ _ h=>h)
  (hw:(wantV ops kn (opAt ops k),(opAt ops k).op.operands.all (okx P),(opAt ops k).op.operands.all (knownV knA))=(some true,true,true):=by kernel_rfl):DA P ne m E n ops bs A H1 ls1 (f+1) la true knA kn ls H Q:=DA.takeD k d v ho hd hB hc hQ hw hv h
theorem D0 (k:Nat) (d:Option Nat) (v:Value) (h:DA P ne m E n ops bs A H1 ls1 f (la.setIfInBounds k true) true (putV knA d (.val v)) (putV kn d (.val v)) ls H Q)
  (hc:closedOk ops.toList bs=true:=by assumption) (ho:ops[k]? = some (opAt ops k):=by kernel_rfl) (hd:(opAt ops k).dst=d:=by kernel_rfl) (hB:takeB P n ops A la k (opAt ops k)=true:=by kernel_rfl) (hQ:∀c a w,¬Q (.panic c) a w:=by exact fun _ _ _ h=>h)
  (hw:(wantV ops kn (opAt ops k),(opAt ops k).op.operands.all (okx P),(opAt ops k).op.operands.all (knownV knA))=(some true,true,true):=by kernel_rfl) (hv:detOp P H1 (opAt ops k) (evV knA)=some v:=by kernel_rfl):DA P ne m E n ops bs A H1 ls1 (f+1) la true knA kn ls H Q:=DA.takeD k d v ho hd hB hc hQ hw hv h
theorem DA.tL (k:Nat) (d:Option Nat) (kv:KV) (h:DA P ne m E n ops bs A H1 ls1 f (la.setIfInBounds k true) true (putV knA d kv) (putV kn d kv) ls H Q)
  (hc:closedOk ops.toList bs=true:=by assumption) (ho:ops[k]? = some (opAt ops k):=by kernel_rfl) (hd:(opAt ops k).dst=d:=by kernel_rfl) (hB:takeB P n ops A la k (opAt ops k)=true:=by kernel_rfl) (hQ:∀c a w,¬Q (.panic c) a w:=by exact fun _ _ _ h=>h)
  (hw:wantV ops kn (opAt ops k)=some true:=by kernel_rfl) (hv:locDet P knA ls1 (opAt ops k)=some kv:=by kernel_rfl):DA P ne m E n ops bs A H1 ls1 (f+1) la true knA kn ls H Q:=DA.takeLD k d kv ho hd hB hc hQ hw hv h
theorem DA.tP (k:Nat) (d:Option Nat) (v:Value) (h:DA P ne m E n ops bs A H1 ls1 f (la.setIfInBounds k true) ag (dropV d knA) (putV kn d (.val v)) ls H Q)
  (hc:closedOk ops.toList bs=true:=by assumption) (ho:ops[k]? = some (opAt ops k):=by kernel_rfl) (hd:(opAt ops k).dst=d:=by kernel_rfl) (hB:takeQ P n ops A bs la k (opAt ops k)=true:=by kernel_rfl) (hQ:∀c a w,¬Q (.panic c) a w:=by exact fun _ _ _ h=>h)
  (hw:(wantV ops kn (opAt ops k),(opAt ops k).op.operands.all (okx P),(opAt ops k).op.operands.all (knownV kn))=(some true,true,true):=by kernel_rfl) (hv:pureOp P (opAt ops k) (evV kn)=some v:=by kernel_rfl):DA P ne m E n ops bs A H1 ls1 (f+1) la ag knA kn ls H Q:=DA.takeP k d v ho hd hB hc hQ hw hv h
theorem DA.tPx (k:Nat) (d:Option Nat) (v:Value) (hv:detOp P ⟨0,.nil⟩ (opAt ops k) (evV kn)=some v) (h:DA P ne m E n ops bs A H1 ls1 f (la.setIfInBounds k true) ag (dropV d knA) (putV kn d (.val v)) ls H Q)
  (hc:closedOk ops.toList bs=true:=by assumption) (ho:ops[k]? = some (opAt ops k):=by kernel_rfl) (hd:(opAt ops k).dst=d:=by kernel_rfl) (hB:takeQ P n ops A bs la k (opAt ops k)=true:=by kernel_rfl) (hQ:∀c a w,¬Q (.panic c) a w:=by exact fun _ _ _ h=>h)
  (hw:(wantV ops kn (opAt ops k),(opAt ops k).op.operands.all (okx P),(opAt ops k).op.operands.all (knownV kn))=(some true,true,true):=by kernel_rfl) (hn:notRead (opAt ops k)=true:=by kernel_rfl):DA P ne m E n ops bs A H1 ls1 (f+1) la ag knA kn ls H Q:=DA.takeP k d v ho hd hB hc hQ hw (zd4 hn hv) h
theorem DA.aL (k:Nat) (d:Option Nat) (kv:KV) (ls':Lcs) (ag':Bool) (h:DA P ne m E n ops bs A H1 ls1 f (la.setIfInBounds k true) ag' (dropV d knA) (putV kn d kv) ls' H Q)
  (hc:closedOk ops.toList bs=true:=by assumption) (ho:ops[k]? = some (opAt ops k):=by kernel_rfl) (hdd:(opAt ops k).dst=d:=by kernel_rfl) (hr:(Region.ready .any ops la).contains k=true:=by kernel_rfl) (hw:wantV ops kn (opAt ops k)=some true:=by kernel_rfl) (hd:dstV n (opAt ops k)=true:=by kernel_rfl) (hl:locOp P kn ls (opAt ops k)=some (kv,ls'):=by kernel_rfl)
  (ha:((!demO ops A bs k||(ag&&notStore (opAt ops k)))&&(!ag'||(ag&&notStore (opAt ops k))))=true:=by kernel_rfl):DAk P ne m E n ops bs A H1 ls1 k f la ag knA kn ls H Q:=DA.actLD k d kv ls' ag' ho hdd hr hc hw hd hl ha h
theorem S0 (k:Nat) (d:Option Nat) (v:Value) (hv:runOp P (NE.plain 0) ih0 m (opAt ops k) (evV kn) H=some (v,H')) (h:DA P ne m E n ops bs A H1 ls1 f (la.setIfInBounds k true) false (dropV d knA) (putV kn d (.val v)) ls H' Q)
  (hc:closedOk ops.toList bs=true:=by assumption) (ho:ops[k]? = some (opAt ops k):=by kernel_rfl) (hdd:(opAt ops k).dst=d:=by kernel_rfl) (hr:(Region.ready .any ops la).contains k=true:=by kernel_rfl) (hB:(opV P n ops kn (opAt ops k)&&noCall (opAt ops k))=true:=by kernel_rfl) (hd:demO ops A bs k=false:=by kernel_rfl):DAk P ne m E n ops bs A H1 ls1 k f la ag knA kn ls H Q :=
 DA.actHD k d m false v ho hdd hr hc hB hv (Nat.le_refl _) (fun hh=>by rw [hd] at hh; cases hh) (by rw [hd]; rfl) h
theorem DA.aHj (k:Nat) (d:Option Nat) (ag':Bool) (v:Value) (hv:runOp P (NE.plain 0) ih0 (Nat.max m H1.next) (opAt ops k) (evV kn) H=some (v,H')) (h:DA P ne m E n ops bs A H1 ls1 f (la.setIfInBounds k true) ag' (dropV d knA) (putV kn d (.val v)) ls H' Q)
  (hc:closedOk ops.toList bs=true:=by assumption) (ho:ops[k]? = some (opAt ops k):=by kernel_rfl) (hdd:(opAt ops k).dst=d:=by kernel_rfl) (hr:(Region.ready .any ops la).contains k=true:=by kernel_rfl) (hB:(opV P n ops kn (opAt ops k)&&noCall (opAt ops k))=true:=by kernel_rfl) (ha:((!demO ops A bs k||ag)&&(!ag'||ag))=true:=by kernel_rfl):DAk P ne m E n ops bs A H1 ls1 k f la ag knA kn ls H Q :=
 DA.actHD k d (Nat.max m H1.next) ag' v ho hdd hr hc hB hv (Nat.le_max_left _ _) (fun _=>.inr (Nat.le_max_right _ _)) ha h
theorem DA.aC (k:Nat) (d:Option Nat) {v:Value} (g:Nat) (args:Array Value) (hcs:CallS P ne m g args H v H') (h:DA P ne m E n ops bs A H1 ls1 f (la.setIfInBounds k true) false (dropV d knA) (putV kn d (.val v)) ls H' Q)
  (hc:closedOk ops.toList bs=true:=by assumption) (ho:ops[k]? = some (opAt ops k):=by kernel_rfl) (hdd:(opAt ops k).dst=d:=by kernel_rfl) (hr:(Region.ready .any ops la).contains k=true:=by kernel_rfl) (hB:opV P n ops kn (opAt ops k)=true:=by kernel_rfl) (hcl:callV kn (opAt ops k)=some (g,args):=by kernel_rfl) (hd:demO ops A bs k=false:=by kernel_rfl):DAk P ne m E n ops bs A H1 ls1 k f la ag knA kn ls H Q :=
 DA.actCD k d m false g args ho hdd hr hc hB hcl hcs (Nat.le_refl _) (fun hh=>by rw [hd] at hh; cases hh) (by rw [hd]; rfl) h
theorem DA.aCj (k:Nat) (d:Option Nat) (ag':Bool) {v:Value} (g:Nat) (args:Array Value) (hcs:CallS P ne (Nat.max m H1.next) g args H v H') (h:DA P ne m E n ops bs A H1 ls1 f (la.setIfInBounds k true) ag' (dropV d knA) (putV kn d (.val v)) ls H' Q)
  (hc:closedOk ops.toList bs=true:=by assumption) (ho:ops[k]? = some (opAt ops k):=by kernel_rfl) (hdd:(opAt ops k).dst=d:=by kernel_rfl) (hr:(Region.ready .any ops la).contains k=true:=by kernel_rfl) (hB:opV P n ops kn (opAt ops k)=true:=by kernel_rfl) (hcl:callV kn (opAt ops k)=some (g,args):=by kernel_rfl) (ha:((!demO ops A bs k||ag)&&(!ag'||ag))=true:=by kernel_rfl):DAk P ne m E n ops bs A H1 ls1 k f la ag knA kn ls H Q :=
 DA.actCD k d (Nat.max m H1.next) ag' g args ho hdd hr hc hB hcl hcs (Nat.le_max_left _ _) (fun _=>.inr (Nat.le_max_right _ _)) ha h
theorem SubV.of:∀{kn' kn:KN},kn'.map (fun p=>lkV kn p.1)=kn'.map (fun p=>some p.2)→SubV kn' kn:=by
 intro kn';induction kn' with
 | nil=>intro kn _; trivial
 | cons p l ih =>
  intro kn h;obtain ⟨t,v⟩:=p;simp only [List.map_cons,List.cons.injEq] at h;exact ⟨h.1,ih h.2⟩
theorem SS.sb {a:Act} {w:World} (h:SS P ne m E n kn ls H a w) {kn':KN} (k:Nat) {ls':Lcs} (hs:kn'.map (fun p=>lkV kn p.1)=kn'.map (fun p=>some p.2):=by kernel_rfl) (hl:ls.take k=ls':=by kernel_rfl) (hb:belowL k kn'=true:=by kernel_rfl):SS P ne m E n kn' ls' H a w:=h.sub (SubV.of hs) k hl hb
theorem rS {fn:Func} {v:Value} {a:Act} {w:World} (hs:SS P ne m E n kn ls H a w) (h:resF P fn kn ls H=some v:=by kernel_rfl):RT P ne m E fn v H a w:=rtS hs h
section
variable {S R:Type} {body:S→Option (Lp S R)} {knOf:S→KN} {lsOf:S→Lcs} {hOf:S→AH} {i:Nat}
theorem U0 {QR:R→Act→World→Prop} (hbody:∀s o,body s=some o→WS P ne m E n (cfst c) (knOf s) (lsOf s) (hOf s) (lpS P ne m E n knOf lsOf hOf i QR o)) {s s':S} (hl:loopO body s=some (.inl s')) (k:Nat) (h1:∀a w,SS P ne m E n (knOf s') (lsOf s') (hOf s') a w→Q (.exit i) a w)
  (hc:isLoop c=true:=by kernel_rfl) (hs:(knOf s).map (fun p=>lkV kn p.1)=(knOf s).map (fun p=>some p.2):=by kernel_rfl) (hls:ls.take k=lsOf s:=by kernel_rfl) (hbl:belowL k (knOf s)=true:=by kernel_rfl) (hH:H=hOf s:=by rfl):WS P ne m E n c kn ls H Q :=
 WS.loopI hc body knOf lsOf hOf i QR hbody hl k (SubV.of hs) hls hbl hH h1
theorem T0 {QR:R→Act→World→Prop} (hbody:∀s o,body s=some o→WS P ne m E n (cfst c) (knOf s) (lsOf s) (hOf s) (lpS P ne m E n knOf lsOf hOf i QR o)) {s:S} {r:R} (hl:loopO body s=some (.inr r)) (k:Nat) (h2:∀a w,QR r a w→Q .ret a w)
  (hc:isLoop c=true:=by kernel_rfl) (hs:(knOf s).map (fun p=>lkV kn p.1)=(knOf s).map (fun p=>some p.2):=by kernel_rfl) (hls:ls.take k=lsOf s:=by kernel_rfl) (hbl:belowL k (knOf s)=true:=by kernel_rfl) (hH:H=hOf s:=by rfl):WS P ne m E n c kn ls H Q :=
 WS.loopR hc body knOf lsOf hOf i QR hbody hl k (SubV.of hs) hls hbl hH h2
end
end Go.Abs
namespace Go.Abs
variable {P:Program} {ne:NE} {m:Nat} {H:AH}
theorem zd1 {φ:Inj} {w:World} {x:Tab} (hg:Glob P φ) (hi:Inv φ H w) (hlt:x.1<P.globals.size) (hfl:x.2.2.all (flat depth)=true) (hx:H.get x.1=some (tabBlk x)) :
  ∃fr,w.heap[x.1]? = some (.cells x.2.2 x.2.1 fr):=by
 obtain ⟨l,h1,h2⟩:=hi.obj x.1 _ hx;obtain ⟨l',g1,g2,g3⟩:=hg x.1 hlt;rw [h1] at g1; cases g1;obtain ⟨c',e',f',k1,k2⟩:=h2;obtain ⟨k3,k4⟩:=k2.exact_ rfl;have k5:=k2.elem;subst k5;rw [g2] at k1;refine ⟨f',?_⟩;rw [k1];have:c'=x.2.2:=by
  refine Array.ext k4 fun i hi1 hi2=>?_;obtain ⟨v',q1,q2⟩:=k2.cell i x.2.2[i] (by simp [hi2]);rw [k3,Nat.zero_add] at q1;have hf:flat depth x.2.2[i]=true:=by
   rw [Array.all_eq_true] at hfl;exact hfl i hi2
  have:=Z4 depth hf q2;rw [← this] at q1;have q3:c'[i]? = some c'[i]:=by simp [hi1]
  rw [q3] at q1;exact Option.some.inj q1
 rw [this]
structure UnderRes (P:Program) (φ:Inj) (H:AH) (w:World) (v:Value) (H1:AH) (v':Value) (w':World) (φ1:Inj):Prop where
 vr:VR φ1 v v'
 inv:Inv φ1 H1 w'
 new:∀l,φ1 P.globals.size=some l→w.heap.size≤l.blk
 size:w.heap.size≤w'.heap.size
 keep:∀c,c<w.heap.size→w'.heap[c]? = w.heap[c]?
 os:w'.os=w.os
 tape:w'.tape=w.tape
 output:w'.output=w.output
theorem zbx {tabs:List Tab} {f:Nat} {args:Array Value} {v:Value} {H1:AH} (hP:0<P.globals.size) (hB:tabsB P tabs=true) (hc:CallS P ne P.globals.size f args (startH P tabs) v H1)
  (ha:args.all (flat depth)=true) (hsub:∀x∈tabs,H.get x.1=some (tabBlk x)) (hS:Sane P ne) :
  (∃fn c,P.funcs[f]? = some fn∧fn.body=some c)∧∀φ w args',Glob P φ→AR φ args args'→Inv φ H w→Calls P f args' w fun e w'=>∃v' φ1,e=.returned v'∧UnderRes P φ H w v H1 v' w' φ1:=by
 obtain ⟨h1,h2⟩:=hc hS;refine ⟨h1,fun φ w args' hg har hi=>?_⟩;have hB':=hB;unfold tabsB at hB';rw [List.all_eq_true] at hB';have hlt:∀x∈tabs,x.1<P.globals.size∧x.2.2.all (flat depth)=true:=fun x hx=>by
  have:=hB' x hx;simp only [Bool.and_eq_true] at this;exact ⟨blt_lt this.1,this.2⟩
 have hsz:P.globals.size≤w.heap.size:=by
  obtain ⟨l,g1,g2,_⟩:=hg (P.globals.size - 1) (by omega);have:=(hi.dom _ l g1).2;omega
 have hinv:Inv (φg P) (startH P tabs) w:=z95 hsz hB fun x hx=>zd1 hg hi (hlt x hx).1 (hlt x hx).2 (hsub x hx);have har':AR (φg P) args args':=by
  refine ⟨har.1,fun i x y hx hy=>?_⟩;have hf:flat depth x=true:=by
   rw [Array.all_eq_true_iff_forall_mem] at ha;exact ha x (Array.mem_of_getElem? hx)
  have:=Z4 depth hf (har.2 i x y hx hy);subst this;exact X1 depth hf
 refine (h2 (φg P) w args' zan har' hinv).mono fun e w' ⟨φ1,v',he,hv,hi1,hst⟩=>⟨v',φ1,he,hv,hi1,fun l hl=>?_,hst.size,fun c hc=>?_,hst.os,hst.tape,hst.output⟩
 ·have hno:φg P P.globals.size=none:=by simp [φg]
  rcases (hst.new _ l hl hno).2 with h | ⟨id0,l0,a1,a2,a3,_⟩
  ·exact h
  ·obtain ⟨b,hb⟩:=Option.isSome_iff_exists.1 a2;obtain ⟨x,hx,rfl,_⟩:=I7 hb;have:=(hlt x hx).1;omega
 ·refine hst.keep c hc fun id l hm hs _=>?_;obtain ⟨b,hb⟩:=Option.isSome_iff_exists.1 hs;obtain ⟨x,hx,rfl,_⟩:=I7 hb;have:=(hlt x hx).1;omega
theorem ze9 {φ:Inj} {w w':World} (hi:Inv φ H w) (hs:w.heap.size≤w'.heap.size) (hk:∀c,c<w.heap.size→w'.heap[c]? = w.heap[c]?):Inv φ H w':=by
 refine ⟨fun id l hl=>?_,fun id b hb=>?_,hi.sep⟩
 ·have:=hi.dom id l hl;exact ⟨this.1,by omega⟩
 ·obtain ⟨l,q1,q2⟩:=hi.obj id b hb;exact ⟨l,q1,q2.same (hk l.blk (hi.dom id l q1).2)⟩
theorem CallS.under {tabs:List Tab} {f:Nat} {args:Array Value} {v:Value} {H1:AH} (hP:0<P.globals.size) (hB:tabsB P tabs=true) (hc:CallS P ne P.globals.size f args (startH P tabs) v H1)
  (ha:args.all (flat depth)=true) (hv:flat depth v=true) (hsub:∀x∈tabs,H.get x.1=some (tabBlk x)):CallS P ne m f args H v H:=by
 intro hS;obtain ⟨h1,h2⟩:=zbx hP hB hc ha hsub hS;refine ⟨h1,fun φ w args' hg har hi=>(h2 φ w args' hg har hi).mono fun e w' ⟨v',φ1,he,hr⟩=>?_⟩;have hvv:=Z4 depth hv hr.vr;subst hvv;exact ⟨φ,v,he,X1 depth hv,ze9 hi hr.size hr.keep,⟨Nat.le_refl _,Inj.le_refl _,fun id l hl hn=>(by rw [hl] at hn; cases hn),fun id hh=>.inl hh,hr.size,fun c hc _=>hr.keep c hc,hr.os,hr.tape,hr.output⟩⟩
end Go.Abs
namespace Go.Abs
instance:DecidableEq Sl3:=fun a b =>
 if h:a.p=b.p∧a.n=b.n∧a.c=b.c then isTrue (by cases a; cases b; obtain ⟨rfl,rfl,rfl⟩:=h; rfl)
 else isFalse fun e=>h (by subst e; exact ⟨rfl,rfl,rfl⟩)
@[reducible] def kI (t:Nat) (x:Int):Nat×KV:=(t,.val (.int .i64 x))
@[reducible] def kB (t:Nat) (x:Bool):Nat×KV:=(t,.val (.bool x))
@[reducible] def kS (t:Nat) (x:Sl3):Nat×KV:=(t,.val x.v)
@[reducible] def kP (t:Nat) (x:Addr):Nat×KV:=(t,.val (.pointer (some x)))
@[reducible] def kT (t:Nat) (x:ByteArray):Nat×KV:=(t,.val (.string x))
@[reducible] def kA (t:Nat) (x:Array Value):Nat×KV:=(t,.val (.agg x))
@[reducible] def kU (t:Nat):Nat×KV:=(t,.val undef)
@[reducible] def kL (t i o:Nat):Nat×KV:=(t,.loc i o)
variable {P:Program} {ne:NE} {m n:Nat}
variable {E:Ent} {kn:KN} {ls:Lcs} {H H':AH} {ops:Array Oper} {k:Nat} {Q:Exit→Act→World→Prop}
def LoopF (P:Program) (ne:NE) (m:Nat) (E:Ent) (fn:Func) (c:Code) {S R:Type} (st:S→KN×Lcs) (hOf:S→AH) (i:Nat) (enc:R→Value) (hp:R→AH) (body:S→Option (Lp S R)):Prop :=
 ∀s o,body s=some o→WS P ne m E fn.ntmps (cfst c) (st s).1 (st s).2 (hOf s) (lpS P ne m E fn.ntmps (fun s=>(st s).1) (fun s=>(st s).2) hOf i (fun r=>RT P ne m E fn (enc r) (hp r)) o)
section
variable {ih:Ex} {ρ:Operand→Value} {o:Oper}
end
theorem Q0 (d:Nat) (t e:TypeId) (x y:Operand) {sz:Nat} {s:Sl3} {i:Int} {a:Addr} (hx:idxA sz s i=some a) (h:RS P ne m E n ops (k+1) (putV kn (some d) (.val (.pointer (some a)))) ls H Q)
  (hop:(opAt ops k).op=.indexAddr t x y:=by kernel_rfl) (hu:P.underlying t=some (.slice e):=by kernel_rfl) (hi:(P.info? e).map (·.size)=some sz:=by kernel_rfl) (h1:evV kn x=s.v:=by kernel_rfl) (h2:evV kn y=.int .i64 i:=by kernel_rfl)
  (ho:ops[k]? = some (opAt ops k):=by kernel_rfl) (hd:(opAt ops k).dst=some d:=by kernel_rfl) (hB:(opV P n ops kn (opAt ops k)&&noCall (opAt ops k))=true:=by kernel_rfl):RS P ne m E n ops k kn ls H Q :=
 RS.o (some d) _ (zfm hop hu hi h1 h2 hx) h ho hd hB
theorem M0 (d:Nat) (t:TypeId) (x:Operand) {a:Addr} {v:Value} (hx:H.cell a=some v) (h:RS P ne m E n ops (k+1) (putV kn (some d) (.val v)) ls H Q)
  (hop:(opAt ops k).op=.load t x:=by kernel_rfl) (hu:(P.underlying t).map isAggD=some false:=by kernel_rfl) (h1:evV kn x=.pointer (some a):=by kernel_rfl)
  (ho:ops[k]? = some (opAt ops k):=by kernel_rfl) (hd:(opAt ops k).dst=some d:=by kernel_rfl) (hB:(opV P n ops kn (opAt ops k)&&noCall (opAt ops k))=true:=by kernel_rfl):RS P ne m E n ops k kn ls H Q :=
 RS.o (some d) _ (run_load hop hu h1 hx) h ho hd hB
theorem RS.la (d:Nat) (t:TypeId) (x:Operand) (c:Nat) {a:Addr} {l:List Value} (hx:rdCells H a 0 c=some l) (h:RS P ne m E n ops (k+1) (putV kn (some d) (.val (.agg l.toArray))) ls H Q)
  (hop:(opAt ops k).op=.load t x:=by kernel_rfl) (hu:(P.underlying t).map isAggD=some true:=by kernel_rfl) (hi:(P.info? t).map (·.size)=some c:=by kernel_rfl) (h1:evV kn x=.pointer (some a):=by kernel_rfl)
  (ho:ops[k]? = some (opAt ops k):=by kernel_rfl) (hd:(opAt ops k).dst=some d:=by kernel_rfl) (hB:(opV P n ops kn (opAt ops k)&&noCall (opAt ops k))=true:=by kernel_rfl):RS P ne m E n ops k kn ls H Q :=
 RS.o (some d) _ (zbo hop hu hi h1 hx) h ho hd hB
end Go.Abs
namespace Go.Abs
variable {P:Program} {ne:NE} {m n:Nat}
def swI (i j k:Nat):Nat:=bif Nat.beq k i then j else bif Nat.beq k j then i else k
def swK (i j:Nat):KV→KV
 | .val v=>.val v
 | .loc a o=>.loc (swI i j a) o
 | .sli a n=>.sli (swI i j a) n
def swN (i j:Nat):KN→KN
 | []=>[]
 | (t,v) :: l=>(t,swK i j v) :: swN i j l
def swL {α:Type} (i j:Nat) (l:List α):List α:=match l[i]?,l[j]? with
 | some x,some y=>(l.set i y).set j x
 | _,_=>l
theorem z3u (i j k:Nat):swI i j (swI i j k)=k:=by
 have e:∀a b:Nat,Nat.beq a b=decide (a=b):=fun a b=>by
  cases h:Nat.beq a b
  ·exact (decide_eq_false (Nat.ne_of_beq_eq_false h)).symm
  ·exact (decide_eq_true (Nat.eq_of_beq_eq_true h)).symm
 unfold swI;simp only [e,cond_eq_ite,decide_eq_true_eq];by_cases h1:k=i
 ·subst h1;rw [if_pos rfl];by_cases h2:j=k
  ·rw [if_pos h2]; exact h2
  ·rw [if_neg h2,if_pos rfl]
 ·rw [if_neg h1];by_cases h2:k=j
  ·subst h2; rw [if_pos rfl,if_pos rfl]
  ·rw [if_neg h2,if_neg h1,if_neg h2]
theorem zab {α:Type} {i j:Nat} {l:List α} (hi:i<l.length) (hj:j<l.length) (k:Nat):(swL i j l)[k]? = l[swI i j k]? := by
 have e:∀a b:Nat,Nat.beq a b=decide (a=b):=fun a b=>by
  cases h:Nat.beq a b
  ·exact (decide_eq_false (Nat.ne_of_beq_eq_false h)).symm
  ·exact (decide_eq_true (Nat.eq_of_beq_eq_true h)).symm
 unfold swL swI;rw [List.getElem?_eq_getElem hi,List.getElem?_eq_getElem hj];simp only [e,cond_eq_ite,decide_eq_true_eq,List.getElem?_set,List.length_set];by_cases h1:k=i
 ·subst h1;by_cases h2:j=k
  ·subst h2; simp [hi]
  ·simp [h2,hi,hj]
 ·by_cases h2:k=j
  ·subst h2; simp [h1,hi,hj]
  ·simp [h1,h2,Ne.symm h1,Ne.symm h2]
theorem zat {α:Type} (i j:Nat) (l:List α):(swL i j l).length=l.length:=by
 unfold swL;split <;> simp
theorem swN_lk {i j:Nat}:∀{kn:KN} {t:Nat} {kv:KV},lkV (swN i j kn) t=some kv→∃v,lkV kn t=some v∧kv=swK i j v
 | [],_,_,h=>by cases h
 | (k,v) :: l,t,kv,h=>by
  simp only [swN,lkV] at h ⊢;cases hb:Nat.beq k t with
  | true=>rw [hb] at h; cases h; exact ⟨v,rfl,rfl⟩
  | false=>rw [hb] at h; exact swN_lk h
theorem SS.sw {E:Ent} {kn:KN} {ls:Lcs} {H:AH} {a:Act} {w:World} (i j:Nat) (h:SS P ne m E n kn ls H a w) (hi:Nat.blt i ls.length=true:=by kernel_rfl) (hj:Nat.blt j ls.length=true:=by kernel_rfl):SS P ne m E n (swN i j kn) (swL i j ls) H a w:=by
 obtain ⟨φ,cs,h⟩:=h;have hi:=blt_lt hi;have hj:=blt_lt hj;have hl:=h.len;have gc:=zab (l:=cs) (i:=i) (j:=j) (by omega) (by omega);have gl:=zab (l:=ls) hi hj;refine ⟨φ,swL i j cs,h.glob,h.inv,h.step,by rw [zat,zat]; exact hl,fun k c x hc hx=>?_,fun k k' c hc hc'=>?_,fun k c hc=>?_,fun t kv hk=>?_,h.size,h.defers,h.sane,h.inv0⟩
 ·rw [gc] at hc; rw [gl] at hx; exact h.loc _ c x hc hx
 ·rw [gc] at hc hc';have:=h.inj _ _ c hc hc';rw [← z3u i j k,this,z3u]
 ·rw [gc] at hc; exact h.low _ c hc
 ·obtain ⟨v,h1,rfl⟩:=swN_lk hk;have h2:=h.slot t v h1;cases v with
  | val v=>exact h2
  | loc b o =>
   obtain ⟨c,h3,h4⟩:=h2;exact ⟨c,by rw [gc,z3u]; exact h3,h4⟩
  | sli b o =>
   obtain ⟨⟨c,h3,h4⟩,h5⟩:=h2;exact ⟨⟨c,by rw [gc,z3u]; exact h3,h4⟩,h5⟩
end Go.Abs
namespace Go.Abs
variable {P:Program} {ne:NE}
def OrOK (P:Program) (ne:NE) (o:Nat→FuncId→Array Value→AH→Option (Value×AH)):Prop:=∀m f args H v H',o m f args H=some (v,H')→CallS P ne m f args H v H'
theorem Sane.orcs {o:Nat→FuncId→Array Value→AH→Option (Value×AH)} (h:Sane P ne) (ho:OrOK P ne o):Sane P ⟨ne.esc,o⟩ :=
 ⟨h.mixed,h.noNum,h.esc,fun m f args H v H' hh=>ho m f args H v H' hh h⟩
theorem CallS.ofRun {o:Nat→FuncId→Array Value→AH→Option (Value×AH)} {n m f:Nat} {args:Array Value} {H H':AH} {v:Value} {fn:Func} {c:Code} (ho:OrOK P ne o) (hf:P.funcs[f]? = some fn) (hb:fn.body=some c) (h:acall P ⟨ne.esc,o⟩ n m f args H=some (v,H')):CallS P ne m f args H v H' :=
 fun hs=>⟨⟨fn,c,hf,hb⟩,fun _ _ _ hg ha hi=>zfd (hs.orcs ho) hf hb h hg ha hi⟩
structure Dc (α:Type) where
 de:Value→Option α
 en:α→Value
 inv:∀v a,de v=some a→v=en a
structure DcL (α:Type) where
 de:List Value→Option α
 en:α→List Value
 inv:∀v a,de v=some a→v=en a
def orN:Nat→FuncId→Array Value→AH→Option (Value×AH):=fun _ _ _ _=>none
theorem orN_ok:OrOK P ne orN:=fun _ _ _ _ _ _ h=>by cases h
end Go.Abs
namespace Go.Abs
open Go
variable {P:Program} {ne:NE} {m n:Nat} {E:Ent} {kn:KN} {ls:Lcs}
structure HSub (K H:AH):Prop where
 next:K.next=H.next
 get:∀id b,K.get id=some b→H.get id=some b
end Go.Abs
namespace Go.Abs
variable {P:Program} {ne:NE} {m n:Nat}
def agL (cs:List Nat) (ls:Lcs) (w1 w:World):Prop:=∀(i:Nat) c x,cs[i]? = some c→ls[i]? = some (some x)→w.heap[c]? = w1.heap[c]?
theorem agL.refl (cs:List Nat) (ls:Lcs) (w:World):agL cs ls w w:=fun _ _ _ _ _=>rfl
def wpAnyS (P:Program) (ops:Array Oper) (Q:Exit→Act→World→Prop) (S:World→Prop):Nat→Array Bool→Act→World→Prop
 | 0,la,a,w=>Region.ready .any ops la=[]∧Q .normal a w
 | f+1,la,a,w=>(Region.ready .any ops la=[]→Q .normal a w) ∧
  ∀i∈Region.ready .any ops la,wpOp P ops Q i (fun a' w'=>S w'∧wpAnyS P ops Q S f (la.setIfInBounds i true) a' w') a w
variable {ops:Array Oper} {Q:Exit→Act→World→Prop} {bs:List Nat} {S:World→Prop}
theorem z5h:∀(f:Nat) (la:Array Bool) (a:Act) (w:World),wpAnyS P ops Q S f la a w→wpAny P .any ops Q f la a w
 | 0,_,_,_,h=>h
 | f+1,_,_,_,h=>⟨h.1,fun i hi=>wpOp_mono (fun a' w' h'=>z5h f _ a' w' h'.2) (h.2 i hi)⟩
theorem z3r {i:Nat} {oi:Oper} {v:Value} (hi:ops[i]? = some oi) (hc:closedOk ops.toList bs=true) (hsel:∀(j:Nat) (o:Oper) cs b,ops[j]? = some o→o.op≠.select cs b)
  (hQ:∀c a w,¬Q (.panic c) a w) :
  ∀(fuel:Nat) (la:Array Bool) (a:Act) (w:World),JC ops bs la →
   (∀j oj,ops[j]? = some oj→j≠i→la.getD j true=false→(∀e∈oj.after,Region.binds .any e=true→e.on≠i)→oi.apart ops oj=true) →
   i∈Region.ready .any ops la→YieldsIf P ops S oi v a→S w →
   wpAnyS P ops Q S fuel (la.setIfInBounds i true) (a.put oi.dst v) w→wpAnyS P ops Q S (fuel+1) la a w:=by
 intro fuel;induction fuel with
 | zero =>
  intro la a w hJ _ hr hy hS H;refine ⟨fun h=>(by rw [h] at hr; cases hr),fun j hj=>?_⟩;by_cases hji:j=i
  ·subst hji; exact hy.wpOp hi hS ⟨hS,H⟩
  ·have:=ready_mono hj hji;rw [H.1] at this;cases this
 | succ fuel ih =>
  intro la a w hJ hfree hr hy hS H;refine ⟨fun h=>(by rw [h] at hr; cases hr),fun j hj=>?_⟩;by_cases hji:j=i
  ·subst hji; exact hy.wpOp hi hS ⟨hS,H⟩
  ·have h1:=H.2 j (ready_mono hj hji);have r:=rdy_of hc hJ hj;have ri:=rdy_of hc hJ hr;have h1:wpOp P ops Q j (fun a' w'=>S w'∧wpAnyS P ops Q S fuel ((la.setIfInBounds i true).setIfInBounds j true) a' w') (a.put oi.dst v) w:=h1;obtain ⟨hjun,oj,hoj,hall⟩:=mem_ready.1 hj;have hnot:∀e∈oj.after,Region.binds .any e=true→e.on≠i:=fun e he hb heq=>by
    have h1:=hall e he hb;have h0:=(mem_ready.1 hr).1;rw [heq] at h1;rcases Nat.lt_or_ge i la.size with h' | h'
    ·simp [h'] at h0 h1; rw [h0] at h1; cases h1
    ·simp [Array.getElem?_eq_none h'] at h1
   have h2:=wpOp_putIf hoj (hfree j oj hoj hji hjun hnot) (fun cs b=>hsel i oi cs b hi) (fun cs b=>hsel j oj cs b hoj) (fun c a w h=>absurd h (hQ c _ w)) hy h1;have hfree':∀k ok,ops[k]? = some ok→k≠i→(la.setIfInBounds j true).getD k true=false →
     (∀e∈ok.after,Region.binds .any e=true→e.on≠i)→oi.apart ops ok=true:=fun k ok hk hki hun hno=>by
    refine hfree k ok hk hki ?_ hno;by_cases hjk:j=k
    ·subst hjk; exact hjun
    ·rw [getD_set_ne true hjk] at hun; exact hun
   refine wpOp_mono (fun a' w' h3=>⟨h3.2.1,ih (la.setIfInBounds j true) a' w' (hJ.next r) hfree' (ready_mono hr (Ne.symm hji)) h3.1 h3.2.1 ?_⟩) h2;rw [Array.setIfInBounds_comm _ _ hji];exact h3.2.2
section
variable {knA:KN} {ls1:Lcs} {w1:World} {φ1:Inj} {cs1:List Nat} {a:Act}
theorem zb6 {o:Oper} {kv:KV} (h:locDet P knA ls1 o=some kv) (hloc:∀(i:Nat) c x,cs1[i]? = some c→ls1[i]? = some (some x)→∃rs,w1.heap[c]? = some (.cells rs x.1 (0,0))∧LR φ1 x.2 rs.toList) (hka:KA φ1 cs1 knA a):∃v',KR φ1 cs1 kv v'∧∀w,agL cs1 ls1 w1 w→(execOp a.eval o).run P w=.ok (.value v') w:=by
 unfold locDet at h;have hl:∃ls',locOp P knA ls1 o=some (kv,ls'):=by
  split at h;all_goals first | (cases hq:locOp P knA ls1 o with | none=>rw [hq] at h; cases h | some p=>obtain ⟨x,y⟩:=p; rw [hq] at h; simp only [Option.map_some,Option.some.injEq] at h; subst h; exact ⟨y,rfl⟩) | cases h
 obtain ⟨ls',hl⟩:=hl;obtain ⟨dst,op,ty,pos,after,guard⟩:=o;unfold locOp at hl;simp only at hl h;split at hl
 ·rename_i t;split at hl
  ·rename_i i off hk;simp only [Option.some.injEq,Prod.mk.injEq] at hl;obtain ⟨rfl,rfl⟩:=hl;exact ⟨a.tmps.getD t undef,hka t _ hk,fun w _=>rfl⟩
  ·cases hl
 ·rename_i t;split at hl
  ·rename_i i off hk;simp only [Option.some.injEq,Prod.mk.injEq] at hl;obtain ⟨rfl,rfl⟩:=hl;exact ⟨a.tmps.getD t undef,hka t _ hk,fun w _=>rfl⟩
  ·cases hl
 ·rename_i t;split at hl
  ·rename_i i off hk;simp only [Option.some.injEq,Prod.mk.injEq] at hl;obtain ⟨rfl,rfl⟩:=hl;refine ⟨a.tmps.getD t undef,hka t _ hk,fun w _=>?_⟩;obtain ⟨c,h1,h2⟩:=hka t _ hk;have:a.eval (.tmp t)=.pointer (some ⟨c,off,none⟩):=h2;simp only [execOp,this];rw [h2]; rfl
  ·cases hl
 ·rename_i s t f;split at hl
  ·rename_i i off fs hk hu;cases hf:fs[f]? with
   | none=>rw [hf] at hl; cases hl
   | some fd =>
    rw [hf] at hl;simp only at hl;cases hi:P.info? fd.type with
    | none=>rw [hi] at hl; cases hl
    | some inf =>
     rw [hi] at hl;simp only at hl;cases hz:Nat.beq inf.size 0 with
     | true=>rw [hz] at hl; cases hl
     | false =>
      rw [hz] at hl;simp only [cond_false,Option.some.injEq,Prod.mk.injEq] at hl;obtain ⟨rfl,rfl⟩:=hl;obtain ⟨c,h1,h2⟩:=hka t _ hk;have he:a.eval (.tmp t)=.pointer (some ⟨c,off,none⟩):=h2;refine ⟨.pointer (some ⟨c,off+fd.offset,none⟩),⟨c,h1,rfl⟩,fun w _=>?_⟩;have hne:=Nat.ne_of_beq_eq_false hz;have hrun:(Instr.fieldAt s (.pointer (some ⟨c,off,none⟩)) f).run P w=.ok (.pointer (some ⟨c,off+fd.offset,none⟩)) w:=by
       simp only [Instr.fieldAt,Sem.run_bind,E1 hu,Result.andThen_ok,hf,Instr.sureAddr,Sem.run_pure,fieldPlace,Y2 hi];rw [if_neg hne];simp only [Sem.run_pure,Result.andThen_ok,Addr.add_lit]
      simp only [execOp,he,Sem.run_bind,hrun,Result.andThen_ok];rfl
  ·cases hl
 ·rename_i t x;split at hl
  ·rename_i i off d inf hk hu hi;split at hl
   ·rename_i e cells hc;obtain ⟨c,h1,h2⟩:=hka x _ hk;obtain ⟨rs,g2,g3⟩:=hloc i c _ h1 hc;have he:a.eval (.tmp x)=.pointer (some ⟨c,off,none⟩):=h2;have hlen:=LR.length g3;simp only at hlen g3;have hlt:c<w1.heap.size:=by rw [Array.getElem?_eq_some_iff] at g2; exact g2.1
    have hagg:∀w,(isAgg t).run P w=.ok (isAggD d) w:=by
     intro w;simp only [isAgg,Sem.run_bind,E1 hu,Result.andThen_ok];cases d <;> rfl
    have hex:∀w v,(loadVar t ⟨c,off,none⟩).run P w=.ok v w→(execOp a.eval ⟨dst,.load t (.tmp x),ty,pos,after,guard⟩).run P w=.ok (.value v) w:=by
     intro w v hr;simp only [execOp,he,Instr.loadAt,Instr.sureAddr,Sem.run_bind,Sem.run_pure,Result.andThen_ok,hr]
    have hcell:∀w,agL cs1 ls1 w1 w→∀(j:Nat) u,rs[off+j]? = some u→w.cell? ((⟨c,off,none⟩:Addr).add j)=some u:=by
     intro w hag j u hu;rw [Addr.add_lit];simp [World.cell?,hag i c _ h1 hc,g2,hu]
    cases hda:isAggD d with
    | true =>
     rw [hda] at hl;simp only [cond_true] at hl;cases hb:Nat.ble (off+inf.size) cells.length with
     | false=>rw [hb] at hl; cases hl
     | true =>
      rw [hb] at hl;simp only [cond_true,Option.some.injEq,Prod.mk.injEq] at hl;obtain ⟨rfl,rfl⟩:=hl;have hble:=Nat.le_of_ble_eq_true hb;have hls:((rs.toList.drop off).take inf.size).length=inf.size:=by simp at hlen ⊢; omega
      refine ⟨.agg ((rs.toList.drop off).take inf.size).toArray,?_,fun w hag=>hex w _ ?_⟩
      ·have hpw:AR φ1 ((cells.drop off).take inf.size).toArray ((rs.toList.drop off).take inf.size).toArray:=by
        refine ⟨by simp at hlen ⊢; omega,fun j u v hu hv=>?_⟩;have hA:=AR_iff.2 (show LR φ1 cells.toArray.toList rs.toList by simpa using g3);rw [List.getElem?_toArray,List.getElem?_take] at hu hv;split at hu
        ·rename_i hj;rw [if_pos hj,List.getElem?_drop] at hv;rw [List.getElem?_drop] at hu;exact hA.2 (off+j) u v (by simpa using hu) (by simpa using hv)
        ·cases hu
       exact .agg _ _ hpw.1 hpw.2
      ·have hrun:=run_loadCells_list (P:=P) w ⟨c,off,none⟩ ((rs.toList.drop off).take inf.size) (fun j u hu=>by
        rw [List.getElem?_take] at hu;split at hu
        ·rw [List.getElem?_drop] at hu;exact hcell w hag j u (by simpa using hu)
        ·cases hu)
       rw [hls] at hrun;simp only [loadVar,Sem.run_bind,hagg w,Result.andThen_ok,hda,if_true,Y2 hi,hrun,Sem.run_pure]
    | false =>
     rw [hda] at hl;simp only [cond_false] at hl;cases hv:cells[off]? with
     | none=>rw [hv] at hl; cases hl
     | some v =>
      rw [hv] at hl;simp only [Option.some.injEq,Prod.mk.injEq] at hl;obtain ⟨rfl,rfl⟩:=hl;have hA:=AR_iff.2 (show LR φ1 cells.toArray.toList rs.toList by simpa using g3);obtain ⟨v',hv',hvr⟩:=hA.get (show cells.toArray[off]? = some v by simpa using hv);refine ⟨v',hvr,fun w hag=>hex w _ ?_⟩;have h0:=hcell w hag 0 v' (by simpa using hv');have e0:(⟨c,off,none⟩:Addr).add 0=⟨c,off,none⟩:=rfl;rw [e0] at h0;simp only [loadVar,Sem.run_bind,hagg w,hda,Result.andThen_ok,Bool.false_eq_true,if_false];simp [h0]
   ·cases hl
  ·cases hl
 all_goals first | (simp only [reduceCtorEq] at h; done) | (cases hl; done)
end
def DB (P:Program) (ne:NE) (m:Nat) (E:Ent) (n:Nat) (ops:Array Oper) (bs:List Nat) (f:Nat) (la:Array Bool) (kn:KN) (ls:Lcs) (H:AH) (Q:Exit→Act→World→Prop):Prop :=
 ∀w1 a w φ cs,SSφ P ne m E n kn ls H a w φ cs→JC ops bs la→agL cs ls w1 w→wpAnyS P ops Q (agL cs ls w1) f la a w
def DBk (P:Program) (ne:NE) (m:Nat) (E:Ent) (n:Nat) (ops:Array Oper) (bs:List Nat) (k f:Nat) (la:Array Bool) (kn:KN) (ls:Lcs) (H:AH) (Q:Exit→Act→World→Prop):Prop :=
 ∀w1 a w φ cs,SSφ P ne m E n kn ls H a w φ cs→JC ops bs la→agL cs ls w1 w→wpOp P ops Q k (fun a' w'=>agL cs ls w1 w'∧wpAnyS P ops Q (agL cs ls w1) f (la.setIfInBounds k true) a' w') a w
section
variable {E:Ent} {kn:KN} {ls:Lcs} {H H':AH} {f:Nat} {la:Array Bool} {c:Code}
theorem WS.drl (bs:List Nat) (sz:Nat) (h:closedOk (opsOf c).toList bs=true→DB P ne m E n (opsOf c) bs sz (Array.replicate sz false) kn ls H Q) (hc:regOf c=some (opsOf c,true):=by kernel_rfl) (hb:befores (opsOf c).toList=bs:=by kernel_rfl) (hs:(opsOf c).size=sz:=by kernel_rfl) (hB:closedOk (opsOf c).toList bs=true:=by kernel_rfl):WS P ne m E n c kn ls H Q:=by
 have h0:=h hB;clear h;generalize opsOf c=ops at hc hb hs hB h0;subst hs;cases c with
 | region id ops' d =>
  simp only [regOf,Option.some.injEq,Prod.mk.injEq] at hc;obtain ⟨rfl,rfl⟩:=hc;intro a w hs;obtain ⟨φ,cs,hs⟩:=hs;refine wp_region_any hs.sane.mixed ?_;have hs':SSφ P ne m E n kn ls H a { w with drawn:=w.drawn+1 } φ cs :=
   ⟨hs.glob,⟨hs.inv.dom,hs.inv.obj,hs.inv.sep⟩,⟨hs.step.le,hs.step.ext,hs.step.new,hs.step.alv,hs.step.size,hs.step.keep,hs.step.os,hs.step.tape,hs.step.output⟩,hs.len,fun i c x h1 h2=>⟨(hs.loc i c x h1 h2).1,(hs.loc i c x h1 h2).2,(hs.loc i c x h1 h2).3⟩,hs.inj,hs.low,hs.slot,hs.size,hs.defers,hs.sane,hs.inv0⟩
  exact z5h _ _ _ _ (h0 _ a _ φ cs hs' ⟨by simp,fun i j hh=>by
   unfold LL at hh;rw [Array.getD_eq_getD_getElem?,Array.getElem?_replicate] at hh;split at hh <;> cases hh⟩ (agL.refl _ _ _))
 | _=>cases hc
def takeS (n:Nat) (ops:Array Oper) (la:Array Bool) (k:Nat) (o:Oper):Bool :=
 Region.noSelect ops&&Region.free .any ops la k&&(Region.ready .any ops la).contains k&&dstV n o
theorem DB.tL (k:Nat) (d:Option Nat) (kv:KV) (h:DB P ne m E n ops bs f (la.setIfInBounds k true) (putV kn d kv) ls H Q)
  (hc:closedOk ops.toList bs=true:=by assumption) (ho:ops[k]? = some (opAt ops k):=by kernel_rfl) (hd:(opAt ops k).dst=d:=by kernel_rfl) (hB:takeS n ops la k (opAt ops k)=true:=by kernel_rfl) (hQ:∀c a w,¬Q (.panic c) a w:=by exact fun _ _ _ h=>h)
  (hw:wantV ops kn (opAt ops k)=some true:=by kernel_rfl) (hv:locDet P kn ls (opAt ops k)=some kv:=by kernel_rfl):DB P ne m E n ops bs (f+1) la kn ls H Q:=by
 subst hd;intro w1 a w φ cs hs hJ hag;unfold takeS at hB;simp only [Bool.and_eq_true] at hB;obtain ⟨⟨⟨b2,b3⟩,b4⟩,b5⟩:=hB;have hr:k∈Region.ready .any ops la:=by simpa using b4
 obtain ⟨v',h1,h2⟩:=zb6 (w1:=w) hv (fun i c x h1 h2=>(hs.loc i c x h1 h2).2) (fun t kv hl=>hs.slot t kv hl:KA φ cs kn a);refine z3r ho hc (Region.noSelect_spec b2) hQ f la a w hJ (Region.free_spec ho b3) hr (.inl ⟨o4 hs hw,fun w' hw'=>h2 w' fun i c x h3 h4=>(hw' i c x h3 h4).trans (hag i c x h3 h4).symm⟩) hag ?_;exact h w1 _ w φ cs (hs.put b5 h1) (hJ.next (rdy_of hc hJ hr)) hag
theorem DB.tP (k:Nat) (d:Option Nat) (v:Value) (h:DB P ne m E n ops bs f (la.setIfInBounds k true) (putV kn d (.val v)) ls H Q)
  (hc:closedOk ops.toList bs=true:=by assumption) (ho:ops[k]? = some (opAt ops k):=by kernel_rfl) (hd:(opAt ops k).dst=d:=by kernel_rfl) (hB:takeS n ops la k (opAt ops k)=true:=by kernel_rfl) (hQ:∀c a w,¬Q (.panic c) a w:=by exact fun _ _ _ h=>h)
  (hw:(wantV ops kn (opAt ops k),(opAt ops k).op.operands.all (okx P),(opAt ops k).op.operands.all (knownV kn))=(some true,true,true):=by kernel_rfl) (hv:pureOp P (opAt ops k) (evV kn)=some v:=by kernel_rfl):DB P ne m E n ops bs (f+1) la kn ls H Q:=by
 subst hd;intro w1 a w φ cs hs hJ hag;unfold takeS at hB;simp only [Bool.and_eq_true] at hB;obtain ⟨⟨⟨b2,b3⟩,b4⟩,b5⟩:=hB;have hr:k∈Region.ready .any ops la:=by simpa using b4
 simp only [Prod.mk.injEq] at hw;obtain ⟨hw1,hw2,hw3⟩:=hw;rw [Array.all_eq_true_iff_forall_mem] at hw2 hw3;obtain ⟨v',h1,h2⟩:=z72 (ρ':=a.eval) (fun x hx=>hs.eval (hw3 x hx) (hw2 x hx)) hv;refine z3r ho hc (Region.noSelect_spec b2) hQ f la a w hJ (Region.free_spec ho b3) hr (.inl ⟨o4 hs hw1,fun w _=>h2 w⟩) hag ?_;exact h w1 _ w φ cs (hs.put b5 h1) (hJ.next (rdy_of hc hJ hr)) hag
theorem DB.on (k:Nat) (h:DBk P ne m E n ops bs k f la kn ls H Q) (hr:readyIs ops la [k]=true:=by kernel_rfl):DB P ne m E n ops bs (f+1) la kn ls H Q:=by
 intro w1 a w φ cs hs hJ hag;have hr:=P4 hr;refine ⟨fun h0=>(by rw [hr] at h0; cases h0),fun i hi=>?_⟩;rw [hr] at hi;simp only [List.mem_cons,List.not_mem_nil,or_false] at hi;subst hi;exact h w1 a w φ cs hs hJ hag
theorem DB.dn (h:∀a w,SS P ne m E n kn ls H a w→Q .normal a w) (hr:readyIs ops la []=true:=by kernel_rfl):DB P ne m E n ops bs f la kn ls H Q:=by
 intro w1 a w φ cs hs hJ hag;have hr:=P4 hr;cases f with
 | zero=>exact ⟨hr,h a w ⟨φ,cs,hs⟩⟩
 | succ f=>exact ⟨fun _=>h a w ⟨φ,cs,hs⟩,fun i hi=>by rw [hr] at hi; cases hi⟩
theorem DB.aC (k:Nat) (d:Option Nat) {v:Value} (g:Nat) (args:Array Value) (hcs:CallS P ne m g args H v H') (h:DB P ne m E n ops bs f (la.setIfInBounds k true) (putV kn d (.val v)) ls H' Q)
  (hc:closedOk ops.toList bs=true:=by assumption) (ho:ops[k]? = some (opAt ops k):=by kernel_rfl) (hdd:(opAt ops k).dst=d:=by kernel_rfl) (hr:(Region.ready .any ops la).contains k=true:=by kernel_rfl) (hB:opV P n ops kn (opAt ops k)=true:=by kernel_rfl) (hcl:callV kn (opAt ops k)=some (g,args):=by kernel_rfl):DBk P ne m E n ops bs k f la kn ls H Q:=by
 subst hdd;intro w1 a w φ cs hs hJ hag;unfold opV at hB;simp only [Bool.and_eq_true] at hB;obtain ⟨⟨⟨hg,hx⟩,hkn⟩,hd⟩:=hB;have hw:wantV ops kn (opAt ops k)=some true:=by
  split at hg
  ·assumption
  ·cases hg
 unfold wpOp;rw [ho];simp only [o4 hs hw,if_true];left;refine z8k hs hx hkn hcl hcs fun φ' v' w' h1 h2 h3=>?_;have hk:agL cs ls w1 w':=fun i c x h4 h5=>by
  obtain ⟨_,⟨rs,g2,_⟩,g3⟩:=hs.loc i c x h4 h5;rw [h3.keep c (Array.getElem?_eq_some_iff.1 g2).1 fun id l _ _ hl=>g3 id l hl];exact hag i c x h4 h5
 exact ⟨hk,h w1 _ _ φ' cs ((hs.heap h2 h3).put hd h1) (zy hr hc hJ) hk⟩
end
end Go.Abs
namespace Go.Abs
def Fm (W:Nat→Prop) (H H':AH):Prop:=H.next≤H'.next∧∀id b,id<H.next→¬W id→H.get id=some b→H'.get id=some b
abbrev Ext (H H':AH):Prop:=Fm (fun _=>False) H H'
theorem Fm.refl (W:Nat→Prop) (H:AH):Fm W H H:=⟨Nat.le_refl _,fun _ _ _ _ h=>h⟩
theorem Fm.comp {W W':Nat→Prop} {H H1 H2:AH} (h:Fm W H H1) (h':Fm W' H1 H2) (hw:∀id,id<H.next→¬W id→¬W' id):Fm W H H2 :=
 ⟨Nat.le_trans h.1 h'.1,fun id b hid hn hb=>h'.2 id b (Nat.lt_of_lt_of_le hid h.1) (hw id hid hn) (h.2 id b hid hn hb)⟩
theorem Ext.trans {H H1 H2:AH} (h:Ext H H1) (h':Ext H1 H2):Ext H H2:=Fm.comp h h' fun _ _ h=>h
theorem Fm.weak {W W':Nat→Prop} {H H1:AH} (h:Fm W H H1) (hw:∀id,id<H.next→W id→W' id):Fm W' H H1 :=
 ⟨h.1,fun id b hid hn hb=>h.2 id b hid (fun hh=>hn (hw id hid hh)) hb⟩
theorem Fm.push (W:Nat→Prop) (H:AH) (b:Blk):Fm W H (H.push b) :=
 ⟨by simp,fun id _ hid _ hb=>by rw [AH.get_push_other H _ (by omega)]; exact hb⟩
theorem Fm.put {H:AH} {i:Nat} {b:Blk}:Fm (fun id=>id=i) H (H.put i b) :=
 ⟨Nat.le_refl _,fun id _ _ hn hb=>by rw [AH.get_put_other H _ hn]; exact hb⟩
def blkIs (s:Sl3) (id:Nat):Prop:=∃a,s.p=some a∧a.block=id
theorem z4n {H:AH} {a:Addr} {v:Value} (h:H.cell a=some v):∃b c e f,H.get a.block=some b∧b.obj=.cells c e f∧a.spot=none∧c[a.off]? = some v:=by
 unfold AH.cell at h;split at h
 ·rename_i c e f o z r hg hs;exact ⟨_,c,e,f,hg,rfl,hs,h⟩
 ·cases h
theorem z16 {H:AH} {a:Addr} {v:Value} {b:Blk} {c:Array Value} {e:TypeId} {f:Nat×Nat} (hg:H.get a.block=some b) (hb:b.obj=.cells c e f) (hs:a.spot=none) (hv:c[a.off]? = some v):H.cell a=some v:=by
 unfold AH.cell;obtain ⟨obj,o,z,r⟩:=b;simp only at hb;subst hb;rw [hg,hs];exact hv
theorem z75 (a:Addr) (i:Nat):(a.add i).block=a.block:=by unfold Addr.add; split <;> rfl
theorem zg0 {W:Nat→Prop} {H H':AH} (h:Fm W H H') {a:Addr} {v:Value} (hlt:a.block<H.next) (hw:¬W a.block) (hc:H.cell a=some v):H'.cell a=some v:=by
 obtain ⟨b,c,e,f,h1,h2,h3,h4⟩:=z4n hc;exact z16 (h.2 _ _ hlt hw h1) h2 h3 h4
structure Ro (k:IntKind) (H:AH) (s:Sl3) (xs:List Nat):Prop where
 len:s.n=xs.length
 cap:s.n≤s.c
 top:s.c≤OPEN
 nil:s.p=none→s.n=0∧s.c=0
 low:∀a,s.p=some a→a.block<H.next
 opn:∀a,s.p=some a→s.c=OPEN→∃b,H.get a.block=some b∧b.opn=true∧b.esz=1∧isCells b.obj=true
 cell:∀a,s.p=some a→∀(i:Nat) (h:i<xs.length),H.cell (a.add i)=some (.int k (xs[i]:Nat))
theorem zcq {x:Int} (h0:-9223372036854775808≤x) (h1:x<9223372036854775808):IntKind.i64.wrap x=x:=by
 rw [IntKind.wrap_i64]; omega
theorem add_zero (a:Addr):a.add 0=a:=rfl
theorem z3v {a:Addr} (ha:a.spot=none) (i j:Nat):(a.add i).add j=a.add (i+j):=by
 obtain ⟨b,o,s⟩:=a;simp only at ha;subst ha;unfold Addr.add;by_cases hi:i=0 <;> by_cases hj:j=0 <;> simp [hi,hj] <;> omega
inductive Vec (k:IntKind) (e:TypeId) (m:Nat) (H:AH) (xs:List Nat):Sl3→Prop
 | nil (hx:xs=[]):Vec k e m H xs Sl3.nil
 | opn (id:Nat) (hm:m≤id) (hid:id<H.next) (hg:H.get id=some { obj:=.cells (xs.map fun (x:Nat)=>Value.int k (x:Int)).toArray e (0,0),opn:=true,esz:=1,ro:=false }):Vec k e m H xs ⟨some ⟨id,0,none⟩,xs.length,OPEN⟩
 | fix (id c:Nat) (cs:Array Value) (hm:m≤id) (hid:id<H.next) (hg:H.get id=some { obj:=.cells cs e (0,0),opn:=false,esz:=0,ro:=false }) (hc:cs.size=c) (ho:c<OPEN) (hl:xs.length≤c)
   (hx:∀(i:Nat) (h:i<xs.length),cs[i]? = some (.int k (xs[i]:Nat))):Vec k e m H xs ⟨some ⟨id,0,none⟩,xs.length,c⟩
theorem E5 (id o i:Nat):(Addr.mk id o none).add i=⟨id,o+i,none⟩:=by
 unfold Addr.add;split
 ·rename_i h; subst h; rfl
 ·rfl
theorem X8 {H:AH} {a:Addr}:∀(l:List Value) (j:Nat),(∀(i:Nat) (h:i<l.length),H.cell (a.add (j+i))=some l[i])→rdCells H a j l.length=some l:=by
 intro l;induction l with
 | nil=>intro j _; rfl
 | cons v l ih =>
  intro j h;have h0:=h 0 (by simp);simp only [Nat.add_zero,List.getElem_cons_zero] at h0;have h1:=ih (j+1) fun i hi=>by
   have:=h (i+1) (by simpa using hi);rw [show j+1+i=j+(i+1) by omega,this];simp
  simp only [List.length_cons,rdCells,h0,h1]
theorem N9 {H:AH} {e:TypeId} {sz bytes need:Nat} {cs:List Value} (h1:(2*need+1000)*bytes≤281474976710656) (h2:need≤281474976710656) :
  grownS H e sz bytes need cs=some (⟨some ⟨H.next,0,none⟩,need,OPEN⟩,H.push { obj:=.cells cs.toArray e (0,0),opn:=true,esz:=sz,ro:=false }):=by
 unfold grownS;rw [if_pos ⟨h1,h2⟩]
theorem z1m {H:AH} {m id off:Nat} {v:Value} {cs:Array Value} {e:TypeId} {opn:Bool} {esz:Nat} (hm:m≤id) (hg:H.get id=some { obj:=.cells cs e (0,0),opn,esz,ro:=false }) (ho:off<cs.size) :
  H.setCell m ⟨id,off,none⟩ v=some (H.put id { obj:=.cells (cs.setIfInBounds off v) e (0,0),opn,esz,ro:=false }):=by
 unfold AH.setCell;simp only [hg,ble_of hm,z6c.2 ho,Bool.and_self,cond_true]
def val (B:Nat):List Nat→Nat
 | []=>0
 | x :: l=>x+B*val B l
variable {B:Nat}
theorem z9d {S R:Type} {body:S→Option (Lp S R)} (n:Nat) (st:Nat→S→Prop) (post:S⊕R→Prop)
  (step:∀i,i<n→∀s,st i s→(∃s',body s=some (.next s')∧st (i+1) s')∨∃r,body s=some (.ret r)∧post (.inr r))
  (stop:∀s,st n s→∃s',body s=some (.brk s')∧post (.inl s')) {s:S} (h0:st 0 s):∃o,loopO body s=some o∧post o:=by
 have key:∀(d i:Nat) s,i+d=n→st i s→∃o,loopO body s=some o∧post o:=by
  intro d;induction d with
  | zero =>
   intro i s hi hs;rw [Nat.add_zero] at hi;subst hi;obtain ⟨s',h1,h2⟩:=stop s hs;exact ⟨_,D4 h1,h2⟩
  | succ d ih =>
   intro i s hi hs;rcases step i (by omega) s hs with ⟨s',h1,h2⟩ | ⟨r,h1,h2⟩
   ·rw [V2 h1]; exact ih (i+1) s' (by omega) h2
   ·exact ⟨_,z3q h1,h2⟩
 exact key n 0 s (by omega) h0
theorem w9 {S R:Type} {body:S→Option (Lp S R)} (n:Nat) (st:Nat→S→Prop) {Q:S→Prop}
  (step:∀i,i<n→∀s,st i s→∃s',body s=some (.next s')∧st (i+1) s') (stop:∀s,st n s→∃s',body s=some (.brk s')∧Q s') {s:S} (h0:st 0 s):∃s',loopO body s=some (.inl s')∧Q s':=by
 obtain ⟨o,h1,h2⟩:=z9d (R:=R) (body:=body) n st (fun o=>∃s',o=.inl s'∧Q s') (fun i hi s hs=>.inl (step i hi s hs)) (fun s hs=>let ⟨s',a,b⟩:=stop s hs; ⟨s',a,s',rfl,b⟩) h0;obtain ⟨s',rfl,h3⟩:=h2;exact ⟨s',h1,h3⟩
theorem z4x {x:Int} {n:Nat} (h:x=n) (hn:n<9223372036854775808):IntKind.i64.wrap x=n:=by
 subst h;exact zcq (by omega) (by omega)
end Go.Abs
namespace Go.Abs
def Cel (H:AH) (a:Addr) (v:Value):Prop:=H.cell a=some v∧a.block<H.next
theorem Cel.fr {W:Nat→Prop} {H H':AH} {a:Addr} {v:Value} (h:Cel H a v) (hf:Fm W H H') (hw:¬W a.block):Cel H' a v :=
 ⟨zg0 hf h.2 hw h.1,Nat.lt_of_lt_of_le h.2 hf.1⟩
theorem Cel.ext {H H':AH} {a:Addr} {v:Value} (h:Cel H a v) (hf:Ext H H'):Cel H' a v:=h.fr hf fun h=>h
theorem Cel.rd {α:Type} {H:AH} {a:Addr} {v:Value} (h:Cel H a v) (de:Value→Option α):rd de H a=de v:=by
 unfold Abs.rd;rw [h.1];rfl
def LAt {α:Type} (R:AH→Addr→α→Prop) (sz:Nat) (H:AH) (p:Option Addr):Nat→List α→Prop
 | _,[]=>True
 | i,x :: xs=>(∃a,p=some a∧R H (a.add (i*sz)) x)∧LAt R sz H p (i+1) xs
theorem LAt.get {α:Type} {R:AH→Addr→α→Prop} {sz:Nat} {H:AH} {p:Option Addr}:∀{xs:List α} {i:Nat},LAt R sz H p i xs→∀(j:Nat) (h:j<xs.length),∃a,p=some a∧R H (a.add ((i+j)*sz)) xs[j]
 | x :: xs,i,h,0,hj=>h.1
 | x :: xs,i,h,j+1,hj=>by
  obtain ⟨a,h1,h2⟩:=LAt.get h.2 j (by simpa using hj);exact ⟨a,h1,by rw [show i+(j+1)=i+1+j by omega]; exact h2⟩
theorem LAt.imp {α:Type} {R R':AH→Addr→α→Prop} {sz:Nat} {H H':AH} {p:Option Addr} (hr:∀a x,R H a x→R' H' a x):∀{xs:List α} {i:Nat},LAt R sz H p i xs→LAt R' sz H' p i xs
 | [],_,_=>trivial
 | _ :: _,_,h=>⟨let ⟨a,h1,h2⟩:=h.1; ⟨a,h1,hr _ _ h2⟩,LAt.imp hr h.2⟩
theorem LAt.of {α:Type} {R:AH→Addr→α→Prop} {sz:Nat} {H:AH} {p:Option Addr}:∀{xs:List α} {i:Nat},(∀(j:Nat) (h:j<xs.length),∃a,p=some a∧R H (a.add ((i+j)*sz)) xs[j])→LAt R sz H p i xs
 | [],_,_=>trivial
 | x :: xs,i,h=>⟨h 0 (by simp),LAt.of fun j hj=>by
   obtain ⟨a,h1,h2⟩:=h (j+1) (by simpa using hj);exact ⟨a,h1,by rw [show i+1+j=i+(j+1) by omega]; exact h2⟩⟩
def maxN:Nat:=9223372036854775807
structure SlL {α:Type} (R:AH→Addr→α→Prop) (sz:Nat) (H:AH) (s:Sl3) (xs:List α):Prop where
 n:s.n=xs.length
 cap:s.n≤s.c
 top:s.n≤maxN
 low:∀a,s.p=some a→a.block<H.next∧a.spot=none
 at_:LAt R sz H s.p 0 xs
theorem zdk {sz:Nat} {s:Sl3} {a:Addr} (ha:s.p=some a) {i:Nat} {v:Int} (hv:v=i) (hi:i<s.n):idxA sz s v=some (a.add (i*sz)):=by
 subst hv;unfold idxA;rw [ha];simp only [Int.toNat_natCast];rw [if_pos ⟨by omega,by omega⟩]
theorem J2 {n i:Nat} (hi:i<n) (hn:n≤maxN):IntKind.i64.wrap ((i:Int)+1)=((i+1:Nat):Int):=by
 refine z4x (by omega) ?_;have:maxN=9223372036854775807:=rfl;omega
structure RoS (H:AH) (s:Sl3) (ss:List Sl3):Prop where
 len:s.n=ss.length
 cap:s.n≤s.c
 nil:s.p=none→s.n=0∧s.c=0
 low:∀a,s.p=some a→a.block<H.next
 cell:∀a,s.p=some a→∀(i:Nat) (h:i<ss.length),H.cell (a.add i)=some ss[i].v
variable {P:Program}
structure Imp (P:Program) (φ:Inj) (H:AH) (W:World):Prop where
 inv:Inv φ H W
 glob:Glob P φ
 ro:∀id b,H.get id=some b→b.ro=true
def viewB (c:Array Value) (e:TypeId):Blk:=⟨.cells c e (0,0),true,1,true⟩
theorem Imp.add {φ:Inj} {H:AH} {W:World} (h:Imp P φ H W) {blk off:Nat} {c c':Array Value} {e:TypeId} {f:Nat×Nat} (hb:W.heap[blk]? = some (.cells c' e f))
  (hc:∀(i:Nat) (v:Value),c[i]? = some v→∃v',c'[off+i]? = some v'∧VR φ v v'):Imp P (φ.upd H.next ⟨blk,off,0,1⟩) (H.push (viewB c e)) W∧φ.le (φ.upd H.next ⟨blk,off,0,1⟩):=by
 have hle:=Inj.le_upd ⟨blk,off,0,1⟩ h.inv.fresh;have hro:∀id b,(H.push (viewB c e)).get id=some b→b.ro=true:=fun id b hg=>by
  by_cases e':id=H.next
  ·subst e';rw [AH.get_push_same] at hg; cases hg; rfl
  ·rw [AH.get_push_other _ _ e'] at hg;exact h.ro id b hg
 refine ⟨⟨⟨fun i l hl=>?_,fun i b hg=>?_,fun i j b b' l l' h1 _ _ hr=>?_⟩,fun g hg=>?_,hro⟩,hle⟩
 ·by_cases e':i=H.next
  ·subst e';rw [Inj.upd_same] at hl; cases hl;exact ⟨by simp,(Array.getElem?_eq_some_iff.1 hb).1⟩
  ·rw [Inj.upd_other _ _ e'] at hl;have:=h.inv.dom i l hl;simp only [AH.next_push];omega
 ·by_cases e':i=H.next
  ·subst e';rw [AH.get_push_same] at hg; cases hg;refine ⟨_,Inj.upd_same _ _ _,c',e,f,hb,fun i v hv=>?_,Nat.zero_le _,fun _=>rfl,fun ho=>(by cases ho),fun hr=>(by cases hr),rfl⟩;obtain ⟨v',h1,h2⟩:=hc i v hv;exact ⟨v',h1,h2.mono hle⟩
  ·rw [AH.get_push_other _ _ e'] at hg;obtain ⟨l,h1,h2⟩:=h.inv.obj i b hg;exact ⟨l,by rw [Inj.upd_other _ _ e']; exact h1,h2.mono hle⟩
 ·rw [hro i b h1] at hr; cases hr
 ·obtain ⟨l,h1,h2,h3⟩:=h.glob g hg;exact ⟨l,hle _ _ h1,h2,h3⟩
theorem W8 {w:World} {a:Addr} {v:Value} (h:w.cell? a=some v):∃c e f,w.heap[a.block]? = some (.cells c e f)∧a.spot=none∧c[a.off]? = some v:=by
 unfold World.cell? at h;split at h
 ·rename_i c e f hc;split at h
  ·cases h
  ·rename_i hs;refine ⟨c,e,f,hc,?_,h⟩;cases hh:a.spot with
   | none=>rfl
   | some x=>rw [hh] at hs; simp at hs
 ·cases h
theorem zaq (a:Addr) (hs:a.spot=none) (i:Nat):a.add i=⟨a.block,a.off+i,none⟩:=by
 obtain ⟨b,o,s⟩:=a;simp only at hs;subst hs;unfold Addr.add;split
 ·rename_i h; subst h; rfl
 ·rfl
theorem z87 (a:Addr) (hs:a.spot=none):(⟨a.block,a.off,none⟩:Addr)=a:=by
 obtain ⟨b,o,s⟩:=a;simp only at hs;subst hs;rfl
theorem Imp.cells {φ:Inj} {H:AH} {W:World} (h:Imp P φ H W) {a:Addr} {c:Array Value} (h0:0<c.size) (hc:∀(i:Nat) (v:Value),c[i]? = some v→∃v',W.cell? (a.add i)=some v'∧VR φ v v') :
  ∃φ' e,Imp P φ' (H.push (viewB c e)) W∧φ.le φ'∧∀n k,k≠OPEN→VR φ' (.slice (some ⟨H.next,0,none⟩) n k) (.slice (some a) n k):=by
 obtain ⟨v',h1,_⟩:=hc 0 c[0] (by simp [h0]);obtain ⟨c',e,f,h2,h3,_⟩:=W8 h1;rw [z75] at h2;have hsp:a.spot=none:=by
  unfold Addr.add at h3
  simpa using h3
 obtain ⟨h4,h5⟩:=h.add (blk:=a.block) (off:=a.off) (c:=c) (c':=c') (e:=e) (f:=f) h2 (fun i v hv=>by
  obtain ⟨w,g1,g2⟩:=hc i v hv;obtain ⟨c'',e',f',g3,_,g5⟩:=W8 g1;rw [z75,h2] at g3;simp only [Option.some.injEq,Obj.cells.injEq] at g3;obtain ⟨rfl,_⟩:=g3;rw [zaq a hsp] at g5;exact ⟨w,g5,g2⟩)
 refine ⟨_,e,h4,h5,fun n k hk=>?_⟩;have:=VR.slice H.next 0 n k ⟨a.block,a.off,0,1⟩ (Inj.upd_same φ H.next ⟨a.block,a.off,0,1⟩) hk;rw [show (⟨(⟨a.block,a.off,0,1⟩:Loc).blk,(⟨a.block,a.off,0,1⟩:Loc).off+0,none⟩:Addr)=a from z87 a hsp] at this;exact this
theorem zdn {H:AH} {c:Array Value} {e:TypeId} (i:Nat):(H.push (viewB c e)).cell ((⟨H.next,0,none⟩:Addr).add i)=c[i]? := by
 rw [zaq _ rfl];unfold AH.cell;simp only [AH.get_push_same,viewB,Nat.zero_add]
open Go.ChangeShapes in
theorem za4 {H:Type} {enc:TypeId×Value→H} {W:World} {sp:Nat→Bool} {hd:Bool}:∀(ts:List TypeId) (vs:List Value) (ds:List (DataW H)) (ps:List MemPlace),DataW.TrodAll enc P W 0 sp hd ts vs ds ps→ds.length=ts.length:=by
 intro ts;induction ts with
 | nil=>intro vs ds ps h; obtain ⟨_,rfl,_⟩:=trodAll_nil h; rfl
 | cons t ts ih=>intro vs ds ps h; obtain ⟨v,vs',d,ds',p,q,_,rfl,_,_,h2⟩:=trodAll_cons h; simp [ih _ _ _ h2]
theorem Imp.startT {W:World} {tabs:List Tab} (h:P.globals.size≤W.heap.size) (hB:tabsB P tabs=true) (ht:∀x∈tabs,∃fr,W.heap[x.1]? = some (.cells x.2.2 x.2.1 fr)):Imp P (φg P) (startH P tabs) W :=
 ⟨z95 h hB ht,zan,fun id b hb=>by obtain ⟨x,_,_,rfl⟩:=I7 hb; rfl⟩
open Go.RowKit in
theorem z7q {ne:NE} (hS:Sane P ne) {f:Nat} {args args':Array Value} {H H':AH} {φ:Inj} {W:World} (h:CallS P ne H.next f args H (.bool true) H') (hi:Imp P φ H W) (ha:AR φ args args') :
  Calls P f args' W fun e W'=>e=.returned (.bool true)∧Below W.heap.size W W':=by
 refine ((h hS).2 φ W args' hi.glob ha hi.inv).mono fun e W' hpost=>?_;obtain ⟨φ',v',rfl,hv,_,hst⟩:=hpost;cases hv;refine ⟨rfl,hst.os,hst.tape,hst.output,hst.size,fun k hk=>hst.keep k hk fun id l hm hs _=>?_⟩;obtain ⟨b,hb⟩:=Option.isSome_iff_exists.1 hs;obtain ⟨l',h1,_⟩:=hi.inv.obj id b hb;have:=(hi.inv.dom id l' h1).1;omega
theorem z5k {H:Type} {enc:TypeId×Value→H} {C:Checked} {os:Os} {f:FuncId} {fn:Func} {s:OpenSpec} {k:(H:Type)→List (DataW H)→Bool} (hk:s.cond=some k) {F:Stop.Interp} {laid:List (String×DataW Unit)}
  (own:ownKnob C.prog.godebug=none) (started:os.Started) (noInit:C.prog.inits.idxOf? f=none) (hfn:C.prog.funcs[f]? = some fn)
  (hgb:globalsB C.prog=true) (hl:laidOutB C.prog=true) (hts:readB C.prog fn=true) (hv:s.vars=[]) (hres:boolRes C.prog fn=true)
  (hspec:∀ds:List (DataW H),ds.length=fn.params.size→((s.at F).fn H ds).results=[.lit (.bool true)]∧((s.at F).fn H ds).args=ds∧((s.at F).fn H ds).vars=[])
  (hva:(s.at F).vars=s.vars) (hh:(laid.filter fun x=>x.2.handleName?.isSome)=[])
  (witness:∃(w:World) (tape:Tape) (i:Input),w.os=os∧(w.forCall tape i).Shaped C.prog∧i.vars=[]∧Input.okWide C.prog (w.forCall tape i) .any w.heap.size f i ∧
   s.preRow enc C.prog fn [] false laid (w.forCall tape i).memory i.args∧({}:Assume).holds C.prog (lone (Frame.enter C.prog f i.args .normal) [] (w.forCall tape i)))
  (contract:∀(W:World) (base:Nat) (args:Array Value) (ds:List (DataW H)) (ps:List MemPlace),C.prog.globals.size≤W.heap.size →
   (∀(j:Nat) t v,fn.params[j]? = some t→args[j]? = some v→Value.okWide C.prog W .any base t v) →
   DataW.TrodAll enc C.prog W 0 (fun _=>true) true fn.params.toList args.toList ds ps→k H ds=true→laidMet C.prog laid W→W.ShapedOpen C.prog→(DataW.weightsEach C.prog (fn.params.toList++s.bare.plain.varTypes C.prog) ds).all (·≤reachBytes)=true →
   Calls C.prog f args W fun e W'=>e=.returned (.bool true)∧RowKit.Below W.heap.size W W') :
  ReturnsInHanded {} C os f .any (s.preRow enc C.prog fn [] false laid) ((s.at F).post enc C.prog fn false true false false):=by
 obtain ⟨tb,hres,hbool⟩:=zc2 hres;have hts:=zf1 hts;refine returnsInHanded_of_row own started noInit hfn witness ?_;intro W base args ds gs before hval hW _ hcond hwt hL hsh _;have hL':laidMet C.prog laid W:=by
  unfold laidMetH at hL;rw [hh] at hL;exact hL
 have hW2:=hW;obtain ⟨p,q,hA,hV,_⟩:=hW;rw [hv] at hV;obtain ⟨rfl,rfl⟩:=ChangeShapes.trodVars_none hV;have hkk:=hcond k hk;rw [List.append_nil] at hkk hwt;have hlen:ds.length=fn.params.size:=by simpa using za4 _ _ _ _ hA
 refine (contract W base args ds p (z7o hgb hsh) hval hA hkk hL' hsh hwt).mono fun e W' ⟨he,hb⟩=>?_;subst he;exact ⟨_,rfl,zet hl hts (hva.trans hv) hres hbool (hva.symm▸hW2) (hspec ds hlen) hb⟩
end Go.Abs
namespace Go.Abs
variable {P:Program} {W:World} {φ:Inj} {H:AH}
theorem lr_get {φ:Inj} {l l':List Value} (h:LR φ l l') {i:Nat} {v v':Value} (h1:l[i]? = some v) (h2:l'[i]? = some v'):VR φ v v':=(u6 h).2 i v v' h1 h2
def Stands {β:Type} (sz:Nat) (R:AH→List Value→β→Prop) (H:AH) (q:Addr) (b:β):Prop:=∃cs:List Value,cs.length=sz∧(∀j v,cs[j]? = some v→Cel H (q.add j) v)∧R H cs b
end Go.Abs
namespace Go.Abs
variable {P:Program} {W:World} {φ:Inj} {H:AH}
def ElemK {β:Type} (P:Program) (W:World) (sz:Nat) (R:AH→List Value→β→Prop) (K:β→Prop) (cs:List Value):Prop :=
 ∀(φ:Inj) (H:AH),Imp P φ H W→∃φ' H' cs' b,Imp P φ' H' W∧φ.le φ'∧Ext H H'∧cs'.length=sz∧cs.length=sz∧LR φ' cs' cs∧R H' cs' b∧K b
theorem Imp.elemsK {β:Type} {sz:Nat} {R:AH→List Value→β→Prop} (hR:∀H H' cs b,Ext H H'→R H cs b→R H' cs b):∀(n:Nat) (C:Nat→List Value) (K:Nat→β→Prop),(∀i,i<n→ElemK P W sz R (K i) (C i))→∀(φ:Inj) (H:AH),Imp P φ H W →
  ∃φ' H',∃(C':Nat→List Value) (bs:List β),Imp P φ' H' W∧φ.le φ'∧Ext H H'∧bs.length=n∧∀(i:Nat),i<n→(C' i).length=sz∧(C i).length=sz∧LR φ' (C' i) (C i)∧∀b,bs[i]? = some b→R H' (C' i) b∧K i b:=by
 intro n;induction n with
 | zero=>intro C K _ φ H h; exact ⟨φ,H,fun _=>[],[],h,Inj.le_refl _,Fm.refl _ _,rfl,fun i hi=>absurd hi (Nat.not_lt_zero _)⟩
 | succ n ih =>
  intro C K hC φ H h;obtain ⟨φ1,H1,C',bs,h1,h2,h3,h4,h5⟩:=ih C K (fun i hi=>hC i (by omega)) φ H h;obtain ⟨φ2,H2,cs',b,g1,g2,g3,g4,g5,g6,g7,g8⟩:=hC n (Nat.lt_succ_self n) φ1 H1 h1;refine ⟨φ2,H2,fun i=>if i=n then cs' else C' i,bs++[b],g1,Inj.le_trans h2 g2,h3.trans g3,by simp [h4],fun i hi=>?_⟩;by_cases e:i=n
  ·subst e;simp only [if_true];refine ⟨g4,g5,g6,fun b' hb'=>?_⟩;rw [List.getElem?_append_right (by omega),h4,Nat.sub_self] at hb';simp at hb';subst hb';exact ⟨g7,g8⟩
  ·simp only [if_neg e];obtain ⟨k1,k2,k3,k4⟩:=h5 i (by omega);refine ⟨k1,k2,k3.mono g2,fun b' hb'=>?_⟩;rw [List.getElem?_append_left (by omega)] at hb';exact ⟨hR _ _ _ _ g3 (k4 b' hb').1,(k4 b' hb').2⟩
theorem Imp.sliceK {β:Type} {sz:Nat} (hsz:0<sz) {R:AH→List Value→β→Prop} (hR:∀H H' cs b,Ext H H'→R H cs b→R H' cs b) (h:Imp P φ H W) (hP:0<P.globals.size)
  {A:Option Addr} {n c:Nat} (hn:n≤c) (hc:c≤maxLen) (hnil:A=none→c=0) {C:Nat→List Value} {K:Nat→β→Prop} (hC:∀i,i<n→ElemK P W sz R (K i) (C i))
  (hsp:∀a,A=some a→0<c→∃v,W.cell? a=some v)
  (hcell:∀a,A=some a→∀i,i<n→∀j,j<sz→W.cell? (a.add (i*sz+j))=(C i)[j]?) :
  ∃φ' H' s bs,Imp P φ' H' W∧φ.le φ'∧Ext H H'∧VR φ' (Sl3.v s) (.slice A n c)∧SlL (Stands sz R) sz H' s bs∧bs.length=n∧(s.c<OPEN∧(s.p=none→s.c=0))∧∀i b,bs[i]? = some b→K i b:=by
 have hO:c≠OPEN:=by
  have:OPEN=9223372036854775808:=rfl;have:maxLen=9223372036854775807:=rfl;omega
 have hOc:c<OPEN:=by
  have:OPEN=9223372036854775808:=rfl;have:maxLen=9223372036854775807:=rfl;omega
 have hm:n≤maxN:=by
  have:maxN=9223372036854775807:=rfl;have:maxLen=9223372036854775807:=rfl;omega
 by_cases h0:n=0
 ·subst h0;cases A with
  | none =>
   obtain rfl:c=0:=hnil rfl;exact ⟨φ,H,Sl3.nil,[],h,Inj.le_refl _,Fm.refl _ _,VR.sliceNil 0 0,⟨rfl,Nat.le_refl _,Nat.zero_le _,fun a ha=>(by cases ha),trivial⟩,rfl,⟨by show 0<OPEN; unfold OPEN; omega,fun _=>rfl⟩,fun i b hb=>(by simp at hb)⟩
  | some a =>
   obtain ⟨l,h1,_,_⟩:=h.glob 0 hP;by_cases hc0:c=0
   ·subst hc0;refine ⟨φ,H,⟨some ⟨0,0,none⟩,0,0⟩,[],h,Inj.le_refl _,Fm.refl _ _,VR.sliceZero 0 0 l a h1,⟨rfl,Nat.le_refl _,Nat.zero_le _,fun a ha=>?_,trivial⟩,rfl,⟨by show 0<OPEN; unfold OPEN; omega,fun _=>rfl⟩,fun i b hb=>(by simp at hb)⟩;cases ha; exact ⟨(h.inv.dom 0 l h1).1,rfl⟩
   ·obtain ⟨v,hv⟩:=hsp a rfl (by omega);obtain ⟨c',e,f,k1,k2,k3⟩:=W8 hv;obtain ⟨g1,g2⟩:=h.add (blk:=a.block) (off:=a.off) (c:=#[]) (c':=c') (e:=e) (f:=f) k1 (fun i v hv=>by simp at hv);refine ⟨_,_,⟨some ⟨H.next,0,none⟩,0,c⟩,[],g1,g2,Fm.push _ _ _,?_,⟨rfl,Nat.zero_le _,Nat.zero_le _,fun a' ha'=>?_,trivial⟩,rfl,⟨hOc,fun hh=>by cases hh⟩,fun i b hb=>(by simp at hb)⟩
    ·have:=VR.slice H.next 0 0 c ⟨a.block,a.off,0,1⟩ (Inj.upd_same φ H.next ⟨a.block,a.off,0,1⟩) hO;rw [show (⟨(⟨a.block,a.off,0,1⟩:Loc).blk,(⟨a.block,a.off,0,1⟩:Loc).off+0,none⟩:Addr)=a from z87 a k2] at this;exact this
    ·cases ha'; exact ⟨by simp,rfl⟩
 ·cases A with
  | none=>exact absurd (hnil rfl) (by omega)
  | some a =>
   obtain ⟨φ1,H1,C',bs,h1,h2,h3,h4,h5⟩:=Imp.elemsK hR n C K hC φ H h;have hsize:0<n*sz:=Nat.mul_pos (by omega) hsz;have hdiv:∀x,x<n*sz→x / sz<n:=fun x hx=>Nat.div_lt_of_lt_mul (by rw [Nat.mul_comm]; exact hx)
   let c':Array Value:=Array.ofFn fun x:Fin (n*sz)=>((C' (x.val / sz))[x.val % sz]?).getD undef
   have hget:∀x,x<n*sz→c'[x]? = (C' (x / sz))[x % sz]? := by
    intro x hx;have hl:=(h5 (x / sz) (hdiv x hx)).1;have hmod:=Nat.mod_lt x hsz;have:(C' (x / sz))[x % sz]? = some (C' (x / sz))[x % sz]:=List.getElem?_eq_getElem (by omega);simp only [c',Array.getElem?_ofFn,dif_pos hx,this,Option.getD_some]
   obtain ⟨φ2,e,g1,g2,g3⟩:=h1.cells (a:=a) (c:=c') (by simp [c',hsize]) (fun x v hv=>by
    have hx:x<n*sz:=by
     have:=(Array.getElem?_eq_some_iff.1 hv).1
     simpa [c'] using this
    have hmod:=Nat.mod_lt x hsz;obtain ⟨k1,k2,k3,_⟩:=h5 (x / sz) (hdiv x hx);rw [hget x hx] at hv;have hw:(C (x / sz))[x % sz]? = some ((C (x / sz))[x % sz]'(by omega)):=List.getElem?_eq_getElem (by omega);refine ⟨_,?_,lr_get k3 hv hw⟩;have:=hcell a rfl (x / sz) (hdiv x hx) (x % sz) hmod;rw [show x / sz*sz+x % sz=x by rw [Nat.mul_comm]; exact Nat.div_add_mod x sz] at this;rw [this,hw])
   refine ⟨φ2,_,⟨some ⟨H1.next,0,none⟩,n,c⟩,bs,g1,Inj.le_trans h2 g2,h3.trans (Fm.push _ _ _),g3 n c hO,⟨h4.symm,hn,hm,fun a' ha'=>?_,LAt.of fun j hj=>⟨_,rfl,?_⟩⟩,h4,⟨hOc,fun hh=>by cases hh⟩,fun i b hb=>((h5 i (by have:=(List.getElem?_eq_some_iff.1 hb).1; omega)).2.2.2 b hb).2⟩
   ·cases ha'; exact ⟨by simp,rfl⟩
   ·rw [h4] at hj;obtain ⟨k1,k2,k3,k4⟩:=h5 j hj;have hb:bs[j]? = some bs[j]:=List.getElem?_eq_getElem (by omega);refine ⟨C' j,k1,fun i v hv=>?_,hR _ _ _ _ (Fm.push _ _ _) (k4 _ hb).1⟩;have hi:i<sz:=by
     have:=(List.getElem?_eq_some_iff.1 hv).1;omega
    rw [z3v rfl,Nat.zero_add];have hx:j*sz+i<n*sz:=by
     have:(j+1)*sz≤n*sz:=Nat.mul_le_mul_right sz (by omega);rw [Nat.add_mul,Nat.one_mul] at this;omega
    have e1:(j*sz+i) / sz=j:=by
     rw [Nat.mul_comm,Nat.mul_add_div hsz,Nat.div_eq_of_lt hi,Nat.add_zero]
    have e2:(j*sz+i) % sz=i:=by
     rw [Nat.mul_comm,Nat.mul_add_mod,Nat.mod_eq_of_lt hi]
    refine ⟨?_,?_⟩
    ·rw [zdn,hget _ hx,e1,e2];exact hv
    ·rw [E5]; simp
end Go.Abs
namespace Go.Abs.Eg
structure Nd where
 value:Bool
 sym:Int
 args:List Nat
deriving DecidableEq
abbrev Key:=Bool×Int×List Nat
inductive Cong (N:List Nd) (M:List (Nat×Nat)):Nat→Nat→Prop
 | refl (i:Nat):Cong N M i i
 | symm {i j:Nat}:Cong N M i j→Cong N M j i
 | trans {i j k:Nat}:Cong N M i j→Cong N M j k→Cong N M i k
 | base {i j:Nat}:(i,j)∈M→Cong N M i j
 | congr {i j:Nat} {x y:Nd}:N[i]? = some x→N[j]? = some y→x.value=y.value→x.sym=y.sym→x.args.length=y.args.length →
   (∀(k u v:Nat),x.args[k]? = some u→y.args[k]? = some v→Cong N M u v)→Cong N M i j
theorem Cong.mono {N N':List Nd} {M M':List (Nat×Nat)} (hN:∀(i:Nat) x,N[i]? = some x→N'[i]? = some x) (hM:∀p∈M,p∈M') {i j:Nat} (h:Cong N M i j):Cong N' M' i j:=by
 induction h with
 | refl i=>exact .refl i
 | symm _ ih=>exact .symm ih
 | trans _ _ h1 h2=>exact .trans h1 h2
 | base h=>exact .base (hM _ h)
 | congr h1 h2 h3 h4 h5 _ ih=>exact .congr (hN _ _ h1) (hN _ _ h2) h3 h4 h5 ih
structure Cl where
 uses:List Nat
 mem:List Nat
 vals:List Nat
 low:Nat
structure St where
 N:List Nd
 of:List Nat
 cls:List Cl
 sigs:Key→Option Nat
 fo:List Int
def Cl.nil:Cl:=⟨[],[],[],0⟩
def St.o (g:St) (i:Nat):Nat:=g.of.getD i 0
def St.c (g:St) (k:Nat):Cl:=g.cls.getD k Cl.nil
def keyOf (x:Nd) (o:Nat→Nat):Key:=(x.value,x.sym,x.args.map o)
def St.sig (g:St) (i:Nat):Key:=match g.N[i]? with
 | some x=>keyOf x g.o
 | none=>(false,0,[])
def St.n (g:St):Nat:=g.N.length
theorem sig_of {g:St} {i:Nat} {x:Nd} (h:g.N[i]? = some x):g.sig i=keyOf x g.o:=by
 unfold St.sig;rw [h]
theorem T4 {g:St} {i:Nat} (h:i<g.n):∃x,g.N[i]? = some x:=⟨_,List.getElem?_eq_getElem h⟩
inductive Conn (n:Nat) (o:Nat→Nat) (q:List (Nat×Nat)):Nat→Nat→Prop
 | same {i j:Nat}:i<n→j<n→o i=o j→Conn n o q i j
 | wait {i j:Nat}:(i,j)∈q→Conn n o q i j
 | symm {i j:Nat}:Conn n o q i j→Conn n o q j i
 | trans {i j k:Nat}:Conn n o q i j→Conn n o q j k→Conn n o q i k
theorem Conn.nil {n:Nat} {o:Nat→Nat} {i j:Nat} (h:Conn n o [] i j):o i=o j:=by
 induction h with
 | same _ _ h=>exact h
 | wait h=>cases h
 | symm _ ih=>exact ih.symm
 | trans _ _ h1 h2=>exact h1.trans h2
theorem Conn.mono {n n':Nat} {o o':Nat→Nat} {q q':List (Nat×Nat)} (ho:∀i j,i<n→j<n→o i=o j→Conn n' o' q' i j) (hq:∀i j,(i,j)∈q→Conn n' o' q' i j) {i j:Nat} (h:Conn n o q i j):Conn n' o' q' i j:=by
 induction h with
 | same a b h=>exact ho _ _ a b h
 | wait h=>exact hq _ _ h
 | symm _ ih=>exact .symm ih
 | trans _ _ h1 h2=>exact .trans h1 h2
inductive Way (fo:List Int):Nat→Prop
 | root {i:Nat}:fo[i]? = some (-1)→Way fo i
 | step {i j:Nat}:fo[i]? = some (j:Int)→Way fo j→Way fo i
structure MI (g:St) (M q:List (Nat×Nat)):Prop where
 len:g.of.length=g.n
 flen:g.fo.length=g.n
 args:∀(i:Nat) x,g.N[i]? = some x→∀a∈x.args,a<i
 cl:∀i,i<g.n→g.o i<g.cls.length
 mem:∀i,i<g.n→∀j,j∈(g.c (g.o i)).mem↔j<g.n∧g.o j=g.o i
 vals:∀i,i<g.n→∀j,j∈(g.c (g.o i)).vals↔j<g.n∧g.o j=g.o i∧∃x,g.N[j]? = some x∧x.value=true
 vlt:∀k v,v∈(g.c k).vals→v<g.n
 vnd:∀i,i<g.n→(g.c (g.o i)).vals.Nodup
 low:∀i,i<g.n→(g.c (g.o i)).low<g.n∧g.o (g.c (g.o i)).low=g.o i∧∀j,j<g.n→g.o j=g.o i→(g.c (g.o i)).low≤j
 uses:∀i,i<g.n→∀u,u∈(g.c (g.o i)).uses↔∃x,g.N[u]? = some x∧∃a∈x.args,g.o a=g.o i
 s1:∀s k,g.sigs s=some k→k<g.n∧g.sig k=s
 s2:∀i,i<g.n→∃k,g.sigs (g.sig i)=some k∧Conn g.n g.o q i k
 sd:∀i j,i<g.n→j<g.n→g.o i=g.o j→Cong g.N M i j
 qd:∀a b,(a,b)∈q→a<g.n∧b<g.n∧Cong g.N M a b
 cb:∀a b,(a,b)∈M→a<g.n∧b<g.n∧Conn g.n g.o q a b
 way:∀i,i<g.n→Way g.fo i
 edge:∀(i:Nat) (t:Int),g.fo[i]? = some t→t=-1∨∃j:Nat,t=j∧j<g.n∧g.o j=g.o i
theorem key_eq {x y:Nd} {o:Nat→Nat} (h:keyOf x o=keyOf y o):x.value=y.value∧x.sym=y.sym∧x.args.length=y.args.length∧∀(k u v:Nat),x.args[k]? = some u→y.args[k]? = some v→o u=o v:=by
 simp only [keyOf,Prod.mk.injEq] at h;obtain ⟨h1,h2,h3⟩:=h;refine ⟨h1,h2,by have:=congrArg List.length h3; simpa using this,fun k u v hu hv=>?_⟩;have:=congrArg (fun l=>l[k]?) h3;simp only [List.getElem?_map,hu,hv,Option.map_some,Option.some.injEq] at this;exact this
theorem MI.complete {g:St} {M:List (Nat×Nat)} (h:MI g M []) {i j:Nat} (hc:Cong g.N M i j):g.o i=g.o j:=by
 induction hc with
 | refl i=>rfl
 | symm _ ih=>exact ih.symm
 | trans _ _ h1 h2=>exact h1.trans h2
 | base hm=>exact (h.cb _ _ hm).2.2.nil
 | congr h1 h2 h3 h4 h5 _ ih =>
  rename_i i j x y _;have hi:i<g.n:=(List.getElem?_eq_some_iff.1 h1).1;have hj:j<g.n:=(List.getElem?_eq_some_iff.1 h2).1;have hs:g.sig i=g.sig j:=by
   rw [sig_of h1,sig_of h2];unfold keyOf;rw [h3,h4];have:x.args.map g.o=y.args.map g.o:=by
    apply List.ext_getElem?;intro k;rw [List.getElem?_map,List.getElem?_map];cases hx:x.args[k]? with
    | none =>
     have:=List.getElem?_eq_none_iff.1 hx;rw [List.getElem?_eq_none_iff.2 (by omega)]
    | some u =>
     have hk:=(List.getElem?_eq_some_iff.1 hx).1;rw [List.getElem?_eq_getElem (show k<y.args.length by omega)];simp only [Option.map_some,Option.some.injEq];exact ih k u _ hx (List.getElem?_eq_getElem (show k<y.args.length by omega))
   rw [this]
  obtain ⟨k1,e1,c1⟩:=h.s2 i hi;obtain ⟨k2,e2,c2⟩:=h.s2 j hj;rw [hs,e2] at e1;cases e1;exact c1.nil.trans c2.nil.symm
theorem MI.drop {g:St} {M q:List (Nat×Nat)} {a b:Nat} (h:MI g M ((a,b) :: q)) (he:g.o a=g.o b):MI g M q:=by
 have hc:∀i j,Conn g.n g.o ((a,b) :: q) i j→Conn g.n g.o q i j:=fun i j hh=>hh.mono (fun _ _=>.same) fun i j hm=>by
  rcases List.mem_cons.1 hm with e | e
  ·cases e;obtain ⟨h1,h2,_⟩:=h.qd a b List.mem_cons_self;exact .same h1 h2 he
  ·exact .wait e
 exact { h with
  s2:=fun i hi=>let ⟨k,h1,h2⟩:=h.s2 i hi; ⟨k,h1,hc _ _ h2⟩
  qd:=fun a b hm=>h.qd a b (List.mem_cons_of_mem _ hm)
  cb:=fun a b hm=>let ⟨h1,h2,h3⟩:=h.cb a b hm; ⟨h1,h2,hc _ _ h3⟩ }
def re (s b c:Nat):Nat:=if c=s then b else c
def delS (g:St) (us:List Nat) (k:Key):Option Nat:=match g.sigs k with
 | some u=>if u∈us then none else some u
 | none=>none
def insS (sg:Nat→Key):List Nat→(Key→Option Nat)×List (Nat×Nat)→(Key→Option Nat)×List (Nat×Nat)
 | [],r=>r
 | u :: us,r=>insS sg us (match r.1 (sg u) with
  | some k=>(r.1,if k=u then r.2 else r.2++[(u,k)])
  | none=>(fun s=>if s=sg u then some u else r.1 s,r.2))
theorem O9 {sg:Nat→Key}:∀(us:List Nat) (r:(Key→Option Nat)×List (Nat×Nat)) (s:Key) (k:Nat),r.1 s=some k→(insS sg us r).1 s=some k:=by
 intro us;induction us with
 | nil=>intro r s k h; exact h
 | cons u us ih =>
  intro r s k h;refine ih _ s k ?_;cases hr:r.1 (sg u) with
  | some k'=>exact h
  | none =>
   simp only;rw [if_neg (fun e=>by rw [e,hr] at h; cases h)];exact h
theorem zeb {sg:Nat→Key}:∀(us:List Nat) (r:(Key→Option Nat)×List (Nat×Nat)) (p:Nat×Nat),p∈r.2→p∈(insS sg us r).2:=by
 intro us;induction us with
 | nil=>intro r p h; exact h
 | cons u us ih =>
  intro r p h;refine ih _ p ?_;cases hr:r.1 (sg u) with
  | some k'=>simp only; split <;> simp [h]
  | none=>exact h
theorem zei {sg:Nat→Key}:∀(us:List Nat) (r:(Key→Option Nat)×List (Nat×Nat)) (u:Nat),u∈us→∃k,(insS sg us r).1 (sg u)=some k∧(k=u∨(u,k)∈(insS sg us r).2):=by
 intro us;induction us with
 | nil=>intro r u h; cases h
 | cons x us ih =>
  intro r u h;by_cases hm:u∈us
  ·exact ih _ u hm
  ·obtain rfl:u=x:=(List.mem_cons.1 h).resolve_right hm;cases hr:r.1 (sg u) with
   | some k =>
    by_cases hk:k=u
    ·refine ⟨k,?_,.inl hk⟩;show (insS sg us _).1 (sg u)=some k;rw [hr];exact O9 us _ _ _ hr
    ·refine ⟨k,?_,.inr ?_⟩
     ·show (insS sg us _).1 (sg u)=some k;rw [hr];exact O9 us _ _ _ hr
     ·show (u,k)∈(insS sg us _).2;rw [hr];refine zeb us _ _ ?_;simp [hk]
   | none =>
    refine ⟨u,?_,.inl rfl⟩;show (insS sg us _).1 (sg u)=some u;rw [hr];exact O9 us _ _ _ (by simp)
theorem z79 {sg:Nat→Key}:∀(us:List Nat) (r:(Key→Option Nat)×List (Nat×Nat)),(∀s k,(insS sg us r).1 s=some k→r.1 s=some k∨k∈us∧sg k=s) ∧
  ∀a b,(a,b)∈(insS sg us r).2→(a,b)∈r.2∨a∈us∧((r.1 (sg a)=some b)∨b∈us∧sg b=sg a):=by
 intro us;induction us with
 | nil=>intro r; exact ⟨fun s k h=>.inl h,fun a b h=>.inl h⟩
 | cons u us ih =>
  intro r;cases hr:r.1 (sg u) with
  | some k0 =>
   have e:insS sg (u :: us) r=insS sg us (r.1,if k0=u then r.2 else r.2++[(u,k0)]):=by
    show insS sg us _=_;rw [hr]
   rw [e];obtain ⟨h1,h2⟩:=ih (r.1,if k0=u then r.2 else r.2++[(u,k0)]);refine ⟨fun s k h=>(h1 s k h).imp id fun ⟨a,b⟩=>⟨List.mem_cons_of_mem _ a,b⟩,fun a b h=>?_⟩;rcases h2 a b h with h | ⟨h3,h4⟩
   ·simp only at h;split at h
    ·exact .inl h
    ·rcases List.mem_append.1 h with h | h
     ·exact .inl h
     ·simp only [List.mem_singleton,Prod.mk.injEq] at h;obtain ⟨rfl,rfl⟩:=h;exact .inr ⟨List.mem_cons_self,.inl hr⟩
   ·exact .inr ⟨List.mem_cons_of_mem _ h3,h4.imp id fun ⟨x,y⟩=>⟨List.mem_cons_of_mem _ x,y⟩⟩
  | none =>
   have e:insS sg (u :: us) r=insS sg us (fun s=>if s=sg u then some u else r.1 s,r.2):=by
    show insS sg us _=_;rw [hr]
   rw [e];obtain ⟨h1,h2⟩:=ih (fun s=>if s=sg u then some u else r.1 s,r.2);refine ⟨fun s k h=>?_,fun a b h=>?_⟩
   ·rcases h1 s k h with h | ⟨h,h'⟩
    ·simp only at h;split at h
     ·rename_i es;cases h;exact .inr ⟨List.mem_cons_self,es.symm⟩
     ·exact .inl h
    ·exact .inr ⟨List.mem_cons_of_mem _ h,h'⟩
   ·rcases h2 a b h with h | ⟨h3,h4⟩
    ·exact .inl h
    ·refine .inr ⟨List.mem_cons_of_mem _ h3,?_⟩;rcases h4 with h4 | ⟨h4,h5⟩
     ·simp only at h4;split at h4
      ·rename_i es;cases h4;exact .inr ⟨List.mem_cons_self,es.symm⟩
      ·exact .inl h4
     ·exact .inr ⟨List.mem_cons_of_mem _ h4,h5⟩
theorem re_eq (s t x y:Nat):re s t x=re s t y↔x=y∨(x=s∨x=t)∧(y=s∨y=t):=by
 unfold re;split <;> split <;> omega
def joinSt (g:St) (s t:Nat) (fo:List Int):St×List (Nat×Nat) :=
 let of':=g.of.map (re s t)
 let g0:St:=⟨g.N,of',g.cls,g.sigs,fo⟩
 let r:=insS g0.sig (g.c s).uses (delS g (g.c s).uses,[])
 (⟨g.N,of',g.cls.set t ⟨(g.c t).uses++(g.c s).uses,(g.c t).mem++(g.c s).mem,(g.c t).vals++(g.c s).vals,min (g.c t).low (g.c s).low⟩,r.1,fo⟩,r.2)
section
variable {g:St} {M q:List (Nat×Nat)} {s t:Nat} {fo:List Int}
theorem join_o (hl:g.of.length=g.n) {i:Nat} (hi:i<g.n):(joinSt g s t fo).1.o i=re s t (g.o i):=by
 show (g.of.map (re s t)).getD i 0=re s t (g.of.getD i 0);rw [List.getD_eq_getElem?_getD,List.getD_eq_getElem?_getD,List.getElem?_map,List.getElem?_eq_getElem (by omega)];rfl
theorem join_c (ht:t<g.cls.length) (k:Nat):(joinSt g s t fo).1.c k=if k=t then ⟨(g.c t).uses++(g.c s).uses,(g.c t).mem++(g.c s).mem,(g.c t).vals++(g.c s).vals,min (g.c t).low (g.c s).low⟩ else g.c k:=by
 show (g.cls.set t _).getD k Cl.nil=_;rw [List.getD_eq_getElem?_getD];by_cases hk:k=t
 ·subst hk;rw [List.getElem?_set_self ht,if_pos rfl];rfl
 ·rw [List.getElem?_set_ne (fun e=>hk e.symm),if_neg hk];show g.cls[k]?.getD Cl.nil=g.cls.getD k Cl.nil;rw [List.getD_eq_getElem?_getD]
theorem z8e (hl:g.of.length=g.n) (ha:∀(i:Nat) x,g.N[i]? = some x→∀a∈x.args,a<i) {i:Nat} {x:Nd} (hx:g.N[i]? = some x):(joinSt g s t fo).1.sig i=keyOf x fun a=>re s t (g.o a):=by
 rw [sig_of (g:=(joinSt g s t fo).1) hx];unfold keyOf;have:x.args.map (joinSt g s t fo).1.o=x.args.map fun a=>re s t (g.o a):=by
  refine List.map_congr_left fun a h=>?_;have h1:=ha i x hx a h;have h2:=(List.getElem?_eq_some_iff.1 hx).1;exact join_o hl (by show a<g.N.length; omega)
 rw [this]
theorem key_re {x y:Nd} {o:Nat→Nat} (h:keyOf x o=keyOf y o):keyOf x (fun a=>re s t (o a))=keyOf y fun a=>re s t (o a):=by
 simp only [keyOf,Prod.mk.injEq] at h ⊢;refine ⟨h.1,h.2.1,?_⟩;have:=congrArg (List.map (re s t)) h.2.2
 simpa [List.map_map,Function.comp_def] using this
theorem z8s {x:Nd} {o:Nat→Nat} (h:∀a∈x.args,o a≠s):keyOf x (fun a=>re s t (o a))=keyOf x o:=by
 unfold keyOf;have:x.args.map (fun a=>re s t (o a))=x.args.map o:=List.map_congr_left fun a ha=>by unfold re; rw [if_neg (h a ha)]
 rw [this]
theorem MI.join {p:Nat×Nat} {a b:Nat} (h:MI g M (p :: q)) (hp:p=(a,b)∨p=(b,a)) (hs:g.o a=s) (ht:g.o b=t) (hne:s≠t) (hfl:fo.length=g.n) (hw:∀i,i<g.n→Way fo i)
  (he:∀(i:Nat) (k:Int),fo[i]? = some k→k=-1∨∃j:Nat,k=j∧j<g.n∧re s t (g.o j)=re s t (g.o i)):MI (joinSt g s t fo).1 M (q++(joinSt g s t fo).2):=by
 have hab:a<g.n∧b<g.n∧Cong g.N M a b:=by
  rcases hp with rfl | rfl
  ·exact h.qd a b List.mem_cons_self
  ·obtain ⟨h1,h2,h3⟩:=h.qd b a List.mem_cons_self;exact ⟨h2,h1,h3.symm⟩
 obtain ⟨han,hbn,hcab⟩:=hab;have htl:t<g.cls.length:=by rw [← ht]; exact h.cl b hbn
 have ho:∀{i},i<g.n→(joinSt g s t fo).1.o i=re s t (g.o i):=fun hi=>join_o h.len hi;have hc:=fun k=>join_c (g:=g) (s:=s) (fo:=fo) htl k;have mS:=h.mem a han; rw [hs] at mS;have mT:=h.mem b hbn; rw [ht] at mT;have vS:=h.vals a han; rw [hs] at vS;have vT:=h.vals b hbn; rw [ht] at vT;have ndS:=h.vnd a han; rw [hs] at ndS;have ndT:=h.vnd b hbn; rw [ht] at ndT;have lS:=h.low a han; rw [hs] at lS;have lT:=h.low b hbn; rw [ht] at lT;have uS:=h.uses a han; rw [hs] at uS;have uT:=h.uses b hbn; rw [ht] at uT;have cases3:∀i,i<g.n→(re s t (g.o i)=t∧(g.o i=s∨g.o i=t))∨(re s t (g.o i)=g.o i∧g.o i≠s∧g.o i≠t):=by
  intro i _;unfold re;by_cases h1:g.o i=s
  ·rw [if_pos h1]; exact .inl ⟨rfl,.inl h1⟩
  ·rw [if_neg h1];by_cases h2:g.o i=t
   ·exact .inl ⟨h2,.inr h2⟩
   ·exact .inr ⟨rfl,h1,h2⟩
 have sd':∀i j,i<g.n→j<g.n→re s t (g.o i)=re s t (g.o j)→Cong g.N M i j:=by
  intro i j hi hj e;have toB:∀i,i<g.n→(g.o i=s∨g.o i=t)→Cong g.N M i b:=by
   rintro i hi (e | e)
   ·exact (h.sd i a hi han (by rw [e,hs])).trans hcab
   ·exact h.sd i b hi hbn (by rw [e,ht])
  rcases (re_eq s t _ _).1 e with e | ⟨e1,e2⟩
  ·exact h.sd i j hi hj e
  ·exact (toB i hi e1).trans (toB j hj e2).symm
 have inT:∀i,(g.o i=s∨g.o i=t)→re s t (g.o i)=t:=by
  rintro i (e | e) <;> unfold re
  ·rw [if_pos e]
  ·rw [e]; split <;> rfl
 let out:=(joinSt g s t fo).2
 have conn:∀{i j},Conn g.n g.o (p :: q) i j→Conn g.n (joinSt g s t fo).1.o (q++out) i j:=by
  intro i j hcn;refine hcn.mono (fun i j hi hj e=>.same hi hj (by rw [ho hi,ho hj,e])) fun x y hm=>?_;rcases List.mem_cons.1 hm with e | e
  ·have:(x,y)=(a,b)∨(x,y)=(b,a):=by rw [e]; exact hp
   rcases this with e | e
   ·simp only [Prod.mk.injEq] at e; obtain ⟨rfl,rfl⟩:=e;exact .same han hbn (by rw [ho han,ho hbn,inT _ (.inl hs),inT _ (.inr ht)])
   ·simp only [Prod.mk.injEq] at e; obtain ⟨rfl,rfl⟩:=e;exact .same hbn han (by rw [ho han,ho hbn,inT _ (.inl hs),inT _ (.inr ht)])
  ·exact .wait (List.mem_append_left _ e)
 have hsg:∀{i x},g.N[i]? = some x→(joinSt g s t fo).1.sig i=keyOf x fun a=>re s t (g.o a):=fun hx=>z8e h.len h.args hx;have stay:∀{i x},g.N[i]? = some x→i ∉ (g.c s).uses→(joinSt g s t fo).1.sig i=g.sig i:=by
  intro i x hx hu;rw [hsg hx,sig_of hx];exact z8s fun a ha e=>hu ((uS i).2 ⟨x,hx,a,ha,e⟩)
 have sgeq:∀i j,i<g.n→j<g.n→g.sig i=g.sig j→(joinSt g s t fo).1.sig i=(joinSt g s t fo).1.sig j:=by
  intro i j hi hj e;obtain ⟨x,hx⟩:=T4 hi;obtain ⟨y,hy⟩:=T4 hj;rw [hsg hx,hsg hy];rw [sig_of hx,sig_of hy] at e;exact key_re e
 have useLt:∀u∈(g.c s).uses,u<g.n:=fun u hu=>let ⟨x,hx,_⟩:=(uS u).1 hu; (List.getElem?_eq_some_iff.1 hx).1
 have del1:∀k u,delS g (g.c s).uses k=some u→u<g.n∧u ∉ (g.c s).uses∧g.sigs k=some u∧(joinSt g s t fo).1.sig u=k:=by
  intro k u hk;unfold delS at hk;cases hg:g.sigs k with
  | none=>rw [hg] at hk; cases hk
  | some u' =>
   rw [hg] at hk;simp only at hk;split at hk
   ·cases hk
   ·rename_i hn;cases hk;obtain ⟨h1,h2⟩:=h.s1 k u hg;obtain ⟨x,hx⟩:=T4 h1;exact ⟨h1,hn,rfl,by rw [stay hx hn,h2]⟩
 have from_:=z79 (sg:=(joinSt g s t fo).1.sig) (g.c s).uses (delS g (g.c s).uses,[]);have hsig':(joinSt g s t fo).1.sigs=(insS (joinSt g s t fo).1.sig (g.c s).uses (delS g (g.c s).uses,[])).1:=rfl;have hout:out=(insS (joinSt g s t fo).1.sig (g.c s).uses (delS g (g.c s).uses,[])).2:=rfl;have s1':∀k u,(joinSt g s t fo).1.sigs k=some u→u<g.n∧(joinSt g s t fo).1.sig u=k:=by
  intro k u hk;rw [hsig'] at hk;rcases from_.1 k u hk with hk | ⟨hu,e⟩
  ·obtain ⟨h1,_,_,h2⟩:=del1 k u hk;exact ⟨h1,h2⟩
  ·exact ⟨useLt u hu,e⟩
 have congS:∀i j,i<g.n→j<g.n→(joinSt g s t fo).1.sig i=(joinSt g s t fo).1.sig j→Cong g.N M i j:=by
  intro i j hi hj e;obtain ⟨x,hx⟩:=T4 hi;obtain ⟨y,hy⟩:=T4 hj;rw [hsg hx,hsg hy] at e;obtain ⟨h1,h2,h3,h4⟩:=key_eq e;refine .congr hx hy h1 h2 h3 fun k u v hu hv=>?_;have hu':=h.args i x hx u (List.mem_of_getElem? hu);have hv':=h.args j y hy v (List.mem_of_getElem? hv);exact sd' u v (by omega) (by omega) (h4 k u v hu hv)
 refine ⟨?_,hfl,h.args,?_,?_,?_,?_,?_,?_,?_,s1',?_,?_,?_,?_,hw,?_⟩
 ·show (g.of.map _).length=g.n;rw [List.length_map]; exact h.len
 ·intro i hi;show _<(g.cls.set t _).length;rw [List.length_set,ho hi];rcases cases3 i hi with ⟨e,_⟩ | ⟨e,_⟩
  ·rw [e]; exact htl
  ·rw [e]; exact h.cl i hi
 ·intro i hi j;rw [ho hi,hc];rcases cases3 i hi with ⟨e,_⟩ | ⟨e,e1,e2⟩
  ·rw [e,if_pos rfl];simp only [List.mem_append,mS,mT];constructor
   ·rintro (⟨h1,h2⟩ | ⟨h1,h2⟩)
    ·exact ⟨h1,by rw [ho h1,inT _ (.inr h2)]⟩
    ·exact ⟨h1,by rw [ho h1,inT _ (.inl h2)]⟩
   ·rintro ⟨h1,h2⟩
    have h1:j<g.n:=h1;rw [ho h1] at h2;rcases cases3 j h1 with ⟨_,e3 | e3⟩ | ⟨e4,e5,e6⟩
    ·exact .inr ⟨h1,e3⟩
    ·exact .inl ⟨h1,e3⟩
    ·rw [e4] at h2; exact absurd h2 e6
  ·rw [e,if_neg e2,h.mem i hi];refine and_congr_right fun h1=>?_;have h1:j<g.n:=h1;rw [ho h1];constructor
   ·intro h2;unfold re;rw [h2,if_neg e1]
   ·intro h2;rcases cases3 j h1 with ⟨e3,_⟩ | ⟨e3,_⟩
    ·rw [e3] at h2; exact absurd h2.symm e2
    ·rw [e3] at h2; exact h2
 ·intro i hi j;rw [ho hi,hc];rcases cases3 i hi with ⟨e,_⟩ | ⟨e,e1,e2⟩
  ·rw [e,if_pos rfl];simp only [List.mem_append,vS,vT];constructor
   ·rintro (⟨h1,h2,h3⟩ | ⟨h1,h2,h3⟩)
    ·exact ⟨h1,by rw [ho h1,inT _ (.inr h2)],h3⟩
    ·exact ⟨h1,by rw [ho h1,inT _ (.inl h2)],h3⟩
   ·rintro ⟨h1,h2,h3⟩
    have h1:j<g.n:=h1;rw [ho h1] at h2;rcases cases3 j h1 with ⟨_,e3 | e3⟩ | ⟨e4,e5,e6⟩
    ·exact .inr ⟨h1,e3,h3⟩
    ·exact .inl ⟨h1,e3,h3⟩
    ·rw [e4] at h2; exact absurd h2 e6
  ·rw [e,if_neg e2,h.vals i hi];refine and_congr_right fun h1=>?_;have h1:j<g.n:=h1;rw [ho h1];refine and_congr_left fun _=>?_;constructor
   ·intro h2;unfold re;rw [h2,if_neg e1]
   ·intro h2;rcases cases3 j h1 with ⟨e3,_⟩ | ⟨e3,_⟩
    ·rw [e3] at h2; exact absurd h2.symm e2
    ·rw [e3] at h2; exact h2
 ·intro k v hv;rw [hc] at hv;split at hv
  ·rcases List.mem_append.1 hv with hv | hv
   ·exact h.vlt _ v hv
   ·exact h.vlt _ v hv
  ·exact h.vlt _ v hv
 ·intro i hi;rw [ho hi,hc];rcases cases3 i hi with ⟨e,_⟩ | ⟨e,e1,e2⟩
  ·rw [e,if_pos rfl];refine List.nodup_append.2 ⟨ndT,ndS,fun x hx y hy e=>?_⟩;have h1:=(vT x).1 hx;have h2:=(vS y).1 hy;rw [e,h2.2.1] at h1;exact hne h1.2.1
  ·rw [e,if_neg e2]; exact h.vnd i hi
 ·intro i hi;rw [ho hi,hc];rcases cases3 i hi with ⟨e,e0⟩ | ⟨e,e1,e2⟩
  ·rw [e,if_pos rfl];have hm:min (g.c t).low (g.c s).low=(g.c t).low∨min (g.c t).low (g.c s).low=(g.c s).low:=by omega
   refine ⟨(show min (g.c t).low (g.c s).low<g.n from by have:=lT.1; have:=lS.1; omega),?_,fun j hj hj2=>?_⟩
   ·rcases hm with hm | hm <;> simp only [hm]
    ·rw [ho lT.1,inT _ (.inr lT.2.1)]
    ·rw [ho lS.1,inT _ (.inl lS.2.1)]
   ·have hj:j<g.n:=hj;rw [ho hj] at hj2;show min _ _≤j;rcases cases3 j hj with ⟨_,e3 | e3⟩ | ⟨e4,e5,e6⟩
    ·have:=lS.2.2 j hj e3; omega
    ·have:=lT.2.2 j hj e3; omega
    ·rw [e4] at hj2; exact absurd hj2 e6
  ·rw [e,if_neg e2];obtain ⟨l1,l2,l3⟩:=h.low i hi;refine ⟨l1,?_,fun j hj hj2=>?_⟩
   ·rw [ho l1,l2];unfold re; rw [if_neg e1]
   ·have hj:j<g.n:=hj;rw [ho hj] at hj2;rcases cases3 j hj with ⟨e3,_⟩ | ⟨e3,_⟩
    ·rw [e3] at hj2; exact absurd hj2.symm e2
    ·rw [e3] at hj2; exact l3 j hj hj2
 ·intro i hi u;rw [ho hi,hc];have argo:∀{x a},g.N[u]? = some x→a∈x.args→a<g.n:=fun hx ha=>by
   have:=h.args u _ hx _ ha;have:=(List.getElem?_eq_some_iff.1 hx).1;show _<g.N.length;omega
  rcases cases3 i hi with ⟨e,e0⟩ | ⟨e,e1,e2⟩
  ·rw [e,if_pos rfl];simp only [List.mem_append,uS,uT];constructor
   ·rintro (⟨x,hx,a',ha,e3⟩ | ⟨x,hx,a',ha,e3⟩)
    ·exact ⟨x,hx,a',ha,by rw [ho (argo hx ha),inT _ (.inr e3)]⟩
    ·exact ⟨x,hx,a',ha,by rw [ho (argo hx ha),inT _ (.inl e3)]⟩
   ·rintro ⟨x,hx,a',ha,e3⟩
    rw [ho (argo hx ha)] at e3;rcases cases3 a' (argo hx ha) with ⟨_,e4 | e4⟩ | ⟨e4,e5,e6⟩
    ·exact .inr ⟨x,hx,a',ha,e4⟩
    ·exact .inl ⟨x,hx,a',ha,e4⟩
    ·rw [e4] at e3; exact absurd e3 e6
  ·rw [e,if_neg e2,h.uses i hi];refine exists_congr fun x=>and_congr_right fun hx=>exists_congr fun a'=>and_congr_right fun ha=>?_;rw [ho (argo hx ha)];constructor
   ·intro h2;unfold re;rw [h2,if_neg e1]
   ·intro h2;rcases cases3 a' (argo hx ha) with ⟨e3,_⟩ | ⟨e3,_⟩
    ·rw [e3] at h2; exact absurd h2.symm e2
    ·rw [e3] at h2; exact h2
 ·intro i hi;have hi:i<g.n:=hi;obtain ⟨x,hx⟩:=T4 hi;by_cases hu:i∈(g.c s).uses
  ·obtain ⟨k,h1,h2⟩:=zei (sg:=(joinSt g s t fo).1.sig) (g.c s).uses (delS g (g.c s).uses,[]) i hu;refine ⟨k,h1,?_⟩;rcases h2 with rfl | h2
   ·exact .same hi hi rfl
   ·exact .wait (List.mem_append_right _ h2)
  ·obtain ⟨k,h1,h2⟩:=h.s2 i hi;obtain ⟨hk,hks⟩:=h.s1 _ _ h1;have hku:k ∉ (g.c s).uses:=by
    intro hk';obtain ⟨y,hy,a',ha,e⟩:=(uS k).1 hk';rw [sig_of hy,sig_of hx] at hks;obtain ⟨_,_,hl,hp4⟩:=key_eq hks;obtain ⟨n,hn,hn2⟩:=List.mem_iff_getElem.1 ha;have e1:y.args[n]? = some a':=by rw [List.getElem?_eq_getElem hn,hn2]
    have e2:x.args[n]? = some x.args[n]:=List.getElem?_eq_getElem (by omega);have:=hp4 n a' _ e1 e2;exact hu ((uS i).2 ⟨x,hx,_,List.getElem_mem _,by rw [← this]; exact e⟩)
   refine ⟨k,?_,conn h2⟩;rw [hsig',stay hx hu];refine O9 _ _ _ _ ?_;show delS g _ _=some k;unfold delS;rw [h1];simp only;rw [if_neg hku]
 ·intro i j hi hj e;rw [ho hi,ho hj] at e;exact sd' i j hi hj e
 ·intro x y hm;rcases List.mem_append.1 hm with hm | hm
  ·exact h.qd x y (List.mem_cons_of_mem _ hm)
  ·rw [show (joinSt g s t fo).2=_ from hout] at hm;rcases from_.2 x y hm with hm | ⟨h1,h2⟩
   ·cases hm
   ·have hx:=useLt x h1;rcases h2 with h2 | ⟨h2,h3⟩
    ·obtain ⟨hy,_,_,h4⟩:=del1 _ _ h2;exact ⟨hx,hy,congS x y hx hy h4.symm⟩
    ·have hy:=useLt y h2;exact ⟨hx,hy,congS x y hx hy h3.symm⟩
 ·intro x y hm;obtain ⟨h1,h2,h3⟩:=h.cb x y hm;exact ⟨h1,h2,conn h3⟩
 ·intro i k hk;rcases he i k hk with e | ⟨j,e1,e2,e3⟩
  ·exact .inl e
  ·have hi:i<g.n:=by
    have h0:=(List.getElem?_eq_some_iff.1 (show fo[i]? = some k from hk)).1;rw [hfl] at h0;exact h0
   exact .inr ⟨j,e1,e2,by rw [ho e2,ho hi]; exact e3⟩
end
end Go.Abs.Eg
namespace Go.Abs.Eg
inductive WayN (fo:List Int):Nat→Nat→Prop
 | root {i:Nat}:fo[i]? = some (-1)→WayN fo 0 i
 | step {k i j:Nat}:fo[i]? = some (j:Int)→WayN fo k j→WayN fo (k+1) i
theorem Way.num {fo:List Int} {i:Nat} (h:Way fo i):∃k,WayN fo k i:=by
 induction h with
 | root h=>exact ⟨0,.root h⟩
 | step h _ ih=>obtain ⟨k,hk⟩:=ih; exact ⟨k+1,.step h hk⟩
theorem WayN.uniq {fo:List Int} {k i:Nat} (h:WayN fo k i):∀{k':Nat},WayN fo k' i→k=k':=by
 induction h with
 | root h =>
  intro k' h';cases h' with
  | root _=>rfl
  | step h' _=>rw [h] at h'; simp only [Option.some.injEq] at h'; omega
 | step h _ ih =>
  intro k' h';cases h' with
  | root h'=>rw [h] at h'; simp only [Option.some.injEq] at h'; omega
  | step h' h2 =>
   rw [h] at h';simp only [Option.some.injEq] at h';have:=Int.ofNat.inj h';subst this;rw [ih h2]
inductive WayP (f:List Int) (p:Nat→Prop):Nat→Prop
 | root {i:Nat}:p i→f[i]? = some (-1)→WayP f p i
 | step {i j:Nat}:p i→f[i]? = some (j:Int)→WayP f p j→WayP f p i
theorem WayP.way {f:List Int} {p:Nat→Prop} {i:Nat} (h:WayP f p i):Way f i:=by
 induction h with
 | root _ h=>exact .root h
 | step _ h _ ih=>exact .step h ih
theorem WayP.set {f:List Int} {p q:Nat→Prop} {i c:Nat} {v:Int} (h:WayP f p i) (hc:¬p c) (hq:∀x,p x→q x):WayP (f.set c v) q i:=by
 induction h with
 | root hp h =>
  rename_i i;refine .root (hq _ hp) ?_;rw [List.getElem?_set_ne (fun e=>hc (by rw [e]; exact hp))];exact h
 | step hp h _ ih =>
  rename_i i j _;refine .step (hq _ hp) ?_ ih;rw [List.getElem?_set_ne (fun e=>hc (by rw [e]; exact hp))];exact h
theorem Way.set {f:List Int} {i c:Nat} {v:Int} (h:Way f i) (hl:c<f.length) (hc:v=-1∨∃j:Nat,v=j∧Way (f.set c v) j):Way (f.set c v) i:=by
 have hcc:Way (f.set c v) c:=by
  rcases hc with hc | ⟨j,h1,h2⟩
  ·exact .root (by rw [List.getElem?_set_self hl,hc])
  ·exact .step (j:=j) (by rw [List.getElem?_set_self hl,h1]) h2
 induction h with
 | root h =>
  rename_i i;by_cases e:c=i
  ·rw [← e]; exact hcc
  ·exact .root (by rw [List.getElem?_set_ne e]; exact h)
 | step h _ ih =>
  rename_i i j _;by_cases e:c=i
  ·rw [← e]; exact hcc
  ·exact .step (j:=j) (by rw [List.getElem?_set_ne e]; exact h) ih
def InC (o:Nat→Nat) (n:Nat) (f:List Int):Prop:=∀(i:Nat) (k:Int),f[i]? = some k→k=-1∨∃j:Nat,k=j∧j<n∧o j=o i
structure RI (fo:List Int) (o:Nat→Nat) (n:Nat) (f:List Int) (prev:Int) (c k:Nat):Prop where
 len:f.length=n
 cn:c<n
 wn:WayN fo k c
 same:∀x k',WayN fo k' x→k'≤k→f[x]? = fo[x]?
 ways:∀i,i<n→Way f i
 inc:InC o n f
 prev:prev=-1∨∃p:Nat,prev=p∧p<n∧o p=o c∧WayP f (fun y=>∃k',WayN fo k' y∧k<k') p
theorem RI.start {fo:List Int} {o:Nat→Nat} {n c:Nat} (hl:fo.length=n) (hc:c<n) (hw:∀i,i<n→Way fo i) (hi:InC o n fo):∃k,RI fo o n fo (-1) c k:=by
 obtain ⟨k,hk⟩:=(hw c hc).num;exact ⟨k,hl,hc,hk,fun _ _ _ _=>rfl,hw,hi,.inl rfl⟩
structure RD (o:Nat→Nat) (n:Nat) (f:List Int):Prop where
 len:f.length=n
 ways:∀i,i<n→Way f i
 inc:InC o n f
theorem RI.next {fo:List Int} {o:Nat→Nat} {n:Nat} {f:List Int} {prev:Int} {c k:Nat} (h:RI fo o n f prev c k) :
  ∃v,f[c]? = some v∧((v=-1∧RD o n (f.set c prev))∨∃j k',v=(j:Nat)∧k=k'+1∧RI fo o n (f.set c prev) (c:Int) j k'):=by
 have hcl:c<f.length:=by rw [h.len]; exact h.cn
 have hs:=h.same c k h.wn (Nat.le_refl _);have hpv:prev=-1∨∃j:Nat,prev=j∧Way (f.set c prev) j:=by
  rcases h.prev with e | ⟨p,h1,_,_,h4⟩
  ·exact .inl e
  ·exact .inr ⟨p,h1,(h4.set (q:=fun _=>True) (fun ⟨k',h5,h6⟩=>by have:=h5.uniq h.wn; omega) fun _ _=>trivial).way⟩
 have hways:∀i,i<n→Way (f.set c prev) i:=fun i hi=>(h.ways i hi).set hcl hpv;have hinc:InC o n (f.set c prev):=by
  intro i v hv;by_cases e:c=i
  ·subst e;rw [List.getElem?_set_self hcl] at hv;cases hv;rcases h.prev with e | ⟨p,h1,h2,h3,_⟩
   ·exact .inl e
   ·exact .inr ⟨p,h1,h2,h3⟩
  ·rw [List.getElem?_set_ne e] at hv;exact h.inc i v hv
 have hlen:(f.set c prev).length=n:=by rw [List.length_set]; exact h.len
 have hwn:=h.wn;cases hwn with
 | root hr=>exact ⟨-1,by rw [hs]; exact hr,.inl ⟨rfl,hlen,hways,hinc⟩⟩
 | step hst hw =>
  rename_i k' j;have hfc:f[c]? = some (j:Int):=by rw [hs]; exact hst
  have hj:j<n∧o j=o c:=by
   rcases h.inc c _ hfc with e | ⟨j',e,h1,h2⟩
   ·omega
   ·have:=Int.ofNat.inj e;subst this;exact ⟨h1,h2⟩
  refine ⟨j,hfc,.inr ⟨j,k',rfl,rfl,hlen,hj.1,hw,fun x k'' hx hk=>?_,hways,hinc,.inr ⟨c,rfl,h.cn,hj.2.symm,?_⟩⟩⟩
  ·by_cases e:c=x
   ·subst e;have:=hx.uniq h.wn;omega
   ·rw [List.getElem?_set_ne e];exact h.same x k'' hx (by omega)
  ·rcases h.prev with e | ⟨p,h1,_,_,h4⟩
   ·exact .root ⟨k'+1,h.wn,by omega⟩ (by rw [List.getElem?_set_self hcl,e])
   ·refine .step (j:=p) ⟨k'+1,h.wn,by omega⟩ (by rw [List.getElem?_set_self hcl,h1]) ?_;exact h4.set (fun ⟨k2,h5,h6⟩=>by have:=h5.uniq h.wn; omega) fun x ⟨k2,h5,h6⟩=>⟨k2,h5,by omega⟩
theorem RD.link {o:Nat→Nat} {n:Nat} {f:List Int} {a b:Nat} (h:RD o n f) (ha:a<n) (hb:b<n) (hne:o a≠o b) :
  (f.set a (b:Int)).length=n∧(∀i,i<n→Way (f.set a (b:Int)) i) ∧
  ∀(i:Nat) (k:Int),(f.set a (b:Int))[i]? = some k→k=-1∨∃j:Nat,k=j∧j<n∧re (o a) (o b) (o j)=re (o a) (o b) (o i):=by
 have hal:a<f.length:=by rw [h.len]; exact ha
 have inB:∀{i},Way f i→o i=o b→WayP f (fun y=>o y=o b) i:=by
  intro i hw;induction hw with
  | root hr=>intro e; exact .root e hr
  | step hst _ ih =>
   rename_i i j _;intro e;refine .step e hst (ih ?_);rcases h.inc _ _ hst with e' | ⟨j',e',_,h2⟩
   ·omega
   ·have:=Int.ofNat.inj e';subst this;rw [h2,e]
 refine ⟨by rw [List.length_set]; exact h.len,fun i hi=>(h.ways i hi).set hal (.inr ⟨b,rfl,((inB (h.ways b hb) rfl).set (q:=fun _=>True) (fun e=>hne e) fun _ _=>trivial).way⟩),fun i k hk=>?_⟩;by_cases e:a=i
 ·subst e;rw [List.getElem?_set_self hal] at hk;cases hk;exact .inr ⟨b,rfl,hb,(re_eq _ _ _ _).2 (.inr ⟨.inr rfl,.inl rfl⟩)⟩
 ·rw [List.getElem?_set_ne e] at hk;rcases h.inc i k hk with e | ⟨j,h1,h2,h3⟩
  ·exact .inl e
  ·exact .inr ⟨j,h1,h2,by rw [h3]⟩
def addU (o:Nat→Nat) (n:Nat):List Nat→List Cl→List Cl
 | [],cs=>cs
 | a :: ays,cs=>addU o n ays (cs.modify (o a) fun c=>{ c with uses:=c.uses++[n] })
theorem o7 (o:Nat→Nat) (n:Nat):∀(ays:List Nat) (cs:List Cl),(addU o n ays cs).length=cs.length
 | [],cs=>rfl
 | a :: ays,cs=>by
  show (addU o n ays _).length=_;rw [o7 o n ays,List.length_modify]
theorem z8j (o:Nat→Nat) (n:Nat):∀(ays:List Nat) (cs:List Cl) (k:Nat),k<cs.length →
  (((addU o n ays cs).getD k Cl.nil).mem=(cs.getD k Cl.nil).mem∧((addU o n ays cs).getD k Cl.nil).vals=(cs.getD k Cl.nil).vals∧((addU o n ays cs).getD k Cl.nil).low=(cs.getD k Cl.nil).low) ∧
  ∀u,u∈((addU o n ays cs).getD k Cl.nil).uses↔u∈(cs.getD k Cl.nil).uses∨u=n∧∃a∈ays,o a=k
 | [],cs,k,hk=>⟨⟨rfl,rfl,rfl⟩,fun u=>by simp [addU]⟩
 | a :: ays,cs,k,hk=>by
  have ih:=z8j o n ays (cs.modify (o a) fun c=>{ c with uses:=c.uses++[n] }) k (by rw [List.length_modify]; exact hk);have hg:(cs.modify (o a) fun c=>{ c with uses:=c.uses++[n] }).getD k Cl.nil=if o a=k then { (cs.getD k Cl.nil) with uses:=(cs.getD k Cl.nil).uses++[n] } else cs.getD k Cl.nil:=by
   rw [List.getD_eq_getElem?_getD,List.getD_eq_getElem?_getD,List.getElem?_modify,List.getElem?_eq_getElem hk];by_cases e:o a=k
   ·simp [e]
   ·simp [e]
  rw [hg] at ih;refine ⟨?_,fun u=>?_⟩
  ·show ((addU o n ays _).getD k Cl.nil).mem=_∧_;by_cases e:o a=k
   ·rw [if_pos e] at ih; exact ih.1
   ·rw [if_neg e] at ih; exact ih.1
  ·show u∈((addU o n ays _).getD k Cl.nil).uses↔_;rw [ih.2 u];by_cases e:o a=k
   ·rw [if_pos e];rw [List.mem_append,List.mem_singleton];simp only [List.mem_cons];constructor
    ·rintro ((h | h) | ⟨h,b,hb,h2⟩)
     ·exact .inl h
     ·exact .inr ⟨h,a,.inl rfl,e⟩
     ·exact .inr ⟨h,b,.inr hb,h2⟩
    ·rintro (h | ⟨h,b,hb | hb,h2⟩)
     ·exact .inl (.inl h)
     ·exact .inl (.inr h)
     ·exact .inr ⟨h,b,hb,h2⟩
   ·rw [if_neg e];simp only [List.mem_cons];constructor
    ·rintro (h | ⟨h,b,hb,h2⟩)
     ·exact .inl h
     ·exact .inr ⟨h,b,.inr hb,h2⟩
    ·rintro (h | ⟨h,b,hb | hb,h2⟩)
     ·exact .inl h
     ·rw [hb] at h2; exact absurd h2 e
     ·exact .inr ⟨h,b,hb,h2⟩
def begSt (g:St) (x:Nd):St :=
 let of':=g.of++[g.cls.length]
 ⟨g.N++[x],of',addU (fun i=>of'.getD i 0) g.n x.args (g.cls++[⟨[],[g.n],if x.value then [g.n] else [],g.n⟩]),g.sigs,g.fo++[-1]⟩
section
variable {g:St} {M:List (Nat×Nat)} {x:Nd}
theorem beg_n:(begSt g x).n=g.n+1:=by
 show (g.N++[x]).length=g.N.length+1;simp
theorem I4 {i:Nat} (hl:g.of.length=g.n) (hi:i<g.n):(begSt g x).o i=g.o i:=by
 show (g.of++[g.cls.length]).getD i 0=g.of.getD i 0;rw [List.getD_eq_getElem?_getD,List.getD_eq_getElem?_getD,List.getElem?_append_left (by omega)]
theorem z15 (hl:g.of.length=g.n):(begSt g x).o g.n=g.cls.length:=by
 show (g.of++[g.cls.length]).getD g.n 0=g.cls.length;rw [List.getD_eq_getElem?_getD,List.getElem?_append_right (by omega),hl];simp
theorem beg_N (i:Nat):(begSt g x).N[i]? = if i=g.n then some x else g.N[i]? := by
 show (g.N++[x])[i]? = _;by_cases e:i=g.n
 ·rw [if_pos e,List.getElem?_append_right (by show g.N.length≤i; rw [e]; exact Nat.le_refl _),e];show [x][g.N.length - g.N.length]? = some x;simp
 ·rw [if_neg e];by_cases h:i<g.N.length
  ·rw [List.getElem?_append_left h]
  ·rw [List.getElem?_eq_none (by simp; have:g.n=g.N.length:=rfl; omega),List.getElem?_eq_none (by omega)]
theorem beg_c (hl:g.of.length=g.n) (k:Nat) (hk:k<g.cls.length+1) :
  (((begSt g x).c k).mem=(if k=g.cls.length then [g.n] else (g.c k).mem)∧((begSt g x).c k).vals=(if k=g.cls.length then (if x.value then [g.n] else []) else (g.c k).vals)∧((begSt g x).c k).low=(if k=g.cls.length then g.n else (g.c k).low)) ∧
  ∀u,u∈((begSt g x).c k).uses↔u∈(if k=g.cls.length then [] else (g.c k).uses)∨u=g.n∧∃a∈x.args,(begSt g x).o a=k:=by
 have h:=z8j (begSt g x).o g.n x.args (g.cls++[⟨[],[g.n],if x.value then [g.n] else [],g.n⟩]) k (by simpa using hk);have hg:(g.cls++[(⟨[],[g.n],if x.value then [g.n] else [],g.n⟩:Cl)]).getD k Cl.nil=if k=g.cls.length then (⟨[],[g.n],if x.value then [g.n] else [],g.n⟩:Cl) else g.c k:=by
  rw [List.getD_eq_getElem?_getD];by_cases e:k=g.cls.length
  ·rw [if_pos e,List.getElem?_append_right (by omega),e];simp
  ·rw [if_neg e,List.getElem?_append_left (by omega)];show _=g.cls.getD k Cl.nil;rw [List.getD_eq_getElem?_getD]
 rw [hg] at h;by_cases e:k=g.cls.length
 ·simp only [if_pos e] at h ⊢; exact h
 ·simp only [if_neg e] at h ⊢; exact h
theorem X6 (hl:g.of.length=g.n) (ha:∀(i:Nat) y,g.N[i]? = some y→∀a∈y.args,a<i) {i:Nat} (hi:i<g.n):(begSt g x).sig i=g.sig i:=by
 obtain ⟨y,hy⟩:=T4 hi;rw [sig_of hy,sig_of (g:=begSt g x) (x:=y) (by rw [beg_N,if_neg (by omega)]; exact hy)];unfold keyOf;have:y.args.map (begSt g x).o=y.args.map g.o:=List.map_congr_left fun a h=>I4 hl (by have:=ha i y hy a h; omega);rw [this]
theorem o8 (hl:g.of.length=g.n) (hx:∀a∈x.args,a<g.n):(begSt g x).sig g.n=keyOf x g.o:=by
 rw [sig_of (g:=begSt g x) (x:=x) (by rw [beg_N,if_pos rfl])];unfold keyOf;have:x.args.map (begSt g x).o=x.args.map g.o:=List.map_congr_left fun a h=>I4 hl (hx a h);rw [this]
theorem MI.beg0 (h:MI g M []) (hx:∀a∈x.args,a<g.n) (sg:Key→Option Nat) (q:List (Nat×Nat)) (hs1:∀s k,sg s=some k→k<g.n+1∧(begSt g x).sig k=s)
  (hs2:∀i,i<g.n+1→∃k,sg ((begSt g x).sig i)=some k∧Conn (g.n+1) (begSt g x).o q i k) (hq:∀a b,(a,b)∈q→a<g.n+1∧b<g.n+1∧Cong (g.N++[x]) M a b):MI { begSt g x with sigs:=sg } M q:=by
 have hn:(begSt g x).n=g.n+1:=beg_n;have hold:∀{i},i<g.n→(begSt g x).o i=g.o i:=fun hi=>I4 h.len hi;have hnew:(begSt g x).o g.n=g.cls.length:=z15 h.len;have hcm:∀i y,g.N[i]? = some y→(g.N++[x])[i]? = some y:=fun i y hy=>by rw [List.getElem?_append_left (List.getElem?_eq_some_iff.1 hy).1]; exact hy
 have hlt:∀{i},i<g.n→g.o i<g.cls.length:=fun hi=>h.cl _ hi;have lenC:({ begSt g x with sigs:=sg }:St).cls.length=g.cls.length+1:=by
  show (addU _ _ _ _).length=_;rw [o7]; simp
 have split:∀{i},i<g.n+1→i<g.n∨i=g.n:=fun h=>by omega
 refine ⟨?_,?_,?_,?_,?_,?_,?_,?_,?_,?_,?_,?_,?_,?_,?_,?_,?_⟩
 ·show (g.of++[g.cls.length]).length=(begSt g x).n;rw [hn,List.length_append,h.len]; rfl
 ·show (g.fo++[-1]).length=(begSt g x).n;rw [hn,List.length_append,h.flen]; rfl
 ·intro i y hy a ha;have hy:(begSt g x).N[i]? = some y:=hy;rw [beg_N] at hy;split at hy
  ·rename_i e;cases hy;rw [e]; exact hx a ha
  ·exact h.args i y hy a ha
 ·intro i hi;rw [lenC];show (begSt g x).o i<_;rcases split (hn▸hi) with hi | rfl
  ·rw [hold hi]; have:=hlt hi; omega
  ·rw [hnew]; omega
 ·intro i hi j;show j∈((begSt g x).c ((begSt g x).o i)).mem↔j<(begSt g x).n∧(begSt g x).o j=(begSt g x).o i;rw [hn];rcases split (hn▸hi) with hi | rfl
  ·have hk:=hlt hi;rw [hold hi,(beg_c h.len (g.o i) (by omega)).1.1,if_neg (by omega),h.mem i hi];constructor
   ·rintro ⟨h1,h2⟩; exact ⟨by omega,by rw [hold h1]; exact h2⟩
   ·rintro ⟨h1,h2⟩
    rcases split h1 with h1 | rfl
    ·rw [hold h1] at h2; exact ⟨h1,h2⟩
    ·rw [hnew] at h2; omega
  ·rw [hnew,(beg_c h.len _ (by omega)).1.1,if_pos rfl,List.mem_singleton];constructor
   ·rintro rfl; exact ⟨by omega,hnew⟩
   ·rintro ⟨h1,h2⟩
    rcases split h1 with h1 | rfl
    ·rw [hold h1] at h2; have:=hlt h1; omega
    ·rfl
 ·intro i hi j;show j∈((begSt g x).c ((begSt g x).o i)).vals↔j<(begSt g x).n∧(begSt g x).o j=(begSt g x).o i∧∃y,(begSt g x).N[j]? = some y∧y.value=true;rw [hn];rcases split (hn▸hi) with hi | rfl
  ·have hk:=hlt hi;rw [hold hi,(beg_c h.len (g.o i) (by omega)).1.2.1,if_neg (by omega),h.vals i hi];constructor
   ·rintro ⟨h1,h2,h3⟩; exact ⟨by omega,by rw [hold h1]; exact h2,by rw [beg_N,if_neg (by omega)]; exact h3⟩
   ·rintro ⟨h1,h2,h3⟩
    rcases split h1 with h1 | rfl
    ·rw [hold h1] at h2;rw [beg_N,if_neg (by omega)] at h3;exact ⟨h1,h2,h3⟩
    ·rw [hnew] at h2; omega
  ·rw [hnew,(beg_c h.len _ (by omega)).1.2.1,if_pos rfl];constructor
   ·intro hj;cases hv:x.value with
    | false=>rw [hv] at hj; simp at hj
    | true =>
     rw [hv] at hj;simp only [if_true,List.mem_singleton] at hj;subst hj;exact ⟨by omega,hnew,x,by rw [beg_N,if_pos rfl],hv⟩
   ·rintro ⟨h1,h2,y,hy,hv⟩
    rcases split h1 with h1 | rfl
    ·rw [hold h1] at h2; have:=hlt h1; omega
    ·rw [beg_N,if_pos rfl] at hy;cases hy;rw [hv]; simp
 ·intro k v hv;have hv:v∈((begSt g x).c k).vals:=hv;show v<(begSt g x).n;rw [hn];by_cases hk:k<g.cls.length+1
  ·rw [(beg_c h.len k hk).1.2.1] at hv;split at hv
   ·split at hv
    ·simp at hv; omega
    ·simp at hv
   ·have:=h.vlt k v hv; omega
  ·have:(begSt g x).c k=Cl.nil:=by
    show (begSt g x).cls.getD k Cl.nil=_;rw [List.getD_eq_getElem?_getD,List.getElem?_eq_none (by have:=lenC; show (begSt g x).cls.length≤k; have:(begSt g x).cls.length=g.cls.length+1:=lenC; omega)];rfl
   rw [this] at hv;cases hv
 ·intro i hi;show ((begSt g x).c ((begSt g x).o i)).vals.Nodup;rcases split (hn▸hi) with hi | rfl
  ·have hk:=hlt hi;rw [hold hi,(beg_c h.len (g.o i) (by omega)).1.2.1,if_neg (by omega)];exact h.vnd i hi
  ·rw [hnew,(beg_c h.len _ (by omega)).1.2.1,if_pos rfl];split <;> simp
 ·intro i hi;show ((begSt g x).c ((begSt g x).o i)).low<(begSt g x).n∧(begSt g x).o ((begSt g x).c ((begSt g x).o i)).low=(begSt g x).o i∧∀j,j<(begSt g x).n→(begSt g x).o j=(begSt g x).o i→((begSt g x).c ((begSt g x).o i)).low≤j;rw [hn];rcases split (hn▸hi) with hi | rfl
  ·have hk:=hlt hi;rw [hold hi,(beg_c h.len (g.o i) (by omega)).1.2.2,if_neg (by omega)];obtain ⟨l1,l2,l3⟩:=h.low i hi;refine ⟨by omega,by rw [hold l1]; exact l2,fun j hj hj2=>?_⟩;rcases split hj with hj | rfl
   ·rw [hold hj] at hj2; exact l3 j hj hj2
   ·omega
  ·rw [hnew,(beg_c h.len _ (by omega)).1.2.2,if_pos rfl];refine ⟨by omega,hnew,fun j hj hj2=>?_⟩;rcases split hj with hj | rfl
   ·rw [hold hj] at hj2; have:=hlt hj; omega
   ·omega
 ·intro i hi u;show u∈((begSt g x).c ((begSt g x).o i)).uses↔∃y,(begSt g x).N[u]? = some y∧∃a∈y.args,(begSt g x).o a=(begSt g x).o i;have hci:(begSt g x).o i<g.cls.length+1:=by
   rcases split (hn▸hi) with hi | rfl
   ·rw [hold hi]; have:=hlt hi; omega
   ·rw [hnew]; omega
  rw [(beg_c h.len _ hci).2 u];constructor
  ·rintro (hu | ⟨rfl,a,ha,e⟩)
   ·rcases split (hn▸hi) with hi | rfl
    ·have hk:=hlt hi;rw [hold hi,if_neg (by omega),h.uses i hi] at hu;obtain ⟨y,hy,a,ha,e⟩:=hu;have hun:u<g.n:=(List.getElem?_eq_some_iff.1 hy).1;refine ⟨y,by rw [beg_N,if_neg (by omega)]; exact hy,a,ha,?_⟩;have:=h.args u y hy a ha;rw [hold (by omega),hold hi]; exact e
    ·rw [hnew,if_pos rfl] at hu; cases hu
   ·exact ⟨x,by rw [beg_N,if_pos rfl],a,ha,e⟩
  ·rintro ⟨y,hy,a,ha,e⟩
   rw [beg_N] at hy;split at hy
   ·rename_i eu;cases hy;exact .inr ⟨eu,a,ha,e⟩
   ·refine .inl ?_;have hun:u<g.n:=(List.getElem?_eq_some_iff.1 hy).1;have han:a<g.n:=by have:=h.args u y hy a ha; omega
    rw [hold han] at e;rcases split (hn▸hi) with hi | rfl
    ·have hk:=hlt hi;rw [hold hi] at e ⊢;rw [if_neg (by omega),h.uses i hi];exact ⟨y,hy,a,ha,e⟩
    ·rw [hnew] at e; have:=hlt han; omega
 ·intro s k hk;show k<(begSt g x).n∧_;rw [hn];exact hs1 s k hk
 ·intro i hi;obtain ⟨k,h1,h2⟩:=hs2 i (hn▸hi);exact ⟨k,h1,by show Conn (begSt g x).n _ _ _ _; rw [hn]; exact h2⟩
 ·intro i j hi hj e;have e:(begSt g x).o i=(begSt g x).o j:=e;rcases split (hn▸hi) with hi | rfl
  ·rcases split (hn▸hj) with hj | rfl
   ·rw [hold hi,hold hj] at e;exact (h.sd i j hi hj e).mono hcm fun _ h=>h
   ·rw [hold hi,hnew] at e; have:=hlt hi; omega
  ·rcases split (hn▸hj) with hj | rfl
   ·rw [hold hj,hnew] at e; have:=hlt hj; omega
   ·exact .refl _
 ·intro a b hm;show a<(begSt g x).n∧b<(begSt g x).n∧_;rw [hn];exact hq a b hm
 ·intro a b hm;obtain ⟨h1,h2,h3⟩:=h.cb a b hm;show a<(begSt g x).n∧b<(begSt g x).n∧Conn (begSt g x).n (begSt g x).o q a b;rw [hn];exact ⟨by omega,by omega,.same (by omega) (by omega) (by rw [hold h1,hold h2]; exact h3.nil)⟩
 ·intro i hi;have old:∀{i},Way g.fo i→Way (g.fo++[-1]) i:=by
   intro i hw;induction hw with
   | root h=>exact .root (by rw [List.getElem?_append_left (List.getElem?_eq_some_iff.1 h).1]; exact h)
   | step h _ ih=>exact .step (by rw [List.getElem?_append_left (List.getElem?_eq_some_iff.1 h).1]; exact h) ih
  rcases split (hn▸hi) with hi | rfl
  ·exact old (h.way i hi)
  ·refine .root ?_;show (g.fo++[-1])[g.n]? = _;rw [List.getElem?_append_right (by rw [h.flen]; exact Nat.le_refl _),h.flen];simp
 ·intro i t ht;have ht:(g.fo++[-1])[i]? = some t:=ht;by_cases hi:i<g.fo.length
  ·rw [List.getElem?_append_left hi] at ht;rcases h.edge i t ht with e | ⟨j,h1,h2,h3⟩
   ·exact .inl e
   ·refine .inr ⟨j,h1,by show j<(begSt g x).n; rw [hn]; omega,?_⟩;show (begSt g x).o j=(begSt g x).o i;rw [hold h2,hold (by rw [h.flen] at hi; exact hi)];exact h3
  ·rw [List.getElem?_append_right (by omega)] at ht;have:=(List.getElem?_eq_some_iff.1 ht).1;simp only [List.length_singleton] at this;have e0:i - g.fo.length=0:=by omega
   rw [e0] at ht;simp at ht;exact .inl ht.symm
theorem MI.beg_new' (h:MI g M []) (hx:∀a∈x.args,a<g.n) (hs:g.sigs (keyOf x g.o)=none):MI { begSt g x with sigs:=fun s=>if s=keyOf x g.o then some g.n else g.sigs s } M []:=by
 refine h.beg0 hx _ _ (fun s k hk=>?_) (fun i hi=>?_) (fun a b hm=>by cases hm)
 ·split at hk
  ·rename_i e;cases hk;exact ⟨by omega,by rw [o8 h.len hx,e]⟩
  ·obtain ⟨h1,h2⟩:=h.s1 s k hk;exact ⟨by omega,by rw [X6 h.len h.args h1]; exact h2⟩
 ·by_cases e:i=g.n
  ·subst e;refine ⟨g.n,by rw [o8 h.len hx]; simp,.same (by omega) (by omega) rfl⟩
  ·have hi':i<g.n:=by omega
   obtain ⟨k,h1,h2⟩:=h.s2 i hi';have hk:=(h.s1 _ _ h1).1;refine ⟨k,?_,.same (by omega) (by omega) (by rw [I4 h.len hi',I4 h.len hk]; exact h2.nil)⟩;rw [X6 h.len h.args hi'];show (if g.sig i=keyOf x g.o then some g.n else g.sigs (g.sig i))=some k;rw [if_neg (fun e=>by rw [e,hs] at h1; cases h1)];exact h1
theorem MI.beg_wait (h:MI g M []) (hx:∀a∈x.args,a<g.n) {k:Nat} (hs:g.sigs (keyOf x g.o)=some k):MI (begSt g x) M [(g.n,k)]:=by
 obtain ⟨hk,hks⟩:=h.s1 _ _ hs;refine h.beg0 hx g.sigs _ (fun s k hk=>?_) (fun i hi=>?_) (fun a b hm=>?_)
 ·obtain ⟨h1,h2⟩:=h.s1 s k hk;exact ⟨by omega,by rw [X6 h.len h.args h1]; exact h2⟩
 ·by_cases e:i=g.n
  ·subst e;exact ⟨k,by rw [o8 h.len hx]; exact hs,.wait (by simp)⟩
  ·have hi':i<g.n:=by omega
   obtain ⟨k',h1,h2⟩:=h.s2 i hi';have hk':=(h.s1 _ _ h1).1;exact ⟨k',by rw [X6 h.len h.args hi']; exact h1,.same (by omega) (by omega) (by rw [I4 h.len hi',I4 h.len hk']; exact h2.nil)⟩
 ·simp only [List.mem_singleton,Prod.mk.injEq] at hm;obtain ⟨rfl,rfl⟩:=hm;refine ⟨by omega,by omega,?_⟩;obtain ⟨y,hy⟩:=T4 hk;rw [sig_of hy] at hks;obtain ⟨e1,e2,e3,e4⟩:=key_eq hks;have hyk:(g.N++[x])[b]? = some y:=by rw [List.getElem?_append_left (List.getElem?_eq_some_iff.1 hy).1]; exact hy
  have hxn:(g.N++[x])[g.n]? = some x:=by
   have:=beg_N (g:=g) (x:=x) g.n;rw [if_pos rfl] at this;exact this
  refine .symm (.congr hyk hxn e1 e2 e3 fun n u v hu hv=>?_);have h1:=h.args b y hy u (List.mem_of_getElem? hu);have h2:=hx v (List.mem_of_getElem? hv);exact (h.sd u v (by omega) h2 (e4 n u v hu hv)).mono (fun i z hz=>by rw [List.getElem?_append_left (List.getElem?_eq_some_iff.1 hz).1]; exact hz) fun _ h=>h
theorem MI.say (h:MI g M []) {a b:Nat} (ha:a<g.n) (hb:b<g.n):MI g (M++[(a,b)]) [(a,b)]:=by
 have hm:∀p∈M,p∈M++[(a,b)]:=fun p hp=>List.mem_append_left _ hp;have hc:∀{i j},Conn g.n g.o [] i j→Conn g.n g.o [(a,b)] i j:=fun hc=>hc.mono (fun _ _=>.same) fun _ _ h=>by cases h
 exact { h with
  s2:=fun i hi=>let ⟨k,h1,h2⟩:=h.s2 i hi; ⟨k,h1,hc h2⟩
  sd:=fun i j hi hj e=>(h.sd i j hi hj e).mono (fun _ _ h=>h) hm
  qd:=fun x y hxy=>by
   simp only [List.mem_singleton,Prod.mk.injEq] at hxy;obtain ⟨rfl,rfl⟩:=hxy;exact ⟨ha,hb,.base (by simp)⟩
  cb:=fun x y hxy=>by
   rcases List.mem_append.1 hxy with hxy | hxy
   ·obtain ⟨h1,h2,h3⟩:=h.cb x y hxy;exact ⟨h1,h2,hc h3⟩
   ·simp only [List.mem_singleton,Prod.mk.injEq] at hxy;obtain ⟨rfl,rfl⟩:=hxy;exact ⟨ha,hb,.wait (by simp)⟩ }
theorem MI.empty:MI ⟨[],[],[],fun _=>none,[]⟩ [] []:=by
 have h0:∀i,¬i<(⟨[],[],[],fun _=>none,[]⟩:St).n:=fun i=>Nat.not_lt_zero i;exact ⟨rfl,rfl,fun i x h=>(by cases h),fun i h=>absurd h (h0 i),fun i h=>absurd h (h0 i),fun i h=>absurd h (h0 i),fun k v h=>(by
   have:(⟨[],[],[],fun _=>none,[]⟩:St).c k=Cl.nil:=by
    show ([]:List Cl).getD k Cl.nil=_;simp
   rw [this] at h; cases h),fun i h=>absurd h (h0 i),fun i h=>absurd h (h0 i),fun i h=>absurd h (h0 i),fun s k h=>(by cases h),fun i h=>absurd h (h0 i),fun i j h=>absurd h (h0 i),fun a b h=>(by cases h),fun a b h=>(by cases h),fun i h=>absurd h (h0 i),fun i t h=>(by cases h)⟩
end
theorem MI.iff {g:St} {M:List (Nat×Nat)} (h:MI g M []) {i j:Nat} (hi:i<g.n) (hj:j<g.n):g.o i=g.o j↔Cong g.N M i j:=⟨h.sd i j hi hj,h.complete⟩
end Go.Abs.Eg
namespace Go.Abs.Eg
theorem l8:∀(n:Nat) (l:List Nat),l.Nodup→(∀x∈l,x<n)→l.length≤n
 | 0,l,_,h=>by
  cases l with
  | nil=>exact Nat.le_refl _
  | cons x l=>exact absurd (h x List.mem_cons_self) (Nat.not_lt_zero _)
 | n+1,l,hd,h=>by
  have h1:(l.filter fun x=>x != n).Nodup:=hd.filter _;have h2:=l8 n _ h1 fun x hx=>by
   have h3:=List.mem_filter.1 hx;have h4:=h x h3.1;have h5:x≠n:=by simpa using h3.2
   omega
  have h3:l.length≤(l.filter fun x=>x != n).length+1:=by
   clear h h1 h2;induction l with
   | nil=>simp
   | cons y l ih =>
    have hd':=List.nodup_cons.1 hd;by_cases e:y=n
    ·subst e;have:l.filter (fun x=>x != y)=l:=List.filter_eq_self.2 fun x hx=>by
      have:x≠y:=fun e=>hd'.1 (by rw [← e]; exact hx)
      simpa using this
     rw [List.filter_cons_of_neg (by simp),this,List.length_cons];omega
    ·rw [List.filter_cons_of_pos (by simpa using e),List.length_cons,List.length_cons];have:=ih hd'.2;omega
  omega
def St.args (g:St) (u:Nat):List Nat:=((g.N[u]?).map Nd.args).getD []
def cnt (g:St) (k:Nat):Nat:=((List.range g.n).map fun u=>(g.args u).countP fun a=>g.o a == k).sum
def tot (g:St):Nat:=((List.range g.n).map fun u=>(g.args u).length).sum
structure MX (g:St):Prop where
 mnd:∀i,i<g.n→(g.c (g.o i)).mem.Nodup
 ulen:∀i,i<g.n→(g.c (g.o i)).uses.length=cnt g (g.o i)
theorem sum_le {l:List Nat} {f g:Nat→Nat} (h:∀x∈l,f x≤g x):(l.map f).sum≤(l.map g).sum:=by
 induction l with
 | nil=>exact Nat.le_refl _
 | cons x l ih =>
  simp only [List.map_cons,List.sum_cons];have:=h x List.mem_cons_self;have:=ih fun y hy=>h y (List.mem_cons_of_mem _ hy);omega
theorem zai {l:List Nat} {f g:Nat→Nat}:(l.map fun x=>f x+g x).sum=(l.map f).sum+(l.map g).sum:=by
 induction l with
 | nil=>rfl
 | cons x l ih=>simp only [List.map_cons,List.sum_cons,ih]; omega
theorem B7 {l:List Nat} {f g:Nat→Nat} (h:∀x∈l,f x=g x):(l.map f).sum=(l.map g).sum:=by
 rw [List.map_congr_left h]
theorem z77 {o:Nat→Nat} {s t:Nat} (hne:s≠t):∀l:List Nat,(l.countP fun a=>o a == t)+(l.countP fun a=>o a == s)≤l.length
 | []=>Nat.le_refl _
 | a :: l=>by
  have ih:=z77 (o:=o) hne l;simp only [List.countP_cons,List.length_cons];by_cases h1:o a=t
  ·have:¬o a=s:=fun e=>hne (e.symm.trans h1);simp [h1,this,hne,Ne.symm hne]; omega
  ·by_cases h2:o a=s <;> simp [h1,h2,hne,Ne.symm hne] <;> omega
theorem z83 {o:Nat→Nat} {s t:Nat} (hne:s≠t):∀l:List Nat,(l.countP fun a=>re s t (o a) == t)=(l.countP fun a=>o a == t)+(l.countP fun a=>o a == s)
 | []=>rfl
 | a :: l=>by
  have ih:=z83 (o:=o) hne l;simp only [List.countP_cons,ih];unfold re;by_cases h1:o a=s
  ·have:¬o a=t:=fun e=>hne (h1.symm.trans e);simp [h1,hne,Ne.symm hne]; omega
  ·by_cases h2:o a=t <;> simp [h1,h2,hne,Ne.symm hne] <;> omega
theorem z9g {o:Nat→Nat} {s t k:Nat} (h1:k≠s) (h2:k≠t) (l:List Nat):(l.countP fun a=>re s t (o a) == k)=l.countP fun a=>o a == k:=by
 refine List.countP_congr fun a _=>?_;unfold re;by_cases h:o a=s
 ·simp only [h,if_true,beq_iff_eq];constructor
  ·intro e; exact absurd e.symm h2
  ·intro e; exact absurd e.symm h1
 ·simp only [if_neg h]
section
variable {g:St} {M q:List (Nat×Nat)} {s t:Nat} {fo:List Int}
theorem zg7 (hne:s≠t):cnt g t+cnt g s≤tot g:=by
 unfold cnt tot;rw [← zai];exact sum_le fun u _=>z77 hne _
theorem cnt_le (k:Nat):cnt g k≤tot g:=sum_le fun u _=>List.countP_le_length
theorem z6b (ha:∀(i:Nat) x,g.N[i]? = some x→∀a∈x.args,a<i) {u:Nat} (hu:u<g.n):∀a∈g.args u,a<g.n:=by
 obtain ⟨x,hx⟩:=T4 hu;intro a h;unfold St.args at h;rw [hx] at h;have:=ha u x hx a h;omega
theorem zf7 (hl:g.of.length=g.n) (ha:∀(i:Nat) x,g.N[i]? = some x→∀a∈x.args,a<i) (k:Nat):cnt (joinSt g s t fo).1 k=((List.range g.n).map fun u=>(g.args u).countP fun a=>re s t (g.o a) == k).sum:=by
 unfold cnt;refine B7 fun u hu=>List.countP_congr fun a h=>?_;rw [join_o hl (z6b ha (List.mem_range.1 hu) a h)]
theorem MX.join {p:Nat×Nat} {a b:Nat} (h:MI g M (p :: q)) (hx:MX g) (hab:a<g.n∧b<g.n) (hs:g.o a=s) (ht:g.o b=t) (hne:s≠t):MX (joinSt g s t fo).1:=by
 obtain ⟨han,hbn⟩:=hab;have htl:t<g.cls.length:=by rw [← ht]; exact h.cl b hbn
 have hc:=fun k=>join_c (g:=g) (s:=s) (fo:=fo) htl k;have mS:=h.mem a han; rw [hs] at mS;have mT:=h.mem b hbn; rw [ht] at mT;have nS:=hx.mnd a han; rw [hs] at nS;have nT:=hx.mnd b hbn; rw [ht] at nT;have uS:=hx.ulen a han; rw [hs] at uS;have uT:=hx.ulen b hbn; rw [ht] at uT;refine ⟨fun i hi=>?_,fun i hi=>?_⟩
 ·rw [join_o h.len hi,hc];split
  ·refine List.nodup_append.2 ⟨nT,nS,fun x hx y hy e=>?_⟩;have h1:=(mT x).1 hx;have h2:=(mS y).1 hy;rw [e,h2.2] at h1;exact hne h1.2
  ·rename_i hn;have e:re s t (g.o i)=g.o i:=by
    unfold re at hn ⊢;split
    ·rename_i hh; rw [if_pos hh] at hn; exact absurd rfl hn
    ·rfl
   rw [e];exact hx.mnd i hi
 ·rw [join_o h.len hi,hc,zf7 h.len h.args];by_cases e:re s t (g.o i)=t
  ·rw [if_pos e,e];simp only [List.length_append,uS,uT];unfold cnt;rw [← zai];exact B7 fun u _=>(z83 hne _).symm
  ·rw [if_neg e];have e1:g.o i≠s:=fun hh=>e (by unfold re; rw [if_pos hh]);have e2:re s t (g.o i)=g.o i:=by unfold re; rw [if_neg e1]
   have e3:g.o i≠t:=fun hh=>e (by rw [e2]; exact hh);rw [e2,hx.ulen i hi];unfold cnt;exact B7 fun u _=>(z9g e1 e3 _).symm
variable {x:Nd}
theorem z3s (o:Nat→Nat) (n:Nat):∀(ays:List Nat) (cs:List Cl) (k:Nat),k<cs.length→((addU o n ays cs).getD k Cl.nil).uses.length=(cs.getD k Cl.nil).uses.length+ays.countP fun a=>o a == k
 | [],cs,k,hk=>rfl
 | a :: ays,cs,k,hk=>by
  have ih:=z3s o n ays (cs.modify (o a) fun c=>{ c with uses:=c.uses++[n] }) k (by rw [List.length_modify]; exact hk);have hg:(cs.modify (o a) fun c=>{ c with uses:=c.uses++[n] }).getD k Cl.nil=if o a=k then { (cs.getD k Cl.nil) with uses:=(cs.getD k Cl.nil).uses++[n] } else cs.getD k Cl.nil:=by
   rw [List.getD_eq_getElem?_getD,List.getD_eq_getElem?_getD,List.getElem?_modify,List.getElem?_eq_getElem hk];by_cases e:o a=k
   ·simp [e]
   ·simp [e]
  show ((addU o n ays _).getD k Cl.nil).uses.length=_;rw [ih,hg,List.countP_cons];by_cases e:o a=k
  ·simp [e]; omega
  ·simp [e]
theorem z89 {u:Nat}:(begSt g x).args u=if u=g.n then x.args else g.args u:=by
 unfold St.args;rw [beg_N];split <;> rfl
theorem zao:tot (begSt g x)=tot g+x.args.length:=by
 unfold tot;rw [beg_n,List.range_succ,List.map_append,List.sum_append];simp only [List.map_cons,List.map_nil,List.sum_cons,List.sum_nil,Nat.add_zero,z89,if_true]
 congr 1
 exact B7 fun u hu=>by rw [if_neg (by have:=List.mem_range.1 hu; omega)]
theorem MX.beg (h:MI g M []) (hx:MX g) (ha:∀a∈x.args,a<g.n) (sg:Key→Option Nat):MX { begSt g x with sigs:=sg }:=by
 have hn:({ begSt g x with sigs:=sg }:St).n=g.n+1:=beg_n;have hold:∀{i},i<g.n→(begSt g x).o i=g.o i:=fun hi=>I4 h.len hi;have hnew:(begSt g x).o g.n=g.cls.length:=z15 h.len;have hlt:∀{i},i<g.n→g.o i<g.cls.length:=fun hi=>h.cl _ hi;refine ⟨fun i hi=>?_,fun i hi=>?_⟩
 ·show ((begSt g x).c ((begSt g x).o i)).mem.Nodup;rcases (show i<g.n∨i=g.n by omega) with hi | rfl
  ·have hk:=hlt hi;rw [hold hi,(beg_c h.len _ (by omega)).1.1,if_neg (by omega)];exact hx.mnd i hi
  ·rw [hnew,(beg_c h.len _ (by omega)).1.1,if_pos rfl]; simp
 ·show ((begSt g x).c ((begSt g x).o i)).uses.length=cnt (begSt g x) ((begSt g x).o i);have hcnt:∀k,cnt (begSt g x) k=cnt g k+x.args.countP fun a=>g.o a == k:=by
   intro k;unfold cnt;rw [beg_n,List.range_succ,List.map_append,List.sum_append];simp only [List.map_cons,List.map_nil,List.sum_cons,List.sum_nil,Nat.add_zero,z89,if_true]
   congr 1
   ·refine B7 fun u hu=>?_;have hu:=List.mem_range.1 hu;rw [if_neg (by omega)];exact List.countP_congr fun a haa=>by rw [hold (z6b h.args hu a haa)]
   ·exact List.countP_congr fun a haa=>by rw [hold (ha a haa)]
  have hulen:∀k,k<g.cls.length+1→((begSt g x).c k).uses.length=(if k=g.cls.length then 0 else (g.c k).uses.length)+x.args.countP fun a=>g.o a == k:=by
   intro k hk;have h1:=z3s (begSt g x).o g.n x.args (g.cls++[⟨[],[g.n],if x.value then [g.n] else [],g.n⟩]) k (by simpa using hk);have hg:(g.cls++[(⟨[],[g.n],if x.value then [g.n] else [],g.n⟩:Cl)]).getD k Cl.nil=if k=g.cls.length then (⟨[],[g.n],if x.value then [g.n] else [],g.n⟩:Cl) else g.c k:=by
    rw [List.getD_eq_getElem?_getD];by_cases e:k=g.cls.length
    ·rw [if_pos e,List.getElem?_append_right (by omega),e];simp
    ·rw [if_neg e,List.getElem?_append_left (by omega)];show _=g.cls.getD k Cl.nil;rw [List.getD_eq_getElem?_getD]
   rw [hg] at h1;have h2:(x.args.countP fun a=>(begSt g x).o a == k)=x.args.countP fun a=>g.o a == k:=List.countP_congr fun a haa=>by rw [hold (ha a haa)]
   rw [h2] at h1;show ((addU _ _ _ _).getD k Cl.nil).uses.length=_;refine h1.trans ?_;split <;> rfl
  rw [hcnt];rcases (show i<g.n∨i=g.n by omega) with hi | rfl
  ·have hk:=hlt hi;rw [hold hi,hulen _ (by omega),if_neg (by omega),hx.ulen i hi]
  ·rw [hnew,hulen _ (by omega),if_pos rfl];have hz:cnt g g.cls.length=0:=by
    unfold cnt;have:∀u∈List.range g.n,((g.args u).countP fun a=>g.o a == g.cls.length)=0:=by
     intro u hu;refine List.countP_eq_zero.2 fun a haa=>?_;have:=hlt (z6b h.args (List.mem_range.1 hu) a haa);simp; omega
    rw [B7 this];clear this;generalize List.range g.n=l;induction l with
    | nil=>rfl
    | cons y l ih=>simp only [List.map_cons,List.sum_cons,ih]
   rw [hz]
end
def live (g:St):Nat:=(List.range g.cls.length).countP fun k=>decide (k∈g.of)
theorem zg5 (g:St):live g≤g.cls.length:=by
 unfold live;have:=List.countP_le_length (p:=fun k=>decide (k∈g.of)) (l:=List.range g.cls.length)
 simpa using this
theorem zd5 {g:St} {s t:Nat} {fo:List Int} (hne:s≠t) (hs:s∈g.of) (ht:t∈g.of) (hsl:s<g.cls.length):live (joinSt g s t fo).1+1≤live g:=by
 unfold live;have hlen:(joinSt g s t fo).1.cls.length=g.cls.length:=by
  show (g.cls.set t _).length=_;rw [List.length_set]
 rw [hlen];have key:∀l:List Nat,l.Nodup→(l.countP fun k=>decide (k∈(joinSt g s t fo).1.of))+(if s∈l then 1 else 0)≤(l.countP fun k=>decide (k∈g.of))+(if t∈g.of then 0 else if t∈l then 1 else 0):=by
  intro l;have hm:∀k,k∈(joinSt g s t fo).1.of→k≠s∧(k∈g.of∨k=t):=by
   intro k hk;have hk:k∈g.of.map (re s t):=hk;obtain ⟨c,hc,rfl⟩:=List.mem_map.1 hk;unfold re;split
   ·exact ⟨fun e=>hne e.symm,.inr rfl⟩
   ·rename_i h; exact ⟨h,.inl hc⟩
  induction l with
  | nil=>intro _; simp
  | cons k l ih =>
   intro hd;obtain ⟨hd1,hd2⟩:=List.nodup_cons.1 hd;have ih:=ih hd2;rw [List.countP_cons,List.countP_cons];by_cases e:k=s
   ·subst e;have h1:¬k∈(joinSt g k t fo).1.of:=fun h=>(hm k h).1 rfl;have h2:¬t=k:=fun e=>hne e.symm;simp only [h1,hs,decide_true,decide_false,Bool.false_eq_true,if_false,if_true,List.mem_cons,true_or,h2,false_or,hd1] at ih ⊢;omega
   ·have e':¬s=k:=fun h=>e h.symm;by_cases et:k=t
    ·subst et;by_cases hg:k∈g.of
     ·simp only [hg,decide_true,if_true,List.mem_cons,e',false_or] at ih ⊢;split <;> omega
     ·simp only [hg,decide_false,Bool.false_eq_true,if_false,List.mem_cons,e',false_or,true_or,if_true,hd1] at ih ⊢;split <;> omega
    ·have et':¬t=k:=fun h=>et h.symm;simp only [List.mem_cons,e',et',false_or];by_cases hk:k∈(joinSt g s t fo).1.of
     ·have:k∈g.of:=(hm k hk).2.resolve_right et;simp only [hk,this,decide_true,if_true];omega
     ·simp only [hk,decide_false,Bool.false_eq_true,if_false];omega
 have:=key (List.range g.cls.length) List.nodup_range;rw [if_pos (List.mem_range.2 hsl)] at this;rw [if_pos ht] at this;omega
end Go.Abs.Eg
namespace Go.Abs
inductive VecV (e:TypeId) (sz m:Nat) (H:AH) (n:Nat) (vs:List Value):Sl3→Prop
 | nil (hn:n=0) (hv:vs=[]):VecV e sz m H n vs Sl3.nil
 | zero (a:Addr) (ha:a.block<H.next∧a.spot=none) (hn:n=0) (hv:vs=[]):VecV e sz m H n vs ⟨some a,0,0⟩
 | opn (id off:Nat) (cs:Array Value) (hm:m≤id) (hid:id<H.next) (hg:H.get id=some { obj:=.cells cs e (0,0),opn:=true,esz:=sz,ro:=false }) (hl:vs.length=n*sz) (ho:vs.all one=true)
   (hx:∀(i:Nat) (v:Value),vs[i]? = some v→cs[off+i]? = some v):VecV e sz m H n vs ⟨some ⟨id,off,none⟩,n,OPEN⟩
structure RdV (sz:Nat) (H:AH) (s:Sl3) (n:Nat) (vs:List Value):Prop where
 len:s.n=n
 nil:s.p=none→n=0∧vs=[]
 rd:∀a,s.p=some a→rdCells H a 0 (n*sz)=some vs
 one:vs.all one=true
theorem VecV.len {e:TypeId} {sz m n:Nat} {H:AH} {vs:List Value} {s:Sl3} (h:VecV e sz m H n vs s):vs.length=n*sz∧s.n=n∧vs.all Abs.one=true:=by
 cases h with
 | nil hn hv=>subst hn hv; exact ⟨by simp,rfl,rfl⟩
 | zero a ha hn hv=>subst hn hv; exact ⟨by simp,rfl,rfl⟩
 | opn id off cs hm hid hg hl ho hx=>exact ⟨hl,rfl,ho⟩
theorem VecV.cell {e:TypeId} {sz m n:Nat} {H:AH} {vs:List Value} {s:Sl3} (h:VecV e sz m H n vs s) {i:Nat} {v:Value} (hv:vs[i]? = some v):∃a,s.p=some a∧Cel H (a.add i) v:=by
 cases h with
 | nil hn hv'=>subst hv'; simp at hv
 | zero a ha hn hv'=>subst hv'; simp at hv
 | opn id off cs hm hid hg hl ho hx =>
  refine ⟨⟨id,off,none⟩,rfl,?_⟩;rw [E5];exact ⟨z16 (a:=⟨id,off+i,none⟩) hg rfl rfl (hx i v hv),hid⟩
theorem VecV.rdv {e:TypeId} {sz m n:Nat} {H:AH} {vs:List Value} {s:Sl3} (h:VecV e sz m H n vs s):RdV sz H s n vs:=by
 have hl:=h.len;refine ⟨hl.2.1,fun hp=>?_,fun a ha=>?_,hl.2.2⟩
 ·cases h with
  | nil hn hv=>exact ⟨hn,hv⟩
  | zero a ha hn hv=>cases hp
  | opn=>cases hp
 ·have:=X8 (H:=H) (a:=a) vs 0 fun i hi=>by
   obtain ⟨a',h1,h2⟩:=h.cell (i:=i) (v:=vs[i]) (by simp [hi]);rw [ha] at h1;cases h1;rw [Nat.zero_add];exact h2.1
  rw [hl.1] at this;exact this
def owns (s:Sl3) (id:Nat):Prop:=s.c=OPEN∧blkIs s id
theorem VecV.fr {e:TypeId} {sz m n:Nat} {H H':AH} {vs:List Value} {s:Sl3} {W:Nat→Prop} (h:VecV e sz m H n vs s) (hf:Fm W H H') (hw:∀id,owns s id→¬W id):VecV e sz m H' n vs s:=by
 cases h with
 | nil hn hv=>exact .nil hn hv
 | zero a ha hn hv=>exact .zero a ⟨Nat.lt_of_lt_of_le ha.1 hf.1,ha.2⟩ hn hv
 | opn id off cs hm hid hg hl ho hx=>exact .opn id off cs hm (Nat.lt_of_lt_of_le hid hf.1) (hf.2 _ _ hid (hw id ⟨rfl,_,rfl,rfl⟩) hg) hl ho hx
theorem VecV.app {e:TypeId} {sz bytes m n k:Nat} {H:AH} {vs ws:List Value} {s z:Sl3} (h:VecV e sz m H n vs s) (hz:RdV sz H z k ws) (hwl:ws.length=k*sz)
  (h1:(2*(n+k)+1000)*bytes≤281474976710656) (h2:n+k≤281474976710656) (hm:m≤H.next) :
  ∃s' H',appS m e sz bytes H s z=some (s',H')∧VecV e sz m H' (n+k) (vs++ws) s'∧Fm (owns s) H H'∧∀id,owns s' id→owns s id∨H.next≤id:=by
 have hO:OPEN=9223372036854775808:=rfl;have hsrc:∀r,appL m e sz bytes H s k ws=r→appS m e sz bytes H s z=r:=by
  intro r hr;unfold appS;cases hp:z.p with
  | none =>
   obtain ⟨rfl,rfl⟩:=hz.nil hp;simp only;rw [if_pos hz.len];exact hr
  | some b =>
   simp only;rw [hz.len,hz.rd b hp];simp only;rw [if_pos hz.one];exact hr
 by_cases hk:k=0
 ·subst hk;have:ws=[]:=List.length_eq_zero_iff.1 (by simpa using hwl);subst this;refine ⟨s,H,hsrc _ ?_,by simpa using h,Fm.refl _ _,fun id hid=>.inl hid⟩;unfold appL;rw [if_pos rfl,if_pos];cases h with
  | nil=>exact Nat.le_refl _
  | zero=>exact Nat.le_refl _
  | opn=>show n≤OPEN; omega
 ·have hone:(vs++ws).all one=true:=by rw [List.all_append,h.len.2.2,hz.one]; rfl
  have hlen:(vs++ws).length=(n+k)*sz:=by rw [List.length_append,h.len.1,hwl,Nat.add_mul]
  have fin:∀(G:AH),Fm (owns s) H G→G.next=H.next→appL m e sz bytes H s k ws=some (⟨some ⟨G.next,0,none⟩,n+k,OPEN⟩,G.push { obj:=.cells (vs++ws).toArray e (0,0),opn:=true,esz:=sz,ro:=false }) →
    ∃s' H',appS m e sz bytes H s z=some (s',H')∧VecV e sz m H' (n+k) (vs++ws) s'∧Fm (owns s) H H'∧∀id,owns s' id→owns s id∨H.next≤id:=by
   intro G hG hn he;refine ⟨_,_,hsrc _ he,.opn G.next 0 _ (by omega) (by simp) (by rw [AH.get_push_same]) hlen hone (fun i v hv=>by simpa using hv),?_,?_⟩
   ·refine ⟨by simp; omega,fun id b hid hw hb=>?_⟩;rw [AH.get_push_other _ _ (by omega)];exact hG.2 id b hid hw hb
   ·rintro id ⟨_,a,ha,rfl⟩
    cases ha;exact .inr (by show H.next≤G.next; omega)
  cases h with
  | nil hn hv =>
   subst hn hv;refine fin H (Fm.refl _ _) rfl ?_;unfold appL;rw [if_neg hk];simp only [Sl3.nil];rw [if_pos ⟨trivial,trivial⟩];simp only [Nat.zero_add,List.nil_append] at h1 h2 ⊢;rw [N9 h1 h2]
  | zero a ha hn hv =>
   subst hn hv;refine fin H (Fm.refl _ _) rfl ?_;unfold appL;rw [if_neg hk];simp only [Nat.zero_mul,rdCells,Nat.zero_add,List.nil_append];rw [if_neg (by omega),if_neg (by omega),if_pos (Nat.le_refl _)];simp only [Nat.zero_add] at h1 h2;rw [N9 h1 h2]
  | opn id off cs hm' hid hg hl ho hx =>
   have hrd:=(VecV.opn (H:=H) id off cs hm' hid hg hl ho hx).rdv.rd _ rfl;refine fin (H.put id dead) ⟨Nat.le_refl _,fun id' b hid' hn hb=>?_⟩ rfl ?_
   ·have hne:id'≠id:=fun e=>hn ⟨rfl,_,rfl,e.symm⟩;rw [AH.get_put_other _ _ hne];exact hb
   ·unfold appL;rw [if_neg hk];simp only;rw [hrd];simp only;have hown:ownedB m H ⟨id,off,none⟩ e sz=true:=by
     unfold ownedB;simp only [hg,ble_of hm',Nat.beq_refl,Bool.and_self]
    rw [if_pos trivial,if_pos ⟨hown,hz.one⟩,N9 h1 h2]
theorem z50 {e:TypeId} {H:AH} {k sz:Nat} {cells:List Value} (hl:cells.length=k*sz) (ho:cells.all one=true):RdV sz (H.push { obj:=.cells cells.toArray e (0,0),opn:=false,esz:=0,ro:=false }) ⟨some ⟨H.next,0,none⟩,k,k⟩ k cells:=by
 refine ⟨rfl,fun h=>(by cases h),fun a ha=>?_,ho⟩;cases ha;rw [← hl];exact X8 cells 0 fun i hi=>by
  rw [E5,Nat.zero_add,Nat.zero_add];exact z16 (a:=⟨H.next,i,none⟩) (AH.get_push_same _ _) rfl rfl (by simp [hi])
structure Enc (α:Type) where
 enc:α→List Value
 sz:Nat
 len:∀x,(enc x).length=sz
 one:∀x,(enc x).all Abs.one=true
theorem Enc.flat_len {α:Type} (E:Enc α) (l:List α):(l.flatMap E.enc).length=l.length*E.sz:=by
 induction l with
 | nil=>simp
 | cons x l ih=>rw [List.flatMap_cons,List.length_append,E.len,ih,List.length_cons,Nat.add_mul,Nat.one_mul,Nat.add_comm]
theorem Enc.flat_one {α:Type} (E:Enc α) (l:List α):(l.flatMap E.enc).all Abs.one=true:=by
 induction l with
 | nil=>rfl
 | cons x l ih=>rw [List.flatMap_cons,List.all_append,E.one,ih]; rfl
theorem Enc.flat_get {α:Type} (E:Enc α):∀{l:List α} {i j:Nat} (hi:i<l.length),j<E.sz→(l.flatMap E.enc)[i*E.sz+j]? = (E.enc l[i])[j]?
 | x :: l,0,j,hi,hj=>by
  rw [List.flatMap_cons,Nat.zero_mul,Nat.zero_add,List.getElem?_append_left (by rw [E.len]; exact hj)];rfl
 | x :: l,i+1,j,hi,hj=>by
  have hi':i<l.length:=by simpa using hi
  rw [List.flatMap_cons,List.getElem?_append_right (by rw [E.len,Nat.add_mul]; omega),E.len,show (i+1)*E.sz+j - E.sz=i*E.sz+j by rw [Nat.add_mul]; omega];rw [Enc.flat_get E hi' hj];rfl
def VecA {α:Type} (E:Enc α) (e:TypeId) (m:Nat) (H:AH) (l:List α) (s:Sl3):Prop:=VecV e E.sz m H l.length (l.flatMap E.enc) s
structure Ch (H:AH) (s:Sl3) (H':AH) (s':Sl3):Prop where
 fm:Fm (owns s) H H'
 ow:∀id,owns s' id→owns s id∨H.next≤id
theorem Ch.ext {H0 H H':AH} {s s':Sl3} (h:Ch H s H' s') (hx:Ext H0 H) (ho:∀id,owns s id→H0.next≤id):Ext H0 H'∧∀id,owns s' id→H0.next≤id:=by
 refine ⟨hx.comp h.fm fun id hlt _ hw=>?_,fun id hw=>?_⟩
 ·have:=ho id hw; omega
 ·rcases h.ow id hw with h1 | h1
  ·exact ho id h1
  ·exact Nat.le_trans hx.1 h1
theorem VecA.nil {α:Type} (E:Enc α) (e:TypeId) (m:Nat) (H:AH):VecA E e m H [] Sl3.nil:=VecV.nil (by rfl) (by rfl)
theorem VecA.zero {α:Type} (E:Enc α) (e:TypeId) (m:Nat) (H:AH) (a:Addr) (ha:a.block<H.next∧a.spot=none):VecA E e m H [] ⟨some a,0,0⟩:=VecV.zero a ha (by rfl) (by rfl)
theorem zf0 {id:Nat}:¬owns Sl3.nil id:=by rintro ⟨_,a,ha,_⟩; cases ha
theorem zd2 {id n:Nat} {a:Option Addr}:¬owns ⟨a,n,0⟩ id:=by rintro ⟨h,_⟩; cases h
theorem VecA.n {α:Type} {E:Enc α} {e:TypeId} {m:Nat} {H:AH} {l:List α} {s:Sl3} (h:VecA E e m H l s):s.n=l.length:=h.len.2.1
theorem VecA.app {α:Type} {E:Enc α} {e:TypeId} {bytes m:Nat} {H:AH} {l l':List α} {s z:Sl3} (h:VecA E e m H l s) (hz:RdV E.sz H z l'.length (l'.flatMap E.enc))
  (h1:(2*(l.length+l'.length)+1000)*bytes≤281474976710656) (h2:l.length+l'.length≤281474976710656) (hm:m≤H.next) :
  ∃s' H',appS m e E.sz bytes H s z=some (s',H')∧VecA E e m H' (l++l') s'∧Ch H s H' s':=by
 obtain ⟨s',H',a1,a2,a3,a4⟩:=VecV.app h hz (E.flat_len l') h1 h2 hm;refine ⟨s',H',a1,?_,⟨a3,a4⟩⟩;unfold VecA;rw [List.length_append,List.flatMap_append];exact a2
structure ArrV (e:TypeId) (m:Nat) (H:AH) (id:Nat) (vs:List Value):Prop where
 get:H.get id=some { obj:=.cells vs.toArray e (0,0),opn:=false,esz:=0,ro:=false }
 own:m≤id
 low:id<H.next
theorem ArrV.fr {e:TypeId} {m:Nat} {H H':AH} {id:Nat} {vs:List Value} {W:Nat→Prop} (h:ArrV e m H id vs) (hf:Fm W H H') (hw:¬W id):ArrV e m H' id vs :=
 ⟨hf.2 _ _ h.low hw h.get,h.own,Nat.lt_of_lt_of_le h.low hf.1⟩
theorem ArrV.ext {e:TypeId} {m:Nat} {H H':AH} {id:Nat} {vs:List Value} (h:ArrV e m H id vs) (hf:Ext H H'):ArrV e m H' id vs:=h.fr hf fun h=>h
theorem ArrV.cel {e:TypeId} {m:Nat} {H:AH} {id:Nat} {vs:List Value} (h:ArrV e m H id vs) {i:Nat} {v:Value} (hv:vs[i]? = some v):Cel H ((⟨id,0,none⟩:Addr).add (i*1)) v:=by
 rw [E5];exact ⟨z16 (a:=⟨id,0+i*1,none⟩) h.get rfl rfl (by simpa using hv),h.low⟩
theorem ArrV.set {e:TypeId} {m:Nat} {H:AH} {id:Nat} {vs:List Value} (h:ArrV e m H id vs) {i:Nat} (hi:i<vs.length) (v:Value) :
  ∃H',H.setCell m ((⟨id,0,none⟩:Addr).add (i*1)) v=some H'∧ArrV e m H' id (vs.set i v)∧Fm (fun j=>j=id) H H'∧H'.next=H.next:=by
 have hs:=z1m (v:=v) (off:=0+i*1) h.own h.get (by simpa using hi);rw [E5];refine ⟨_,hs,⟨?_,h.own,h.low⟩,Fm.put,rfl⟩;rw [AH.get_put_same];simp
inductive SlG (e:TypeId) (sz m:Nat) (H:AH) (n:Nat) (vs:List Value):Sl3→Prop
 | own {s:Sl3} (h:VecV e sz m H n vs s):SlG e sz m H n vs s
 | full (id:Nat) (hm:m≤id) (hid:id<H.next) (hg:H.get id=some { obj:=.cells vs.toArray e (0,0),opn:=false,esz:=0,ro:=false }) (hl:vs.length=n*sz) (ho:vs.all one=true) (hn:0<n) (hN:n<OPEN):SlG e sz m H n vs ⟨some ⟨id,0,none⟩,n,n⟩
def fpt (s:Sl3) (id:Nat):Prop:=s.c≠0∧blkIs s id
theorem m7 {s:Sl3} {id:Nat} (h:owns s id):fpt s id:=⟨by rw [h.1]; unfold OPEN; omega,h.2⟩
theorem O1 {id:Nat}:¬fpt Sl3.nil id:=by rintro ⟨_,a,h,_⟩; cases h
variable {e:TypeId} {sz bytes m n k:Nat} {H H':AH} {vs ws:List Value} {s z:Sl3}
theorem SlG.len (h:SlG e sz m H n vs s):vs.length=n*sz∧s.n=n∧vs.all Abs.one=true:=by
 cases h with
 | own h=>exact h.len
 | full id hm hid hg hl ho hn hN=>exact ⟨hl,rfl,ho⟩
theorem SlG.fp (h:SlG e sz m H n vs s) {id:Nat} (hf:fpt s id):m≤id∧id<H.next:=by
 cases h with
 | own h =>
  cases h with
  | nil hn hv=>exact absurd hf O1
  | zero a ha hn hv=>exact absurd rfl hf.1
  | opn id' off cs hm hid hg hl ho hx =>
   obtain ⟨_,a,ha,rfl⟩:=hf;cases ha;exact ⟨hm,hid⟩
 | full id' hm hid hg hl ho hn hN =>
  obtain ⟨_,a,ha,rfl⟩:=hf;cases ha;exact ⟨hm,hid⟩
theorem SlG.fr {W:Nat→Prop} (h:SlG e sz m H n vs s) (hf:Fm W H H') (hw:∀id,fpt s id→¬W id):SlG e sz m H' n vs s:=by
 cases h with
 | own h=>exact .own (h.fr hf fun id ho=>hw id (m7 ho))
 | full id hm hid hg hl ho hn hN=>exact .full id hm (Nat.lt_of_lt_of_le hid hf.1) (hf.2 _ _ hid (hw id ⟨by show n≠0; omega,_,rfl,rfl⟩) hg) hl ho hn hN
theorem SlG.ext (h:SlG e sz m H n vs s) (hf:Ext H H'):SlG e sz m H' n vs s:=h.fr hf fun _ _ h=>h
theorem SlG.cell (h:SlG e sz m H n vs s) {i:Nat} {v:Value} (hv:vs[i]? = some v):∃a,s.p=some a∧Cel H (a.add i) v:=by
 cases h with
 | own h=>exact h.cell hv
 | full id hm hid hg hl ho hn hN =>
  refine ⟨⟨id,0,none⟩,rfl,?_⟩;rw [E5,Nat.zero_add];exact ⟨z16 (a:=⟨id,i,none⟩) hg rfl rfl (by simpa using hv),hid⟩
theorem SlG.rdv (h:SlG e sz m H n vs s):RdV sz H s n vs:=by
 have hl:=h.len;refine ⟨hl.2.1,fun hp=>?_,fun a ha=>?_,hl.2.2⟩
 ·cases h with
  | own h=>exact h.rdv.nil hp
  | full=>cases hp
 ·have:=X8 (H:=H) (a:=a) vs 0 fun i hi=>by
   obtain ⟨a',h1,h2⟩:=h.cell (i:=i) (v:=vs[i]) (by simp [hi]);rw [ha] at h1;cases h1;rw [Nat.zero_add];exact h2.1
  rw [hl.1] at this;exact this
theorem SlG.app (h:SlG e sz m H n vs s) (hz:RdV sz H z k ws) (hwl:ws.length=k*sz)
  (h1:(2*(n+k)+1000)*bytes≤281474976710656) (h2:n+k≤281474976710656) (hm:m≤H.next) :
  ∃s' H',appS m e sz bytes H s z=some (s',H')∧SlG e sz m H' (n+k) (vs++ws) s'∧Fm (fpt s) H H'∧(∀id,fpt s' id→fpt s id∨H.next≤id):=by
 cases h with
 | own h =>
  obtain ⟨s',H',a1,a2,a3,a4⟩:=h.app hz hwl h1 h2 hm;refine ⟨s',H',a1,.own a2,a3.weak fun _ _ h=>m7 h,fun id hid=>?_⟩;cases a2 with
  | nil hn hv=>exact absurd hid O1
  | zero a ha hn hv=>exact absurd rfl hid.1
  | opn id' off cs hm' hid' hg hl ho hx =>
   rcases a4 id ⟨rfl,hid.2⟩ with h | h
   ·exact .inl (m7 h)
   ·exact .inr h
 | full id hm' hid hg hl ho hn hN =>
  have hO:OPEN=9223372036854775808:=rfl;have hfull:=SlG.full (e:=e) (sz:=sz) id hm' hid hg hl ho hn hN;have hsrc:∀r,appL m e sz bytes H ⟨some ⟨id,0,none⟩,n,n⟩ k ws=r→appS m e sz bytes H ⟨some ⟨id,0,none⟩,n,n⟩ z=r:=by
   intro r hr;unfold appS;cases hp:z.p with
   | none =>
    obtain ⟨rfl,rfl⟩:=hz.nil hp;simp only;rw [if_pos hz.len];exact hr
   | some b =>
    simp only;rw [hz.len,hz.rd b hp];simp only;rw [if_pos hz.one];exact hr
  by_cases hk:k=0
  ·subst hk;have:ws=[]:=List.length_eq_zero_iff.1 (by simpa using hwl);subst this;refine ⟨_,H,hsrc _ ?_,by simpa using hfull,Fm.refl _ _,fun id hid=>.inl hid⟩;unfold appL;rw [if_pos rfl,if_pos (Nat.le_refl _)]
  ·refine ⟨⟨some ⟨H.next,0,none⟩,n+k,OPEN⟩,H.push { obj:=.cells (vs++ws).toArray e (0,0),opn:=true,esz:=sz,ro:=false },hsrc _ ?_,.own (.opn H.next 0 _ hm (by simp) (by rw [AH.get_push_same]) ?_ ?_ fun i v hv=>by simpa using hv),Fm.push _ _ _,?_⟩
   ·unfold appL;rw [if_neg hk];simp only;rw [hfull.rdv.rd _ rfl];simp only;rw [if_neg (by omega),if_neg (by omega),if_pos (Nat.le_refl _),N9 h1 h2]
   ·rw [List.length_append,hl,hwl,Nat.add_mul]
   ·rw [List.all_append,ho,hz.one]; rfl
   ·rintro id' ⟨_,a,ha,rfl⟩
    cases ha;exact .inr (Nat.le_refl _)
theorem SlG.new {cells:List Value} (hl:cells.length=n*sz) (ho:cells.all one=true) (hn:0<n) (hN:n<OPEN) (hm:m≤H.next):SlG e sz m (H.push { obj:=.cells cells.toArray e (0,0),opn:=false,esz:=0,ro:=false }) n cells ⟨some ⟨H.next,0,none⟩,n,n⟩ :=
 .full H.next hm (by simp) (AH.get_push_same _ _) hl ho hn hN
theorem SlG.set (h:SlG e sz m H n vs s) {i:Nat} (hi:i<vs.length) {v:Value} (hv:one v=true) {a:Addr} (ha:s.p=some a) :
  ∃H',H.setCell m (a.add i) v=some H'∧SlG e sz m H' n (vs.set i v) s∧Fm (fpt s) H H'∧H'.next=H.next:=by
 have hall:∀l:List Value,l.all one=true→(l.set i v).all one=true:=by
  intro l hl;rw [List.all_eq_true] at hl ⊢;intro x hx;rcases List.mem_or_eq_of_mem_set hx with h | h
  ·exact hl x h
  ·rw [h]; exact hv
 cases h with
 | own h =>
  cases h with
  | nil hn hv'=>subst hv'; simp at hi
  | zero a ha hn hv'=>subst hv'; simp at hi
  | opn id off cs hm hid hg hl ho hx =>
   cases ha;have hc:off+i<cs.size:=by
    have:=hx i _ (List.getElem?_eq_getElem hi);exact (Array.getElem?_eq_some_iff.1 this).1
   have hs:=z1m (v:=v) hm hg hc;rw [E5];refine ⟨_,hs,.own (.opn id off _ hm hid (AH.get_put_same _ _ _) (by rw [List.length_set]; exact hl) (hall _ ho) fun j u hu=>?_),?_,rfl⟩
   ·rw [Array.getElem?_setIfInBounds];by_cases e:i=j
    ·subst e;rw [List.getElem?_set_self hi] at hu;rw [if_pos rfl,if_pos hc];exact hu
    ·rw [List.getElem?_set_ne e] at hu;rw [if_neg (by omega)];exact hx j u hu
   ·refine (Fm.put (i:=id)).weak fun j _ hj=>?_;rw [hj];exact ⟨by show OPEN≠0; unfold OPEN; omega,_,rfl,rfl⟩
 | full id hm hid hg hl ho hn hN =>
  cases ha;have hs:=z1m (v:=v) (off:=0+i) hm hg (by simpa using hi);rw [E5];refine ⟨_,hs,.full id hm hid (by rw [AH.get_put_same]; simp) (by rw [List.length_set]; exact hl) (hall _ ho) hn hN,?_,rfl⟩;refine (Fm.put (i:=id)).weak fun j _ hj=>?_;rw [hj];exact ⟨by show n≠0; omega,_,rfl,rfl⟩
def spl (i:Nat) (ws vs:List Value):List Value:=vs.take i++ws++vs.drop (i+ws.length)
theorem SlG.wr {a:Addr} (ha:s.p=some a):∀(ws:List Value) (i:Nat) (H:AH) (vs:List Value),SlG e sz m H n vs s→i+ws.length≤vs.length→ws.all one=true →
  ∃H',wrCells m a i ws H=some H'∧SlG e sz m H' n (spl i ws vs) s∧Fm (fpt s) H H'∧H'.next=H.next:=by
 intro ws;induction ws with
 | nil =>
  intro i H vs h hi _;refine ⟨H,rfl,?_,Fm.refl _ _,rfl⟩;have:spl i [] vs=vs:=by unfold spl; simp
  rw [this];exact h
 | cons w ws ih =>
  intro i H vs h hi ho;simp only [List.length_cons] at hi;simp only [List.all_cons,Bool.and_eq_true] at ho;obtain ⟨H1,a1,a2,a3,a4⟩:=h.set (i:=i) (by omega) ho.1 ha;obtain ⟨H2,b1,b2,b3,b4⟩:=ih (i+1) H1 (vs.set i w) a2 (by rw [List.length_set]; omega) ho.2;refine ⟨H2,?_,?_,a3.comp b3 fun id _ h=>h,b4.trans a4⟩
  ·simp only [wrCells,ho.1,cond_true,a1];exact b1
  ·have:spl (i+1) ws (vs.set i w)=spl i (w :: ws) vs:=by
    unfold spl;rw [List.take_succ_eq_append_getElem (by rw [List.length_set]; omega)];simp only [List.getElem_set_self,List.take_set_of_le (Nat.le_refl i),List.length_cons,List.append_assoc,List.singleton_append,List.cons_append,List.nil_append];rw [List.drop_set_of_lt (by omega),show i+1+ws.length=i+(ws.length+1) by omega]
   rw [← this];exact b2
def SlA {α:Type} (E:Enc α) (e:TypeId) (m:Nat) (H:AH) (l:List α) (s:Sl3):Prop:=SlG e E.sz m H l.length (l.flatMap E.enc) s
section
variable {α:Type} {E:Enc α} {l l':List α}
theorem SlA.fr {W:Nat→Prop} (h:SlA E e m H l s) (hf:Fm W H H') (hw:∀id,fpt s id→¬W id):SlA E e m H' l s:=SlG.fr h hf hw
theorem SlA.ext (h:SlA E e m H l s) (hf:Ext H H'):SlA E e m H' l s:=SlG.ext h hf
theorem SlA.cnt (h:SlA E e m H l s):s.n=l.length:=(SlG.len h).2.1
theorem SlA.nil:SlA E e m H [] Sl3.nil:=.own (VecA.nil E e m H)
theorem SlA.rdv (h:SlA E e m H l s):RdV E.sz H s l.length (l.flatMap E.enc):=SlG.rdv h
theorem SlA.at_ (h:SlA E e m H l s) (hE:0<E.sz) {i:Nat} (hi:i<l.length) {v:Int} (hv:v=i):∃a,s.p=some a∧idxA E.sz s v=some (a.add (i*E.sz))∧a.spot=none∧∀j u,(E.enc l[i])[j]? = some u→Cel H ((a.add (i*E.sz)).add j) u:=by
 have hlen:=E.flat_len l;have h0:0<(l.flatMap E.enc).length:=by
  rw [hlen];exact Nat.mul_pos (by omega) hE
 obtain ⟨a,ha,hc⟩:=SlG.cell h (i:=0) (List.getElem?_eq_getElem h0);have hsp:a.spot=none:=by
  obtain ⟨_,_,_,_,_,_,h3,_⟩:=z4n hc.1;exact h3
 refine ⟨a,ha,zdk ha hv (by rw [h.cnt]; exact hi),hsp,fun j u hu=>?_⟩;have hj:j<E.sz:=by
  have:=(List.getElem?_eq_some_iff.1 hu).1;rw [E.len] at this;exact this
 obtain ⟨a',ha',hc'⟩:=SlG.cell h (i:=i*E.sz+j) (v:=u) (by rw [E.flat_get hi hj]; exact hu);rw [ha] at ha';cases ha';rw [z3v hsp];exact hc'
theorem SlA.app (h:SlA E e m H l s) (hz:RdV E.sz H z l'.length (l'.flatMap E.enc))
  (h1:(2*(l.length+l'.length)+1000)*bytes≤281474976710656) (h2:l.length+l'.length≤281474976710656) (hm:m≤H.next) :
  ∃s' H',appS m e E.sz bytes H s z=some (s',H')∧SlA E e m H' (l++l') s'∧Fm (fpt s) H H'∧(∀id,fpt s' id→fpt s id∨H.next≤id):=by
 obtain ⟨s',H',a1,a2,a3,a4⟩:=SlG.app h hz (E.flat_len l') h1 h2 hm;refine ⟨s',H',a1,?_,a3,a4⟩;unfold SlA;rw [List.length_append,List.flatMap_append];exact a2
theorem SlA.row (x:α) (hm:m≤H.next):SlA E e m (H.push { obj:=.cells (E.enc x).toArray e (0,0),opn:=false,esz:=0,ro:=false }) [x] ⟨some ⟨H.next,0,none⟩,1,1⟩:=by
 have:=SlG.new (e:=e) (sz:=E.sz) (m:=m) (H:=H) (n:=1) (cells:=E.enc x) (by rw [E.len]; omega) (E.one x) (by omega) (by unfold OPEN; omega) hm;unfold SlA
 simpa using this
theorem SlA.push (h:SlA E e m H l s) (x:α) (h1:(2*(l.length+1)+1000)*bytes≤281474976710656) (h2:l.length+1≤281474976710656) (hm:m≤H.next) :
  ∃z H1 s' H',newR e 1 (E.enc x).toArray H=some (z,H1)∧Ext H H1∧appS m e E.sz bytes H1 s z=some (s',H')∧SlA E e m H' (l++[x]) s'∧Fm (fpt s) H H'∧(∀id,fpt s' id→fpt s id∨H.next≤id):=by
 have hp:Ext H (H.push { obj:=.cells (E.enc x).toArray e (0,0),opn:=false,esz:=0,ro:=false }):=Fm.push _ _ _;have hz:=z50 (e:=e) (H:=H) (k:=1) (sz:=E.sz) (cells:=E.enc x) (by rw [E.len]; omega) (E.one x);have h':SlA E e m (H.push { obj:=.cells (E.enc x).toArray e (0,0),opn:=false,esz:=0,ro:=false }) l s:=h.ext hp;obtain ⟨s',H',a1,a2,a3,a4⟩:=SlA.app (l':=[x]) h' (by simpa using hz) h1 h2 (by simp; omega);refine ⟨_,_,s',H',rfl,hp,a1,a2,?_,fun id hid=>?_⟩
 ·exact (hp.weak (W':=fpt s) fun _ _ h=>h.elim).comp a3 fun id _ hn=>hn
 ·rcases a4 id hid with h3 | h3
  ·exact .inl h3
  ·simp only [AH.next_push] at h3;exact .inr (by omega)
theorem z93:∀(l:List α) (i:Nat) (x:α),i<l.length→spl (i*E.sz) (E.enc x) (l.flatMap E.enc)=(l.set i x).flatMap E.enc
 | y :: l,0,x,_=>by
  unfold spl;rw [List.set_cons_zero,List.flatMap_cons,List.flatMap_cons,Nat.zero_mul,List.take_zero,List.nil_append,Nat.zero_add,E.len,List.drop_left' (E.len y)]
 | y :: l,i+1,x,hi=>by
  have ih:=z93 l i x (by simpa using hi);unfold spl at ih ⊢;rw [List.set_cons_succ,List.flatMap_cons,List.flatMap_cons,← ih];have e1:(i+1)*E.sz=(E.enc y).length+i*E.sz:=by rw [E.len,Nat.add_mul]; omega
  rw [e1,List.take_length_add_append,Nat.add_assoc,List.drop_length_add_append];simp [List.append_assoc]
theorem SlA.put (h:SlA E e m H l s) {i:Nat} (hi:i<l.length) (x:α) {a:Addr} (ha:s.p=some a) (hsp:a.spot=none) :
  ∃H',wrCells m (a.add (i*E.sz)) 0 (E.enc x) H=some H'∧SlA E e m H' (l.set i x) s∧Fm (fpt s) H H'∧H'.next=H.next:=by
 have hb:i*E.sz+(E.enc x).length≤(l.flatMap E.enc).length:=by
  rw [E.len,E.flat_len];have:(i+1)*E.sz≤l.length*E.sz:=Nat.mul_le_mul_right _ hi;rw [Nat.add_mul] at this;omega
 obtain ⟨H',a1,a2,a3,a4⟩:=SlG.wr ha (E.enc x) (i*E.sz) H (l.flatMap E.enc) h hb (E.one x);have hw:∀(ws:List Value) (j:Nat) (H:AH),wrCells m (a.add (i*E.sz)) j ws H=wrCells m a (i*E.sz+j) ws H:=by
  intro ws;induction ws with
  | nil=>intro j H; rfl
  | cons w ws ih =>
   intro j H;simp only [wrCells,z3v hsp];cases one w with
   | false=>rfl
   | true =>
    simp only [cond_true];cases H.setCell m (a.add (i*E.sz+j)) w with
    | none=>rfl
    | some H1 =>
     simp only;rw [ih (j+1) H1,show i*E.sz+(j+1)=i*E.sz+j+1 by omega]
 refine ⟨H',by rw [hw]; exact a1,?_,a3,a4⟩;unfold SlA;rw [List.length_set,← z93 l i x hi];exact a2
theorem SlA.put1 (h:SlA E e m H l s) (hE:∀x,∃v,E.enc x=[v]) {i:Nat} (hi:i<l.length) (x:α) {v:Value} (hv:E.enc x=[v]) {a:Addr} (ha:s.p=some a) (hsp:a.spot=none) :
  ∃H',H.setCell m (a.add (i*E.sz)) v=some H'∧SlA E e m H' (l.set i x) s∧Fm (fpt s) H H'∧H'.next=H.next:=by
 obtain ⟨H',a1,a2⟩:=h.put hi x ha hsp;refine ⟨H',?_,a2⟩;rw [hv] at a1;simp only [wrCells] at a1;cases ho:one v with
 | false=>rw [ho] at a1; cases a1
 | true =>
  rw [ho] at a1;simp only [cond_true,add_zero] at a1;cases hs:H.setCell m (a.add (i*E.sz)) v with
  | none=>rw [hs] at a1; cases a1
  | some H1=>rw [hs] at a1; exact a1
end
end Go.Abs
namespace Go.Abs
variable {e f:TypeId} {bytes m:Nat} {H H':AH} {α:Type} {E:Enc α} {l l':List α} {s z:Sl3} {id j:Nat} {vs:List Value}
theorem ArrV.rd {β:Type} (h:ArrV f m H id vs) {v:Value} (hv:vs[j]? = some v) (de:Value→Option β):rd de H ((⟨id,0,none⟩:Addr).add j)=de v:=by
 have:=(h.cel hv).rd de;rw [Nat.mul_one] at this;exact this
theorem ArrV.put (h:ArrV f m H id vs) (hj:j<vs.length) (v:Value):∃H',H.setCell m ((⟨id,0,none⟩:Addr).add j) v=some H'∧ArrV f m H' id (vs.set j v)∧Fm (fun i=>i=id) H H'∧H'.next=H.next:=by
 have:=h.set hj v;rw [Nat.mul_one] at this;exact this
theorem ArrV.new {cells:List Value} (hm:m≤H.next):ArrV f m (H.push (pubB f cells)) H.next cells:=⟨AH.get_push_same _ _,hm,by simp⟩
theorem Q9 (hb:ArrV f m H id vs) (hv:vs[j]? = some (Sl3.v s)) (hs:SlA E e m H l s) (hd:¬fpt s id) (hz:RdV E.sz H z l'.length (l'.flatMap E.enc))
  (h1:(2*(l.length+l'.length)+1000)*bytes≤281474976710656) (h2:l.length+l'.length≤281474976710656) (hm:m≤H.next) :
  ∃s' H1 H',appS m e E.sz bytes H s z=some (s',H1)∧H1.setCell m ((⟨id,0,none⟩:Addr).add j) (Sl3.v s')=some H'∧ArrV f m H' id (vs.set j (Sl3.v s'))∧SlA E e m H' (l++l') s' ∧
   Fm (fun i=>i=id∨fpt s i) H H'∧(∀i,fpt s' i→fpt s i∨H.next≤i)∧¬fpt s' id:=by
 obtain ⟨s',H1,a1,a2,a3,a4⟩:=hs.app hz h1 h2 hm;have hb1:ArrV f m H1 id vs:=hb.fr a3 hd;obtain ⟨H',b1,b2,b3,b4⟩:=hb1.put (List.getElem?_eq_some_iff.1 hv).1 (Sl3.v s');have hd':¬fpt s' id:=fun h=>by
  rcases a4 id h with h | h
  ·exact hd h
  ·have:=hb.low; omega
 refine ⟨s',H1,H',a1,b1,b2,a2.fr b3 fun i hi e=>hd' (e▸hi),?_,a4,hd'⟩;exact (a3.weak (W':=fun i=>i=id∨fpt s i) fun _ _ h=>.inr h).comp b3 fun i _ hn e=>hn (.inl e)
theorem J5 (hb:ArrV f m H id vs) (hv:vs[j]? = some (Sl3.v s)) (hs:SlA E e m H l s) (hd:¬fpt s id) (x:α)
  (h1:(2*(l.length+1)+1000)*bytes≤281474976710656) (h2:l.length+1≤281474976710656) (hm:m≤H.next) :
  ∃z H0 s' H1 H',newR e 1 (E.enc x).toArray H=some (z,H0)∧Ext H H0∧ArrV f m H0 id vs∧appS m e E.sz bytes H0 s z=some (s',H1)∧H1.setCell m ((⟨id,0,none⟩:Addr).add j) (Sl3.v s')=some H'∧ArrV f m H' id (vs.set j (Sl3.v s'))∧SlA E e m H' (l++[x]) s' ∧
   Fm (fun i=>i=id∨fpt s i) H H'∧(∀i,fpt s' i→fpt s i∨H.next≤i)∧¬fpt s' id:=by
 have hp:Ext H (H.push { obj:=.cells (E.enc x).toArray e (0,0),opn:=false,esz:=0,ro:=false }):=Fm.push _ _ _;have hz:=z50 (e:=e) (H:=H) (k:=1) (sz:=E.sz) (cells:=E.enc x) (by rw [E.len]; omega) (E.one x);obtain ⟨s',H1,H',a1,a2,a3,a4,a5,a6,a7⟩:=Q9 (hb.ext hp) hv (hs.ext hp) hd (l':=[x]) (by simpa using hz) h1 h2 (by simp; omega);refine ⟨_,_,s',H1,H',rfl,hp,hb.ext hp,a1,a2,a3,a4,(hp.weak (W':=fun i=>i=id∨fpt s i) fun _ _ h=>h.elim).comp a5 fun i _ hn=>hn,fun i hi=>?_,a7⟩;rcases a6 i hi with h | h
 ·exact .inl h
 ·simp only [AH.next_push] at h;exact .inr (by omega)
def EI:Enc Nat:=⟨fun n=>[.int .i64 (n:Int)],1,fun _=>rfl,fun _=>rfl⟩
def EZ:Enc Int:=⟨fun n=>[.int .i64 n],1,fun _=>rfl,fun _=>rfl⟩
def EP:Enc Nat:=⟨fun b=>[.pointer (some ⟨b,0,none⟩)],1,fun _=>rfl,fun _=>rfl⟩
def EN:Enc (Int×Sl3×Bool):=⟨fun x=>[.int .i64 x.1,x.2.1.v,.bool x.2.2],3,fun _=>rfl,fun _=>rfl⟩
def ES:Enc (Int×Int×Int×Bool):=⟨fun x=>[.int .i64 x.1,.int .i64 x.2.1,.int .i64 x.2.2.1,.bool x.2.2.2],4,fun _=>rfl,fun _=>rfl⟩
def EE:Enc (Int×Int×Int×Int×Bool):=⟨fun x=>[.int .i64 x.1,.int .i64 x.2.1,.int .i64 x.2.2.1,.int .i64 x.2.2.2.1,.bool x.2.2.2.2],5,fun _=>rfl,fun _=>rfl⟩
def EQ:Enc (Int×Int×Int×Int×Int×Int×Bool):=⟨fun x=>[.int .i64 x.1,.int .i64 x.2.1,.int .i64 x.2.2.1,.int .i64 x.2.2.2.1,.int .i64 x.2.2.2.2.1,.int .i64 x.2.2.2.2.2.1,.bool x.2.2.2.2.2.2],7,fun _=>rfl,fun _=>rfl⟩
theorem rd_EI {l:List Nat} {m:Nat} (h:SlA EI e m H l s) {i:Nat} (hi:i<l.length) {v:Int} (hv:v=i):∃q,idxA 1 s v=some q∧rd (deI .i64) H q=some (l[i]:Int):=by
 obtain ⟨a,h1,h2,h3,h4⟩:=h.at_ (by show 0<1; omega) hi hv;refine ⟨_,h2,?_⟩;have:=h4 0 (.int .i64 (l[i]:Int)) rfl;rw [add_zero] at this;rw [this.rd];rfl
theorem rd_EP {l:List Nat} {m:Nat} (h:SlA EP e m H l s) {i:Nat} (hi:i<l.length) {v:Int} (hv:v=i):∃q,idxA 1 s v=some q∧rd deP H q=some (some ⟨l[i],0,none⟩):=by
 obtain ⟨a,h1,h2,h3,h4⟩:=h.at_ (by show 0<1; omega) hi hv;refine ⟨_,h2,?_⟩;have:=h4 0 (.pointer (some ⟨l[i],0,none⟩)) rfl;rw [add_zero] at this;rw [this.rd];rfl
theorem rd_EN {l:List (Int×Sl3×Bool)} {m:Nat} (h:SlA EN e m H l s) {i:Nat} (hi:i<l.length) {v:Int} (hv:v=i) :
  ∃q,idxA 3 s v=some q∧rd (deI .i64) H (q.add 0)=some l[i].1∧rd deSl H (q.add 1)=some l[i].2.1∧rd deB H (q.add 2)=some l[i].2.2:=by
 obtain ⟨a,h1,h2,h3,h4⟩:=h.at_ (by show 0<3; omega) hi hv;refine ⟨_,h2,?_,?_,?_⟩
 ·rw [(h4 0 _ rfl).rd]; rfl
 ·rw [(h4 1 _ rfl).rd]; rfl
 ·rw [(h4 2 _ rfl).rd]; rfl
theorem rd_EE {l:List (Int×Int×Int×Int×Bool)} {m:Nat} (h:SlA EE e m H l s) {i:Nat} (hi:i<l.length) {v:Int} (hv:v=i) :
  ∃q,idxA 5 s v=some q∧(∃a,s.p=some a∧a.spot=none∧q=a.add (i*5))∧rd (deI .i64) H (q.add 0)=some l[i].1∧rd (deI .i64) H (q.add 1)=some l[i].2.1∧rd (deI .i64) H (q.add 2)=some l[i].2.2.1∧rd (deI .i64) H (q.add 3)=some l[i].2.2.2.1∧rd deB H (q.add 4)=some l[i].2.2.2.2:=by
 obtain ⟨a,h1,h2,h3,h4⟩:=h.at_ (by show 0<5; omega) hi hv;refine ⟨_,h2,⟨a,h1,h3,rfl⟩,?_,?_,?_,?_,?_⟩
 ·rw [(h4 0 _ rfl).rd]; rfl
 ·rw [(h4 1 _ rfl).rd]; rfl
 ·rw [(h4 2 _ rfl).rd]; rfl
 ·rw [(h4 3 _ rfl).rd]; rfl
 ·rw [(h4 4 _ rfl).rd]; rfl
theorem rd_EQ {l:List (Int×Int×Int×Int×Int×Int×Bool)} {m:Nat} (h:SlA EQ e m H l s) {i:Nat} (hi:i<l.length) {v:Int} (hv:v=i) :
  ∃q,idxA 7 s v=some q∧rd (deI .i64) H (q.add 0)=some l[i].1∧rd (deI .i64) H (q.add 1)=some l[i].2.1∧rd (deI .i64) H (q.add 2)=some l[i].2.2.1∧rd (deI .i64) H (q.add 3)=some l[i].2.2.2.1∧rd (deI .i64) H (q.add 4)=some l[i].2.2.2.2.1∧rd (deI .i64) H (q.add 5)=some l[i].2.2.2.2.2.1∧rd deB H (q.add 6)=some l[i].2.2.2.2.2.2:=by
 obtain ⟨a,h1,h2,h3,h4⟩:=h.at_ (by show 0<7; omega) hi hv;refine ⟨_,h2,?_,?_,?_,?_,?_,?_,?_⟩
 ·rw [(h4 0 _ rfl).rd]; rfl
 ·rw [(h4 1 _ rfl).rd]; rfl
 ·rw [(h4 2 _ rfl).rd]; rfl
 ·rw [(h4 3 _ rfl).rd]; rfl
 ·rw [(h4 4 _ rfl).rd]; rfl
 ·rw [(h4 5 _ rfl).rd]; rfl
 ·rw [(h4 6 _ rfl).rd]; rfl
end Go.Abs
namespace Go.Abs
theorem ba_beq (s t:ByteArray):(s == t)=decide (s=t):=by
 obtain ⟨a⟩:=s;obtain ⟨b⟩:=t;rw [Bool.eq_iff_iff];simp only [decide_eq_true_eq,ByteArray.mk.injEq];show (a == b)=true↔_;exact beq_iff_eq
variable {P:Program} {γ:Type} [DecidableEq γ]
structure KeyK (P:Program) (kt:TypeId) (enc:γ→Value):Prop where
 und:∃d,P.underlying kt=some d∧((∀a b,Instr.sameNow d (enc a) (enc b)=some (decide (a=b)))∨((∀a b,Instr.sameNow d (enc a) (enc b)=none)∧∀a b,peval P (Op.equal kt (enc a) (enc b))=some (decide (a=b))))
 chk:∀a b,peval P (Instr.checkKey b 10000 kt (enc a))=some ()
 bits:∀a,Instr.sameBits 10000 (enc a) (enc a)=true
def look (l:List (γ×Value)) (k:γ):Option Value:=(l.find? fun x=>decide (x.1=k)).map (·.2)
def findI (k:γ):List (γ×Value)→Nat→Option (Nat×Value)
 | [],_=>none
 | x :: l,i=>if k=x.1 then some (i,x.2) else findI k l (i+1)
theorem z1g (k:γ):∀(l:List (γ×Value)) (i:Nat),(findI k l i).map (·.2)=look l k
 | [],_=>rfl
 | x :: l,i=>by
  unfold findI look;rw [List.find?_cons];by_cases h:k=x.1
  ·rw [if_pos h,decide_eq_true h.symm]; rfl
  ·rw [if_neg h,decide_eq_false (fun e=>h e.symm)];exact z1g k l (i+1)
def Ents (enc:γ→Value) (es:List MapEntry) (l:List (γ×Value)):Prop:=es.map (fun e=>(e.key,e.val))=l.map fun x=>(enc x.1,x.2)
theorem O7 {kt:TypeId} {enc:γ→Value} (hK:KeyK P kt enc) (k:γ) {es:List MapEntry} {l:List (γ×Value)} (h:Ents enc es l):aFind P kt (enc k) es=some (findI k l 0):=by
 obtain ⟨d,h1,h2⟩:=hK.und;unfold aFind;rw [h1];simp only;rcases h2 with h2 | ⟨h2,h3⟩
 ·have key:∀(es:List MapEntry) (l:List (γ×Value)) (i:Nat),Ents enc es l→Instr.findNow d (enc k) es i=some (findI k l i):=by
   intro es;induction es with
   | nil =>
    intro l i h;cases l with
    | nil=>rfl
    | cons x l=>simp [Ents] at h
   | cons e es ih =>
    intro l i h;cases l with
    | nil=>simp [Ents] at h
    | cons x l =>
     simp only [Ents,List.map_cons,List.cons.injEq,Prod.mk.injEq] at h;obtain ⟨⟨e1,e2⟩,e3⟩:=h;unfold Instr.findNow findI;rw [e1,h2,e2];by_cases hk:k=x.1
     ·rw [decide_eq_true hk,if_pos hk]
     ·rw [decide_eq_false hk,if_neg hk];exact ih l (i+1) e3
  rw [key es l 0 h]
 ·have key:∀(es:List MapEntry) (l:List (γ×Value)) (i:Nat),Ents enc es l→aAsk P kt (enc k) es i=some (findI k l i):=by
   intro es;induction es with
   | nil =>
    intro l i h;cases l with
    | nil=>rfl
    | cons x l=>simp [Ents] at h
   | cons e es ih =>
    intro l i h;cases l with
    | nil=>simp [Ents] at h
    | cons x l =>
     simp only [Ents,List.map_cons,List.cons.injEq,Prod.mk.injEq] at h;obtain ⟨⟨e1,e2⟩,e3⟩:=h;unfold aAsk findI;rw [e1,h3,e2];by_cases hk:k=x.1
     ·rw [decide_eq_true hk,if_pos hk]
     ·rw [decide_eq_false hk,if_neg hk];exact ih l (i+1) e3
  cases es with
  | nil =>
   cases l with
   | nil=>rfl
   | cons x l=>simp [Ents] at h
  | cons e es =>
   cases l with
   | nil=>simp [Ents] at h
   | cons x l =>
    have h':=h;simp only [Ents,List.map_cons,List.cons.injEq,Prod.mk.injEq] at h';have hn:Instr.findNow d (enc k) (e :: es) 0=none:=by
     unfold Instr.findNow;rw [h'.1.1,h2]
    rw [hn];exact key _ _ 0 h
def MapA (enc:γ→Value) (H:AH) (id:Nat) (f:γ→Option Value):Prop :=
 ∃es n opn esz l,H.get id=some { obj:=.map es n,opn:=opn,esz:=esz,ro:=false }∧Ents enc es.toList l∧∀k,look l k=f k
theorem ze6 {α:Type} {t kt e:TypeId} {enc:γ→Value} (hK:KeyK P kt enc) (ht:P.underlying t=some (.map kt e)) {z:Value} (hz:(P.info? e).bind (·.zero)=some z) (hzf:flat depth z=true)
  {H:AH} {id:Nat} {f:γ→Option Value} (h:MapA enc H id f) (k:γ) (de:Value→Option α):lkM P t de H (some id) (enc k)=(de ((f k).getD z)).map fun x=>(x,(f k).isSome):=by
 obtain ⟨es,n,opn,esz,l,h1,h2,h3⟩:=h;have ha:aLookup P t (.map (some id)) (enc k) true H=some (.tuple #[(f k).getD z,.bool (f k).isSome]):=by
  unfold aLookup;rw [ht];simp only [aEntries,h1,hK.chk,O7 hK k h2];have:=z1g k l 0;rw [h3 k] at this;cases hq:findI k l 0 with
  | none=>rw [hq] at this; simp only [Option.map_none] at this; rw [← this]; simp only [hz,hzf,cond_true]; rfl
  | some r=>rw [hq] at this; simp only [Option.map_some] at this; rw [← this]; simp only [cond_true]; rfl
 unfold lkM;rw [ha]
theorem z1z {k:γ}:∀{l:List (γ×Value)} {i:Nat},findI k l i=none→∀x∈l,x.1≠k
 | [],_,_,x,hx=>by cases hx
 | y :: l,i,h,x,hx=>by
  unfold findI at h;split at h
  ·cases h
  ·rename_i hn;rcases List.mem_cons.1 hx with rfl | hx
   ·exact fun e=>hn e.symm
   ·exact z1z h x hx
theorem z9c (l:List (γ×Value)) (k k':γ) (v:Value) (hn:∀x∈l,x.1≠k):look (l++[(k,v)]) k'=if k'=k then some v else look l k':=by
 unfold look;rw [List.find?_append];by_cases h:k'=k
 ·subst h;have:l.find? (fun x=>decide (x.1=k'))=none:=by
   rw [List.find?_eq_none];intro x hx
   simpa using hn x hx
  rw [this,if_pos rfl];simp
 ·rw [if_neg h];have:([(k,v)]:List (γ×Value)).find? (fun x=>decide (x.1=k'))=none:=by
   simp only [List.find?_cons,decide_eq_false (show ¬k=k' from fun e=>h e.symm),List.find?_nil]
  rw [this];cases l.find? fun x=>decide (x.1=k') <;> rfl
theorem z1w {k k':γ} {v:Value}:∀{l:List (γ×Value)} {i j:Nat} {w:Value},findI k l i=some (j,w)→i≤j∧j - i<l.length∧(∀(h:j - i<l.length),(l[j - i]).1=k)∧look (l.modify (j - i) fun x=>(k,v)) k'=if k'=k then some v else look l k'
 | [],i,j,w,h=>by cases h
 | x :: l,i,j,w,h=>by
  unfold findI at h;split at h
  ·rename_i hk;cases h;refine ⟨Nat.le_refl _,by simp,fun _=>by simp [hk],?_⟩;rw [Nat.sub_self];simp only [List.modify_zero_cons];unfold look;rw [List.find?_cons,List.find?_cons];by_cases e:k'=k
   ·subst e;simp
   ·rw [if_neg e,decide_eq_false (show ¬k=k' from fun q=>e q.symm),decide_eq_false (show ¬x.1=k' from fun q=>e (q.symm.trans hk.symm))]
  ·rename_i hk;obtain ⟨h1,h2,h3,h4⟩:=z1w (k':=k') (v:=v) h;obtain ⟨d,rfl⟩:∃d,j=i+1+d:=⟨j - (i+1),by omega⟩;have e1:i+1+d - i=d+1:=by omega
   have e2:i+1+d - (i+1)=d:=by omega
   rw [e2] at h2 h3 h4;rw [e1];refine ⟨by omega,by simp; omega,fun _=>by simpa using h3 h2,?_⟩;rw [List.modify_succ_cons];unfold look at h4 ⊢;rw [List.find?_cons,List.find?_cons];by_cases e:x.1=k'
   ·rw [decide_eq_true e];have:¬k'=k:=fun q=>hk (q.symm.trans e.symm);rw [if_neg this]
   ·rw [decide_eq_false e];exact h4
end Go.Abs
namespace Go.Abs
variable {P:Program} {γ:Type} [DecidableEq γ]
def MapL (enc:γ→Value) (H:AH) (id:Nat) (l:List (γ×Value)):Prop :=
 ∃es n opn esz,H.get id=some { obj:=.map es n,opn:=opn,esz:=esz,ro:=false }∧Ents enc es.toList l
def MapU (enc:γ→Value) (H:AH) (id:Nat) (f:γ→Option Value):Prop:=∃l,MapL enc H id l∧(l.map (·.1)).Nodup∧∀k,look l k=f k
theorem MapU.toA {enc:γ→Value} {H:AH} {id:Nat} {f:γ→Option Value} (h:MapU enc H id f):MapA enc H id f:=by
 obtain ⟨l,⟨es,n,opn,esz,h1,h2⟩,_,h3⟩:=h;exact ⟨es,n,opn,esz,l,h1,h2,h3⟩
theorem MapU.fr {W:Nat→Prop} {enc:γ→Value} {H H':AH} {id:Nat} {f:γ→Option Value} (h:MapU enc H id f) (hf:Fm W H H') (hlt:id<H.next) (hw:¬W id):MapU enc H' id f:=by
 obtain ⟨l,⟨es,n,opn,esz,h1,h2⟩,h3,h4⟩:=h;exact ⟨l,⟨es,n,opn,esz,hf.2 _ _ hlt hw h1,h2⟩,h3,h4⟩
theorem MapU.new (enc:γ→Value) {H:AH}:MapU enc (H.push mapB) H.next fun _=>none :=
 ⟨[],⟨#[],0,false,0,by rw [AH.get_push_same]; rfl,rfl⟩,by simp,fun k=>rfl⟩
theorem z97 {t kt e:TypeId} {enc:γ→Value} (hK:KeyK P kt enc) (ht:P.underlying t=some (.map kt e)) {m:Nat} {H:AH} {id:Nat} {f:γ→Option Value} (h:MapU enc H id f) (hm:m≤id) (k:γ) (v:Value) :
  ∃H',upM P m t H (some id) (enc k) v=some H'∧MapU enc H' id (fun k'=>if k'=k then some v else f k')∧Fm (fun i=>i=id) H H'∧H'.next=H.next:=by
 obtain ⟨l,⟨es,n,opn,esz,h1,h2⟩,hnd,h3⟩:=h;have hmap:aMapAt m H (.map (some id))=some (id,{ obj:=.map es n,opn:=opn,esz:=esz,ro:=false },es,n):=by
  unfold aMapAt;simp only [h1];rw [show Nat.ble m id=true by simp [hm]];rfl
 cases hq:findI k l 0 with
 | none =>
  refine ⟨H.put id { obj:=.map (es.push { key:=enc k,val:=v,born:=n }) (n+1),opn:=opn,esz:=esz,ro:=false },?_,⟨l++[(k,v)],⟨_,_,_,_,AH.get_put_same _ _ _,?_⟩,?_,fun k'=>?_⟩,Fm.put,rfl⟩
  ·unfold upM aUpdate;rw [ht];simp only [hmap,hK.chk,O7 hK k h2,hq];rfl
  ·unfold Ents at h2 ⊢;simp [h2]
  ·rw [List.map_append];refine List.nodup_append.2 ⟨hnd,by simp,fun x hx y hy e=>?_⟩;simp only [List.map_cons,List.map_nil,List.mem_singleton] at hy;obtain ⟨z,hz,rfl⟩:=List.mem_map.1 hx;exact z1z hq z hz (e.trans hy)
  ·rw [z9c l k k' v (z1z hq),h3 k']
 | some r =>
  obtain ⟨j,w⟩:=r;obtain ⟨_,h5,h6,h7⟩:=z1w (k':=k) (v:=v) hq;rw [Nat.sub_zero] at h5 h6;have hlen:es.size=l.length:=by
   have:=congrArg List.length h2
   simpa using this
  have hj:j<es.size:=by omega
  have hkey:(es[j]'hj).key=enc k:=by
   have h8:(es.toList.map (fun e=>(e.key,e.val)))[j]? = (l.map fun x=>(enc x.1,x.2))[j]? := by
    unfold Ents at h2;rw [h2]
   simp [hj,h5] at h8;rw [h8.1,h6 h5]
  have hb:Instr.sameBits 10000 (((es[j]?).map (·.key)).getD (enc k)) (enc k)=true:=by
   rw [Array.getElem?_eq_getElem hj];simp only [Option.map_some,Option.getD_some,hkey];exact hK.bits k
  refine ⟨H.put id { obj:=.map (es.modify j fun e=>{ e with key:=enc k,val:=v }) n,opn:=opn,esz:=esz,ro:=false },?_,⟨l.modify j fun x=>(k,v),⟨_,_,_,_,AH.get_put_same _ _ _,?_⟩,?_,fun k'=>?_⟩,Fm.put,rfl⟩
  ·unfold upM aUpdate;rw [ht];simp only [hmap,hK.chk,O7 hK k h2,hq,hb,cond_true];rfl
  ·unfold Ents at h2 ⊢;have:(es.modify j fun e=>{ e with key:=enc k,val:=v }).toList=es.toList.modify j fun e=>{ e with key:=enc k,val:=v }:=by simp
   rw [this];refine List.ext_getElem? fun i=>?_;have h8:(es.toList.map (fun e=>(e.key,e.val)))[i]? = (l.map fun x=>(enc x.1,x.2))[i]? := by rw [h2]
   simp only [List.getElem?_map,List.getElem?_modify] at h8 ⊢;by_cases hij:j=i
   ·subst hij;simp only [if_true];have g1:es.toList[j]? = some es[j]:=by simp [hj]
    have g2:l[j]? = some l[j]:=by simp [h5]
    rw [g1,g2];rfl
   ·simp only [if_neg hij]
    simpa using h8
  ·have:(l.modify j fun x=>(k,v)).map (·.1)=l.map (·.1):=by
    refine List.ext_getElem? fun i=>?_;simp only [List.getElem?_map,List.getElem?_modify];by_cases hij:j=i
    ·subst hij;rw [List.getElem?_eq_getElem h5];simp [h6 h5]
    ·simp [hij]
   rw [this];exact hnd
  ·have:=(z1w (k':=k') (v:=v) hq).2.2.2;rw [Nat.sub_zero] at this;rw [this,h3 k']
theorem P8 {α β:Type} (f:α→β):∀(l:List α) (j:Nat),(l.eraseIdx j).map f=(l.map f).eraseIdx j
 | [],_=>rfl
 | _ :: _,0=>rfl
 | x :: l,j+1=>by simp only [List.eraseIdx_cons_succ,List.map_cons,P8 f l j]
theorem ze0 {l:List (γ×Value)} {k:γ} (h:¬k∈l.map (·.1)):look l k=none:=by
 unfold look;have:l.find? (fun x=>decide (x.1=k))=none:=by
  refine List.find?_eq_none.2 fun x hx=>?_;have:x.1≠k:=fun e=>h (List.mem_map.2 ⟨x,hx,e⟩)
  simpa using this
 rw [this];rfl
theorem z3l (x:γ×Value) (l:List (γ×Value)) (k:γ):look (x :: l) k=if x.1=k then some x.2 else look l k:=by
 unfold look;rw [List.find?_cons];by_cases h:x.1=k
 ·simp [h]
 ·simp [h]
theorem z5r {k k':γ}:∀(l:List (γ×Value)) (j:Nat) (h:j<l.length),(l[j]).1=k→(l.map (·.1)).Nodup→look (l.eraseIdx j) k'=if k'=k then none else look l k'
 | x :: l,0,_,he,hd=>by
  have he:x.1=k:=he;rw [List.map_cons,List.nodup_cons] at hd;rw [List.eraseIdx_zero,List.tail_cons,z3l];by_cases e:k'=k
  ·rw [if_pos e,e,← he];exact ze0 hd.1
  ·rw [if_neg e,if_neg (fun hh=>e (hh.symm.trans he))]
 | x :: l,j+1,h,he,hd=>by
  have h':j<l.length:=by simpa using h
  have he:(l[j]).1=k:=he;rw [List.map_cons,List.nodup_cons] at hd;have hx:x.1≠k:=fun e=>hd.1 (List.mem_map.2 ⟨l[j],List.getElem_mem _,by rw [he,e]⟩);rw [List.eraseIdx_cons_succ,z3l,z3l,z5r l j h' he hd.2];by_cases e:k'=k
  ·rw [if_pos e,if_pos e,if_neg (fun hh=>hx (hh.trans e))]
  ·rw [if_neg e,if_neg e]
theorem zdb {α:Type}:∀(l:List α) (j:Nat),(l.eraseIdx j).Sublist l:=fun l j=>List.eraseIdx_sublist l j
theorem zd3 {t kt e:TypeId} {enc:γ→Value} (hK:KeyK P kt enc) (ht:P.underlying t=some (.map kt e)) {m:Nat} {H:AH} {id:Nat} {f:γ→Option Value} (h:MapU enc H id f) (hm:m≤id) (k:γ) (hf:flat depth (enc k)=true) {ts:Array TypeId} (hts:ts[0]? = some t) :
  ∃H',aDelete P m ts [.map (some id),enc k] H=some (.tuple #[],H')∧MapU enc H' id (fun k'=>if k'=k then none else f k')∧Fm (fun i=>i=id) H H'∧H'.next=H.next:=by
 obtain ⟨l,⟨es,n,opn,esz,h1,h2⟩,hnd,h3⟩:=h;have hmap:aMapAt m H (.map (some id))=some (id,{ obj:=.map es n,opn:=opn,esz:=esz,ro:=false },es,n):=by
  unfold aMapAt;simp only [h1];rw [show Nat.ble m id=true by simp [hm]];rfl
 cases hq:findI k l 0 with
 | none =>
  refine ⟨H,?_,⟨l,⟨_,_,_,_,h1,h2⟩,hnd,fun k'=>?_⟩,Fm.refl _ _,rfl⟩
  ·unfold aDelete;rw [hts];simp only [hf,cond_true,ht,hmap,hK.chk,O7 hK k h2,hq]
  ·have h0:=z1g k l 0;rw [hq] at h0;show look l k'=if k'=k then none else f k'
   by_cases e:k'=k
   ·rw [if_pos e,e,← h0]; rfl
   ·rw [if_neg e,h3 k']
 | some r =>
  obtain ⟨j,w⟩:=r;obtain ⟨_,h5,h6,_⟩:=z1w (k':=k) (v:=w) hq;rw [Nat.sub_zero] at h5 h6;have hlen:es.size=l.length:=by
   have:=congrArg List.length h2
   simpa using this
  have hj:j<es.size:=by omega
  refine ⟨H.put id { obj:=.map (es.eraseIdxIfInBounds j) n,opn:=opn,esz:=esz,ro:=false },?_,⟨l.eraseIdx j,⟨_,_,_,_,AH.get_put_same _ _ _,?_⟩,?_,fun k'=>?_⟩,Fm.put,rfl⟩
  ·unfold aDelete;rw [hts];simp only [hf,cond_true,ht,hmap,hK.chk,O7 hK k h2,hq]
  ·unfold Ents at h2 ⊢;have:(es.eraseIdxIfInBounds j).toList=es.toList.eraseIdx j:=by
    unfold Array.eraseIdxIfInBounds;rw [dif_pos hj];simp
   rw [this,P8,P8,h2]
  ·exact hnd.sublist ((zdb l j).map _)
  ·rw [z5r l j h5 (h6 h5) hnd,h3 k']
end Go.Abs
namespace Go.Abs.Eg
structure Tys where
 G:TypeId
 N:TypeId
 S:TypeId
 I:TypeId
 P:TypeId
 E:TypeId
 C:TypeId
structure GL where
 q:Nat
 mi:Nat
 ms:Nat
 sN:Sl3
 sS:Sl3
 sM:Sl3
 sO:Sl3
 sC:Sl3
 sF:Sl3
 cl:List (Nat×Sl3×Sl3×Sl3)
 na:List Sl3
abbrev Sd:=Int×Int×Int×Bool
abbrev Ed:=Int×Int×Int×Int×Bool
structure Gh where
 g:St
 ids:Key→Option Nat
 sd:List Sd
 fe:List Ed
def nodeL (N:List Nd) (na:List Sl3):List (Int×Sl3×Bool):=List.zipWith (fun x s=>(x.sym,s,x.value)) N na
def strM (tx:Key→ByteArray) (f:Key→Option Nat) (F:ByteArray→Option Value):Prop:=∀k,F (tx k)=(f k).map fun n=>Value.int .i64 (n:Int)
inductive Comp where
 | q | mi | ms | N | S | O | C | F
 | blk (k:Nat) | us (k:Nat) | me (k:Nat) | va (k:Nat) | na (i:Nat)
deriving DecidableEq
def qCells (L:GL):List Value:=[L.sN.v,.map (some L.mi),L.sS.v,L.sM.v,L.sO.v,L.sC.v,L.sF.v,.map (some L.ms)]
def cCells (p:Nat×Sl3×Sl3×Sl3) (low:Nat):List Value:=[p.2.1.v,p.2.2.1.v,p.2.2.2.v,.int .i64 (low:Int)]
def Hold (T:Tys) (tx:Key→ByteArray) (m:Nat) (H:AH) (L:GL) (x:Gh):Comp→Prop
 | .q=>ArrV T.G m H L.q (qCells L)
 | .mi=>m≤L.mi∧L.mi<H.next∧∃F,MapU Value.string H L.mi F∧strM tx x.ids F
 | .ms=>m≤L.ms∧L.ms<H.next∧∃F,MapU Value.string H L.ms F∧strM tx x.g.sigs F
 | .N=>SlA EN T.N m H (nodeL x.g.N L.na) L.sN
 | .S=>SlA ES T.S m H x.sd L.sS
 | .O=>SlA EI T.I m H x.g.of L.sO
 | .C=>SlA EP T.P m H (L.cl.map (·.1)) L.sC
 | .F=>SlA EE T.E m H x.fe L.sF
 | .blk k=>∀p,L.cl[k]? = some p→ArrV T.C m H p.1 (cCells p (x.g.c k).low)
 | .us k=>∀p,L.cl[k]? = some p→SlA EI T.I m H (x.g.c k).uses p.2.1
 | .me k=>∀p,L.cl[k]? = some p→SlA EI T.I m H (x.g.c k).mem p.2.2.1
 | .va k=>∀p,L.cl[k]? = some p→SlA EI T.I m H (x.g.c k).vals p.2.2.2
 | .na i=>∀s,L.na[i]? = some s→SlA EI T.I m H (x.g.args i) s
def GL.fp (L:GL):Comp→Nat→Prop
 | .q=>fun id=>id=L.q
 | .mi=>fun id=>id=L.mi
 | .ms=>fun id=>id=L.ms
 | .N=>fpt L.sN
 | .S=>fpt L.sS
 | .O=>fpt L.sO
 | .C=>fpt L.sC
 | .F=>fpt L.sF
 | .blk k=>fun id=>∃p,L.cl[k]? = some p∧id=p.1
 | .us k=>fun id=>∃p,L.cl[k]? = some p∧fpt p.2.1 id
 | .me k=>fun id=>∃p,L.cl[k]? = some p∧fpt p.2.2.1 id
 | .va k=>fun id=>∃p,L.cl[k]? = some p∧fpt p.2.2.2 id
 | .na i=>fun id=>∃s,L.na[i]? = some s∧fpt s id
variable {T:Tys} {tx:Key→ByteArray} {m:Nat} {H H':AH} {L L':GL} {x x':Gh}
theorem Hold.low {c:Comp} (h:Hold T tx m H L x c) {id:Nat} (hf:L.fp c id):m≤id∧id<H.next:=by
 cases c with
 | q=>have h:ArrV _ _ _ _ _:=h; have hf:id=L.q:=hf; subst hf; exact ⟨h.own,h.low⟩
 | mi=>have hf:id=L.mi:=hf; subst hf; exact ⟨h.1,h.2.1⟩
 | ms=>have hf:id=L.ms:=hf; subst hf; exact ⟨h.1,h.2.1⟩
 | N=>exact SlG.fp h hf
 | S=>exact SlG.fp h hf
 | O=>exact SlG.fp h hf
 | C=>exact SlG.fp h hf
 | F=>exact SlG.fp h hf
 | blk k=>obtain ⟨p,hp,rfl⟩:=hf; have:=h p hp; exact ⟨this.own,this.low⟩
 | us k=>obtain ⟨p,hp,hf⟩:=hf; exact SlG.fp (h p hp) hf
 | me k=>obtain ⟨p,hp,hf⟩:=hf; exact SlG.fp (h p hp) hf
 | va k=>obtain ⟨p,hp,hf⟩:=hf; exact SlG.fp (h p hp) hf
 | na i=>obtain ⟨s,hs,hf⟩:=hf; exact SlG.fp (h s hs) hf
theorem Hold.fr {W:Nat→Prop} {c:Comp} (h:Hold T tx m H L x c) (hf:Fm W H H') (hw:∀id,L.fp c id→¬W id):Hold T tx m H' L x c:=by
 cases c with
 | q=>exact ArrV.fr h hf (hw _ rfl)
 | mi=>obtain ⟨h1,h2,F,h3,h4⟩:=h; exact ⟨h1,Nat.lt_of_lt_of_le h2 hf.1,F,h3.fr hf h2 (hw _ rfl),h4⟩
 | ms=>obtain ⟨h1,h2,F,h3,h4⟩:=h; exact ⟨h1,Nat.lt_of_lt_of_le h2 hf.1,F,h3.fr hf h2 (hw _ rfl),h4⟩
 | N=>exact SlA.fr h hf hw
 | S=>exact SlA.fr h hf hw
 | O=>exact SlA.fr h hf hw
 | C=>exact SlA.fr h hf hw
 | F=>exact SlA.fr h hf hw
 | blk k=>exact fun p hp=>(h p hp).fr hf (hw _ ⟨p,hp,rfl⟩)
 | us k=>exact fun p hp=>(h p hp).fr hf fun id hi=>hw id ⟨p,hp,hi⟩
 | me k=>exact fun p hp=>(h p hp).fr hf fun id hi=>hw id ⟨p,hp,hi⟩
 | va k=>exact fun p hp=>(h p hp).fr hf fun id hi=>hw id ⟨p,hp,hi⟩
 | na i=>exact fun s hs=>(h s hs).fr hf fun id hi=>hw id ⟨s,hs,hi⟩
structure Rep (T:Tys) (tx:Key→ByteArray) (m:Nat) (H:AH) (L:GL) (x:Gh):Prop where
 hold:∀c,Hold T tx m H L x c
 disj:∀c c' id,L.fp c id→L.fp c' id→c=c'
 nal:L.na.length=x.g.N.length
 cll:L.cl.length=x.g.cls.length
 fel:x.fe.map (·.1)=x.g.fo
theorem Rep.low (h:Rep T tx m H L x) {c:Comp} {id:Nat} (hf:L.fp c id):m≤id∧id<H.next:=(h.hold c).low hf
theorem Rep.ext (h:Rep T tx m H L x) (hf:Ext H H'):Rep T tx m H' L x:=⟨fun c=>(h.hold c).fr hf fun _ _ h=>h,h.disj,h.nal,h.cll,h.fel⟩
theorem Rep.step (h:Rep T tx m H L x) (X:Comp→Prop) {W:Nat→Prop} (hf:Fm W H H') (hW:∀id,W id→∃c,X c∧L.fp c id)
  (same:∀c,¬X c→(Hold T tx m H' L x c→Hold T tx m H' L' x' c)∧∀id,L'.fp c id→L.fp c id) (new:∀c,X c→Hold T tx m H' L' x' c)
  (nfp:∀c,X c→∀id,L'.fp c id→L.fp c id∨H.next≤id) (nd:∀c c',X c→X c'→∀id,L'.fp c id→L'.fp c' id→c=c')
  (nal:L'.na.length=x'.g.N.length) (cll:L'.cl.length=x'.g.cls.length) (fel:x'.fe.map (·.1)=x'.g.fo):Rep T tx m H' L' x':=by
 refine ⟨fun c=>?_,fun c c' id h1 h2=>?_,nal,cll,fel⟩
 ·by_cases hc:X c
  ·exact new c hc
  ·refine (same c hc).1 ((h.hold c).fr hf fun id hi hw=>?_);obtain ⟨c',hc',hi'⟩:=hW id hw;have:=h.disj c c' id hi hi';subst this;exact hc hc'
 ·have mixed:∀c c',X c→¬X c'→L'.fp c id→L'.fp c' id→c=c':=by
   intro c c' hc hc' h1 h2;have h2':=(same c' hc').2 id h2;rcases nfp c hc id h1 with h1 | h1
   ·exact h.disj c c' id h1 h2'
   ·have:=(h.low h2').2; omega
  by_cases hc:X c
  ·by_cases hc':X c'
   ·exact nd c c' hc hc' id h1 h2
   ·exact mixed c c' hc hc' h1 h2
  ·by_cases hc':X c'
   ·exact (mixed c' c hc' hc h2 h1).symm
   ·exact h.disj c c' id ((same c hc).2 id h1) ((same c' hc').2 id h2)
theorem Rep.q (h:Rep T tx m H L x) {j:Nat} {v:Value} (hv:(qCells L)[j]? = some v) {β:Type} (de:Value→Option β):rd de H ((⟨L.q,0,none⟩:Addr).add j)=de v :=
 (show ArrV T.G m H L.q (qCells L) from h.hold .q).rd hv de
theorem Rep.of_ (h:Rep T tx m H L x) {i:Nat} (hi:i<x.g.of.length) {v:Int} (hv:v=i):∃q,idxA 1 L.sO v=some q∧rd (deI .i64) H q=some ((x.g.o i:Nat):Int):=by
 obtain ⟨q,h1,h2⟩:=rd_EI (show SlA EI T.I m H x.g.of L.sO from h.hold .O) hi hv;refine ⟨q,h1,h2.trans ?_⟩;have:x.g.o i=x.g.of[i]:=by
  unfold St.o;rw [List.getD_eq_getElem?_getD,List.getElem?_eq_getElem hi];rfl
 rw [this]
theorem Rep.cls_ (h:Rep T tx m H L x) {k:Nat} (hk:k<x.g.cls.length) {v:Int} (hv:v=k):∃q p,L.cl[k]? = some p∧idxA 1 L.sC v=some q∧rd deP H q=some (some ⟨p.1,0,none⟩):=by
 have hk':k<L.cl.length:=by rw [h.cll]; exact hk
 obtain ⟨q,h1,h2⟩:=rd_EP (show SlA EP T.P m H (L.cl.map (·.1)) L.sC from h.hold .C) (i:=k) (by rw [List.length_map]; exact hk') hv;refine ⟨q,L.cl[k],List.getElem?_eq_getElem hk',h1,?_⟩;rw [h2,List.getElem_map]
theorem Rep.node (h:Rep T tx m H L x) {i:Nat} {y:Nd} (hy:x.g.N[i]? = some y) {v:Int} (hv:v=i) :
  ∃q s,idxA 3 L.sN v=some q∧rd (deI .i64) H (q.add 0)=some y.sym∧rd deSl H (q.add 1)=some s∧rd deB H (q.add 2)=some y.value∧SlA EI T.I m H y.args s∧L.na[i]? = some s:=by
 have hi:i<x.g.N.length:=(List.getElem?_eq_some_iff.1 hy).1;have hi2:i<L.na.length:=by rw [h.nal]; exact hi
 have hl:i<(nodeL x.g.N L.na).length:=by unfold nodeL; rw [List.length_zipWith]; omega
 obtain ⟨q,h1,h2,h3,h4⟩:=rd_EN (show SlA EN T.N m H (nodeL x.g.N L.na) L.sN from h.hold .N) hl hv;have he:(nodeL x.g.N L.na)[i]=(y.sym,L.na[i],y.value):=by
  have h0:(nodeL x.g.N L.na)[i]? = some (y.sym,L.na[i],y.value):=by
   unfold nodeL;rw [List.getElem?_zipWith,hy,List.getElem?_eq_getElem hi2]
  rw [List.getElem?_eq_getElem hl] at h0;exact Option.some.inj h0
 rw [he] at h2 h3 h4;have hs:L.na[i]? = some L.na[i]:=List.getElem?_eq_getElem hi2;have ha:=(show ∀s,L.na[i]? = some s→SlA EI T.I m H (x.g.args i) s from h.hold (.na i)) _ hs;have hargs:x.g.args i=y.args:=by
  unfold St.args;rw [hy];rfl
 rw [hargs] at ha;exact ⟨q,L.na[i],h1,h2,h3,h4,ha,hs⟩
end Go.Abs.Eg
namespace Go.Abs.Eg
def withS (x:Gh) (f:Key→Option Nat):Gh:=⟨{ x.g with sigs:=f },x.ids,x.sd,x.fe⟩
def withI (x:Gh) (f:Key→Option Nat):Gh:=⟨x.g,f,x.sd,x.fe⟩
variable {T:Tys} {tx:Key→ByteArray} {m:Nat} {H H':AH} {L:GL} {x:Gh} {P:Program} {t kt e:TypeId}
theorem zau {f:Key→Option Nat} {F:ByteArray→Option Value} (hi:∀k k',tx k=tx k'→k=k') (h:strM tx f F) (k:Key) (n:Nat):strM tx (fun k'=>if k'=k then some n else f k') fun s=>if s=tx k then some (.int .i64 (n:Int)) else F s:=by
 intro k';simp only;by_cases hk:k'=k
 ·rw [if_pos hk,if_pos (by rw [hk])]; rfl
 ·rw [if_neg hk,if_neg (fun e=>hk (hi _ _ e))]; exact h k'
theorem zen {f:Key→Option Nat} {F:ByteArray→Option Value} (hi:∀k k',tx k=tx k'→k=k') (h:strM tx f F) (k:Key):strM tx (fun k'=>if k'=k then none else f k') fun s=>if s=tx k then none else F s:=by
 intro k';simp only;by_cases hk:k'=k
 ·rw [if_pos hk,if_pos (by rw [hk])]; rfl
 ·rw [if_neg hk,if_neg (fun e=>hk (hi _ _ e))]; exact h k'
structure MP (P:Program) (t kt e:TypeId):Prop where
 key:KeyK P kt Value.string
 und:P.underlying t=some (.map kt e)
 zero:(P.info? e).bind (·.zero)=some (.int .i64 0)
theorem lk_num {f:Key→Option Nat} {F:ByteArray→Option Value} (hP:MP P t kt e) {id:Nat} (hM:MapU Value.string H id F) (hs:strM tx f F) (k:Key) :
  lkM P t (deI .i64) H (some id) (.string (tx k))=some ((((f k).getD 0:Nat):Int),(f k).isSome):=by
 rw [ze6 hP.key hP.und hP.zero rfl hM.toA (tx k),hs k];cases f k <;> rfl
theorem Rep.lkS (hP:MP P t kt e) (h:Rep T tx m H L x) (k:Key):lkM P t (deI .i64) H (some L.ms) (.string (tx k))=some ((((x.g.sigs k).getD 0:Nat):Int),(x.g.sigs k).isSome):=by
 obtain ⟨_,_,F,h3,h4⟩:=(show Hold T tx m H L x .ms from h.hold .ms);exact lk_num hP h3 h4 k
theorem Rep.lkI (hP:MP P t kt e) (h:Rep T tx m H L x) (k:Key):lkM P t (deI .i64) H (some L.mi) (.string (tx k))=some ((((x.ids k).getD 0:Nat):Int),(x.ids k).isSome):=by
 obtain ⟨_,_,F,h3,h4⟩:=(show Hold T tx m H L x .mi from h.hold .mi);exact lk_num hP h3 h4 k
theorem Rep.setS (h:Rep T tx m H L x) {f:Key→Option Nat} (hf:Fm (fun i=>i=L.ms) H H') (hm:∃F,MapU Value.string H' L.ms F∧strM tx f F) (hn:H'.next=H.next):Rep T tx m H' L (withS x f):=by
 obtain ⟨h1,h2,_⟩:=(show Hold T tx m H L x .ms from h.hold .ms);refine h.step (fun c=>c=.ms) hf (fun id hid=>⟨.ms,rfl,hid⟩) (fun c hc=>⟨fun hh=>?_,fun id hid=>hid⟩) (fun c hc=>?_) (fun c hc id hid=>.inl hid) (fun c c' hc hc' _ _ _=>hc.trans hc'.symm) h.nal h.cll h.fel
 ·cases c <;> first | exact hh | exact absurd rfl hc
 ·subst hc; exact ⟨h1,by rw [hn]; exact h2,hm⟩
theorem Rep.setI (h:Rep T tx m H L x) {f:Key→Option Nat} (hf:Fm (fun i=>i=L.mi) H H') (hm:∃F,MapU Value.string H' L.mi F∧strM tx f F) (hn:H'.next=H.next):Rep T tx m H' L (withI x f):=by
 obtain ⟨h1,h2,_⟩:=(show Hold T tx m H L x .mi from h.hold .mi);refine h.step (fun c=>c=.mi) hf (fun id hid=>⟨.mi,rfl,hid⟩) (fun c hc=>⟨fun hh=>?_,fun id hid=>hid⟩) (fun c hc=>?_) (fun c hc id hid=>.inl hid) (fun c c' hc hc' _ _ _=>hc.trans hc'.symm) h.nal h.cll h.fel
 ·cases c <;> first | exact hh | exact absurd rfl hc
 ·subst hc; exact ⟨h1,by rw [hn]; exact h2,hm⟩
theorem Rep.upS (hi:∀k k',tx k=tx k'→k=k') (hP:MP P t kt e) (h:Rep T tx m H L x) (k:Key) (n:Nat) :
  ∃H',upM P m t H (some L.ms) (.string (tx k)) (.int .i64 (n:Int))=some H'∧Rep T tx m H' L (withS x fun k'=>if k'=k then some n else x.g.sigs k')∧Fm (fun i=>i=L.ms) H H'∧H'.next=H.next:=by
 obtain ⟨h1,h2,F,h3,h4⟩:=(show Hold T tx m H L x .ms from h.hold .ms);obtain ⟨H',a1,a2,a3,a4⟩:=z97 hP.key hP.und h3 h1 (tx k) (.int .i64 (n:Int));exact ⟨H',a1,h.setS a3 ⟨_,a2,zau hi h4 k n⟩ a4,a3,a4⟩
theorem Rep.upI (hi:∀k k',tx k=tx k'→k=k') (hP:MP P t kt e) (h:Rep T tx m H L x) (k:Key) (n:Nat) :
  ∃H',upM P m t H (some L.mi) (.string (tx k)) (.int .i64 (n:Int))=some H'∧Rep T tx m H' L (withI x fun k'=>if k'=k then some n else x.ids k')∧Fm (fun i=>i=L.mi) H H'∧H'.next=H.next:=by
 obtain ⟨h1,h2,F,h3,h4⟩:=(show Hold T tx m H L x .mi from h.hold .mi);obtain ⟨H',a1,a2,a3,a4⟩:=z97 hP.key hP.und h3 h1 (tx k) (.int .i64 (n:Int));exact ⟨H',a1,h.setI a3 ⟨_,a2,zau hi h4 k n⟩ a4,a3,a4⟩
theorem Rep.delS_ (hi:∀k k',tx k=tx k'→k=k') (hP:MP P t kt e) (h:Rep T tx m H L x) (k:Key) {ts:Array TypeId} (hts:ts[0]? = some t) :
  ∃H',aDelete P m ts [.map (some L.ms),.string (tx k)] H=some (.tuple #[],H')∧Rep T tx m H' L (withS x fun k'=>if k'=k then none else x.g.sigs k')∧Fm (fun i=>i=L.ms) H H'∧H'.next=H.next:=by
 obtain ⟨h1,h2,F,h3,h4⟩:=(show Hold T tx m H L x .ms from h.hold .ms);obtain ⟨H',a1,a2,a3,a4⟩:=zd3 hP.key hP.und h3 h1 (tx k) rfl hts;exact ⟨H',a1,h.setS a3 ⟨_,a2,zen hi h4 k⟩ a4,a3,a4⟩
theorem zdr (g:St) (us:List Nat):delS g (us.take 0)=g.sigs:=by
 funext k
 unfold delS;cases g.sigs k <;> simp
theorem zde {g:St} (hs1:∀s k,g.sigs s=some k→k<g.n∧g.sig k=s) {us:List Nat} {i:Nat} (hi:i<us.length) :
  delS g (us.take (i+1))=if delS g (us.take i) (g.sig us[i])=some us[i] then (fun k=>if k=g.sig us[i] then none else delS g (us.take i) k) else delS g (us.take i):=by
 have hmem:∀w,w∈us.take (i+1)↔w∈us.take i∨w=us[i]:=by
  intro w;rw [List.take_succ_eq_append_getElem hi,List.mem_append,List.mem_singleton]
 funext k
 by_cases hc:delS g (us.take i) (g.sig us[i])=some us[i]
 ·rw [if_pos hc];show delS g (us.take (i+1)) k=if k=g.sig us[i] then none else delS g (us.take i) k
  by_cases hk:k=g.sig us[i]
  ·rw [if_pos hk,hk];unfold delS at hc ⊢;cases hg:g.sigs (g.sig us[i]) with
   | none=>rfl
   | some w =>
    rw [hg] at hc;simp only at hc ⊢;split at hc
    ·cases hc
    ·have hc:=Option.some.inj hc;rw [if_pos ((hmem w).2 (.inr hc))]
  ·rw [if_neg hk];unfold delS;cases hg:g.sigs k with
   | none=>rfl
   | some w =>
    simp only;have hw:w≠us[i]:=fun e=>hk (by rw [← e]; exact (hs1 k w hg).2.symm);by_cases hm:w∈us.take i
    ·rw [if_pos hm,if_pos ((hmem w).2 (.inl hm))]
    ·rw [if_neg hm,if_neg (fun h=>((hmem w).1 h).elim hm hw)]
 ·rw [if_neg hc];unfold delS at hc ⊢;cases hg:g.sigs k with
  | none=>rfl
  | some w =>
   simp only;by_cases hm:w∈us.take i
   ·rw [if_pos hm,if_pos ((hmem w).2 (.inl hm))]
   ·rw [if_neg hm];have hw:w≠us[i]:=by
     intro e;apply hc;have hk:g.sig us[i]=k:=by rw [← e]; exact (hs1 k w hg).2
     rw [hk,hg];simp only;rw [if_neg hm,e]
    rw [if_neg (fun h=>((hmem w).1 h).elim hm hw)]
end Go.Abs.Eg
namespace Go.Abs.Eg
def GL.setcl (L:GL) (t:Nat) (p:Nat×Sl3×Sl3×Sl3):GL:={ L with cl:=L.cl.set t p }
def withC (x:Gh) (t:Nat) (c:Cl):Gh:=⟨{ x.g with cls:=x.g.cls.set t c },x.ids,x.sd,x.fe⟩
variable {T:Tys} {tx:Key→ByteArray} {m:Nat} {H H':AH} {L:GL} {x:Gh}
theorem Rep.other {W:Nat→Prop} (h:Rep T tx m H L x) (hf:Fm W H H') (hw:∀c id,L.fp c id→¬W id):Rep T tx m H' L x :=
 ⟨fun c=>(h.hold c).fr hf (hw c),h.disj,h.nal,h.cll,h.fel⟩
theorem C7 {t:Nat} {c:Cl} (ht:t<x.g.cls.length) (k:Nat):(withC x t c).g.c k=if k=t then c else x.g.c k:=by
 show (x.g.cls.set t c).getD k Cl.nil=_;rw [List.getD_eq_getElem?_getD];by_cases hk:k=t
 ·subst hk;rw [List.getElem?_set_self ht,if_pos rfl];rfl
 ·rw [List.getElem?_set_ne (fun e=>hk e.symm),if_neg hk];show _=x.g.cls.getD k Cl.nil;rw [List.getD_eq_getElem?_getD]
theorem Rep.cls (h:Rep T tx m H L x) {t:Nat} {p p':Nat×Sl3×Sl3×Sl3} (hp:L.cl[t]? = some p) (hpp:p'.1=p.1) {c:Cl} {W:Nat→Prop} (hf:Fm W H H') (hW:∀id,W id→id=p.1∨fpt p.2.1 id∨fpt p.2.2.1 id∨fpt p.2.2.2 id)
  (hb:ArrV T.C m H' p.1 (cCells p' c.low)) (hu:SlA EI T.I m H' c.uses p'.2.1) (hm:SlA EI T.I m H' c.mem p'.2.2.1) (hv:SlA EI T.I m H' c.vals p'.2.2.2)
  (fu:∀id,fpt p'.2.1 id→fpt p.2.1 id∨H.next≤id) (fm:∀id,fpt p'.2.2.1 id→fpt p.2.2.1 id∨H.next≤id) (fv:∀id,fpt p'.2.2.2 id→fpt p.2.2.2 id∨H.next≤id)
  (one:∀id,H.next≤id→¬(fpt p'.2.1 id∧fpt p'.2.2.1 id)∧¬(fpt p'.2.1 id∧fpt p'.2.2.2 id)∧¬(fpt p'.2.2.1 id∧fpt p'.2.2.2 id)):Rep T tx m H' (L.setcl t p') (withC x t c):=by
 have htl:t<L.cl.length:=(List.getElem?_eq_some_iff.1 hp).1;have htc:t<x.g.cls.length:=by rw [← h.cll]; exact htl
 have hself:(L.setcl t p').cl[t]? = some p':=List.getElem?_set_self htl;have hother:∀k,k≠t→(L.setcl t p').cl[k]? = L.cl[k]? := fun k hk=>List.getElem?_set_ne (fun e=>hk e.symm);have hmap:(L.setcl t p').cl.map (·.1)=L.cl.map (·.1):=by
  refine List.ext_getElem? fun k=>?_;rw [List.getElem?_map,List.getElem?_map];by_cases hk:k=t
  ·rw [hk,hself,hp]; simp [hpp]
  ·rw [hother k hk]
 have hct:(withC x t c).g.c t=c:=by rw [C7 htc,if_pos rfl]
 have hco:∀k,k≠t→(withC x t c).g.c k=x.g.c k:=fun k hk=>by rw [C7 htc,if_neg hk]
 let X:Comp→Prop:=fun d=>d=.blk t∨d=.us t∨d=.me t∨d=.va t
 have lowp:∀d id,L.fp d id→id<H.next:=fun d id hd=>(h.low hd).2;refine h.step X hf (fun id hid=>?_) (fun d hd=>?_) (fun d hd=>?_) (fun d hd id hid=>?_) (fun d d' hd hd' id h1 h2=>?_) h.nal (by show (L.cl.set t p').length=(x.g.cls.set t c).length; rw [List.length_set,List.length_set]; exact h.cll) h.fel
 ·rcases hW id hid with e | e | e | e
  ·exact ⟨.blk t,.inl rfl,p,hp,e⟩
  ·exact ⟨.us t,.inr (.inl rfl),p,hp,e⟩
  ·exact ⟨.me t,.inr (.inr (.inl rfl)),p,hp,e⟩
  ·exact ⟨.va t,.inr (.inr (.inr rfl)),p,hp,e⟩
 ·cases d with
  | blk k =>
   have hk:k≠t:=fun e=>hd (.inl (by rw [e]));refine ⟨fun hh p0 hp0=>?_,fun id hid=>?_⟩
   ·rw [hother k hk] at hp0; rw [hco k hk]; exact hh p0 hp0
   ·obtain ⟨p0,hp0,e⟩:=hid; rw [hother k hk] at hp0; exact ⟨p0,hp0,e⟩
  | us k =>
   have hk:k≠t:=fun e=>hd (.inr (.inl (by rw [e])));refine ⟨fun hh p0 hp0=>?_,fun id hid=>?_⟩
   ·rw [hother k hk] at hp0; rw [hco k hk]; exact hh p0 hp0
   ·obtain ⟨p0,hp0,e⟩:=hid; rw [hother k hk] at hp0; exact ⟨p0,hp0,e⟩
  | me k =>
   have hk:k≠t:=fun e=>hd (.inr (.inr (.inl (by rw [e]))));refine ⟨fun hh p0 hp0=>?_,fun id hid=>?_⟩
   ·rw [hother k hk] at hp0; rw [hco k hk]; exact hh p0 hp0
   ·obtain ⟨p0,hp0,e⟩:=hid; rw [hother k hk] at hp0; exact ⟨p0,hp0,e⟩
  | va k =>
   have hk:k≠t:=fun e=>hd (.inr (.inr (.inr (by rw [e]))));refine ⟨fun hh p0 hp0=>?_,fun id hid=>?_⟩
   ·rw [hother k hk] at hp0; rw [hco k hk]; exact hh p0 hp0
   ·obtain ⟨p0,hp0,e⟩:=hid; rw [hother k hk] at hp0; exact ⟨p0,hp0,e⟩
  | C=>exact ⟨fun hh=>by show SlA EP T.P m H' ((L.setcl t p').cl.map (·.1)) L.sC; rw [hmap]; exact hh,fun id hid=>hid⟩
  | _=>exact ⟨fun hh=>hh,fun id hid=>hid⟩
 ·rcases hd with rfl | rfl | rfl | rfl
  ·intro p0 hp0;rw [hself] at hp0; cases hp0;rw [hct,hpp]; exact hb
  ·intro p0 hp0;rw [hself] at hp0; cases hp0;rw [hct]; exact hu
  ·intro p0 hp0;rw [hself] at hp0; cases hp0;rw [hct]; exact hm
  ·intro p0 hp0;rw [hself] at hp0; cases hp0;rw [hct]; exact hv
 ·rcases hd with rfl | rfl | rfl | rfl
  ·obtain ⟨p0,hp0,e⟩:=hid;rw [hself] at hp0; cases hp0;exact .inl ⟨p,hp,by rw [e,hpp]⟩
  ·obtain ⟨p0,hp0,e⟩:=hid;rw [hself] at hp0; cases hp0;exact (fu id e).imp (fun e=>⟨p,hp,e⟩) fun e=>e
  ·obtain ⟨p0,hp0,e⟩:=hid;rw [hself] at hp0; cases hp0;exact (fm id e).imp (fun e=>⟨p,hp,e⟩) fun e=>e
  ·obtain ⟨p0,hp0,e⟩:=hid;rw [hself] at hp0; cases hp0;exact (fv id e).imp (fun e=>⟨p,hp,e⟩) fun e=>e
 ·
  have old:∀d id,X d→(L.setcl t p').fp d id→id<H.next→L.fp d id:=by
   intro d id hd hid hlt;rcases hd with rfl | rfl | rfl | rfl
   ·obtain ⟨p0,hp0,e⟩:=hid;rw [hself] at hp0; cases hp0;exact ⟨p,hp,by rw [e,hpp]⟩
   ·obtain ⟨p0,hp0,e⟩:=hid;rw [hself] at hp0; cases hp0;exact ⟨p,hp,(fu id e).resolve_right (by omega)⟩
   ·obtain ⟨p0,hp0,e⟩:=hid;rw [hself] at hp0; cases hp0;exact ⟨p,hp,(fm id e).resolve_right (by omega)⟩
   ·obtain ⟨p0,hp0,e⟩:=hid;rw [hself] at hp0; cases hp0;exact ⟨p,hp,(fv id e).resolve_right (by omega)⟩
  by_cases hlt:id<H.next
  ·exact h.disj d d' id (old d id hd h1 hlt) (old d' id hd' h2 hlt)
  ·have h3:=one id (by omega);have blk:¬(L.setcl t p').fp (.blk t) id:=by
    rintro ⟨p0,hp0,e⟩
    rw [hself] at hp0; cases hp0;have:=lowp (.blk t) p.1 ⟨p,hp,rfl⟩;omega
   have gu:(L.setcl t p').fp (.us t) id→fpt p'.2.1 id:=by rintro ⟨p0,hp0,e⟩; rw [hself] at hp0; cases hp0; exact e
   have gm:(L.setcl t p').fp (.me t) id→fpt p'.2.2.1 id:=by rintro ⟨p0,hp0,e⟩; rw [hself] at hp0; cases hp0; exact e
   have gv:(L.setcl t p').fp (.va t) id→fpt p'.2.2.2 id:=by rintro ⟨p0,hp0,e⟩; rw [hself] at hp0; cases hp0; exact e
   rcases hd with rfl | rfl | rfl | rfl <;> rcases hd' with rfl | rfl | rfl | rfl <;> first | rfl | exact absurd h1 blk | exact absurd h2 blk | exact (h3.1 ⟨gu h1,gm h2⟩).elim | exact (h3.1 ⟨gu h2,gm h1⟩).elim | exact (h3.2.1 ⟨gu h1,gv h2⟩).elim | exact (h3.2.1 ⟨gu h2,gv h1⟩).elim | exact (h3.2.2 ⟨gm h1,gv h2⟩).elim | exact (h3.2.2 ⟨gm h2,gv h1⟩).elim
structure ClA (T:Tys) (m:Nat) (H:AH) (p:Nat×Sl3×Sl3×Sl3) (c:Cl):Prop where
 blk:ArrV T.C m H p.1 (cCells p c.low)
 us:SlA EI T.I m H c.uses p.2.1
 me:SlA EI T.I m H c.mem p.2.2.1
 va:SlA EI T.I m H c.vals p.2.2.2
 du:¬fpt p.2.1 p.1
 dm:¬fpt p.2.2.1 p.1
 dv:¬fpt p.2.2.2 p.1
 um:∀id,fpt p.2.1 id→¬fpt p.2.2.1 id
 uv:∀id,fpt p.2.1 id→¬fpt p.2.2.2 id
 mv:∀id,fpt p.2.2.1 id→¬fpt p.2.2.2 id
theorem Rep.cla (h:Rep T tx m H L x) {t:Nat} {p:Nat×Sl3×Sl3×Sl3} (hp:L.cl[t]? = some p):ClA T m H p (x.g.c t):=by
 refine ⟨h.hold (.blk t) p hp,h.hold (.us t) p hp,h.hold (.me t) p hp,h.hold (.va t) p hp,fun hf=>?_,fun hf=>?_,fun hf=>?_,fun id h1 h2=>?_,fun id h1 h2=>?_,fun id h1 h2=>?_⟩
 ·have:=h.disj (.us t) (.blk t) p.1 ⟨p,hp,hf⟩ ⟨p,hp,rfl⟩; cases this
 ·have:=h.disj (.me t) (.blk t) p.1 ⟨p,hp,hf⟩ ⟨p,hp,rfl⟩; cases this
 ·have:=h.disj (.va t) (.blk t) p.1 ⟨p,hp,hf⟩ ⟨p,hp,rfl⟩; cases this
 ·have:=h.disj (.us t) (.me t) id ⟨p,hp,h1⟩ ⟨p,hp,h2⟩; cases this
 ·have:=h.disj (.us t) (.va t) id ⟨p,hp,h1⟩ ⟨p,hp,h2⟩; cases this
 ·have:=h.disj (.me t) (.va t) id ⟨p,hp,h1⟩ ⟨p,hp,h2⟩; cases this
theorem Rep.appU (h:Rep T tx m H L x) {t:Nat} {p:Nat×Sl3×Sl3×Sl3} (hp:L.cl[t]? = some p) {l':List Nat} {z:Sl3} (hz:RdV 1 H z l'.length (l'.flatMap EI.enc))
  (h2:(x.g.c t).uses.length+l'.length≤1099511627776) (hm:m≤H.next) :
  ∃s' H1 H',appS m T.I 1 8 H p.2.1 z=some (s',H1)∧H1.setCell m ((⟨p.1,0,none⟩:Addr).add 0) (Sl3.v s')=some H'∧Rep T tx m H' (L.setcl t (p.1,s',p.2.2.1,p.2.2.2)) (withC x t { x.g.c t with uses:=(x.g.c t).uses++l' }) ∧
   Fm (fun i=>i=p.1∨fpt p.2.1 i) H H'∧∀i,fpt s' i→fpt p.2.1 i∨H.next≤i:=by
 have hc:=h.cla hp;obtain ⟨s',H1,H',a1,a2,a3,a4,a5,a6,a7⟩:=Q9 (j:=0) (bytes:=8) (E:=EI) hc.blk rfl hc.us hc.du hz (by omega) (by omega) hm;refine ⟨s',H1,H',a1,a2,?_,a5,a6⟩;refine h.cls hp rfl a5 (fun id hid=>hid.elim .inl fun h=>.inr (.inl h)) (p':=(p.1,s',p.2.2.1,p.2.2.2)) a3 a4 (hc.me.fr a5 fun id hid hw=>?_) (hc.va.fr a5 fun id hid hw=>?_) a6 (fun id hid=>.inl hid) (fun id hid=>.inl hid) fun id hle=>?_
 ·rcases hw with e | e
  ·rw [e] at hid; exact hc.dm hid
  ·exact hc.um id e hid
 ·rcases hw with e | e
  ·rw [e] at hid; exact hc.dv hid
  ·exact hc.uv id e hid
 ·have hm':¬fpt p.2.2.1 id:=fun hh=>by have:=(h.low (c:=.me t) ⟨p,hp,hh⟩).2; omega
  have hv':¬fpt p.2.2.2 id:=fun hh=>by have:=(h.low (c:=.va t) ⟨p,hp,hh⟩).2; omega
  exact ⟨fun hh=>hm' hh.2,fun hh=>hv' hh.2,fun hh=>hm' hh.1⟩
theorem Rep.appM (h:Rep T tx m H L x) {t:Nat} {p:Nat×Sl3×Sl3×Sl3} (hp:L.cl[t]? = some p) {l':List Nat} {z:Sl3} (hz:RdV 1 H z l'.length (l'.flatMap EI.enc))
  (h2:(x.g.c t).mem.length+l'.length≤1099511627776) (hm:m≤H.next) :
  ∃s' H1 H',appS m T.I 1 8 H p.2.2.1 z=some (s',H1)∧H1.setCell m ((⟨p.1,0,none⟩:Addr).add 1) (Sl3.v s')=some H'∧Rep T tx m H' (L.setcl t (p.1,p.2.1,s',p.2.2.2)) (withC x t { x.g.c t with mem:=(x.g.c t).mem++l' }) ∧
   Fm (fun i=>i=p.1∨fpt p.2.2.1 i) H H'∧∀i,fpt s' i→fpt p.2.2.1 i∨H.next≤i:=by
 have hc:=h.cla hp;obtain ⟨s',H1,H',a1,a2,a3,a4,a5,a6,a7⟩:=Q9 (j:=1) (bytes:=8) (E:=EI) hc.blk rfl hc.me hc.dm hz (by omega) (by omega) hm;refine ⟨s',H1,H',a1,a2,?_,a5,a6⟩;refine h.cls hp rfl a5 (fun id hid=>hid.elim .inl fun h=>.inr (.inr (.inl h))) (p':=(p.1,p.2.1,s',p.2.2.2)) a3 (hc.us.fr a5 fun id hid hw=>?_) a4 (hc.va.fr a5 fun id hid hw=>?_) (fun id hid=>.inl hid) a6 (fun id hid=>.inl hid) fun id hle=>?_
 ·rcases hw with e | e
  ·rw [e] at hid; exact hc.du hid
  ·exact hc.um id hid e
 ·rcases hw with e | e
  ·rw [e] at hid; exact hc.dv hid
  ·exact hc.mv id e hid
 ·have hu':¬fpt p.2.1 id:=fun hh=>by have:=(h.low (c:=.us t) ⟨p,hp,hh⟩).2; omega
  have hv':¬fpt p.2.2.2 id:=fun hh=>by have:=(h.low (c:=.va t) ⟨p,hp,hh⟩).2; omega
  exact ⟨fun hh=>hu' hh.1,fun hh=>hu' hh.1,fun hh=>hv' hh.2⟩
theorem Rep.appV (h:Rep T tx m H L x) {t:Nat} {p:Nat×Sl3×Sl3×Sl3} (hp:L.cl[t]? = some p) {l':List Nat} {z:Sl3} (hz:RdV 1 H z l'.length (l'.flatMap EI.enc))
  (h2:(x.g.c t).vals.length+l'.length≤1099511627776) (hm:m≤H.next) :
  ∃s' H1 H',appS m T.I 1 8 H p.2.2.2 z=some (s',H1)∧H1.setCell m ((⟨p.1,0,none⟩:Addr).add 2) (Sl3.v s')=some H'∧Rep T tx m H' (L.setcl t (p.1,p.2.1,p.2.2.1,s')) (withC x t { x.g.c t with vals:=(x.g.c t).vals++l' }) ∧
   Fm (fun i=>i=p.1∨fpt p.2.2.2 i) H H'∧∀i,fpt s' i→fpt p.2.2.2 i∨H.next≤i:=by
 have hc:=h.cla hp;obtain ⟨s',H1,H',a1,a2,a3,a4,a5,a6,a7⟩:=Q9 (j:=2) (bytes:=8) (E:=EI) hc.blk rfl hc.va hc.dv hz (by omega) (by omega) hm;refine ⟨s',H1,H',a1,a2,?_,a5,a6⟩;refine h.cls hp rfl a5 (fun id hid=>hid.elim .inl fun h=>.inr (.inr (.inr h))) (p':=(p.1,p.2.1,p.2.2.1,s')) a3 (hc.us.fr a5 fun id hid hw=>?_) (hc.me.fr a5 fun id hid hw=>?_) a4 (fun id hid=>.inl hid) (fun id hid=>.inl hid) a6 fun id hle=>?_
 ·rcases hw with e | e
  ·rw [e] at hid; exact hc.du hid
  ·exact hc.uv id hid e
 ·rcases hw with e | e
  ·rw [e] at hid; exact hc.dm hid
  ·exact hc.mv id hid e
 ·have hu':¬fpt p.2.1 id:=fun hh=>by have:=(h.low (c:=.us t) ⟨p,hp,hh⟩).2; omega
  have hm':¬fpt p.2.2.1 id:=fun hh=>by have:=(h.low (c:=.me t) ⟨p,hp,hh⟩).2; omega
  exact ⟨fun hh=>hu' hh.1,fun hh=>hu' hh.1,fun hh=>hm' hh.1⟩
theorem Rep.putL (h:Rep T tx m H L x) {t:Nat} {p:Nat×Sl3×Sl3×Sl3} (hp:L.cl[t]? = some p) (n:Nat) :
  ∃H',H.setCell m ((⟨p.1,0,none⟩:Addr).add 3) (.int .i64 (n:Int))=some H'∧Rep T tx m H' (L.setcl t p) (withC x t { x.g.c t with low:=n })∧Fm (fun i=>i=p.1) H H'∧H'.next=H.next:=by
 have hc:=h.cla hp;obtain ⟨H',a1,a2,a3,a4⟩:=hc.blk.put (j:=3) (by show 3<4; omega) (.int .i64 (n:Int));refine ⟨H',a1,?_,a3,a4⟩;refine h.cls hp rfl a3 (fun id hid=>.inl hid) (p':=p) a2 (hc.us.fr a3 fun id hid hw=>?_) (hc.me.fr a3 fun id hid hw=>?_) (hc.va.fr a3 fun id hid hw=>?_) (fun id hid=>.inl hid) (fun id hid=>.inl hid) (fun id hid=>.inl hid) fun id hle=>?_
 ·rw [hw] at hid; exact hc.du hid
 ·rw [hw] at hid; exact hc.dm hid
 ·rw [hw] at hid; exact hc.dv hid
 ·have hu':¬fpt p.2.1 id:=fun hh=>by have:=(h.low (c:=.us t) ⟨p,hp,hh⟩).2; omega
  have hm':¬fpt p.2.2.1 id:=fun hh=>by have:=(h.low (c:=.me t) ⟨p,hp,hh⟩).2; omega
  exact ⟨fun hh=>hu' hh.1,fun hh=>hu' hh.1,fun hh=>hm' hh.1⟩
end Go.Abs.Eg
namespace Go.Abs.Eg
structure MJ (g:St):Prop where
 len:g.of.length=g.n
 args:∀(i:Nat) x,g.N[i]? = some x→∀a∈x.args,a<i
 cl:∀i,i<g.n→g.o i<g.cls.length
 mem:∀i,i<g.n→∀j,j∈(g.c (g.o i)).mem↔j<g.n∧g.o j=g.o i
 vals:∀i,i<g.n→∀j,j∈(g.c (g.o i)).vals↔j<g.n∧g.o j=g.o i∧∃x,g.N[j]? = some x∧x.value=true
 vnd:∀i,i<g.n→(g.c (g.o i)).vals.Nodup
 uses:∀i,i<g.n→∀u,u∈(g.c (g.o i)).uses↔∃x,g.N[u]? = some x∧∃a∈x.args,g.o a=g.o i
 s1:∀s k,g.sigs s=some k→k<g.n∧g.sig k=s
theorem MI.toJ {g:St} {M q:List (Nat×Nat)} (h:MI g M q):MJ g:=⟨h.len,h.args,h.cl,h.mem,h.vals,h.vnd,h.uses,h.s1⟩
theorem MJ.f {g:St} (h:MJ g) (fo:List Int):MJ { g with fo:=fo }:=⟨h.len,h.args,h.cl,h.mem,h.vals,h.vnd,h.uses,h.s1⟩
theorem MX.f {g:St} (h:MX g) (fo:List Int):MX { g with fo:=fo }:=⟨h.mnd,h.ulen⟩
end Go.Abs.Eg
namespace Go.Abs
variable {e:TypeId} {m:Nat} {H:AH} {α:Type} {E:Enc α} {x:α} {l:List α} {s:Sl3}
theorem z7e (h:VecA E e m H (x :: l) s) (hN:l.length<OPEN):∃s',slc E.sz H s (some 1) none none=some s'∧VecA E e m H l s'∧∀id,fpt s' id→fpt s id:=by
 unfold VecA at h;generalize hn:(x :: l).length=n at h;generalize hv:(x :: l).flatMap E.enc=vs at h;cases h with
 | nil hn' hv'=>subst hn'; simp at hn
 | zero a ha hn' hv'=>subst hn'; simp at hn
 | opn id off cs hm hid hg hl ho hx =>
  have hn1:n=l.length+1:=by rw [← hn]; rfl
  refine ⟨⟨some ⟨id,off+E.sz,none⟩,l.length,OPEN⟩,?_,?_,fun id' hid'=>⟨by show OPEN≠0; unfold OPEN; omega,?_⟩⟩
  ·unfold slc;simp only;rw [if_pos trivial];have hb:slcB n n (some 1) none none=some (1,n,n):=by
    unfold slcB;simp only [boundI,Option.isSome_none,Bool.false_and,cond_false];rw [if_pos ⟨by omega,by omega⟩];rfl
   rw [hb];simp only [hg];rw [if_pos ⟨trivial,trivial,rfl⟩];rw [Nat.one_mul,E5];have:n - 1=l.length:=by omega
   rw [this]
  ·unfold VecA;have hvl:vs=E.enc x++l.flatMap E.enc:=by rw [← hv]; rfl
   refine .opn id (off+E.sz) cs hm hid hg (E.flat_len l) (E.flat_one l) fun i v hi=>?_;have:=hx (E.sz+i) v (by rw [hvl,List.getElem?_append_right (by rw [E.len]; omega),E.len,Nat.add_sub_cancel_left]; exact hi);rw [← Nat.add_assoc] at this;exact this
  ·obtain ⟨_,a,ha,rfl⟩:=hid';cases ha;exact ⟨_,rfl,rfl⟩
theorem zf3 (h:VecA E e m H (x :: l) s∨l=[]∧SlA E e m H [x] s) (hN:l.length<OPEN):∃s',slc E.sz H s (some 1) none none=some s'∧VecA E e m H l s'∧∀id,fpt s' id→fpt s id:=by
 rcases h with h | ⟨rfl,h⟩
 ·exact z7e h hN
 ·unfold SlA at h;generalize hn:[x].length=n at h;generalize hv:[x].flatMap E.enc=vs at h;cases h with
  | own h=>subst hn hv; exact z7e h hN
  | full id hm hid hg hl ho hn' hN' =>
   have hn1:n=1:=hn.symm;subst hn1;refine ⟨⟨some ⟨id,0,none⟩,0,0⟩,?_,VecA.zero E e m H ⟨id,0,none⟩ ⟨hid,rfl⟩,fun id' hid'=>absurd rfl hid'.1⟩;unfold slc;simp only;rw [if_neg (by unfold OPEN; omega)];have hb:slcB 1 1 (some 1) none none=some (1,1,1):=by
    unfold slcB;simp only [boundI,Option.isSome_none,Bool.false_and,cond_false];rw [if_pos ⟨by omega,by omega⟩];rfl
   rw [hb];simp only;rw [if_pos ⟨by unfold OPEN; omega,by omega⟩,if_pos trivial]
theorem VecA.toS (h:VecA E e m H l s):SlA E e m H l s:=.own h
end Go.Abs
namespace Go.Abs.Eg
variable {T:Tys} {tx:Key→ByteArray} {m:Nat} {H H':AH} {L L':GL} {x x':Gh}
theorem Rep.stepN (h:Rep T tx m H L x) (X:Comp→Prop) (New:Nat→Prop) (hN:∀c id,L.fp c id→¬New id) {W:Nat→Prop} (hf:Fm W H H') (hW:∀id,W id→(∃c,X c∧L.fp c id)∨New id)
  (same:∀c,¬X c→(Hold T tx m H' L x c→Hold T tx m H' L' x' c)∧∀id,L'.fp c id→L.fp c id) (new:∀c,X c→Hold T tx m H' L' x' c)
  (nfp:∀c,X c→∀id,L'.fp c id→L.fp c id∨New id) (nd:∀c c',X c→X c'→∀id,L'.fp c id→L'.fp c' id→c=c')
  (nal:L'.na.length=x'.g.N.length) (cll:L'.cl.length=x'.g.cls.length) (fel:x'.fe.map (·.1)=x'.g.fo):Rep T tx m H' L' x':=by
 refine ⟨fun c=>?_,fun c c' id h1 h2=>?_,nal,cll,fel⟩
 ·by_cases hc:X c
  ·exact new c hc
  ·refine (same c hc).1 ((h.hold c).fr hf fun id hi hw=>?_);rcases hW id hw with ⟨c',hc',hi'⟩ | hi'
   ·have:=h.disj c c' id hi hi';subst this;exact hc hc'
   ·exact hN c id hi hi'
 ·have mixed:∀c c',X c→¬X c'→L'.fp c id→L'.fp c' id→c=c':=by
   intro c c' hc hc' h1 h2;have h2':=(same c' hc').2 id h2;rcases nfp c hc id h1 with h1 | h1
   ·exact h.disj c c' id h1 h2'
   ·exact absurd h1 (hN c' id h2')
  by_cases hc:X c
  ·by_cases hc':X c'
   ·exact nd c c' hc hc' id h1 h2
   ·exact mixed c c' hc hc' h1 h2
  ·by_cases hc':X c'
   ·exact (mixed c' c hc' hc h2 h1).symm
   ·exact h.disj c c' id ((same c hc).2 id h1) ((same c' hc').2 id h2)
theorem two_nd {c1 c2:Comp} {id0:Nat→Prop} (h:∀id,L'.fp c1 id→L'.fp c2 id→False):∀c c',(c=c1∨c=c2)→(c'=c1∨c'=c2)→∀id,L'.fp c id→L'.fp c' id→c=c':=by
 rintro c c' (rfl | rfl) (rfl | rfl) id h1 h2
 ·rfl
 ·exact (h id h1 h2).elim
 ·exact (h id h2 h1).elim
 ·rfl
theorem Rep.dq (h:Rep T tx m H L x) {c:Comp} (hc:c≠.q):¬L.fp c L.q:=fun hf=>hc (h.disj c .q L.q hf rfl)
def addO (x:Gh) (n:Nat):Gh:=⟨{ x.g with of:=x.g.of++[n] },x.ids,x.sd,x.fe⟩
theorem Rep.pushO (h:Rep T tx m H L x) (n:Nat) (hl:x.g.of.length≤1048576) (hm:m≤H.next) :
  ∃z H0 s' H1 H',newR T.I 1 #[.int .i64 (n:Int)] H=some (z,H0)∧appS m T.I 1 8 H0 L.sO z=some (s',H1)∧H1.setCell m ((⟨L.q,0,none⟩:Addr).add 4) (Sl3.v s')=some H'∧Rep T tx m H' { L with sO:=s' } (addO x n) ∧
   Fm (fun i=>i=L.q∨fpt L.sO i) H H'∧(∀i,fpt s' i→fpt L.sO i∨H.next≤i):=by
 obtain ⟨z,H0,s',H1,H',a1,_,_,a2,a3,a4,a5,a6,a7,a8⟩:=J5 (E:=EI) (bytes:=8) (j:=4) (show ArrV T.G m H L.q (qCells L) from h.hold .q) rfl (show SlA EI T.I m H x.g.of L.sO from h.hold .O) (h.dq (c:=.O) (by intro e; cases e)) n (by omega) (by omega) hm;refine ⟨z,H0,s',H1,H',a1,a2,a3,?_,a6,a7⟩;refine h.step (fun c=>c=.q∨c=.O) a6 (fun id hid=>hid.elim (fun e=>⟨.q,.inl rfl,e⟩) fun e=>⟨.O,.inr rfl,e⟩) (fun c hc=>?_) (fun c hc=>?_) (fun c hc id hid=>?_) (two_nd (id0:=fun _=>True) fun id h1 h2=>a8 (by have h1:id=L.q:=h1; rw [← h1]; exact h2)) h.nal h.cll h.fel
 ·cases c <;> first | exact ⟨fun hh=>hh,fun id hid=>hid⟩ | exact absurd (.inl rfl) hc | exact absurd (.inr rfl) hc
 ·rcases hc with rfl | rfl
  ·exact a4
  ·exact a5
 ·rcases hc with rfl | rfl
  ·exact .inl hid
  ·exact a7 id hid
def addF (x:Gh) (e:Ed):Gh:=⟨{ x.g with fo:=x.g.fo++[e.1] },x.ids,x.sd,x.fe++[e]⟩
theorem Rep.pushF (h:Rep T tx m H L x) (e:Ed) (hl:x.fe.length≤1048576) (hm:m≤H.next) :
  ∃z H0 s' H1 H',newR T.E 1 #[.int .i64 e.1,.int .i64 e.2.1,.int .i64 e.2.2.1,.int .i64 e.2.2.2.1,.bool e.2.2.2.2] H=some (z,H0)∧appS m T.E 5 40 H0 L.sF z=some (s',H1)∧H1.setCell m ((⟨L.q,0,none⟩:Addr).add 6) (Sl3.v s')=some H'∧Rep T tx m H' { L with sF:=s' } (addF x e) ∧
   Fm (fun i=>i=L.q∨fpt L.sF i) H H'∧(∀i,fpt s' i→fpt L.sF i∨H.next≤i):=by
 obtain ⟨z,H0,s',H1,H',a1,_,_,a2,a3,a4,a5,a6,a7,a8⟩:=J5 (E:=EE) (bytes:=40) (j:=6) (show ArrV T.G m H L.q (qCells L) from h.hold .q) rfl (show SlA EE T.E m H x.fe L.sF from h.hold .F) (h.dq (c:=.F) (by intro e; cases e)) e (by omega) (by omega) hm;refine ⟨z,H0,s',H1,H',a1,a2,a3,?_,a6,a7⟩;refine h.step (fun c=>c=.q∨c=.F) a6 (fun id hid=>hid.elim (fun e=>⟨.q,.inl rfl,e⟩) fun e=>⟨.F,.inr rfl,e⟩) (fun c hc=>?_) (fun c hc=>?_) (fun c hc id hid=>?_) (two_nd (id0:=fun _=>True) fun id h1 h2=>a8 (by have h1:id=L.q:=h1; rw [← h1]; exact h2)) h.nal h.cll (by show (x.fe++[e]).map (·.1)=x.g.fo++[e.1]; rw [List.map_append,h.fel]; rfl)
 ·cases c <;> first | exact ⟨fun hh=>hh,fun id hid=>hid⟩ | exact absurd (.inl rfl) hc | exact absurd (.inr rfl) hc
 ·rcases hc with rfl | rfl
  ·exact a4
  ·exact a5
 ·rcases hc with rfl | rfl
  ·exact .inl hid
  ·exact a7 id hid
def addS (x:Gh) (s:Sd):Gh:=⟨x.g,x.ids,x.sd++[s],x.fe⟩
theorem Rep.pushS (h:Rep T tx m H L x) (s:Sd) (hl:x.sd.length≤1048576) (hm:m≤H.next) :
  ∃z H0 s' H1 H',newR T.S 1 #[.int .i64 s.1,.int .i64 s.2.1,.int .i64 s.2.2.1,.bool s.2.2.2] H=some (z,H0)∧appS m T.S 4 32 H0 L.sS z=some (s',H1)∧H1.setCell m ((⟨L.q,0,none⟩:Addr).add 2) (Sl3.v s')=some H'∧Rep T tx m H' { L with sS:=s' } (addS x s) ∧
   Fm (fun i=>i=L.q∨fpt L.sS i) H H'∧(∀i,fpt s' i→fpt L.sS i∨H.next≤i):=by
 obtain ⟨z,H0,s',H1,H',a1,_,_,a2,a3,a4,a5,a6,a7,a8⟩:=J5 (E:=ES) (bytes:=32) (j:=2) (show ArrV T.G m H L.q (qCells L) from h.hold .q) rfl (show SlA ES T.S m H x.sd L.sS from h.hold .S) (h.dq (c:=.S) (by intro e; cases e)) s (by omega) (by omega) hm;refine ⟨z,H0,s',H1,H',a1,a2,a3,?_,a6,a7⟩;refine h.step (fun c=>c=.q∨c=.S) a6 (fun id hid=>hid.elim (fun e=>⟨.q,.inl rfl,e⟩) fun e=>⟨.S,.inr rfl,e⟩) (fun c hc=>?_) (fun c hc=>?_) (fun c hc id hid=>?_) (two_nd (id0:=fun _=>True) fun id h1 h2=>a8 (by have h1:id=L.q:=h1; rw [← h1]; exact h2)) h.nal h.cll h.fel
 ·cases c <;> first | exact ⟨fun hh=>hh,fun id hid=>hid⟩ | exact absurd (.inl rfl) hc | exact absurd (.inr rfl) hc
 ·rcases hc with rfl | rfl
  ·exact a4
  ·exact a5
 ·rcases hc with rfl | rfl
  ·exact .inl hid
  ·exact a7 id hid
def addC (x:Gh) (c:Cl):Gh:=⟨{ x.g with cls:=x.g.cls++[c] },x.ids,x.sd,x.fe⟩
theorem z1k {c:Cl} {k:Nat} (hk:k≠x.g.cls.length):(addC x c).g.c k=x.g.c k:=by
 show (x.g.cls++[c]).getD k Cl.nil=x.g.cls.getD k Cl.nil;rw [List.getD_eq_getElem?_getD,List.getD_eq_getElem?_getD];by_cases h:k<x.g.cls.length
 ·rw [List.getElem?_append_left h]
 ·rw [List.getElem?_eq_none (by simp; omega),List.getElem?_eq_none (by omega)]
theorem z1p {c:Cl}:(addC x c).g.c x.g.cls.length=c:=by
 show (x.g.cls++[c]).getD x.g.cls.length Cl.nil=c;rw [List.getD_eq_getElem?_getD,List.getElem?_append_right (Nat.le_refl _)];simp
theorem Rep.pushC (h:Rep T tx m H L x) {p:Nat×Sl3×Sl3×Sl3} {c:Cl} (hc:ClA T m H p c) (hd:∀c' id,L.fp c' id→¬(id=p.1∨fpt p.2.1 id∨fpt p.2.2.1 id∨fpt p.2.2.2 id)) (hl:x.g.cls.length≤1048576) (hm:m≤H.next) :
  ∃z H0 s' H1 H',newR T.P 1 #[.pointer (some ⟨p.1,0,none⟩)] H=some (z,H0)∧appS m T.P 1 8 H0 L.sC z=some (s',H1)∧H1.setCell m ((⟨L.q,0,none⟩:Addr).add 5) (Sl3.v s')=some H'∧Rep T tx m H' { L with sC:=s',cl:=L.cl++[p] } (addC x c) ∧
   Fm (fun i=>i=L.q∨fpt L.sC i) H H'∧(∀i,fpt s' i→fpt L.sC i∨H.next≤i):=by
 have hll:(L.cl.map (·.1)).length=x.g.cls.length:=by rw [List.length_map]; exact h.cll
 obtain ⟨z,H0,s',H1,H',a1,_,_,a2,a3,a4,a5,a6,a7,a8⟩:=J5 (E:=EP) (bytes:=8) (j:=5) (show ArrV T.G m H L.q (qCells L) from h.hold .q) rfl (show SlA EP T.P m H (L.cl.map (·.1)) L.sC from h.hold .C) (h.dq (c:=.C) (by intro e; cases e)) p.1 (by omega) (by omega) hm;refine ⟨z,H0,s',H1,H',a1,a2,a3,?_,a6,a7⟩
 let K:=L.cl.length
 let own:Nat→Prop:=fun id=>id=p.1∨fpt p.2.1 id∨fpt p.2.2.1 id∨fpt p.2.2.2 id
 have ownlt:∀id,own id→id<H.next:=by
  rintro id (e | e | e | e)
  ·rw [e]; exact hc.blk.low
  ·exact (SlG.fp hc.us e).2
  ·exact (SlG.fp hc.me e).2
  ·exact (SlG.fp hc.va e).2
 have keep:∀id,own id→¬(id=L.q∨fpt L.sC id):=fun id ho hw=>by
  rcases hw with e | e
  ·exact hd .q id e ho
  ·exact hd .C id e ho
 have hself:(L.cl++[p])[K]? = some p:=by rw [List.getElem?_append_right (Nat.le_refl _)]; simp [K]
 have hold':∀k,k≠K→(L.cl++[p])[k]? = L.cl[k]? := fun k hk=>by
  by_cases hlt:k<L.cl.length
  ·rw [List.getElem?_append_left hlt]
  ·rw [List.getElem?_eq_none (by simp; show L.cl.length+1≤k; have:k≠L.cl.length:=hk; omega),List.getElem?_eq_none (by omega)]
 have hnone:L.cl[K]? = none:=List.getElem?_eq_none (Nat.le_refl _);have hKc:K=x.g.cls.length:=h.cll
 let X:Comp→Prop:=fun d=>d=.q∨d=.C∨d=.blk K∨d=.us K∨d=.me K∨d=.va K
 refine h.stepN X (fun id=>H.next≤id∨own id) (fun d id hid hn=>?_) a6 (fun id hid=>.inl (hid.elim (fun e=>⟨.q,.inl rfl,e⟩) fun e=>⟨.C,.inr (.inl rfl),e⟩)) (fun d hdx=>?_) (fun d hdx=>?_) (fun d hdx id hid=>?_) (fun d d' hdx hdx' id h1 h2=>?_) h.nal (by show (L.cl++[p]).length=(x.g.cls++[c]).length; simp [h.cll]) h.fel
 ·rcases hn with hn | hn
  ·have:=(h.low hid).2; omega
  ·exact hd d id hid hn
 ·cases d with
  | blk k =>
   have hk:k≠K:=fun e=>hdx (.inr (.inr (.inl (by rw [e]))));refine ⟨fun hh p0 hp0=>?_,fun id hid=>?_⟩
   ·rw [z1k (by rw [← hKc]; exact hk)]; exact hh p0 ((hold' k hk).symm.trans hp0)
   ·obtain ⟨p0,hp0,e⟩:=hid; exact ⟨p0,(hold' k hk).symm.trans hp0,e⟩
  | us k =>
   have hk:k≠K:=fun e=>hdx (.inr (.inr (.inr (.inl (by rw [e])))));refine ⟨fun hh p0 hp0=>?_,fun id hid=>?_⟩
   ·rw [z1k (by rw [← hKc]; exact hk)]; exact hh p0 ((hold' k hk).symm.trans hp0)
   ·obtain ⟨p0,hp0,e⟩:=hid; exact ⟨p0,(hold' k hk).symm.trans hp0,e⟩
  | me k =>
   have hk:k≠K:=fun e=>hdx (.inr (.inr (.inr (.inr (.inl (by rw [e]))))));refine ⟨fun hh p0 hp0=>?_,fun id hid=>?_⟩
   ·rw [z1k (by rw [← hKc]; exact hk)]; exact hh p0 ((hold' k hk).symm.trans hp0)
   ·obtain ⟨p0,hp0,e⟩:=hid; exact ⟨p0,(hold' k hk).symm.trans hp0,e⟩
  | va k =>
   have hk:k≠K:=fun e=>hdx (.inr (.inr (.inr (.inr (.inr (by rw [e]))))));refine ⟨fun hh p0 hp0=>?_,fun id hid=>?_⟩
   ·rw [z1k (by rw [← hKc]; exact hk)]; exact hh p0 ((hold' k hk).symm.trans hp0)
   ·obtain ⟨p0,hp0,e⟩:=hid; exact ⟨p0,(hold' k hk).symm.trans hp0,e⟩
  | q=>exact absurd (.inl rfl) hdx
  | C=>exact absurd (.inr (.inl rfl)) hdx
  | _=>exact ⟨fun hh=>hh,fun id hid=>hid⟩
 ·rcases hdx with rfl | rfl | rfl | rfl | rfl | rfl
  ·exact a4
  ·show SlA EP T.P m H' ((L.cl++[p]).map (·.1)) s';rw [List.map_append];exact a5
  ·intro p0 hp0;have hp0:(L.cl++[p])[K]? = some p0:=hp0;rw [hself] at hp0; cases hp0;rw [hKc,z1p];exact hc.blk.fr a6 (keep _ (.inl rfl))
  ·intro p0 hp0;have hp0:(L.cl++[p])[K]? = some p0:=hp0;rw [hself] at hp0; cases hp0;rw [hKc,z1p];exact hc.us.fr a6 fun id hid=>keep id (.inr (.inl hid))
  ·intro p0 hp0;have hp0:(L.cl++[p])[K]? = some p0:=hp0;rw [hself] at hp0; cases hp0;rw [hKc,z1p];exact hc.me.fr a6 fun id hid=>keep id (.inr (.inr (.inl hid)))
  ·intro p0 hp0;have hp0:(L.cl++[p])[K]? = some p0:=hp0;rw [hself] at hp0; cases hp0;rw [hKc,z1p];exact hc.va.fr a6 fun id hid=>keep id (.inr (.inr (.inr hid)))
 ·rcases hdx with rfl | rfl | rfl | rfl | rfl | rfl
  ·exact .inl hid
  ·exact (a7 id hid).imp (fun h=>h) .inl
  all_goals
   obtain ⟨p0,hp0,e⟩:=hid;have hp0:(L.cl++[p])[K]? = some p0:=hp0;rw [hself] at hp0; cases hp0;first | exact .inr (.inr (.inl e)) | exact .inr (.inr (.inr (.inl e))) | exact .inr (.inr (.inr (.inr (.inl e)))) | exact .inr (.inr (.inr (.inr (.inr e))))
 ·have eq0:∀{d} {f:Nat×Sl3×Sl3×Sl3→Nat→Prop},(∃p0,(L.cl++[p])[K]? = some p0∧f p0 d)→f p d:=by
   rintro d f ⟨p0,hp0,e⟩
   rw [hself] at hp0; cases hp0;exact e
  have gb:∀{i},GL.fp { L with sC:=s',cl:=L.cl++[p] } (.blk K) i→i=p.1:=fun h=>eq0 (f:=fun p i=>i=p.1) h;have gu:∀{i},GL.fp { L with sC:=s',cl:=L.cl++[p] } (.us K) i→fpt p.2.1 i:=fun h=>eq0 (f:=fun p i=>fpt p.2.1 i) h;have gm:∀{i},GL.fp { L with sC:=s',cl:=L.cl++[p] } (.me K) i→fpt p.2.2.1 i:=fun h=>eq0 (f:=fun p i=>fpt p.2.2.1 i) h;have gv:∀{i},GL.fp { L with sC:=s',cl:=L.cl++[p] } (.va K) i→fpt p.2.2.2 i:=fun h=>eq0 (f:=fun p i=>fpt p.2.2.2 i) h;have qo:∀{i},i=L.q→own i→False:=fun e ho=>hd .q _ e ho;have co:∀{i},fpt s' i→own i→False:=fun {i} e ho=>by
   rcases a7 i e with e | e
   ·exact hd .C i e ho
   ·have:=ownlt i ho; omega
  have qc:∀{i},i=L.q→fpt s' i→False:=fun {i} e f=>a8 (by rw [← e]; exact f);rcases hdx with rfl | rfl | rfl | rfl | rfl | rfl <;> rcases hdx' with rfl | rfl | rfl | rfl | rfl | rfl <;> first
   | rfl
   | exact (qc h1 h2).elim | exact (qc h2 h1).elim
   | exact (qo h1 (.inl (gb h2))).elim | exact (qo h2 (.inl (gb h1))).elim
   | exact (qo h1 (.inr (.inl (gu h2)))).elim | exact (qo h2 (.inr (.inl (gu h1)))).elim
   | exact (qo h1 (.inr (.inr (.inl (gm h2))))).elim | exact (qo h2 (.inr (.inr (.inl (gm h1))))).elim
   | exact (qo h1 (.inr (.inr (.inr (gv h2))))).elim | exact (qo h2 (.inr (.inr (.inr (gv h1))))).elim
   | exact (co h1 (.inl (gb h2))).elim | exact (co h2 (.inl (gb h1))).elim
   | exact (co h1 (.inr (.inl (gu h2)))).elim | exact (co h2 (.inr (.inl (gu h1)))).elim
   | exact (co h1 (.inr (.inr (.inl (gm h2))))).elim | exact (co h2 (.inr (.inr (.inl (gm h1))))).elim
   | exact (co h1 (.inr (.inr (.inr (gv h2))))).elim | exact (co h2 (.inr (.inr (.inr (gv h1))))).elim
   | exact (hc.du (by rw [← gb h1]; exact gu h2)).elim | exact (hc.du (by rw [← gb h2]; exact gu h1)).elim
   | exact (hc.dm (by rw [← gb h1]; exact gm h2)).elim | exact (hc.dm (by rw [← gb h2]; exact gm h1)).elim
   | exact (hc.dv (by rw [← gb h1]; exact gv h2)).elim | exact (hc.dv (by rw [← gb h2]; exact gv h1)).elim
   | exact (hc.um _ (gu h1) (gm h2)).elim | exact (hc.um _ (gu h2) (gm h1)).elim
   | exact (hc.uv _ (gu h1) (gv h2)).elim | exact (hc.uv _ (gu h2) (gv h1)).elim
   | exact (hc.mv _ (gm h1) (gv h2)).elim | exact (hc.mv _ (gm h2) (gv h1)).elim
end Go.Abs.Eg
namespace Go.Abs.Eg
variable {T:Tys} {tx:Key→ByteArray} {m:Nat} {H H':AH} {L:GL} {x:Gh}
def addN (x:Gh) (y:Nd):Gh:=⟨{ x.g with N:=x.g.N++[y] },x.ids,x.sd,x.fe⟩
theorem z7x {y:Nd} {i:Nat} (hi:i≠x.g.N.length):(addN x y).g.args i=x.g.args i:=by
 unfold St.args;show (((x.g.N++[y])[i]?).map Nd.args).getD []=_;by_cases h:i<x.g.N.length
 ·rw [List.getElem?_append_left h]
 ·rw [List.getElem?_eq_none (by simp; omega),List.getElem?_eq_none (by omega)]
theorem z7g {y:Nd}:(addN x y).g.args x.g.N.length=y.args:=by
 unfold St.args;show (((x.g.N++[y])[x.g.N.length]?).map Nd.args).getD []=_;rw [List.getElem?_append_right (Nat.le_refl _)];simp
theorem zbw {N:List Nd} {na:List Sl3} (hl:na.length=N.length) (y:Nd) (s:Sl3):nodeL (N++[y]) (na++[s])=nodeL N na++[(y.sym,s,y.value)]:=by
 unfold nodeL;rw [List.zipWith_append hl.symm];rfl
theorem Rep.pushN (h:Rep T tx m H L x) (y:Nd) {sl:Sl3} (hs:SlA EI T.I m H y.args sl) (hd:∀c id,L.fp c id→¬fpt sl id) (hl:x.g.N.length≤1048576) (hm:m≤H.next) :
  ∃z H0 s' H1 H',newR T.N 1 #[.int .i64 y.sym,Sl3.v sl,.bool y.value] H=some (z,H0)∧appS m T.N 3 40 H0 L.sN z=some (s',H1)∧H1.setCell m ((⟨L.q,0,none⟩:Addr).add 0) (Sl3.v s')=some H'∧Rep T tx m H' { L with sN:=s',na:=L.na++[sl] } (addN x y) ∧
   Fm (fun i=>i=L.q∨fpt L.sN i) H H'∧(∀i,fpt s' i→fpt L.sN i∨H.next≤i):=by
 have hll:(nodeL x.g.N L.na).length=x.g.N.length:=by
  unfold nodeL; rw [List.length_zipWith,h.nal]; exact Nat.min_self _
 obtain ⟨z,H0,s',H1,H',a1,_,_,a2,a3,a4,a5,a6,a7,a8⟩:=J5 (E:=EN) (bytes:=40) (j:=0) (show ArrV T.G m H L.q (qCells L) from h.hold .q) rfl (show SlA EN T.N m H (nodeL x.g.N L.na) L.sN from h.hold .N) (h.dq (c:=.N) (by intro e; cases e)) (y.sym,sl,y.value) (by omega) (by omega) hm;refine ⟨z,H0,s',H1,H',a1,a2,a3,?_,a6,a7⟩
 let K:=L.na.length
 have hKc:K=x.g.N.length:=h.nal;have keep:∀id,fpt sl id→¬(id=L.q∨fpt L.sN id):=fun id ho hw=>by
  rcases hw with e | e
  ·exact hd .q id e ho
  ·exact hd .N id e ho
 have hself:(L.na++[sl])[K]? = some sl:=by rw [List.getElem?_append_right (Nat.le_refl _)]; simp [K]
 have hold':∀k,k≠K→(L.na++[sl])[k]? = L.na[k]? := fun k hk=>by
  by_cases hlt:k<L.na.length
  ·rw [List.getElem?_append_left hlt]
  ·rw [List.getElem?_eq_none (by simp; show L.na.length+1≤k; have:k≠L.na.length:=hk; omega),List.getElem?_eq_none (by omega)]
 let X:Comp→Prop:=fun d=>d=.q∨d=.N∨d=.na K
 refine h.stepN X (fun id=>H.next≤id∨fpt sl id) (fun d id hid hn=>?_) a6 (fun id hid=>.inl (hid.elim (fun e=>⟨.q,.inl rfl,e⟩) fun e=>⟨.N,.inr (.inl rfl),e⟩)) (fun d hdx=>?_) (fun d hdx=>?_) (fun d hdx id hid=>?_) (fun d d' hdx hdx' id h1 h2=>?_) (by show (L.na++[sl]).length=(x.g.N++[y]).length; simp [h.nal]) h.cll h.fel
 ·rcases hn with hn | hn
  ·have:=(h.low hid).2; omega
  ·exact hd d id hid hn
 ·cases d with
  | na k =>
   have hk:k≠K:=fun e=>hdx (.inr (.inr (by rw [e])));refine ⟨fun hh p0 hp0=>?_,fun id hid=>?_⟩
   ·rw [z7x (by rw [← hKc]; exact hk)]; exact hh p0 ((hold' k hk).symm.trans hp0)
   ·obtain ⟨p0,hp0,e⟩:=hid; exact ⟨p0,(hold' k hk).symm.trans hp0,e⟩
  | q=>exact absurd (.inl rfl) hdx
  | N=>exact absurd (.inr (.inl rfl)) hdx
  | _=>exact ⟨fun hh=>hh,fun id hid=>hid⟩
 ·rcases hdx with rfl | rfl | rfl
  ·exact a4
  ·show SlA EN T.N m H' (nodeL (x.g.N++[y]) (L.na++[sl])) s';rw [zbw h.nal];exact a5
  ·intro p0 hp0;have hp0:(L.na++[sl])[K]? = some p0:=hp0;rw [hself] at hp0; cases hp0;rw [hKc,z7g];exact hs.fr a6 fun id hid=>keep id hid
 ·rcases hdx with rfl | rfl | rfl
  ·exact .inl hid
  ·exact (a7 id hid).imp (fun h=>h) .inl
  ·obtain ⟨p0,hp0,e⟩:=hid;have hp0:(L.na++[sl])[K]? = some p0:=hp0;rw [hself] at hp0; cases hp0;exact .inr (.inr e)
 ·have gn:∀{i},GL.fp { L with sN:=s',na:=L.na++[sl] } (.na K) i→fpt sl i:=fun h=>by
   obtain ⟨p0,hp0,e⟩:=h;have hp0:(L.na++[sl])[K]? = some p0:=hp0;rw [hself] at hp0; cases hp0;exact e
  have qo:∀{i},i=L.q→fpt sl i→False:=fun e ho=>hd .q _ e ho;have co:∀{i},fpt s' i→fpt sl i→False:=fun {i} e ho=>by
   rcases a7 i e with e | e
   ·exact hd .N i e ho
   ·have:=(SlG.fp hs ho).2; omega
  have qc:∀{i},i=L.q→fpt s' i→False:=fun {i} e f=>a8 (by rw [← e]; exact f);rcases hdx with rfl | rfl | rfl <;> rcases hdx' with rfl | rfl | rfl <;> first
   | rfl
   | exact (qc h1 h2).elim | exact (qc h2 h1).elim
   | exact (qo h1 (gn h2)).elim | exact (qo h2 (gn h1)).elim
   | exact (co h1 (gn h2)).elim | exact (co h2 (gn h1)).elim
theorem z6u (o:Nat→Nat) (n:Nat):∀(ays:List Nat) (a:Nat) (cs:List Cl),addU o n (ays++[a]) cs=(addU o n ays cs).modify (o a) fun c=>{ c with uses:=c.uses++[n] }
 | [],a,cs=>rfl
 | b :: ays,a,cs=>z6u o n ays a _
theorem zbe (cs:List Cl) (t:Nat) (f:Cl→Cl) (ht:t<cs.length):cs.set t (f (cs.getD t Cl.nil))=cs.modify t f:=by
 refine List.ext_getElem? fun k=>?_;rw [List.getElem?_modify];by_cases hk:t=k
 ·subst hk;rw [List.getElem?_set_self ht,List.getD_eq_getElem?_getD,List.getElem?_eq_getElem ht];simp
 ·rw [List.getElem?_set_ne hk];cases cs[k]? <;> simp [hk]
end Go.Abs.Eg
namespace Go.Abs.Eg
variable {T:Tys} {tx:Key→ByteArray} {m:Nat} {H H':AH} {L:GL} {x:Gh} {p:Nat×Sl3×Sl3×Sl3} {c:Cl}
theorem zav {j id:Nat} (h:fpt (⟨some ⟨j,0,none⟩,1,1⟩:Sl3) id):id=j:=by
 obtain ⟨_,a,ha,rfl⟩:=h;cases ha;rfl
def ownC (p:Nat×Sl3×Sl3×Sl3) (id:Nat):Prop:=id=p.1∨fpt p.2.1 id∨fpt p.2.2.1 id∨fpt p.2.2.2 id
theorem ClA.fr {W:Nat→Prop} (h:ClA T m H p c) (hf:Fm W H H') (hw:∀id,ownC p id→¬W id):ClA T m H' p c :=
 ⟨h.blk.fr hf (hw _ (.inl rfl)),h.us.fr hf fun id hi=>hw _ (.inr (.inl hi)),h.me.fr hf fun id hi=>hw _ (.inr (.inr (.inl hi))),h.va.fr hf fun id hi=>hw _ (.inr (.inr (.inr hi))),h.du,h.dm,h.dv,h.um,h.uv,h.mv⟩
theorem ClA.lt (h:ClA T m H p c) {id:Nat} (ho:ownC p id):m≤id∧id<H.next:=by
 rcases ho with e | e | e | e
 ·rw [e]; exact ⟨h.blk.own,h.blk.low⟩
 ·exact SlG.fp h.us e
 ·exact SlG.fp h.me e
 ·exact SlG.fp h.va e
theorem zct (hm:m≤H.next) (n:Nat) (b:Bool):∃s1 H2 p H4 H5,newR T.I 1 #[.int .i64 (n:Int)] H=some (s1,H2)∧newB T.C [Sl3.v Sl3.nil,Sl3.v s1,Sl3.v Sl3.nil,.int .i64 (n:Int)] H2=some (⟨p.1,0,none⟩,H4) ∧
  (b=false∧H5=H4∨b=true∧∃s10 H11,newR T.I 1 #[.int .i64 (n:Int)] H4=some (s10,H11)∧H11.setCell m ((⟨p.1,0,none⟩:Addr).add 2) (Sl3.v s10)=some H5) ∧
  ClA T m H5 p ⟨[],[n],if b then [n] else [],n⟩∧Ext H H4∧Ext H H5∧∀id,ownC p id→H.next≤id:=by
 let B1:Blk:={ obj:=.cells (EI.enc n).toArray T.I (0,0),opn:=false,esz:=0,ro:=false }
 let H2:=H.push B1
 let s1:Sl3:=⟨some ⟨H.next,0,none⟩,1,1⟩
 have x1:Ext H H2:=Fm.push _ _ _;have g1:SlA EI T.I m H2 [n] s1:=SlA.row (E:=EI) n hm
 let cs:List Value:=[Sl3.v Sl3.nil,Sl3.v s1,Sl3.v Sl3.nil,.int .i64 (n:Int)]
 let H4:=H2.push (pubB T.C cs)
 have x2:Ext H2 H4:=Fm.push _ _ _;have hm2:m≤H2.next:=Nat.le_trans hm x1.1;have n2:H2.next=H.next+1:=AH.next_push _ _;have n4:H4.next=H.next+2:=by show (H2.push _).next=_; rw [AH.next_push,n2]
 have g2:ArrV T.C m H4 H2.next cs:=ArrV.new hm2;have f1:∀{id},fpt s1 id→id=H.next:=fun h=>zav h;cases b with
 | false =>
  refine ⟨s1,H2,(H2.next,Sl3.nil,s1,Sl3.nil),H4,H4,rfl,rfl,.inl ⟨rfl,rfl⟩,⟨g2,SlA.nil,g1.ext x2,SlA.nil,O1,fun h=>?_,O1,fun id h=>(O1 h).elim,fun id h=>(O1 h).elim,fun id h h'=>O1 h'⟩,x1.trans x2,x1.trans x2,?_⟩
  ·have:=f1 h;have:H2.next=H.next:=this;omega
  ·rintro id (e | e | e | e)
   ·have e:id=H2.next:=e;omega
   ·exact (O1 e).elim
   ·have:=f1 e; omega
   ·exact (O1 e).elim
 | true =>
  let B3:Blk:={ obj:=.cells (EI.enc n).toArray T.I (0,0),opn:=false,esz:=0,ro:=false }
  let H11:=H4.push B3
  have x3:Ext H4 H11:=Fm.push _ _ _
  let s10:Sl3:=⟨some ⟨H4.next,0,none⟩,1,1⟩
  have hm4:m≤H4.next:=Nat.le_trans hm2 x2.1;have g3:SlA EI T.I m H11 [n] s10:=SlA.row (E:=EI) n hm4;have f2:∀{id},fpt s10 id→id=H4.next:=fun h=>zav h;obtain ⟨H5,a1,a2,a3,a4⟩:=(g2.ext x3).put (j:=2) (by show 2<4; omega) (Sl3.v s10);have keep:∀{s:Sl3} {id},fpt s id→id≠H2.next→¬id=H2.next:=fun _ h=>h;have xx:Ext H H5:=⟨Nat.le_trans x1.1 (Nat.le_trans x2.1 (Nat.le_trans x3.1 a3.1)),fun id b hid hw hg=>a3.2 id b (by have:=x3.1; omega) (by show ¬id=H2.next; omega) (x3.2 id b (by omega) hw (x2.2 id b (by omega) hw (x1.2 id b hid hw hg)))⟩;refine ⟨s1,H2,(H2.next,Sl3.nil,s1,s10),H4,H5,rfl,rfl,.inr ⟨rfl,s10,H11,rfl,a1⟩,⟨a2,SlA.nil,((g1.ext x2).ext x3).fr a3 fun id h=>?_,g3.fr a3 fun id h=>?_,O1,fun h=>?_,fun h=>?_,fun id h=>(O1 h).elim,fun id h=>(O1 h).elim,fun id h h'=>?_⟩,x1.trans x2,xx,?_⟩
  ·have:=f1 h; omega
  ·have:=f2 h; omega
  ·have:=f1 h;have:H2.next=H.next:=this;omega
  ·have:=f2 h;have:H2.next=H4.next:=this;omega
  ·have:=f1 h; have:=f2 h'; omega
  ·rintro id (e | e | e | e)
   ·have e:id=H2.next:=e;omega
   ·exact (O1 e).elim
   ·have:=f1 e; omega
   ·have:=f2 e; omega
theorem fpO {s':Sl3} {n0:Nat} (hs:∀i,fpt s' i→fpt L.sO i∨n0≤i):∀c id,GL.fp { L with sO:=s' } c id→L.fp c id∨n0≤id:=by
 intro c id h;cases c <;> first | exact .inl h | exact hs id h
theorem fpF {s':Sl3} {n0:Nat} (hs:∀i,fpt s' i→fpt L.sF i∨n0≤i):∀c id,GL.fp { L with sF:=s' } c id→L.fp c id∨n0≤id:=by
 intro c id h;cases c <;> first | exact .inl h | exact hs id h
theorem fpS {s':Sl3} {n0:Nat} (hs:∀i,fpt s' i→fpt L.sS i∨n0≤i):∀c id,GL.fp { L with sS:=s' } c id→L.fp c id∨n0≤id:=by
 intro c id h;cases c <;> first | exact .inl h | exact hs id h
theorem G9 {α:Type} {l:List α} {a b:α} {k:Nat} (h:(l++[a])[k]? = some b):l[k]? = some b∨b=a:=by
 by_cases hk:k<l.length
 ·rw [List.getElem?_append_left hk] at h; exact .inl h
 ·rw [List.getElem?_append_right (by omega)] at h;have:=(List.getElem?_eq_some_iff.1 h).1;simp only [List.length_singleton] at this;rw [show k - l.length=0 by omega] at h;simp at h;exact .inr h.symm
theorem fpC {s':Sl3} {n0:Nat} {p:Nat×Sl3×Sl3×Sl3} (hs:∀i,fpt s' i→fpt L.sC i∨n0≤i) (hp:∀id,ownC p id→n0≤id):∀c id,GL.fp { L with sC:=s',cl:=L.cl++[p] } c id→L.fp c id∨n0≤id:=by
 intro c id h;cases c with
 | C=>exact hs id h
 | blk k =>
  obtain ⟨p0,h0,e⟩:=h;rcases G9 h0 with h0 | rfl
  ·exact .inl ⟨p0,h0,e⟩
  ·exact .inr (hp id (.inl e))
 | us k =>
  obtain ⟨p0,h0,e⟩:=h;rcases G9 h0 with h0 | rfl
  ·exact .inl ⟨p0,h0,e⟩
  ·exact .inr (hp id (.inr (.inl e)))
 | me k =>
  obtain ⟨p0,h0,e⟩:=h;rcases G9 h0 with h0 | rfl
  ·exact .inl ⟨p0,h0,e⟩
  ·exact .inr (hp id (.inr (.inr (.inl e))))
 | va k =>
  obtain ⟨p0,h0,e⟩:=h;rcases G9 h0 with h0 | rfl
  ·exact .inl ⟨p0,h0,e⟩
  ·exact .inr (hp id (.inr (.inr (.inr e))))
 | _=>exact .inl h
theorem fpN {s' sl:Sl3} {n0:Nat} (hs:∀i,fpt s' i→fpt L.sN i∨n0≤i) (hp:∀id,fpt sl id→n0≤id):∀c id,GL.fp { L with sN:=s',na:=L.na++[sl] } c id→L.fp c id∨n0≤id:=by
 intro c id h;cases c with
 | N=>exact hs id h
 | na k =>
  obtain ⟨p0,h0,e⟩:=h;rcases G9 h0 with h0 | rfl
  ·exact .inl ⟨p0,h0,e⟩
  ·exact .inr (hp id e)
 | _=>exact .inl h
end Go.Abs.Eg
namespace Go.Abs.Eg
def putP (N:List Nd) (y:Nd):Int×Int×List Nd:=match N.findIdx? (fun z=>decide (z=y)) with
 | some i=>((i:Nat),0,N)
 | none=>if 1048576≤N.length then (0,3,N) else ((N.length:Nat),0,N++[y])
def okA (N:List Nd) (a:Int):Bool:=decide (0≤a∧a<(N.length:Nat))
def addP (N:List Nd) (s:Int) (ays:List Int):Int×Int×List Nd :=
 if 64<ays.length then (0,51,N) else if ays.all (okA N) then putP N ⟨false,s,ays.map Int.toNat⟩ else (0,150,N)
def valP (N:List Nd) (s:Int):Int×Int×List Nd:=putP N ⟨true,s,[]⟩
def sayP (N:List Nd) (sd:List Sd) (s:Sd):Int×List Sd:=if okA N s.1&&okA N s.2.1 then (0,sd++[s]) else (150,sd)
def keyN (y:Nd):Key:=(y.value,y.sym,y.args)
theorem zeg {y z:Nd} (h:keyN y=keyN z):y=z:=by
 cases y; cases z;simp only [keyN,Prod.mk.injEq] at h;obtain ⟨rfl,rfl,rfl⟩:=h;rfl
def IdsOK (f:Key→Option Nat) (N:List Nd):Prop:=∀y:Nd,f (keyN y)=N.findIdx? fun z=>decide (z=y)
theorem IdsOK.push {f:Key→Option Nat} {N:List Nd} (h:IdsOK f N) {y:Nd} (hn:f (keyN y)=none):IdsOK (fun k=>if k=keyN y then some N.length else f k) (N++[y]):=by
 intro z;rw [List.findIdx?_append,← h z];simp only;by_cases e:z=y
 ·subst e;rw [if_pos rfl,hn];simp
 ·rw [if_neg fun hh=>e (zeg hh)];cases hf:f (keyN z) with
  | some i=>rfl
  | none=>simp [Ne.symm e]
def totN (N:List Nd):Nat:=(N.map fun y=>y.args.length).sum
theorem tot_eq (g:St):tot g=totN g.N:=by
 unfold tot totN St.n;have:∀(N:List Nd),(List.range N.length).map (fun u=>(((N[u]?).map Nd.args).getD []).length)=N.map fun y=>y.args.length:=by
  intro N;refine List.ext_getElem? fun i=>?_;rw [List.getElem?_map,List.getElem?_map];by_cases h:i<N.length
  ·rw [List.getElem?_range h,List.getElem?_eq_getElem h];simp [h]
  ·rw [List.getElem?_eq_none (by simp; omega),List.getElem?_eq_none (by omega)];rfl
 rw [← this g.N];rfl
theorem zcn (N:List Nd) (y:Nd):totN (N++[y])=totN N+y.args.length:=by
 unfold totN;simp
def Mof (sd:List Sd):List (Nat×Nat):=sd.filterMap fun s=>if s.2.2.2 then none else some (s.1.toNat,s.2.1.toNat)
theorem z8h (sd:List Sd) (s:Sd):Mof (sd++[s])=Mof sd++(if s.2.2.2 then [] else [(s.1.toNat,s.2.1.toNat)]):=by
 unfold Mof;rw [List.filterMap_append]
 congr 1
 cases h:s.2.2.2 <;> simp [h]
theorem c8 {N:List Nd} {a:Int}:okA N a=true↔∃n:Nat,a=n∧n<N.length:=by
 unfold okA;rw [decide_eq_true_iff];constructor
 ·rintro ⟨h1,h2⟩; exact ⟨a.toNat,by omega,by omega⟩
 ·rintro ⟨n,rfl,h⟩; omega
theorem zgb {α:Type} {E:Enc α} {e:TypeId} {m:Nat} {H:AH} {l:List α} {s:Sl3} (h:VecA E e m H l s) {id:Nat} (hf:fpt s id):owns s id:=by
 unfold VecA at h;cases h with
 | nil hn hv=>exact absurd hf O1
 | zero a ha hn hv=>exact absurd rfl hf.1
 | opn id' off cs hm hid' hg hl ho hx=>exact ⟨rfl,hf.2⟩
theorem SlA.down {α:Type} {E:Enc α} {e:TypeId} {m m':Nat} {H:AH} {l:List α} {s:Sl3} (h:SlA E e m' H l s) (hm:m≤m'):SlA E e m H l s:=by
 cases h with
 | own h =>
  refine .own ?_;cases h with
  | nil hn hv=>exact .nil hn hv
  | zero a ha hn hv=>exact .zero a ha hn hv
  | opn id off cs hm' hid' hg hl ho hx=>exact .opn id off cs (by omega) hid' hg hl ho hx
 | full id hm' hid hg hl ho hn hN=>exact .full id (by omega) hid hg hl ho hn hN
structure AR (H:AH) (s:Sl3) (ays:List Int):Prop where
 n:s.n=ays.length
 rdv:RdV 1 H s ays.length (ays.flatMap EZ.enc)
 at_:∀(i:Nat) (hi:i<ays.length),∃q,idxA 1 s (i:Int)=some q∧rd (deI .i64) H q=some ays[i]
theorem z5c:∀{ays:List Int},(∀a∈ays,0≤a)→ays.flatMap EZ.enc=(ays.map Int.toNat).flatMap EI.enc
 | [],_=>rfl
 | a :: ays,h=>by
  rw [List.map_cons,List.flatMap_cons,List.flatMap_cons,z5c (ays:=ays) fun b hb=>h b (List.mem_cons_of_mem _ hb)];have:EZ.enc a=EI.enc a.toNat:=by
   show [Value.int .i64 a]=[Value.int .i64 ((a.toNat:Nat):Int)];rw [Int.toNat_of_nonneg (h a List.mem_cons_self)]
  rw [this]
theorem scanI {S R:Type} {f:S→Option (Lp S R)} (n:Nat) (P:Nat→Bool) (st:Nat→S) (rt:Nat→R)
  (hn:∀i,i<n→P i=false→f (st i)=some (.next (st (i+1)))) (hf:∀i,i<n→P i=true→f (st i)=some (.ret (rt i))) (hb:f (st n)=some (.brk (st n))) :
  (∃i,i<n∧P i=true∧(∀j,j<i→P j=false)∧loopO f (st 0)=some (.inr (rt i)))∨((∀i,i<n→P i=false)∧loopO f (st 0)=some (.inl (st n))):=by
 have loop:∀(d i:Nat),i+d=n→(∀j,j<i→P j=false)→(∃j,j<n∧P j=true∧(∀l,l<j→P l=false)∧loopO f (st i)=some (.inr (rt j)))∨((∀j,j<n→P j=false)∧loopO f (st i)=some (.inl (st n))):=by
  intro d;induction d with
  | zero =>
   intro i hi hall;have:i=n:=by omega
   subst this;exact .inr ⟨hall,D4 hb⟩
  | succ d ih =>
   intro i hi hall;have hil:i<n:=by omega
   cases hP:P i with
   | true=>exact .inl ⟨i,hil,hP,hall,z3q (hf i hil hP)⟩
   | false =>
    rw [V2 (hn i hil hP)];refine ih (i+1) (by omega) fun j hj=>?_;by_cases e:j=i
    ·subst e; exact hP
    ·exact hall j (by omega)
 exact loop n 0 (by omega) fun j hj=>absurd hj (Nat.not_lt_zero j)
theorem z7i {N:List Nd} {y:Nd} {i:Nat} (hi:i<N.length) (hy:N[i]=y) (hf:∀j (hj:j<i),N[j]'(by omega)≠y):N.findIdx? (fun z=>decide (z=y))=some i:=by
 rw [List.findIdx?_eq_some_iff_getElem];exact ⟨hi,by simpa using hy,fun j hj=>by simpa using hf j hj⟩
theorem z8n {N:List Nd} {y:Nd} (hf:∀j (hj:j<N.length),N[j]≠y):N.findIdx? (fun z=>decide (z=y))=none:=by
 rw [List.findIdx?_eq_none_iff];intro z hz;obtain ⟨j,hj,rfl⟩:=List.mem_iff_getElem.1 hz
 simpa using hf j hj
def ER:Enc (Int×Bool×Sl3):=⟨fun x=>[.int .i64 x.1,.bool x.2.1,x.2.2.v],3,fun _=>rfl,fun _=>rfl⟩
theorem rd_ER {l:List (Int×Bool×Sl3)} {e:TypeId} {m:Nat} {H:AH} {s:Sl3} (h:SlA ER e m H l s) {i:Nat} (hi:i<l.length) {v:Int} (hv:v=i) :
  ∃q,idxA 3 s v=some q∧rd (deI .i64) H (q.add 0)=some l[i].1∧rd deB H (q.add 1)=some l[i].2.1∧rd deSl H (q.add 2)=some l[i].2.2:=by
 obtain ⟨a,h1,h2,h3,h4⟩:=h.at_ (by show 0<3; omega) hi hv;refine ⟨_,h2,?_,?_,?_⟩
 ·rw [(h4 0 _ rfl).rd]; rfl
 ·rw [(h4 1 _ rfl).rd]; rfl
 ·rw [(h4 2 _ rfl).rd]; rfl
def refL (N:List Nd) (na:List Sl3):List (Int×Bool×Sl3):=List.zipWith (fun x s=>(x.sym,x.value,s)) N na
structure RL where
 q:Nat
 sN:Sl3
 sS:Sl3
 na:List Sl3
def RL.fp (R:RL) (id:Nat):Prop:=id=R.q∨fpt R.sN id∨fpt R.sS id∨∃s∈R.na,fpt s id
structure RR (tq tN tS:TypeId) (m:Nat) (H:AH) (R:RL) (N:List Nd) (sd:List Sd):Prop where
 q:ArrV tq m H R.q [R.sN.v,R.sS.v,Sl3.v Sl3.nil]
 hN:SlA ER tN m H (refL N R.na) R.sN
 hS:SlA ES tS m H sd R.sS
 nal:R.na.length=N.length
 na:∀(i:Nat) (y:Nd) (s:Sl3),N[i]? = some y→R.na[i]? = some s→SlA EI 3 m H y.args s
 dN:¬fpt R.sN R.q
 dS:¬fpt R.sS R.q
 dNS:∀id,fpt R.sN id→¬fpt R.sS id
 dA:∀s∈R.na,∀id,fpt s id→id≠R.q∧¬fpt R.sN id∧¬fpt R.sS id
variable {tq tN tS:TypeId} {m:Nat} {H H':AH} {R:RL} {N:List Nd} {sd:List Sd}
theorem RR.low (h:RR tq tN tS m H R N sd) {id:Nat} (hf:R.fp id):m≤id∧id<H.next:=by
 rcases hf with e | e | e | ⟨s,hs,e⟩
 ·rw [e]; exact ⟨h.q.own,h.q.low⟩
 ·exact SlG.fp h.hN e
 ·exact SlG.fp h.hS e
 ·obtain ⟨i,hi,rfl⟩:=List.mem_iff_getElem.1 hs;exact SlG.fp (h.na i _ _ (List.getElem?_eq_getElem (by rw [← h.nal]; exact hi)) (List.getElem?_eq_getElem hi)) e
theorem RR.fr {W:Nat→Prop} (h:RR tq tN tS m H R N sd) (hf:Fm W H H') (hw:∀id,R.fp id→¬W id):RR tq tN tS m H' R N sd :=
 ⟨h.q.fr hf (hw _ (.inl rfl)),h.hN.fr hf fun id hi=>hw id (.inr (.inl hi)),h.hS.fr hf fun id hi=>hw id (.inr (.inr (.inl hi))),h.nal,fun i y s h1 h2=>(h.na i y s h1 h2).fr hf fun id hi=>hw id (.inr (.inr (.inr ⟨s,List.mem_of_getElem? h2,hi⟩))),h.dN,h.dS,h.dNS,h.dA⟩
theorem RR.ext (h:RR tq tN tS m H R N sd) (hf:Ext H H'):RR tq tN tS m H' R N sd:=h.fr hf fun _ _ h=>h
theorem l7 (h:R.na.length=N.length):(refL N R.na).length=N.length:=by
 unfold refL;rw [List.length_zipWith,h]; exact Nat.min_self _
theorem z6z {na:List Sl3} (hl:na.length=N.length) (y:Nd) (s:Sl3):refL (N++[y]) (na++[s])=refL N na++[(y.sym,y.value,s)]:=by
 unfold refL;rw [List.zipWith_append hl.symm];rfl
theorem RR.node (h:RR tq tN tS m H R N sd) {i:Nat} (hi:i<N.length) {v:Int} (hv:v=i) :
  ∃q s,idxA 3 R.sN v=some q∧rd (deI .i64) H (q.add 0)=some N[i].sym∧rd deB H (q.add 1)=some N[i].value∧rd deSl H (q.add 2)=some s∧SlA EI 3 m H N[i].args s∧R.na[i]? = some s:=by
 have hi2:i<R.na.length:=by rw [h.nal]; exact hi
 obtain ⟨q,h1,h2,h3,h4⟩:=rd_ER h.hN (i:=i) (by rw [l7 h.nal]; exact hi) hv;have he:(refL N R.na)[i]'(by rw [l7 h.nal]; exact hi)=(N[i].sym,N[i].value,R.na[i]):=by
  simp [refL]
 rw [he] at h2 h3 h4;exact ⟨q,R.na[i],h1,h2,h3,h4,h.na i _ _ (List.getElem?_eq_getElem hi) (List.getElem?_eq_getElem hi2),List.getElem?_eq_getElem hi2⟩
theorem RR.pushN (h:RR tq tN tS m H R N sd) (y:Nd) {sl:Sl3} (hs:SlA EI 3 m H y.args sl) (hd:∀id,R.fp id→¬fpt sl id) (hl:N.length≤1048576) (hm:m≤H.next) :
  ∃z H0 s' H1 H',newR tN 1 #[.int .i64 y.sym,.bool y.value,Sl3.v sl] H=some (z,H0)∧appS m tN 3 40 H0 R.sN z=some (s',H1)∧H1.setCell m ((⟨R.q,0,none⟩:Addr).add 0) (Sl3.v s')=some H'∧RR tq tN tS m H' { R with sN:=s',na:=R.na++[sl] } (N++[y]) sd ∧
   Fm (fun i=>i=R.q∨fpt R.sN i) H H'∧(∀i,fpt s' i→fpt R.sN i∨H.next≤i):=by
 have hll:=l7 (R:=R) h.nal;obtain ⟨z,H0,s',H1,H',a1,_,_,a2,a3,a4,a5,a6,a7,a8⟩:=J5 (E:=ER) (bytes:=40) (j:=0) h.q rfl h.hN h.dN (y.sym,y.value,sl) (by omega) (by omega) hm;refine ⟨z,H0,s',H1,H',a1,a2,a3,⟨a4,?_,?_,by simp [h.nal],fun i y' s h1 h2=>?_,a8,h.dS,fun id h1 h2=>?_,fun s hs' id hi=>?_⟩,a6,a7⟩
 ·show SlA ER tN m H' (refL (N++[y]) (R.na++[sl])) s';rw [z6z h.nal];exact a5
 ·exact h.hS.fr a6 fun id hi hw=>by
   rcases hw with e | e
   ·exact h.dS (e▸hi)
   ·exact h.dNS id e hi
 ·have h2:(R.na++[sl])[i]? = some s:=h2;by_cases hi:i<N.length
  ·rw [List.getElem?_append_left hi] at h1;rw [List.getElem?_append_left (by rw [h.nal]; exact hi)] at h2;exact (h.na i y' s h1 h2).fr a6 fun id hid hw=>by
    obtain ⟨e1,e2,e3⟩:=h.dA s (List.mem_of_getElem? h2) id hid;rcases hw with e | e
    ·exact e1 e
    ·exact e2 e
  ·have hlt:=(List.getElem?_eq_some_iff.1 h1).1;simp at hlt;have:i=N.length:=by omega
   subst this;rw [List.getElem?_append_right (Nat.le_refl _)] at h1;rw [List.getElem?_append_right (by rw [h.nal]; exact Nat.le_refl _),h.nal] at h2;simp at h1 h2;subst h1; subst h2;exact hs.fr a6 fun id hid hw=>by
    rcases hw with e | e
    ·exact hd id (.inl e) hid
    ·exact hd id (.inr (.inl e)) hid
 ·rcases a7 id h1 with e | e
  ·exact h.dNS id e h2
  ·have:=(SlG.fp h.hS h2).2; omega
 ·rcases List.mem_append.1 hs' with h1 | h1
  ·obtain ⟨e1,e2,e3⟩:=h.dA s h1 id hi;refine ⟨e1,fun h2=>?_,e3⟩;rcases a7 id h2 with e | e
   ·exact e2 e
   ·have:=(h.low (id:=id) (.inr (.inr (.inr ⟨s,h1,hi⟩)))).2; omega
  ·rw [List.mem_singleton] at h1;subst h1;refine ⟨fun e=>hd id (.inl e) hi,fun h2=>?_,fun h2=>hd id (.inr (.inr (.inl h2))) hi⟩;rcases a7 id h2 with e | e
   ·exact hd id (.inr (.inl e)) hi
   ·have:=(SlG.fp hs hi).2; omega
theorem RR.pushS (h:RR tq tN tS m H R N sd) (s:Sd) (hl:sd.length≤1048576) (hm:m≤H.next) :
  ∃z H0 s' H1 H',newR tS 1 #[.int .i64 s.1,.int .i64 s.2.1,.int .i64 s.2.2.1,.bool s.2.2.2] H=some (z,H0)∧appS m tS 4 32 H0 R.sS z=some (s',H1)∧H1.setCell m ((⟨R.q,0,none⟩:Addr).add 1) (Sl3.v s')=some H'∧RR tq tN tS m H' { R with sS:=s' } N (sd++[s]) ∧
   Fm (fun i=>i=R.q∨fpt R.sS i) H H'∧(∀i,fpt s' i→fpt R.sS i∨H.next≤i):=by
 obtain ⟨z,H0,s',H1,H',a1,_,_,a2,a3,a4,a5,a6,a7,a8⟩:=J5 (E:=ES) (bytes:=32) (j:=1) h.q rfl h.hS h.dS s (by omega) (by omega) hm;refine ⟨z,H0,s',H1,H',a1,a2,a3,⟨a4,?_,a5,h.nal,fun i y s0 h1 h2=>?_,h.dN,a8,fun id h1 h2=>?_,fun s0 hs' id hi=>?_⟩,a6,a7⟩
 ·exact h.hN.fr a6 fun id hi hw=>by
   rcases hw with e | e
   ·exact h.dN (e▸hi)
   ·exact h.dNS id hi e
 ·exact (h.na i y s0 h1 h2).fr a6 fun id hid hw=>by
   obtain ⟨e1,e2,e3⟩:=h.dA s0 (List.mem_of_getElem? h2) id hid;rcases hw with e | e
   ·exact e1 e
   ·exact e3 e
 ·rcases a7 id h2 with e | e
  ·exact h.dNS id h1 e
  ·have:=(SlG.fp h.hN h1).2; omega
 ·obtain ⟨e1,e2,e3⟩:=h.dA s0 hs' id hi;refine ⟨e1,e2,fun h2=>?_⟩;rcases a7 id h2 with e | e
  ·exact e3 e
  ·have:=(h.low (id:=id) (.inr (.inr (.inr ⟨s0,hs',hi⟩)))).2; omega
theorem RR.new (hm:m≤H.next):RR tq tN tS m (H.push (pubB tq [Sl3.v Sl3.nil,Sl3.v Sl3.nil,Sl3.v Sl3.nil])) ⟨H.next,Sl3.nil,Sl3.nil,[]⟩ [] [] :=
 ⟨ArrV.new hm,SlA.nil,SlA.nil,rfl,fun i y s h=>(by cases h),O1,O1,fun id h=>(O1 h).elim,fun s h=>(by cases h)⟩
end Go.Abs.Eg
namespace Go.Abs.Eg
structure NOK (N:List Nd):Prop where
 nd:N.Nodup
 va:∀y∈N,y.value=true→y.args=[]
theorem NOK.nil:NOK []:=⟨by simp,fun y h=>by cases h⟩
theorem NOK.put {N:List Nd} (h:NOK N) {y:Nd} (hy:y.value=true→y.args=[]):NOK (putP N y).2.2:=by
 unfold putP;cases hf:N.findIdx? fun z=>decide (z=y) with
 | some i=>exact h
 | none =>
  simp only;split
  ·exact h
  ·have hn:y ∉ N:=fun hm=>by
    have:=(List.findIdx?_eq_none_iff.1 hf) y hm;simp at this
   refine ⟨List.nodup_append.2 ⟨h.nd,by simp,fun a ha b hb e=>?_⟩,fun z hz=>?_⟩
   ·rw [List.mem_singleton] at hb;subst hb; subst e;exact hn ha
   ·rcases List.mem_append.1 hz with hz | hz
    ·exact h.va z hz
    ·rw [List.mem_singleton] at hz;subst hz;exact hy
theorem NOK.val {N:List Nd} (h:NOK N) (s:Int):NOK (valP N s).2.2:=h.put fun _=>rfl
theorem NOK.add {N:List Nd} (h:NOK N) (s:Int) (ays:List Int):NOK (addP N s ays).2.2:=by
 unfold addP;split
 ·exact h
 ·split
  ·exact h.put fun hv=>by cases hv
  ·exact h
theorem zah (N:List Nd) (y:Nd):totN (putP N y).2.2≤totN N+y.args.length:=by
 unfold putP;split
 ·show totN N≤_; omega
 ·split
  ·show totN N≤_; omega
  ·show totN (N++[y])≤_;rw [zcn]; exact Nat.le_refl _
theorem zfl (N:List Nd) (s:Int):totN (valP N s).2.2≤totN N:=by
 have:=zah N ⟨true,s,[]⟩
 simpa [valP] using this
theorem zfp (N:List Nd) (s:Int) (ays:List Int):totN (addP N s ays).2.2≤totN N+ays.length:=by
 unfold addP;split
 ·show totN N≤_; omega
 ·split
  ·have:=zah N ⟨false,s,ays.map Int.toNat⟩
   simpa using this
  ·show totN N≤_; omega
theorem zax (N:List Nd) (sd:List Sd) (s:Sd):(sayP N sd s).2.length≤sd.length+1:=by
 unfold sayP;split <;> simp
structure OpD where
 kd:Int
 sy:Int
 aa:List Int
 a:Int
 b:Int
 tg:Int
structure OpAt (H:AH) (p:Addr) (o:OpD):Prop where
 kd:Cel H (p.add 0) (.int .i64 o.kd)
 sy:Cel H (p.add 1) (.int .i64 o.sy)
 aa:∃s:Sl3,Cel H (p.add 2) s.v∧∀H',Ext H H'→AR H' s o.aa
 a:Cel H (p.add 3) (.int .i64 o.a)
 b:Cel H (p.add 4) (.int .i64 o.b)
 tg:Cel H (p.add 5) (.int .i64 o.tg)
 ok:-9223372036854775808≤o.sy∧o.sy<9223372036854775808
theorem OpAt.ext {H H':AH} {p:Addr} {o:OpD} (h:OpAt H p o) (hf:Ext H H'):OpAt H' p o :=
 ⟨h.kd.ext hf,h.sy.ext hf,let ⟨s,h1,h2⟩:=h.aa; ⟨s,h1.ext hf,fun H2 hx=>h2 H2 (hf.trans hx)⟩,h.a.ext hf,h.b.ext hf,h.tg.ext hf,h.ok⟩
structure OpsR (H:AH) (s:Sl3) (ops:List OpD):Prop where
 n:s.n=ops.length
 at_:∀(i:Nat) (hi:i<ops.length),∃p,idxA 6 s (i:Int)=some p∧OpAt H p ops[i]
def bulkO (ops:List OpD):Nat:=ops.length+(ops.map fun o=>o.aa.length).sum
theorem zd0 (ops:List OpD) {i:Nat} (hi:i<ops.length):((ops.take i).map fun o=>o.aa.length).sum+ops[i].aa.length=((ops.take (i+1)).map fun o=>o.aa.length).sum∧((ops.take (i+1)).map fun o=>o.aa.length).sum≤(ops.map fun o=>o.aa.length).sum:=by
 constructor
 ·rw [List.take_succ_eq_append_getElem hi,List.map_append,List.sum_append];simp
 ·rw [List.map_take];generalize ops.map (fun o=>o.aa.length)=l;have:l.sum=(l.take (i+1)).sum+(l.drop (i+1)).sum:=by rw [← List.sum_append,List.take_append_drop]
  omega
end Go.Abs.Eg
namespace Go.Abs
open Go.Shelf Go.Proofs
open Go.Sort (putRow putCells onCells Holds)
variable {P:Program} {ne:NE} {m n:Nat}
def zcells (zs:List Int):Array Value:=(zs.map fun z=>Value.int .i64 z).toArray
def sortI (zs:List Int):List Int:=zs.mergeSort fun x y=>decide (x≤y)
theorem z38 (zs:List Int):(sortI zs).length=zs.length:=List.length_mergeSort zs
theorem z2d (zs:List Int) (i:Nat):(zcells zs)[i]? = (zs[i]?).map fun z=>Value.int .i64 z:=by
 unfold zcells;rw [List.getElem?_toArray,List.getElem?_map]
theorem Inv.grow {φ:Inj} {H:AH} {w:World} (h:Inv φ H w) (os:Array Obj):Inv φ H (Go.Sort.grow w os):=by
 have hsz:w.heap.size≤(Go.Sort.grow w os).heap.size:=by show w.heap.size≤(w.heap++os).size; simp
 refine ⟨fun id l hl=>⟨(h.dom id l hl).1,Nat.lt_of_lt_of_le (h.dom id l hl).2 hsz⟩,fun id b hb=>?_,h.sep⟩;obtain ⟨l,h1,h2⟩:=h.obj id b hb;refine ⟨l,h1,h2.same ?_⟩;have hlt:=(h.dom id l h1).2;show (w.heap++os)[l.blk]? = w.heap[l.blk]?;rw [Array.getElem?_append_left hlt]
theorem Step.grow {φ:Inj} {H:AH} (w:World) (os:Array Obj):Step m φ H w φ H (Go.Sort.grow w os) :=
 ⟨Nat.le_refl _,Inj.le_refl _,fun id l h h'=>(by rw [h] at h'; cases h'),fun _ h=>.inl h,by show w.heap.size≤(w.heap++os).size; simp,fun c hc _=>by
  show (w.heap++os)[c]? = _;rw [Array.getElem?_append_left hc],rfl,rfl,rfl⟩
theorem zcm {ρ:Ren} (Ly:SlLaysM.n5 P ρ) (hf:∃fn c,P.funcs[ρ.f 5]? = some fn∧fn.body=some c) {H:AH} {id:Nat} {zs:List Int} {e:TypeId} {opn:Bool} {esz c:Nat} (hb:H.get id=some { obj:=.cells (zcells zs) e (0,0),opn:=opn,esz:=esz,ro:=false }) (hm:m≤id) (h0:0<zs.length) (hz:zs.length<4611686018427387904) :
  CallS P ne m (ρ.f 5) #[.slice (some ⟨id,0,none⟩) zs.length c] H (.tuple #[]) (H.put id { obj:=.cells (zcells (sortI zs)) e (0,0),opn:=opn,esz:=esz,ro:=false }):=by
 intro hS;refine ⟨hf,fun φ w args' hg ha hi=>?_⟩;obtain ⟨l,c',f',g1,g2,g3⟩:=hi.cells hb rfl;have harg:∃c2,args'=#[.slice (some ⟨l.blk,l.off,none⟩) zs.length c2]:=by
  obtain ⟨hsz,hel⟩:=ha;have hsz:args'.size=1:=hsz.symm;obtain ⟨x',rfl⟩:∃x',args'=#[x']:=by
   match args',hsz with
   | ⟨[x']⟩,_=>exact ⟨x',rfl⟩
  have hx:=hel 0 _ _ rfl rfl;generalize hn:zs.length=nn at hx h0;generalize hcc:c=cc at hx;cases hx with
  | slice _ _ _ _ l1 hl1 hc1=>rw [g1] at hl1; cases hl1; exact ⟨_,rfl⟩
  | sliceOpen _ _ _ _ l1 hl1 hn1 hc1=>rw [g1] at hl1; cases hl1; exact ⟨_,rfl⟩
  | sliceEnd=>omega
  | sliceZero=>omega
 obtain ⟨c2,rfl⟩:=harg;have hlt:l.blk<w.heap.size:=(hi.dom id l g1).2;have hcell:∀(j:Nat) (hj:j<zs.length),c'[l.off+j]? = some (.int .i64 zs[j]):=fun j hj=>by
  obtain ⟨v',h1,h2⟩:=g3.cell j (.int .i64 zs[j]) (by rw [z2d,List.getElem?_eq_getElem hj]; rfl);cases h2;exact h1
 have hH:Holds (Value.int .i64) w l.blk l.off zs.toArray:=by
  intro j hj;have hj:j<zs.length:=by simpa using hj
  refine ⟨?_,?_⟩
  ·unfold World.cell?;simp only [g2];rw [hcell j hj]
   congr 2
   rw [getElem!_pos _ j (by simpa using hj)];simp
  ·unfold World.frozen?;simp only [g2];have hsz:=(Array.getElem?_eq_some_iff.1 (hcell j hj)).1;rcases g3.own rfl with h | h
   ·simp only [Bool.and_eq_false_iff,decide_eq_false_iff_not]; omega
   ·simp only [Bool.and_eq_false_iff,decide_eq_false_iff_not]; omega
 refine (Proofs.AnyM.slices_Sort_int Ly l.blk l.off c2 zs w hH hlt hz).mono fun en w' hh=>?_;obtain ⟨rfl,k,os,rfl⟩:=hh
 let w1:World:=putRow (Value.int .i64) (Go.Sort.ahead w k) l.blk l.off (sortI zs).toArray
 have hw1:w1.heap=w.heap.modify l.blk (onCells (putCells (Value.int .i64) l.off (sortI zs).toArray)):=rfl;have hs1:w1.heap.size=w.heap.size:=by rw [hw1]; simp
 have ho1:∀c,c≠l.blk→w1.heap[c]? = w.heap[c]? := fun c hc=>by rw [hw1,Array.getElem?_modify,if_neg (fun h=>hc h.symm)]
 have ha1:w1.heap[l.blk]? = some (.cells (putCells (Value.int .i64) l.off (sortI zs).toArray c') e f'):=by
  rw [hw1,Array.getElem?_modify,if_pos rfl,g2];rfl
 have hor:OR φ l { obj:=.cells (zcells (sortI zs)) e (0,0),opn:=opn,esz:=esz,ro:=false } w1:=by
  refine ⟨_,e,f',ha1,⟨fun i v hv=>?_,?_,g3.esz,fun ho=>?_,fun hr=>?_,rfl⟩⟩
  ·rw [z2d] at hv;have hi':i<(sortI zs).length:=by
    by_cases h:i<(sortI zs).length
    ·exact h
    ·rw [List.getElem?_eq_none (by omega)] at hv; cases hv
   rw [List.getElem?_eq_getElem hi'] at hv;simp only [Option.map_some,Option.some.injEq] at hv;subst hv;refine ⟨.int .i64 (sortI zs)[i],?_,.int _ _⟩;have hl:=z38 zs;simp only [putCells,Array.getElem?_mapIdx,hcell i (by omega),Option.map_some];rw [if_pos (by simp; omega)]
   congr 2
   rw [show l.off+i - l.off=i by omega,getElem!_pos _ i (by simpa using hi')];simp
  ·simp only [putCells,Array.size_mapIdx]; exact g3.fin
  ·obtain ⟨h1,h2⟩:=g3.exact_ ho;refine ⟨h1,?_⟩;simp only [putCells,Array.size_mapIdx];rw [h2];simp [zcells,z38]
  ·simp only [putCells,Array.size_mapIdx]; exact g3.own rfl
 have hi0:Inv φ H (Go.Sort.ahead w k):=⟨hi.dom,hi.obj,hi.sep⟩;have hst:Step m φ H w φ (H.put id { obj:=.cells (zcells (sortI zs)) e (0,0),opn:=opn,esz:=esz,ro:=false }) w1:=Step.put hm hb g1 hs1 ho1 rfl rfl rfl;have hin:Inv φ (H.put id { obj:=.cells (zcells (sortI zs)) e (0,0),opn:=opn,esz:=esz,ro:=false }) w1:=Inv.put hi hb rfl rfl g1 hs1 ho1 hor;exact ⟨φ,.tuple #[],rfl,.tuple #[] #[] rfl (fun i x y h=>by simp at h),hin.grow os,hst.trans hi (Step.grow w1 os)⟩
theorem zej {ρ:Ren} (Ly:SlLaysM.n5 P ρ) (hf:∃fn c,P.funcs[ρ.f 5]? = some fn∧fn.body=some c) {H:AH}:CallS P ne m (ρ.f 5) #[.slice none 0 0] H (.tuple #[]) H:=by
 intro hS;refine ⟨hf,fun φ w args' hg ha hi=>?_⟩;have harg:args'=#[.slice none 0 0]:=by
  obtain ⟨hsz,hel⟩:=ha;have hsz:args'.size=1:=hsz.symm;obtain ⟨x',rfl⟩:∃x',args'=#[x']:=by
   match args',hsz with
   | ⟨[x']⟩,_=>exact ⟨x',rfl⟩
  have hx:=hel 0 _ _ rfl rfl;cases hx with
  | sliceNil=>rfl
 subst harg;refine (Proofs.AnyM.slices_Sort_int_none Ly none 0 w).mono fun en w' hh=>?_;obtain ⟨rfl,rfl⟩:=hh;exact ⟨φ,.tuple #[],rfl,.tuple #[] #[] rfl (fun i x y h=>by simp at h),hi,Step.refl _ _ _ _⟩
end Go.Abs
namespace Go.Abs
variable {P:Program} {ne:NE} {m n:Nat}
def keyZ (e:MapEntry):Option Int:=match e.key with
 | .int .i64 z=>some z
 | _=>none
def keysZ:List MapEntry→Option (List Int)
 | []=>some []
 | e :: l=>match keyZ e,keysZ l with
  | some z,some zs=>some (z :: zs)
  | _,_=>none
def rowB (e:TypeId) (zs:List Int):Blk:={ obj:=.cells (zcells zs) e (0,0),opn:=true,esz:=1,ro:=false }
structure KeyI (e:TypeId) (H:AH) (r clock:Nat) (es:Array MapEntry) (s:AH×Sl3×List MapEntry):Prop where
 next:s.1.next=H.next+1+2*s.2.2.length
 low:∀id,id<H.next→s.1.get id=H.get id
 iter:s.1.get H.next=some { obj:=.mapIter (some r) clock (s.2.2.map (·.born)).toArray clock,opn:=false,esz:=0,ro:=false }
 nd:(s.2.2.map (·.born)).Nodup
 sub:∀x∈s.2.2,x∈es
 keys:∃zs,keysZ s.2.2=some zs∧((zs=[]∧s.2.1=Sl3.nil)∨(zs≠[]∧s.2.1=⟨some ⟨H.next+2*zs.length,0,none⟩,zs.length,OPEN⟩∧s.1.get (H.next+2*zs.length)=some (rowB e zs)))
end Go.Abs
