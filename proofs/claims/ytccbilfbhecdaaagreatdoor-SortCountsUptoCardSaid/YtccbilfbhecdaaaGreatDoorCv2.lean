/- Parts of the proof: an abstract interpreter of the loaded program and its soundness, printed functions, the law's own texts; part 2. No condition. -/
import Derived.Test.YtccbilfbhecdaaaGreatDoorCv1
import Derived.OrdersHeld
import Derived.LaidSub
import Derived.Deep.DeepHandedRow
import Derived.ChangeArms
import Derived.Test.YtccbilfbhecdaaaGreatDoorChecked
import Derived.Test.YtccbilfbhecdaaaGreatDoorRows
namespace Go.Abs
variable {P:Program} {ne:NE} {m n:Nat}
section
variable {E:Ent} {kn:KN} {ls:Lcs} {H:AH} {a:Act} {w w':World} {φ:Inj} {cs:List Nat} {Q:Exit→Act→World→Prop}
def runLs (P:Program) (m n:Nat) (ops:Array Oper):Nat→Nat→KN→Lcs→AH→Option (KN×Lcs×AH)
 | 0,_,kn,ls,H=>some (kn,ls,H)
 | j+1,k,kn,ls,H=>match ops[k]? with
  | some o=>match wantV ops kn o with
   | some true=>bif dstV n o then (match locOp P kn ls o with
    | some (kv,ls')=>runLs P m n ops j (k+1) (putV kn o.dst kv) ls' H
    | none=>bif opV P n ops kn o&&noCall o then (match runOp P (NE.plain 0) ih0 m o (evV kn) H with
     | some (v,H')=>runLs P m n ops j (k+1) (putV kn o.dst (.val v)) ls H'
     | none=>none) else none) else none
   | some false=>bif skV n ops kn o then runLs P m n ops j (k+1) (putV kn o.dst (.val undef)) ls H else none
   | none=>none
  | none=>none
theorem zr0 {ops:Array Oper} {k:Nat} {o:Oper} (h:ops[k]? = some o):opAt ops k=o:=by
 unfold opAt;rw [Array.getD_eq_getD_getElem?,h]; rfl
theorem RS.loc {ops:Array Oper} {k:Nat} {kv:KV} {ls':Lcs} (ho:ops[k]? = some (opAt ops k)) (hw:wantV ops kn (opAt ops k)=some true) (hd:dstV n (opAt ops k)=true) (hl:locOp P kn ls (opAt ops k)=some (kv,ls'))
  (h:RS P ne m E n ops (k+1) (putV kn (opAt ops k).dst kv) ls' H Q):RS P ne m E n ops k kn ls H Q:=by
 intro a w hs;obtain ⟨φ,cs,hs⟩:=hs;rw [z64 ho,wpOps_cons];unfold wpOp;rw [ho];simp only [F8 hs hw,if_true];left;exact zix hs hl hd fun v' w' cs' h' _ _ _=>h _ w' ⟨φ,cs',h'⟩
theorem RS.ls_ {ops:Array Oper}:∀(j:Nat) {k:Nat} {kn kn':KN} {ls ls':Lcs} {H H':AH},runLs P m n ops j k kn ls H=some (kn',ls',H')→RS P ne m E n ops (k+j) kn' ls' H' Q→RS P ne m E n ops k kn ls H Q:=by
 intro j;induction j with
 | zero =>
  intro k kn kn' ls ls' H H' hr h;simp only [runLs,Option.some.injEq,Prod.mk.injEq] at hr;obtain ⟨rfl,rfl,rfl⟩:=hr;exact h
 | succ j ihj =>
  intro k kn kn' ls ls' H H' hr h;rw [show k+(j+1)=(k+1)+j by omega] at h;simp only [runLs] at hr;cases ho:ops[k]? with
  | none=>rw [ho] at hr; cases hr
  | some o =>
   have e:=zr0 ho;subst e;simp only [ho] at hr;cases hw:wantV ops kn (opAt ops k) with
   | none=>rw [hw] at hr; cases hr
   | some b =>
    simp only [hw] at hr;cases b with
    | true =>
     simp only at hr;cases hd:dstV n (opAt ops k) with
     | false=>rw [hd] at hr; cases hr
     | true =>
      simp only [hd,cond_true] at hr;cases hl:locOp P kn ls (opAt ops k) with
      | some p =>
       obtain ⟨kv,ls1⟩:=p;simp only [hl] at hr;exact RS.loc ho hw hd hl (ihj hr h)
      | none =>
       simp only [hl] at hr;cases hB:opV P n ops kn (opAt ops k) with
       | false=>rw [hB] at hr; cases hr
       | true =>
        cases hN:noCall (opAt ops k) with
        | false=>rw [hB,hN] at hr; cases hr
        | true =>
         simp only [hB,hN,Bool.and_self,cond_true] at hr;cases hv:runOp P (NE.plain 0) ih0 m (opAt ops k) (evV kn) H with
         | none=>rw [hv] at hr; cases hr
         | some p =>
          obtain ⟨v,H1⟩:=p;rw [hv] at hr;exact RS.op ho hB hv hN (ihj hr h)
    | false =>
     simp only at hr;cases hB:skV n ops kn (opAt ops k) with
     | false=>rw [hB] at hr; cases hr
     | true =>
      simp only [hB,cond_true] at hr;exact RS.skp ho hB (ihj hr h)
theorem RS.many {ops:Array Oper} {k:Nat} (j:Nat) (new:KN) (ls':Lcs) {H':AH} (hr:runLs P m n ops j k kn ls H=some (new++kn,ls',H')) (h:RS P ne m E n ops (k+j) (new++kn) ls' H' Q):RS P ne m E n ops k kn ls H Q :=
 RS.ls_ j hr h
theorem SS.fix (hs:SS P ne m E n kn ls H a w) (t:Nat) {b c:Bool} (hb:b=c) (hl:lkV kn t=some (.val (.bool b))):SS P ne m E n ((t,.val (.bool c)) :: kn) ls H a w:=by
 subst hb;obtain ⟨φ,cs,h⟩:=hs;refine ⟨φ,cs,h.glob,h.inv,h.step,h.len,h.loc,h.inj,h.low,fun s kv hh=>?_,h.size,h.defers,h.sane,h.inv0⟩;simp only [lkV] at hh;cases hq:Nat.beq t s with
 | true =>
  rw [hq] at hh;have:=Nat.eq_of_beq_eq_true hq;subst this;cases hh;exact h.slot t _ hl
 | false=>rw [hq] at hh; exact h.slot s kv hh
theorem RS.fix {ops:Array Oper} {k:Nat} (t:Nat) {b:Bool} (c:Bool) (hb:b=c) (hl:lkV kn t=some (.val (.bool b))) (h:RS P ne m E n ops k ((t,.val (.bool c)) :: kn) ls H Q):RS P ne m E n ops k kn ls H Q :=
 fun a w hs=>h a w (hs.fix t hb hl)
theorem WS.fix {c:Code} (t:Nat) {b:Bool} (d:Bool) (hb:b=d) (hl:lkV kn t=some (.val (.bool b))) (h:WS P ne m E n c ((t,.val (.bool d)) :: kn) ls H Q):WS P ne m E n c kn ls H Q :=
 fun a w hs=>h a w (hs.fix t hb hl)
theorem RS.at {ops:Array Oper} {k:Nat} (v:Value) {H':AH} (ho:ops[k]? = some (opAt ops k)) (hB:(opV P n ops kn (opAt ops k)&&noCall (opAt ops k))=true) (hr:runOp P (NE.plain 0) ih0 m (opAt ops k) (evV kn) H=some (v,H'))
  (h:RS P ne m E n ops (k+1) (putV kn (opAt ops k).dst (.val v)) ls H' Q):RS P ne m E n ops k kn ls H Q:=by
 rw [Bool.and_eq_true] at hB;exact RS.op ho hB.1 hr hB.2 h
def blkS (i:Nat) (Q:Exit→Act→World→Prop):Exit→Act→World→Prop
 | .exit j,a,w=>bif Nat.beq j i then Q .normal a w else Q (.exit j) a w
 | e,a,w=>Q e a w
theorem WS.blk {c:Code} (i:Nat) (hc:isBlock i c=true) (h:WS P ne m E n (cfst c) kn ls H (blkS i Q)):WS P ne m E n c kn ls H Q:=by
 refine WS.block i hc fun a w hs=>wp_mono (h a w hs) fun e a w hq=>?_;cases e with
 | exit j =>
  show (if j=i then _ else _);have hq:(bif Nat.beq j i then Q .normal a w else Q (.exit j) a w):=hq;cases hb:Nat.beq j i with
  | true=>rw [hb] at hq; rw [if_pos (Nat.eq_of_beq_eq_true hb)]; exact hq
  | false=>rw [hb] at hq; rw [if_neg (Nat.ne_of_beq_eq_false hb)]; exact hq
 | _=>exact hq
theorem sqR {N:Act→World→Prop} (h:Q .ret a w):Exit.then N Q .ret a w:=h
theorem sqE {N:Act→World→Prop} {i:Nat} (h:Q (.exit i) a w):Exit.then N Q (.exit i) a w:=h
theorem bkN {i:Nat} (h:Q .normal a w):blkS i Q .normal a w:=h
theorem bkR {i:Nat} (h:Q .ret a w):blkS i Q .ret a w:=h
theorem bkE {i:Nat} (h:Q .normal a w):blkS i Q (.exit i) a w:=by
 show (bif Nat.beq i i then Q .normal a w else Q (.exit i) a w);rw [Nat.beq_refl]; exact h
theorem bkX {i j:Nat} (hb:Nat.beq j i=false) (h:Q (.exit j) a w):blkS i Q (.exit j) a w:=by
 show (bif Nat.beq j i then Q .normal a w else Q (.exit j) a w);rw [hb]; exact h
def lpS {S R:Type} (P:Program) (ne:NE) (m:Nat) (E:Ent) (n:Nat) (knOf:S→KN) (lsOf:S→Lcs) (hOf:S→AH) (i:Nat) (QR:R→Act→World→Prop) (o:Lp S R):Exit→Act→World→Prop
 | .normal,a,w=>∃s,o=.next s∧SS P ne m E n (knOf s) (lsOf s) (hOf s) a w
 | .exit j,a,w=>∃s,o=.brk s∧j=i∧SS P ne m E n (knOf s) (lsOf s) (hOf s) a w
 | .ret,a,w=>∃r,o=.ret r∧QR r a w
 | _,_,_=>False
theorem zne {S R:Type} {c:Code} {body:S→Option (Lp S R)} {knOf:S→KN} {lsOf:S→Lcs} {hOf:S→AH} {i:Nat} {QR:R→Act→World→Prop}
  (hbody:∀s o,body s=some o→WS P ne m E n c (knOf s) (lsOf s) (hOf s) (lpS P ne m E n knOf lsOf hOf i QR o)) (hQ1:∀s a w,SS P ne m E n (knOf s) (lsOf s) (hOf s) a w→(∀r:R,True)→True) :
  ∀(k:Nat) (s:S) (o:S⊕R),iterO body k s=some o→∀{Q:Exit→Act→World→Prop},(∀s',o=.inl s'→∀a w,SS P ne m E n (knOf s') (lsOf s') (hOf s') a w→Q (.exit i) a w)→(∀r,o=.inr r→∀a w,QR r a w→Q .ret a w) →
   ∀a w,SS P ne m E n (knOf s) (lsOf s) (hOf s) a w→Code.rounds P c Q k a w:=by
 intro k;induction k with
 | zero=>intro s o h; cases h
 | succ k ih =>
  intro s o h Q h1 h2 a w hs;rw [rounds_succ];simp only [iterO] at h;cases hb:body s with
  | none=>rw [hb] at h; cases h
  | some l =>
   rw [hb] at h;refine wp_mono (hbody s l hb a w hs) fun e a' w' hq=>?_;cases e with
   | normal =>
    obtain ⟨s',rfl,hs'⟩:=hq;exact ih s' o h h1 h2 a' w' hs'
   | exit j =>
    obtain ⟨s',rfl,rfl,hs'⟩:=hq;simp only [Option.some.injEq] at h;exact h1 s' h.symm a' w' hs'
   | ret =>
    obtain ⟨r,rfl,hr⟩:=hq;simp only [Option.some.injEq] at h;exact h2 r h.symm a' w' hr
   | _=>exact hq.elim
theorem WS.loop_ {S R:Type} {c:Code} (hc:isLoop c=true) (body:S→Option (Lp S R)) (knOf:S→KN) (lsOf:S→Lcs) (hOf:S→AH) (i:Nat) (QR:R→Act→World→Prop)
  (hbody:∀s o,body s=some o→WS P ne m E n (cfst c) (knOf s) (lsOf s) (hOf s) (lpS P ne m E n knOf lsOf hOf i QR o)) {s:S} {o:S⊕R} (hl:loopO body s=some o) (k:Nat) (hsub:SubV (knOf s) kn) (hls:ls.take k=lsOf s) (hbl:belowL k (knOf s)=true) (hH:H=hOf s)
  (h1:∀s',o=.inl s'→∀a w,SS P ne m E n (knOf s') (lsOf s') (hOf s') a w→Q (.exit i) a w) (h2:∀r,o=.inr r→∀a w,QR r a w→Q .ret a w):WS P ne m E n c kn ls H Q:=by
 cases c with
 | loop body' =>
  intro a w hs;obtain ⟨k',hk⟩:=S9.1 hl;subst hH;exact wp_loop_rounds k' (zne hbody (fun _ _ _ _ _=>trivial) k' s o hk h1 h2 a w (hs.sub hsub k hls hbl))
 | _=>cases hc
theorem WS.loopI {S R:Type} {c:Code} (hc:isLoop c=true) (body:S→Option (Lp S R)) (knOf:S→KN) (lsOf:S→Lcs) (hOf:S→AH) (i:Nat) (QR:R→Act→World→Prop)
  (hbody:∀s o,body s=some o→WS P ne m E n (cfst c) (knOf s) (lsOf s) (hOf s) (lpS P ne m E n knOf lsOf hOf i QR o)) {s s':S} (hl:loopO body s=some (.inl s')) (k:Nat) (hsub:SubV (knOf s) kn) (hls:ls.take k=lsOf s) (hbl:belowL k (knOf s)=true) (hH:H=hOf s)
  (h1:∀a w,SS P ne m E n (knOf s') (lsOf s') (hOf s') a w→Q (.exit i) a w):WS P ne m E n c kn ls H Q :=
 WS.loop_ hc body knOf lsOf hOf i QR hbody hl k hsub hls hbl hH (fun s2 e=>by cases e; exact h1) (fun r e=>by cases e)
theorem WS.loopR {S R:Type} {c:Code} (hc:isLoop c=true) (body:S→Option (Lp S R)) (knOf:S→KN) (lsOf:S→Lcs) (hOf:S→AH) (i:Nat) (QR:R→Act→World→Prop)
  (hbody:∀s o,body s=some o→WS P ne m E n (cfst c) (knOf s) (lsOf s) (hOf s) (lpS P ne m E n knOf lsOf hOf i QR o)) {s:S} {r:R} (hl:loopO body s=some (.inr r)) (k:Nat) (hsub:SubV (knOf s) kn) (hls:ls.take k=lsOf s) (hbl:belowL k (knOf s)=true) (hH:H=hOf s)
  (h2:∀a w,QR r a w→Q .ret a w):WS P ne m E n c kn ls H Q :=
 WS.loop_ hc body knOf lsOf hOf i QR hbody hl k hsub hls hbl hH (fun s2 e=>by cases e) (fun r2 e=>by cases e; exact h2)
section
variable {S R:Type} {knOf:S→KN} {lsOf:S→Lcs} {hOf:S→AH} {i:Nat} {QR:R→Act→World→Prop}
theorem lsN {o:Lp S R} {s:S} (ho:o=.next s) (h:SS P ne m E n (knOf s) (lsOf s) (hOf s) a w):lpS P ne m E n knOf lsOf hOf i QR o .normal a w:=⟨s,ho,h⟩
theorem lsB {o:Lp S R} {s:S} (ho:o=.brk s) (h:SS P ne m E n (knOf s) (lsOf s) (hOf s) a w):lpS P ne m E n knOf lsOf hOf i QR o (.exit i) a w:=⟨s,ho,rfl,h⟩
theorem lsR {o:Lp S R} {r:R} (ho:o=.ret r) (h:QR r a w):lpS P ne m E n knOf lsOf hOf i QR o .ret a w:=⟨r,ho,h⟩
end
def jnS (P:Program) (ne:NE) (m:Nat) (E:Ent) (n:Nat) (kn:KN) (ls:Lcs) (H:AH) (Q:Exit→Act→World→Prop):Exit→Act→World→Prop
 | .normal,a,w=>SS P ne m E n kn ls H a w
 | e,a,w=>Q e a w
theorem A1 {c:Code} {N:Act→World→Prop} (kn2:KN) (ls2:Lcs) (H2:AH) (h:WS P ne m E n c kn ls H (jnS P ne m E n kn2 ls2 H2 Q)) (hN:∀a w,SS P ne m E n kn2 ls2 H2 a w→N a w):WS P ne m E n c kn ls H (Exit.then N Q):=by
 refine fun a w hs=>wp_mono (h a w hs) fun e a w hq=>?_;cases e with
 | normal=>exact hN a w hq
 | _=>exact hq
theorem jsN {kn2:KN} {ls2:Lcs} {H2:AH} (h:SS P ne m E n kn2 ls2 H2 a w):jnS P ne m E n kn2 ls2 H2 Q .normal a w:=h
def pubK (i:Nat) (id:Nat):KN→KN
 | []=>[]
 | (t,.loc j off) :: l=>(t,bif Nat.beq j i then .val (.pointer (some ⟨id,off,none⟩)) else .loc j off) :: pubK i id l
 | (t,.sli j n) :: l=>(t,bif Nat.beq j i then .val (.slice (some ⟨id,0,none⟩) n n) else .sli j n) :: pubK i id l
 | x :: l=>x :: pubK i id l
theorem lk_pub {i id:Nat}:∀{kn:KN} {t:Nat} {kv:KV},lkV (pubK i id kn) t=some kv→(∃off,lkV kn t=some (.loc i off)∧kv=.val (.pointer (some ⟨id,off,none⟩)))∨(∃n,lkV kn t=some (.sli i n)∧kv=.val (.slice (some ⟨id,0,none⟩) n n))∨lkV kn t=some kv:=by
 intro kn;induction kn with
 | nil=>intro t kv h; cases h
 | cons p l ih =>
  obtain ⟨s,v⟩:=p;intro t kv h;cases v with
  | val v =>
   simp only [pubK,lkV] at h ⊢;cases hq:Nat.beq s t with
   | true=>rw [hq] at h; cases h; exact .inr (.inr rfl)
   | false=>rw [hq] at h; exact ih h
  | loc j off =>
   simp only [pubK,lkV] at h ⊢;cases hq:Nat.beq s t with
   | true =>
    rw [hq] at h;simp only [cond_true,Option.some.injEq] at h ⊢;cases hj:Nat.beq j i with
    | true =>
     rw [hj] at h;have:=Nat.eq_of_beq_eq_true hj;subst this;subst h;exact .inl ⟨off,rfl,rfl⟩
    | false=>rw [hj] at h; subst h; exact .inr (.inr rfl)
   | false=>rw [hq] at h; exact ih h
  | sli j off =>
   simp only [pubK,lkV] at h ⊢;cases hq:Nat.beq s t with
   | true =>
    rw [hq] at h;simp only [cond_true,Option.some.injEq] at h ⊢;cases hj:Nat.beq j i with
    | true =>
     rw [hj] at h;have:=Nat.eq_of_beq_eq_true hj;subst this;subst h;exact .inr (.inl ⟨off,rfl,rfl⟩)
    | false=>rw [hj] at h; subst h; exact .inr (.inr rfl)
   | false=>rw [hq] at h; exact ih h
def pubB (e:TypeId) (cells:List Value):Blk:={ obj:=.cells cells.toArray e (0,0),opn:=false,esz:=0,ro:=false }
theorem SSφ.pub (h:SSφ P ne m E n kn ls H a w φ cs) (i:Nat) {e:TypeId} {cells:List Value} (hi:ls[i]? = some (some (e,cells))):∃φ',φ.le φ'∧(∀id l,φ' id=some l→φ id=some l∨cs[i]? = some l.blk)∧SSφ P ne m E n (pubK i H.next kn) (ls.set i none) (H.push (pubB e cells)) a w φ' cs:=by
 have hlt:i<cs.length:=by rw [h.len]; rw [List.getElem?_eq_some_iff] at hi; exact hi.1
 have hci:cs[i]? = some cs[i]:=by simp [hlt]
 obtain ⟨g1,⟨rs,g2,g3⟩,g4⟩:=h.loc i _ _ hci hi;have hfr:φ H.next=none:=by
  cases hq:φ H.next with
  | none=>rfl
  | some l=>have:=(h.inv.dom _ _ hq).1; omega
 have hle:φ.le (φ.upd H.next ⟨cs[i],0,0,0⟩):=Inj.le_upd _ hfr;have hup:∀id l,(φ.upd H.next ⟨cs[i],0,0,0⟩) id=some l→(id=H.next∧l=⟨cs[i],0,0,0⟩)∨φ id=some l:=by
  intro id l hl;by_cases e:id=H.next
  ·subst e; rw [Inj.upd_same] at hl; cases hl; exact .inl ⟨rfl,rfl⟩
  ·rw [Inj.upd_other _ _ e] at hl; exact .inr hl
 have hw:cs[i]<w.heap.size:=by rw [Array.getElem?_eq_some_iff] at g2; exact g2.1
 have hnew:(φ.upd H.next ⟨cs[i],0,0,0⟩) H.next=some ⟨cs[i],0,0,0⟩:=Inj.upd_same _ _ _;have hOR:OR (φ.upd H.next ⟨cs[i],0,0,0⟩) ⟨cs[i],0,0,0⟩ (pubB e cells) w:=by
  have hA:=AR_iff.2 (show LR φ cells.toArray.toList rs.toList by simpa using g3);refine ⟨rs,e,(0,0),g2,⟨fun j v hv=>?_,Nat.zero_le _,fun hh=>(by cases hh),fun _=>⟨rfl,hA.1.symm⟩,fun _=>.inl (Nat.le_refl _),rfl⟩⟩;obtain ⟨y,hy,hv'⟩:=hA.get hv;exact ⟨y,by simpa using hy,hv'.mono hle⟩
 refine ⟨φ.upd H.next ⟨cs[i],0,0,0⟩,hle,fun id l hl=>(hup id l hl).elim (fun q=>.inr (by rw [q.2]; exact hci)) .inl,h.glob.mono hle,⟨fun id l hl=>?_,fun id b hb=>?_,fun id id' b b' l l' hb hb' hne hr ha ha' hl hl'=>?_⟩,?_,by simp [h.len],fun j c x hc hx=>?_,h.inj,h.low,fun t kv hl=>?_,h.size,h.defers,h.sane,h.inv0⟩
 ·show id<H.next+1∧_;rcases hup id l hl with ⟨rfl,rfl⟩ | hl
  ·exact ⟨by omega,hw⟩
  ·have:=h.inv.dom id l hl;exact ⟨by omega,this.2⟩
 ·by_cases ei:id=H.next
  ·subst ei;rw [AH.get_push_same] at hb;cases hb;exact ⟨_,hnew,hOR⟩
  ·rw [AH.get_push_other _ _ ei] at hb;obtain ⟨l,h1,h2⟩:=h.inv.obj id b hb;exact ⟨l,hle _ _ h1,h2.mono hle⟩
 ·by_cases ei:id=H.next
  ·subst ei;rw [hnew] at hl; cases hl;rcases hup id' l' hl' with ⟨rfl,_⟩ | hl'
   ·exact absurd rfl hne
   ·exact fun e=>g4 id' l' hl' e.symm
  ·rw [AH.get_push_other _ _ ei] at hb;have hl:φ id=some l:=(hup id l hl).resolve_left (fun hh=>ei hh.1);by_cases ej:id'=H.next
   ·subst ej;rw [hnew] at hl'; cases hl';exact g4 id l hl
   ·rw [AH.get_push_other _ _ ej] at hb';have hl':φ id'=some l':=(hup id' l' hl').resolve_left (fun hh=>ej hh.1);exact h.inv.sep id id' b b' l l' hb hb' hne hr ha ha' hl hl'
 ·have s:=h.step;refine ⟨Nat.le_succ_of_le s.le,fun id l hl=>hle _ _ (s.ext _ _ hl),fun id l hl hn=>?_,fun id hh=>?_,s.size,s.keep,s.os,s.tape,s.output⟩
  ·rcases hup id l hl with ⟨rfl,rfl⟩ | hl
   ·exact ⟨s.le,.inl g1⟩
   ·exact s.new id l hl hn
  ·by_cases ei:id=H.next
   ·subst ei;right;cases hq:E.φ H.next with
    | none=>rfl
    | some l=>have:=(h.inv0.dom _ _ hq).1; have:=s.le; omega
   ·rw [AH.get_push_other _ _ ei] at hh;exact s.alv id hh
 ·rw [List.getElem?_set] at hx;by_cases hij:i=j
  ·subst hij;rw [if_pos rfl] at hx;split at hx <;> cases hx
  ·rw [if_neg hij] at hx;obtain ⟨q1,⟨cs',q2,q3⟩,q4⟩:=h.loc j c x hc hx;refine ⟨q1,⟨cs',q2,q3.mono' hle⟩,fun id l hl=>?_⟩;rcases hup id l hl with ⟨rfl,rfl⟩ | hl
   ·intro e;have e:cs[i]=c:=e;exact hij (h.inj i j c (by rw [hci,e]) hc)
   ·exact q4 id l hl
 ·rcases lk_pub hl with ⟨off,h1,rfl⟩ | ⟨nn,h1,rfl⟩ | h1
  ·obtain ⟨c,k1,k2⟩:=h.slot t _ h1;rw [hci] at k1; cases k1;show VR _ _ _;rw [k2];have:=VR.ptr (φ:=φ.upd H.next ⟨cs[i],0,0,0⟩) H.next off ⟨cs[i],0,0,0⟩ hnew
   simpa using this
  ·obtain ⟨⟨c,k1,k2⟩,k3⟩:=h.slot t _ h1;rw [hci] at k1; cases k1;show VR _ _ _;rw [k2];have:=VR.slice (φ:=φ.upd H.next ⟨cs[i],0,0,0⟩) H.next 0 nn nn ⟨cs[i],0,0,0⟩ hnew k3
   simpa using this
  ·exact (h.slot t kv h1).mono hle
theorem SS.pub (hs:SS P ne m E n kn ls H a w) (i:Nat) {e:TypeId} {cells:List Value} (hi:ls[i]? = some (some (e,cells))):SS P ne m E n (pubK i H.next kn) (ls.set i none) (H.push (pubB e cells)) a w:=by
 obtain ⟨φ,cs,h⟩:=hs;obtain ⟨φ',_,_,h'⟩:=h.pub i hi;exact ⟨φ',cs,h'⟩
end
end Go.Abs
namespace Go.Abs
variable {P:Program} {ne:NE} {m n:Nat}
theorem agree.cell {w1 w:World} (h:agree w1 w) {a:Addr} {v:Value} (hc:w1.cell? a=some v):w.cell? a=some v:=by
 unfold World.cell? at hc ⊢;cases hb:w1.heap[a.block]? with
 | none=>rw [hb] at hc; cases hc
 | some o =>
  have hlt:a.block<w1.heap.size:=by rw [Array.getElem?_eq_some_iff] at hb; exact hb.1
  rw [h _ hlt,hb];rw [hb] at hc;exact hc
theorem z17 {α β:Type} {s:Sem α} {f:α→Sem β} {a:α} (h:peval P s=some a):peval P (s >>= f)=peval P (f a):=by
 show peval P (s.bind f)=_;rw [pbind,h]; rfl
theorem zm7 {φ:Inj} (kt:TypeId) (k:Value) {es es':List MapEntry} (h:F2 (ER φ) es es'):∀(n:Nat) (r:Option (Nat×Value)),aAsk P kt k es n=some r →
  ∃r',peval P (Instr.findAsking kt k es' n)=some r'∧FindR φ r r':=by
 induction h with
 | nil=>intro n r hr; simp only [aAsk,Option.some.injEq] at hr; subst hr; exact ⟨none,rfl,trivial⟩
 | @cons a b _ _ hab _ ih =>
  intro n r hr;simp only [aAsk] at hr;cases hp:peval P (Op.equal kt k a.key) with
  | none=>rw [hp] at hr; cases hr
  | some q =>
   rw [hp] at hr;rw [hab.1] at hp;cases q
   ·obtain ⟨r',h1,h2⟩:=ih (n+1) r hr;refine ⟨r',?_,h2⟩;simp only [Instr.findAsking];rw [z17 hp];exact h1
   ·simp only [Option.some.injEq] at hr;subst hr;refine ⟨some (n,b.val),?_,rfl,hab.2.1⟩;simp only [Instr.findAsking];rw [z17 hp];rfl
theorem zhx {t:TypeId} {d:TypeDesc} (h:P.underlying t=some d):peval P (underlying t)=some d:=by
 simp only [Go.underlying,Go.program,bind,Pure.pure,Sem.bind,peval,h]
theorem zkq {φ:Inj} {kt:TypeId} {k:Value} {es es':List MapEntry} (h:F2 (ER φ) es es') {r:Option (Nat×Value)} (hr:aFind P kt k es=some r) :
  ∃r',peval P (Instr.findKey kt k es')=some r'∧FindR φ r r':=by
 unfold aFind at hr;cases hu:P.underlying kt with
 | none=>rw [hu] at hr; cases hr
 | some d =>
  rw [hu] at hr;simp only at hr;rcases zeb d k h 0 with ⟨h1,h2⟩ | ⟨q,q',h1,h2,h3⟩
  ·rw [h1] at hr;obtain ⟨r',a1,a2⟩:=zm7 kt k h 0 r hr;refine ⟨r',?_,a2⟩;simp only [Instr.findKey];rw [z17 (zhx hu)];simp only [h2];exact a1
  ·rw [h1] at hr;simp only [Option.some.injEq] at hr;subst hr;refine ⟨q',?_,h3⟩;simp only [Instr.findKey];rw [z17 (zhx hu)];simp only [h2];rfl
theorem zl0 {φ:Inj} {H:AH} {w1:World} {t:TypeId} {x x' k v:Value} {ok:Bool} (hi:Inv φ H w1) (h:aLookup P t x k ok H=some v) (hx:VR φ x x') :
  ∃v',VR φ v v'∧∀w,agree w1 w→(Instr.lookup t x' k ok).run P w=.ok v' w:=by
 unfold aLookup at h;cases ht:P.underlying t with
 | none=>rw [ht] at h; cases h
 | some d =>
  rw [ht] at h;cases d with
  | map kt e =>
   simp only at h;cases he:aEntries H x with
   | none=>rw [he] at h; cases h
   | some es =>
    rw [he] at h;simp only at h;have hent:∃es',MR φ es es'∧((x'=.map none∧es'=#[])∨∃r n,x'=.map (some r)∧w1.heap[r]? = some (.map es' n)):=by
     cases hx with
     | mapNil=>simp only [aEntries,Option.some.injEq] at he; subst he; exact ⟨#[],MR.empty _,.inl ⟨rfl,rfl⟩⟩
     | map r l hl =>
      simp only [aEntries] at he;split at he
      ·rename_i es1 n _ _ _ hg;simp only [Option.some.injEq] at he;subst he;obtain ⟨es',h1,h2⟩:=hi.map hg rfl hl;exact ⟨es',h2,.inr ⟨_,n,rfl,h1⟩⟩
      ·cases he
     | _=>cases he
    obtain ⟨es',hm,hx2⟩:=hent;have hf:=MR_iff.1 hm;have hemp:es.isEmpty=es'.isEmpty:=by have:=hf.isEmpty; simpa using this
    cases hc:peval P (Instr.checkKey es.isEmpty 10000 kt k) with
    | none=>rw [hc] at h; cases h
    | some u =>
     rw [hc] at h;rw [hemp] at hc;cases hfi:aFind P kt k es.toList with
     | none=>rw [hfi] at h; cases h
     | some r =>
      rw [hfi] at h;obtain ⟨r',hr1,hr2⟩:=zkq hf hfi;have tail:∃v',VR φ v v'∧∀w,(do
        Instr.checkKey es'.isEmpty 10000 kt k
        let (v,okb) ← match ← Instr.findKey kt k es'.toList with
         | some (_,v)=>pure (v,true)
         | none=>pure (← zeroValue e,false)
        pure (if ok then Value.tuple #[v,.bool okb] else v):Sem Value).run P w=.ok v' w:=by
       cases r with
       | none =>
        cases r' with
        | some p=>exact hr2.elim
        | none =>
         simp only at h;cases hz:(P.info? e).bind (·.zero) with
         | none=>rw [hz] at h; cases h
         | some z =>
          rw [hz] at h;simp only at h;cases hfl:flat depth z with
          | false=>rw [hfl] at h; cases h
          | true =>
           rw [hfl] at h;simp only [cond_true,Option.some.injEq] at h;subst h;refine ⟨if ok then Value.tuple #[z,.bool false] else z,?_,fun w=>?_⟩
           ·cases ok
            ·exact D5 _ hfl
            ·exact z8a (D5 _ hfl) (.bool false)
           ·simp only [Sem.run_bind,T8 P _ _ hc w,Result.andThen_ok,T8 P _ _ hr1 w,z7j hz,Sem.run_pure]
       | some p =>
        obtain ⟨i,u⟩:=p;cases r' with
        | none=>exact hr2.elim
        | some p' =>
         obtain ⟨i',u'⟩:=p';simp only at h;simp only [Option.some.injEq] at h;subst h;refine ⟨if ok then Value.tuple #[u',.bool true] else u',?_,fun w=>?_⟩
         ·cases ok
          ·exact hr2.2
          ·exact z8a hr2.2 (.bool true)
         ·simp only [Sem.run_bind,T8 P _ _ hc w,Result.andThen_ok,T8 P _ _ hr1 w,Sem.run_pure]
      obtain ⟨v',hv1,hv2⟩:=tail;refine ⟨v',hv1,fun w hag=>?_⟩;rw [← hv2 w];rcases hx2 with ⟨rfl,rfl⟩ | ⟨rr,n,rfl,hg⟩
      ·simp only [Instr.lookup,Sem.run_bind,C2 ht,Result.andThen_ok,Sem.run_pure];rfl
      ·have hg2:w.heap[rr]? = some (.map es' n):=by
        have hlt:rr<w1.heap.size:=by rw [Array.getElem?_eq_some_iff] at hg; exact hg.1
        rw [hag _ hlt]; exact hg
       simp only [Instr.lookup,Sem.run_bind,C2 ht,Result.andThen_ok,Sem.run_pure,zg hg2];rfl
  | _=>cases h
theorem zns {φ:Inj} {H:AH} {w1:World} {t:TypeId} {q q':Addr} {v:Value} (hi:Inv φ H w1) (h:aLoad P t q H=some v) (hq:AddrR φ q q'):∃v',VR φ v v'∧∀w,agree w1 w→(loadVar t q').run P w=.ok v' w:=by
 unfold aLoad at h;split at h
 ·rename_i d i hu hii;have hagg:∀w,(isAgg t).run P w=.ok (isAggD d) w:=by
   intro w;simp only [isAgg,Sem.run_bind,C2 hu,Result.andThen_ok];cases d <;> rfl
  cases hd:isAggD d with
  | true =>
   rw [hd] at h;simp only [cond_true] at h;cases hr:rdCells H q 0 i.size with
   | none=>rw [hr] at h; cases h
   | some l =>
    rw [hr] at h;simp only [Option.some.injEq] at h;subst h;obtain ⟨hl,l',h1,h2⟩:=rd_run hi hq _ 0 l hr;refine ⟨.agg l'.toArray,?_,fun w hag=>?_⟩
    ·have:=AR_iff.2 (show LR φ l.toArray.toList l'.toArray.toList by simpa using h1);exact .agg _ _ this.1 this.2
    ·have hrun:=run_loadCells_list (P:=P) w q' l' (fun j u hu=>hag.cell (by have:=h2 j u hu; rwa [Nat.zero_add] at this));rw [← LR.length h1,hl] at hrun;simp only [loadVar,Sem.run_bind,hagg,hd,Result.andThen_ok,if_true,A6 hii,hrun,Sem.run_pure]
  | false =>
   rw [hd] at h;simp only [cond_false] at h;obtain ⟨v',h1,h2⟩:=hi.cell h hq;refine ⟨v',h2,fun w hag=>?_⟩;have:=hag.cell h1;simp only [loadVar,Sem.run_bind,hagg,hd,Result.andThen_ok,Bool.false_eq_true,if_false];simp [this]
 ·cases h
def detOp (P:Program) (H:AH) (o:Oper) (ρ:Operand→Value):Option Value :=
 match tPure P o ρ with
 | some v=>some v
 | none=>match o.op with
  | .load t x=>match ρ x with
   | .pointer (some a)=>aLoad P t a H
   | _=>none
  | .lookup t x k ok=>bif flat depth (ρ k) then aLookup P t (ρ x) (ρ k) ok H else none
  | .extract x i=>match ρ x with
   | .tuple cs=>cs[i]?
   | _=>none
  | .call { callee:=.builtin .len,args,argTypes }=>match (argTypes[0]?).bind P.underlying,(args.map ρ).toList with
   | some (.slice _),[.slice _ k _]=>some (goInt k)
   | _,_=>match flatRun P o ρ H with
    | some (v,_)=>some v
    | none=>none
  | .binOp .. | .unOp .. | .build .. | .pick .. | .field .. | .index ..=>match flatRun P o ρ H with
   | some (v,_)=>some v
   | none=>none
  | .convert s d _=>match P.underlying s,P.underlying d with
   | some (.int _),some (.int _)=>match flatRun P o ρ H with
    | some (v,_)=>some v
    | none=>none
   | some .string,some .string=>match flatRun P o ρ H with
    | some (v,_)=>some v
    | none=>none
   | _,_=>none
  | _=>none
theorem zk6 {φ:Inj} {H H':AH} {o:Oper} {ρ ρ':Operand→Value} {v:Value} (hρ:∀x∈o.op.operands,VR φ (ρ x) (ρ' x)) (h:flatRun P o ρ H=some (v,H')) (hns:∀w,∀nx,(execOp ρ' o).run P w=.ok nx w→nx≠.skip):∃v',VR φ v v'∧∀w,(execOp ρ' o).run P w=.ok (.value v') w:=by
 unfold flatRun at h;split at h
 ·cases h
 ·rename_i hs;cases ha:o.op.operands.all (fun x=>flat depth (ρ x)) with
  | false=>rw [ha] at h; cases h
  | true =>
   rw [ha] at h;simp only [cond_true] at h;rw [Array.all_eq_true_iff_forall_mem] at ha;have hc:execOp ρ o=execOp ρ' o:=execOp_congr hs fun x hx=>z22 depth (ha x hx) (hρ x hx);cases hp:peval P (execOp ρ o) with
   | none=>rw [hp] at h; cases h
   | some nx =>
    rw [hp] at h;rw [hc] at hp;cases nx with
    | value u =>
     simp only [asVal] at h;cases hf:flat depth u with
     | false=>rw [hf] at h; cases h
     | true =>
      rw [hf] at h;simp only [cond_true,Option.some.injEq,Prod.mk.injEq] at h;obtain ⟨rfl,rfl⟩:=h;exact ⟨u,D5 _ hf,fun w=>T8 P _ _ hp w⟩
    | skip=>exact absurd rfl (hns default _ (T8 P _ _ hp default))
    | _=>cases h
theorem N5 {s:Sem Value} {w:World} {nx:Next} (h:(do pure (Next.value (← s)):Sem Next).run P w=.ok nx w):nx≠.skip:=by
 rw [Sem.run_bind] at h;cases hs:s.run P w with
 | ok v w' =>
  rw [hs] at h;have:Result.ok (Next.value v) w'=Result.ok nx w:=h;simp only [Result.ok.injEq] at this;rw [← this.1]; intro e; cases e
 | halt x w'=>rw [hs] at h; cases h
theorem zor {φ:Inj} {H:AH} {w1:World} {o:Oper} {ρ ρ':Operand→Value} {v:Value} (hi:Inv φ H w1) (hρ:∀x∈o.op.operands,VR φ (ρ x) (ρ' x)) (h:detOp P H o ρ=some v) :
  ∃v',VR φ v v'∧∀w,agree w1 w→(execOp ρ' o).run P w=.ok (.value v') w:=by
 unfold detOp at h;cases ht:tPure P o ρ with
 | some u =>
  rw [ht] at h;simp only [Option.some.injEq] at h;subst h;obtain ⟨v',h1,h2⟩:=zi1 hρ ht;exact ⟨v',h1,fun w _=>h2 w⟩
 | none =>
  rw [ht] at h;simp only at h;have fl:(match flatRun P o ρ H with | some (v,_)=>some v | none=>none)=some v→(∀w,∀nx,(execOp ρ' o).run P w=.ok nx w→nx≠.skip)→∃v',VR φ v v'∧∀w,agree w1 w→(execOp ρ' o).run P w=.ok (.value v') w:=by
   intro h hns;cases hf:flatRun P o ρ H with
   | none=>rw [hf] at h; cases h
   | some p =>
    obtain ⟨u,H'⟩:=p;rw [hf] at h;simp only [Option.some.injEq] at h;subst h;obtain ⟨v',h1,h2⟩:=zk6 hρ hf hns;exact ⟨v',h1,fun w _=>h2 w⟩
  obtain ⟨dst,op,ty,pos,after,guard⟩:=o;simp only at h hρ;split at h
  ·rename_i t x;have hx:=hρ x (by simp [Op.operands]);split at h
   ·rename_i a ha;rw [ha] at hx;obtain ⟨q',hq,hqa⟩:=hx.ptr_inv;obtain ⟨v',h1,h2⟩:=zns hi h hqa;refine ⟨v',h1,fun w hag=>?_⟩;simp only [execOp,hq,Instr.loadAt,Instr.sureAddr,Sem.run_bind,Sem.run_pure,Result.andThen_ok,h2 w hag]
   ·cases h
  ·rename_i t x k ok;cases hf:flat depth (ρ k) with
   | false=>rw [hf] at h; cases h
   | true =>
    rw [hf] at h;simp only [cond_true] at h;have hk:=z22 depth hf (hρ k (by simp [Op.operands]));obtain ⟨v',h1,h2⟩:=zl0 (w1:=w1) hi h (hρ x (by simp [Op.operands]));refine ⟨v',h1,fun w hag=>?_⟩;rw [hk] at h2;simp only [execOp,Sem.run_bind,h2 w hag,Result.andThen_ok];rfl
  ·rename_i x i;have hx:=hρ x (by simp [Op.operands]);split at h
   ·rename_i cs hc;rw [hc] at hx;generalize hq:ρ' x=q at hx;cases hx with
    | tuple f f' hf h1 =>
     have hlt:i<f'.size:=by
      rw [Array.getElem?_eq_some_iff] at h;obtain ⟨h,_⟩:=h;omega
     refine ⟨f'[i],h1 i _ _ h (by simp [hlt]),fun w _=>?_⟩;have hrun:(Instr.extract (.tuple f') i).run P w=.ok f'[i] w:=by
      simp only [Instr.extract];simp [hlt]
     simp only [execOp,hq,Sem.run_bind,hrun,Result.andThen_ok];rfl
   ·cases h
  ·rename_i args ts;split at h
   ·rename_i e b k c hu hl;simp only [Option.some.injEq] at h;subst h;have hargs:AR φ (args.map ρ) (args.map ρ'):=ar_map args fun x hx=>hρ x (by simp [Op.operands,Call.operands,hx]);obtain ⟨_,x',hx',hv⟩:=ar_one hargs hl;obtain ⟨b',c',rfl⟩:=z51 hv;refine ⟨goInt k,.int _ _,fun w _=>?_⟩;cases hts:ts[0]? with
    | none=>rw [hts] at hu; cases hu
    | some t =>
     rw [hts] at hu;have hu:P.underlying t=some (.slice e):=hu;have hrun:(Builtin.len_ ts ty (args.map ρ')).run P w=.ok (goInt k) w:=by
      rw [hx'];simp [Builtin.len_,hts,C2 hu]
     show (do pure (Next.value (← Builtin.len_ ts ty (args.map ρ'))):Sem Next).run P w=_;rw [Sem.run_bind,hrun]; rfl
   ·exact fl h fun w nx hr=>N5 (s:=Builtin.len_ ts ty (args.map ρ')) hr
  ·rename_i bo t x y u;exact fl h fun w nx hr=>N5 (s:=(do eqGuard bo t x y (ρ' x) (ρ' y); binOp bo t (ρ' x) (ρ' y))) hr
  ·rename_i uo t x;exact fl h fun w nx hr=>N5 (s:=Op.unary uo (ρ' x)) hr
  ·rename_i t ps;exact fl h fun w nx hr=>N5 (s:=Instr.build t (ps.map fun (i,x)=>(i,ρ' x))) hr
  ·rename_i c x y;exact fl h fun w nx hr=>by
    simp only [execOp,Sem.run_bind] at hr;cases hb:(asBool (ρ' c)).run P w with
    | ok b w' =>
     rw [hb] at hr;have:Result.ok (Next.value (if b then ρ' x else ρ' y)) w'=Result.ok nx w:=hr;simp only [Result.ok.injEq] at this;rw [← this.1]; intro e; cases e
    | halt z w'=>rw [hb] at hr; cases hr
  ·rename_i t x f;exact fl h fun w nx hr=>N5 (s:=Instr.field t (ρ' x) f) hr
  ·rename_i t x y;exact fl h fun w nx hr=>N5 (s:=Instr.index t (ρ' x) (ρ' y)) hr
  ·rename_i s d x;split at h
   ·exact fl h fun w nx hr=>N5 (s:=convert s d (ρ' x)) hr
   ·exact fl h fun w nx hr=>N5 (s:=convert s d (ρ' x)) hr
   ·cases h
  ·cases h
end Go.Abs
namespace Go.Abs
variable {P:Program} {ne:NE} {m n:Nat}
def dem (A:List Nat) (bs:List Nat) (j:Nat):Bool:=!(A.all fun i=>Nat.blt i j&&pre bs j i)
def mvAt (ops:Array Oper) (j:Nat):Bool :=
 match ops[j]? with
 | some o=>(match o.op with
  | .move _=>true
  | .assign _=>true
  | .pick ..=>true
  | _=>false)
 | none=>false
def demO (ops:Array Oper) (A:List Nat) (bs:List Nat) (j:Nat):Bool:=dem A bs j&&!mvAt ops j
theorem zps {P:Program} {ops:Array Oper} {Q:Exit→Act→World→Prop} {j:Nat} {K:Act→World→Prop} {a:Act} {w:World} (hm:mvAt ops j=true) (h:wpOp P ops Q j K a w):wpOp P ops Q j (fun a' w'=>w'=w∧K a' w') a w:=by
 unfold wpOp at *;unfold mvAt at hm;cases ho:ops[j]? with
 | none=>rw [ho] at hm; cases hm
 | some o =>
  rw [ho] at h hm;simp only at h hm ⊢;split
  ·rename_i hw;rw [if_pos hw] at h;rcases h with h | h
   ·left;unfold Oper.wp at *;have hr:(∃v,(execOp a.eval o).run P w=.ok (.value v) w)∨∃x,(execOp a.eval o).run P w=.halt x w:=by
     obtain ⟨dst,op,ty,pos,after,guard⟩:=o;cases op with
     | move x=>exact .inl ⟨_,rfl⟩
     | assign x=>exact .inl ⟨_,rfl⟩
     | pick c x y =>
      simp only [execOp];cases hc:a.eval c with
      | bool b=>exact .inl ⟨_,rfl⟩
      | _=>exact .inr ⟨_,rfl⟩
     | _=>cases hm
    rcases hr with ⟨v,hr⟩ | ⟨x,hr⟩
    ·rw [hr] at h ⊢;exact ⟨by first | rfl | trivial,h⟩
    ·rw [hr] at h ⊢;cases x <;> exact h
   ·exact .inr h
  ·rename_i hw;rw [if_neg hw] at h;exact ⟨by first | rfl | trivial,h⟩
def wpAnyD (P:Program) (ops:Array Oper) (Q:Exit→Act→World→Prop) (bs A:List Nat) (w1:World):Nat→Array Bool→Act→World→Prop
 | 0,la,a,w=>Region.ready .any ops la=[]∧Q .normal a w
 | f+1,la,a,w=>(Region.ready .any ops la=[]→Q .normal a w) ∧
  ∀i∈Region.ready .any ops la,wpOp P ops Q i (fun a' w'=>(demO ops A bs i=true→agree w1 w')∧wpAnyD P ops Q bs A w1 f (la.setIfInBounds i true) a' w') a w
variable {ops:Array Oper} {Q:Exit→Act→World→Prop} {bs A:List Nat} {w1:World}
theorem zfl:∀(f:Nat) (la:Array Bool) (a:Act) (w:World),wpAnyD P ops Q bs A w1 f la a w→wpAny P .any ops Q f la a w
 | 0,_,_,_,h=>h
 | f+1,_,_,_,h=>⟨h.1,fun i hi=>wpOp_mono (fun a' w' h'=>zfl f _ a' w' h'.2) (h.2 i hi)⟩
theorem zk3 {i:Nat} {oi:Oper} {v:Value} (hi:ops[i]? = some oi) (hA:A.contains i=true) (hc:closedOk ops.toList bs=true) (hsel:∀(j:Nat) (o:Oper) cs b,ops[j]? = some o→o.op≠.select cs b)
  (hQ:∀c a w,¬Q (.panic c) a w) :
  ∀(fuel:Nat) (la:Array Bool) (a:Act) (w:World),JC ops bs la →
   (∀j oj,ops[j]? = some oj→j≠i→la.getD j true=false→(∀e∈oj.after,Region.binds .any e=true→e.on≠i)→oi.apart ops oj=true) →
   i∈Region.ready .any ops la→YieldsIf P ops (agree w1) oi v a→agree w1 w →
   wpAnyD P ops Q bs A w1 fuel (la.setIfInBounds i true) (a.put oi.dst v) w→wpAnyD P ops Q bs A w1 (fuel+1) la a w:=by
 intro fuel;induction fuel with
 | zero =>
  intro la a w hJ _ hr hy hS H;refine ⟨fun h=>(by rw [h] at hr; cases hr),fun j hj=>?_⟩;by_cases hji:j=i
  ·subst hji; exact hy.wpOp hi hS ⟨fun _=>hS,H⟩
  ·have:=ready_mono hj hji;rw [H.1] at this;cases this
 | succ fuel ih =>
  intro la a w hJ hfree hr hy hS H;refine ⟨fun h=>(by rw [h] at hr; cases hr),fun j hj=>?_⟩;by_cases hji:j=i
  ·subst hji; exact hy.wpOp hi hS ⟨fun _=>hS,H⟩
  ·have h1:=H.2 j (ready_mono hj hji);have r:=rdy_of hc hJ hj;have ri:=rdy_of hc hJ hr;have hd:dem A bs j=true:=by
    cases hq:dem A bs j with
    | true=>rfl
    | false =>
     exfalso;unfold dem at hq;have hq:(A.all fun i=>Nat.blt i j&&pre bs j i)=true:=by simpa using hq
     rw [List.all_eq_true] at hq;have:=hq i (by simpa using hA);simp only [Bool.and_eq_true] at this;exact ri.no (r.all i (blt_lt this.1) this.2)
   have h1:wpOp P ops Q j (fun a' w'=>agree w1 w'∧(demO ops A bs j=true→agree w1 w')∧wpAnyD P ops Q bs A w1 fuel ((la.setIfInBounds i true).setIfInBounds j true) a' w') (a.put oi.dst v) w:=by
    cases hm:mvAt ops j with
    | true=>exact wpOp_mono (fun a' w' hh=>⟨by rw [hh.1]; exact hS,hh.2⟩) (zps hm h1)
    | false=>exact wpOp_mono (fun a' w' hh=>⟨hh.1 (by unfold demO; rw [hd,hm]; rfl),hh⟩) h1
   obtain ⟨hjun,oj,hoj,hall⟩:=mem_ready.1 hj;have hnot:∀e∈oj.after,Region.binds .any e=true→e.on≠i:=fun e he hb heq=>by
    have h1:=hall e he hb;have h0:=(mem_ready.1 hr).1;rw [heq] at h1;rcases Nat.lt_or_ge i la.size with h' | h'
    ·simp [h'] at h0 h1; rw [h0] at h1; cases h1
    ·simp [Array.getElem?_eq_none h'] at h1
   have h2:=wpOp_putIf hoj (hfree j oj hoj hji hjun hnot) (fun cs b=>hsel i oi cs b hi) (fun cs b=>hsel j oj cs b hoj) (fun c a w h=>absurd h (hQ c _ w)) hy h1;have hfree':∀k ok,ops[k]? = some ok→k≠i→(la.setIfInBounds j true).getD k true=false →
     (∀e∈ok.after,Region.binds .any e=true→e.on≠i)→oi.apart ops ok=true:=fun k ok hk hki hun hno=>by
    refine hfree k ok hk hki ?_ hno;by_cases hjk:j=k
    ·subst hjk; exact hjun
    ·rw [getD_set_ne true hjk] at hun; exact hun
   refine wpOp_mono (fun a' w' h3=>⟨fun _=>h3.2.1,ih (la.setIfInBounds j true) a' w' (hJ.next r) hfree' (ready_mono hr (Ne.symm hji)) h3.1 h3.2.1 ?_⟩) h2;rw [Array.setIfInBounds_comm _ _ hji];exact h3.2.2.2
structure DC (P:Program) (H1:AH) (ls1:Lcs) (w1:World) (φ1:Inj) (cs1:List Nat):Prop where
 glob:Glob P φ1
 inv:Inv φ1 H1 w1
 loc:∀(i:Nat) c x,cs1[i]? = some c→ls1[i]? = some (some x)→∃rs,w1.heap[c]? = some (.cells rs x.1 (0,0))∧LR φ1 x.2 rs.toList
 len:cs1.length=ls1.length
structure Agr (m:Nat) (H1:AH) (w1:World) (cs1:List Nat) (φ:Inj) (w:World) (cs:List Nat):Prop where
 ag:agree w1 w
 jn:∀id l,Nat.max m H1.next≤id→φ id=some l→w1.heap.size≤l.blk
 nw:∀(i c:Nat),cs1.length≤i→cs[i]? = some c→w1.heap.size≤c
theorem z63 {w1 w:World} (h:agree w1 w):w1.heap.size≤w.heap.size:=by
 rcases Nat.lt_or_ge w.heap.size w1.heap.size with hlt | h'
 ·have:=h w.heap.size hlt;rw [Array.getElem?_eq_none (Nat.le_refl _),Array.getElem?_eq_getElem hlt] at this;cases this
 ·exact h'
theorem Agr.start {φ:Inj} {H:AH} {w:World} {cs:List Nat} (hi:Inv φ H w):Agr m H w cs φ w cs :=
 ⟨agree.refl _,fun id l h1 h2=>by have:=(hi.dom id l h2).1; have:=Nat.le_max_right m H.next; have h1:max m H.next≤id:=h1; omega,fun i c h1 h2=>by rw [List.getElem?_eq_none h1] at h2; cases h2⟩
def KA (φ1:Inj) (cs1:List Nat) (knA:KN) (a:Act):Prop:=∀t kv,lkV knA t=some kv→KR φ1 cs1 kv (a.tmps.getD t undef)
def DA (P:Program) (ne:NE) (m:Nat) (E:Ent) (n:Nat) (ops:Array Oper) (bs A:List Nat) (H1:AH) (ls1:Lcs) (f:Nat) (la:Array Bool) (ag:Bool) (knA kn:KN) (ls:Lcs) (H:AH) (Q:Exit→Act→World→Prop):Prop :=
 ∀w1 φ1 cs1 a w φ cs,DC P H1 ls1 w1 φ1 cs1→φ1.le φ→SSφ P ne m E n kn ls H a w φ cs→KA φ1 cs1 knA a→(∀(i:Nat) (c:Nat),cs1[i]? = some c→cs[i]? = some c)→JC ops bs la→(ag=true→Agr m H1 w1 cs1 φ w cs)→wpAnyD P ops Q bs A w1 f la a w
def DAk (P:Program) (ne:NE) (m:Nat) (E:Ent) (n:Nat) (ops:Array Oper) (bs A:List Nat) (H1:AH) (ls1:Lcs) (k f:Nat) (la:Array Bool) (ag:Bool) (knA kn:KN) (ls:Lcs) (H:AH) (Q:Exit→Act→World→Prop):Prop :=
 ∀w1 φ1 cs1 a w φ cs,DC P H1 ls1 w1 φ1 cs1→φ1.le φ→SSφ P ne m E n kn ls H a w φ cs→KA φ1 cs1 knA a→(∀(i:Nat) (c:Nat),cs1[i]? = some c→cs[i]? = some c)→JC ops bs la→(ag=true→Agr m H1 w1 cs1 φ w cs) →
  wpOp P ops Q k (fun a' w'=>(demO ops A bs k=true→agree w1 w')∧wpAnyD P ops Q bs A w1 f (la.setIfInBounds k true) a' w') a w
section
variable {E:Ent} {knA kn:KN} {ls ls1:Lcs} {H H1:AH} {a:Act} {w:World} {φ φ1:Inj} {cs cs1:List Nat} {f k:Nat} {la:Array Bool} {ag:Bool}
theorem WS.drawn {c:Code} (ops:Array Oper) (A:List Nat) (hc:regOf c=some (ops,true)) (hB:closedOk ops.toList (befores ops.toList)=true) (h:DA P ne m E n ops (befores ops.toList) A H ls ops.size (Array.replicate ops.size false) true kn kn ls H Q):WS P ne m E n c kn ls H Q:=by
 cases c with
 | region id ops' d =>
  simp only [regOf,Option.some.injEq,Prod.mk.injEq] at hc;obtain ⟨rfl,rfl⟩:=hc;intro a w hs;obtain ⟨φ,cs,hs⟩:=hs;refine wp_region_any hs.sane.mixed ?_;have hs':SSφ P ne m E n kn ls H a { w with drawn:=w.drawn+1 } φ cs :=
   ⟨hs.glob,⟨hs.inv.dom,hs.inv.obj,hs.inv.sep⟩,⟨hs.step.le,hs.step.ext,hs.step.new,hs.step.alv,hs.step.size,hs.step.keep,hs.step.os,hs.step.tape,hs.step.output⟩,hs.len,fun i c x h1 h2=>⟨(hs.loc i c x h1 h2).1,(hs.loc i c x h1 h2).2,(hs.loc i c x h1 h2).3⟩,hs.inj,hs.low,hs.slot,hs.size,hs.defers,hs.sane,hs.inv0⟩
  exact zfl _ _ _ _ (h _ φ cs a _ φ cs ⟨hs'.glob,hs'.inv,fun i c x h1 h2=>(hs'.loc i c x h1 h2).2,hs'.len⟩ (Inj.le_refl φ) hs' (fun t kv hl=>hs'.slot t kv hl) (fun _ _ hc=>hc) ⟨by simp,fun i j hh=>by
   unfold LL at hh;rw [Array.getD_eq_getD_getElem?,Array.getElem?_replicate] at hh;split at hh <;> cases hh⟩ (fun _=>.start hs'.inv))
 | _=>cases hc
theorem DA.done (hr:readyIs ops la []=true) (h:∀a w,SS P ne m E n kn ls H a w→Q .normal a w):DA P ne m E n ops bs A H1 ls1 f la ag knA kn ls H Q:=by
 intro w1 φ1 cs1 a w φ cs _ _ hs _ _ _ _;have hr:=z65 hr;cases f with
 | zero=>exact ⟨hr,h a w ⟨φ,cs,hs⟩⟩
 | succ f=>exact ⟨fun _=>h a w ⟨φ,cs,hs⟩,by rw [hr]; simp⟩
theorem KA.put (h:KA φ1 cs1 knA a) {n:Nat} (hsz:n≤a.tmps.size) {d:Option Nat} (hd:(match d with | some a=>Nat.blt a n | none=>true)=true) {kv:KV} {v':Value} (hv:KR φ1 cs1 kv v'):KA φ1 cs1 (putV knA d kv) (a.put d v'):=by
 cases d with
 | none=>exact h
 | some d =>
  have hlt:d<a.tmps.size:=Nat.lt_of_lt_of_le (blt_lt hd) hsz;intro t kv' hl;simp only [putV,lkV] at hl;simp only [Act.put];rw [Array.getD_eq_getD_getElem?,Array.getElem?_setIfInBounds];cases hb:Nat.beq d t with
  | true =>
   rw [hb] at hl;have:=Nat.eq_of_beq_eq_true hb;subst this;cases hl;rw [if_pos rfl,if_pos hlt];exact hv
  | false =>
   rw [hb] at hl;rw [if_neg (Nat.ne_of_beq_eq_false hb),← Array.getD_eq_getD_getElem?];exact h t kv' hl
def dropV (d:Option Nat) (knA:KN):KN:=match d with
 | some d=>knA.filter fun p=>!(Nat.beq p.1 d)
 | none=>knA
theorem zqp {d:Nat}:∀{kn:KN} {t:Nat} {kv:KV},lkV (kn.filter fun p=>!(Nat.beq p.1 d)) t=some kv→t≠d∧lkV kn t=some kv:=by
 intro kn;induction kn with
 | nil=>intro t kv h; cases h
 | cons p l ih =>
  obtain ⟨s,v⟩:=p;intro t kv h;rw [List.filter_cons] at h;cases hq:Nat.beq s d with
  | true =>
   rw [hq] at h;obtain ⟨h1,h2⟩:=ih (by simpa using h);refine ⟨h1,?_⟩;simp only [lkV];have e:=Nat.eq_of_beq_eq_true hq;cases hs:Nat.beq s t with
   | true=>exact absurd ((Nat.eq_of_beq_eq_true hs).symm.trans e) h1
   | false=>exact h2
  | false =>
   rw [hq] at h;simp only [Bool.not_false,if_true,lkV] at h;simp only [lkV];cases hs:Nat.beq s t with
   | true =>
    rw [hs] at h;have e:=Nat.eq_of_beq_eq_true hs;subst e;exact ⟨Nat.ne_of_beq_eq_false hq,h⟩
   | false=>rw [hs] at h; exact ih h
theorem KA.drop (h:KA φ1 cs1 knA a) (d:Option Nat) (v':Value):KA φ1 cs1 (dropV d knA) (a.put d v'):=by
 cases d with
 | none=>exact h
 | some d =>
  intro t kv hl;obtain ⟨h1,h2⟩:=zqp hl;simp only [Act.put];rw [Array.getD_eq_getD_getElem?,Array.getElem?_setIfInBounds,if_neg (fun e=>h1 e.symm),← Array.getD_eq_getD_getElem?];exact h t kv h2
def takeB (P:Program) (n:Nat) (ops:Array Oper) (A:List Nat) (la:Array Bool) (k:Nat) (o:Oper):Bool :=
 A.contains k&&Region.noSelect ops&&Region.free .any ops la k&&(Region.ready .any ops la).contains k&&dstV n o
theorem evalA_ (h:KA φ1 cs1 knA a) (hg:Glob P φ1) {x:Operand} (hk:knownV knA x=true) (hx:okx P x=true):VR φ1 (evV knA x) (a.eval x):=by
 cases x with
 | tmp t =>
  simp only [knownV] at hk;simp only [evV];cases hl:lkV knA t with
  | none=>rw [hl] at hk; cases hk
  | some kv =>
   cases kv with
   | val v=>exact h t _ hl
   | loc i off=>rw [hl] at hk; cases hk
   | sli i n=>rw [hl] at hk; cases hk
 | const v=>exact D5 depth hx
 | global g =>
  have hlt:g<P.globals.size:=blt_lt hx;obtain ⟨l,h1,h2,h3⟩:=hg g hlt;have:=VR.ptr (φ:=φ1) g 0 l h1;rw [h2,h3] at this;exact this
 | func f=>exact .func (.func f) #[] #[] #[] #[] rfl rfl (fun i x y hx=>by simp at hx) (fun i x y hx=>by simp at hx)
theorem zdg (ho:ops[k]? = some (opAt ops k)) (hB:takeB P n ops A la k (opAt ops k)=true) (hc:closedOk ops.toList bs=true) (hQ:∀c a w,¬Q (.panic c) a w) {kv:KV} {w1:World}
  (hd:DC P H1 ls1 w1 φ1 cs1) (hle:φ1.le φ) (hs:SSφ P ne m E n kn ls H a w φ cs) (hka:KA φ1 cs1 knA a) (hpf:∀(i:Nat) (c:Nat),cs1[i]? = some c→cs[i]? = some c) (hJ:JC ops bs la) (hag:Agr m H1 w1 cs1 φ w cs) {v':Value} (hkr:KR φ1 cs1 kv v') (hkr2:KR φ cs kv v') (hy:YieldsIf P ops (agree w1) (opAt ops k) v' a)
  (h:DA P ne m E n ops bs A H1 ls1 f (la.setIfInBounds k true) true (putV knA (opAt ops k).dst kv) (putV kn (opAt ops k).dst kv) ls H Q):wpAnyD P ops Q bs A w1 (f+1) la a w:=by
 unfold takeB at hB;simp only [Bool.and_eq_true] at hB;obtain ⟨⟨⟨⟨b1,b2⟩,b3⟩,b4⟩,b5⟩:=hB;have hr:k∈Region.ready .any ops la:=by simpa using b4
 refine zk3 ho b1 hc (Region.noSelect_spec b2) hQ f la a w hJ (Region.free_spec ho b3) hr hy hag.ag ?_;exact h w1 φ1 cs1 _ w φ cs hd hle (hs.put b5 hkr2) (hka.put hs.size b5 hkr) hpf (hJ.next (rdy_of hc hJ hr)) (fun _=>hag)
theorem DA.take {v:Value} (ho:ops[k]? = some (opAt ops k)) (hB:takeB P n ops A la k (opAt ops k)=true) (hc:closedOk ops.toList bs=true) (hQ:∀c a w,¬Q (.panic c) a w)
  (hw:(wantV ops kn (opAt ops k),(opAt ops k).op.operands.all (okx P),(opAt ops k).op.operands.all (knownV knA))=(some true,true,true)) (hv:detOp P H1 (opAt ops k) (evV knA)=some v)
  (h:DA P ne m E n ops bs A H1 ls1 f (la.setIfInBounds k true) true (putV knA (opAt ops k).dst (.val v)) (putV kn (opAt ops k).dst (.val v)) ls H Q):DA P ne m E n ops bs A H1 ls1 (f+1) la true knA kn ls H Q:=by
 intro w1 φ1 cs1 a w φ cs hd hle hs hka hpf hJ hag;simp only [Prod.mk.injEq] at hw;obtain ⟨hw1,hw2,hw3⟩:=hw;rw [Array.all_eq_true_iff_forall_mem] at hw2 hw3;obtain ⟨v',h1,h2⟩:=zor (ρ':=a.eval) hd.inv (fun x hx=>evalA_ hka hd.glob (hw3 x hx) (hw2 x hx)) hv;exact zdg ho hB hc hQ hd hle hs hka hpf hJ (hag rfl) (kv:=.val v) h1 (h1.mono hle) (.inl ⟨F8 hs hw1,h2⟩) h
theorem DA.tskip (ho:ops[k]? = some (opAt ops k)) (hB:takeB P n ops A la k (opAt ops k)=true) (hc:closedOk ops.toList bs=true) (hQ:∀c a w,¬Q (.panic c) a w) (hw:wantV ops kn (opAt ops k)=some false)
  (h:DA P ne m E n ops bs A H1 ls1 f (la.setIfInBounds k true) true (putV knA (opAt ops k).dst (.val undef)) (putV kn (opAt ops k).dst (.val undef)) ls H Q):DA P ne m E n ops bs A H1 ls1 (f+1) la true knA kn ls H Q:=by
 intro w1 φ1 cs1 a w φ cs hd hle hs hka hpf hJ hag;exact zdg ho hB hc hQ hd hle hs hka hpf hJ (hag rfl) (kv:=.val undef) (v':=undef) (z2x _) (z2x _) (.inr ⟨F8 hs hw,rfl⟩) h
def locDet (P:Program) (knA:KN) (ls1:Lcs) (o:Oper):Option KV :=
 match o.op with
 | .move _ | .assign _ | .nilCheck _ | .fieldAddr .. | .load ..=>(locOp P knA ls1 o).map (·.1)
 | _=>none
theorem zhr {o:Oper} {kv:KV} (h:locDet P knA ls1 o=some kv) (hd:DC P H1 ls1 w1 φ1 cs1) (hka:KA φ1 cs1 knA a):∃v',KR φ1 cs1 kv v'∧∀w,agree w1 w→(execOp a.eval o).run P w=.ok (.value v') w:=by
 unfold locDet at h;have hl:∃ls',locOp P knA ls1 o=some (kv,ls'):=by
  split at h;all_goals first | (cases hq:locOp P knA ls1 o with | none=>rw [hq] at h; cases h | some p=>obtain ⟨x,y⟩:=p; rw [hq] at h; simp only [Option.map_some,Option.some.injEq] at h; subst h; exact ⟨y,rfl⟩) | cases h
 obtain ⟨ls',hl⟩:=hl;obtain ⟨dst,op,ty,pos,after,guard⟩:=o;unfold locOp at hl;simp only at hl h;split at hl
 ·rename_i t;split at hl
  ·rename_i i off hk;simp only [Option.some.injEq,Prod.mk.injEq] at hl;obtain ⟨rfl,rfl⟩:=hl;exact ⟨a.tmps.getD t undef,hka t _ hk,fun w _=>rfl⟩
  ·cases hl
 ·rename_i t;split at hl
  ·rename_i i off hk;simp only [Option.some.injEq,Prod.mk.injEq] at hl;obtain ⟨rfl,rfl⟩:=hl;exact ⟨a.tmps.getD t undef,hka t _ hk,fun w _=>rfl⟩
  ·cases hl
 ·rename_i t;split at hl
  ·rename_i i off hk;simp only [Option.some.injEq,Prod.mk.injEq] at hl;obtain ⟨rfl,rfl⟩:=hl;refine ⟨a.tmps.getD t undef,hka t _ hk,fun w _=>?_⟩;obtain ⟨c,h1,h2⟩:=hka t _ hk;have:a.eval (.tmp t)=.pointer (some ⟨c,off,none⟩):=h2;simp only [execOp,this];rw [h2]; rfl
  ·cases hl
 ·rename_i s t f;split at hl
  ·rename_i i off fs hk hu;cases hf:fs[f]? with
   | none=>rw [hf] at hl; cases hl
   | some fd =>
    rw [hf] at hl;simp only at hl;cases hi:P.info? fd.type with
    | none=>rw [hi] at hl; cases hl
    | some inf =>
     rw [hi] at hl;simp only at hl;cases hz:Nat.beq inf.size 0 with
     | true=>rw [hz] at hl; cases hl
     | false =>
      rw [hz] at hl;simp only [cond_false,Option.some.injEq,Prod.mk.injEq] at hl;obtain ⟨rfl,rfl⟩:=hl;obtain ⟨c,h1,h2⟩:=hka t _ hk;have he:a.eval (.tmp t)=.pointer (some ⟨c,off,none⟩):=h2;refine ⟨.pointer (some ⟨c,off+fd.offset,none⟩),⟨c,h1,rfl⟩,fun w _=>?_⟩;have hne:=Nat.ne_of_beq_eq_false hz;have hrun:(Instr.fieldAt s (.pointer (some ⟨c,off,none⟩)) f).run P w=.ok (.pointer (some ⟨c,off+fd.offset,none⟩)) w:=by
       simp only [Instr.fieldAt,Sem.run_bind,C2 hu,Result.andThen_ok,hf,Instr.sureAddr,Sem.run_pure,fieldPlace,A6 hi];rw [if_neg hne];simp only [Sem.run_pure,Result.andThen_ok,Addr.add_lit]
      simp only [execOp,he,Sem.run_bind,hrun,Result.andThen_ok];rfl
  ·cases hl
 ·rename_i t x;split at hl
  ·rename_i i off d inf hk hu hi;split at hl
   ·rename_i e cells hc;obtain ⟨c,h1,h2⟩:=hka x _ hk;obtain ⟨rs,g2,g3⟩:=hd.loc i c _ h1 hc;have he:a.eval (.tmp x)=.pointer (some ⟨c,off,none⟩):=h2;have hlen:=LR.length g3;simp only at hlen g3;have hlt:c<w1.heap.size:=by rw [Array.getElem?_eq_some_iff] at g2; exact g2.1
    have hagg:∀w,(isAgg t).run P w=.ok (isAggD d) w:=by
     intro w;simp only [isAgg,Sem.run_bind,C2 hu,Result.andThen_ok];cases d <;> rfl
    have hex:∀w v,(loadVar t ⟨c,off,none⟩).run P w=.ok v w→(execOp a.eval ⟨dst,.load t (.tmp x),ty,pos,after,guard⟩).run P w=.ok (.value v) w:=by
     intro w v hr;simp only [execOp,he,Instr.loadAt,Instr.sureAddr,Sem.run_bind,Sem.run_pure,Result.andThen_ok,hr]
    have hcell:∀w,agree w1 w→∀(j:Nat) u,rs[off+j]? = some u→w.cell? ((⟨c,off,none⟩:Addr).add j)=some u:=by
     intro w hag j u hu;rw [Addr.add_lit];simp [World.cell?,hag c hlt,g2,hu]
    cases hda:isAggD d with
    | true =>
     rw [hda] at hl;simp only [cond_true] at hl;cases hb:Nat.ble (off+inf.size) cells.length with
     | false=>rw [hb] at hl; cases hl
     | true =>
      rw [hb] at hl;simp only [cond_true,Option.some.injEq,Prod.mk.injEq] at hl;obtain ⟨rfl,rfl⟩:=hl;have hble:=Nat.le_of_ble_eq_true hb;have hls:((rs.toList.drop off).take inf.size).length=inf.size:=by simp at hlen ⊢; omega
      refine ⟨.agg ((rs.toList.drop off).take inf.size).toArray,?_,fun w hag=>hex w _ ?_⟩
      ·have hpw:AR φ1 ((cells.drop off).take inf.size).toArray ((rs.toList.drop off).take inf.size).toArray:=by
        refine ⟨by simp at hlen ⊢; omega,fun j u v hu hv=>?_⟩;have hA:=AR_iff.2 (show LR φ1 cells.toArray.toList rs.toList by simpa using g3);rw [List.getElem?_toArray,List.getElem?_take] at hu hv;split at hu
        ·rename_i hj;rw [if_pos hj,List.getElem?_drop] at hv;rw [List.getElem?_drop] at hu;exact hA.2 (off+j) u v (by simpa using hu) (by simpa using hv)
        ·cases hu
       exact .agg _ _ hpw.1 hpw.2
      ·have hrun:=run_loadCells_list (P:=P) w ⟨c,off,none⟩ ((rs.toList.drop off).take inf.size) (fun j u hu=>by
        rw [List.getElem?_take] at hu;split at hu
        ·rw [List.getElem?_drop] at hu;exact hcell w hag j u (by simpa using hu)
        ·cases hu)
       rw [hls] at hrun;simp only [loadVar,Sem.run_bind,hagg w,Result.andThen_ok,hda,if_true,A6 hi,hrun,Sem.run_pure]
    | false =>
     rw [hda] at hl;simp only [cond_false] at hl;cases hv:cells[off]? with
     | none=>rw [hv] at hl; cases hl
     | some v =>
      rw [hv] at hl;simp only [Option.some.injEq,Prod.mk.injEq] at hl;obtain ⟨rfl,rfl⟩:=hl;have hA:=AR_iff.2 (show LR φ1 cells.toArray.toList rs.toList by simpa using g3);obtain ⟨v',hv',hvr⟩:=hA.get (show cells.toArray[off]? = some v by simpa using hv);refine ⟨v',hvr,fun w hag=>hex w _ ?_⟩;have h0:=hcell w hag 0 v' (by simpa using hv');have e0:(⟨c,off,none⟩:Addr).add 0=⟨c,off,none⟩:=rfl;rw [e0] at h0;simp only [loadVar,Sem.run_bind,hagg w,hda,Result.andThen_ok,Bool.false_eq_true,if_false];simp [h0]
   ·cases hl
  ·cases hl
 all_goals first | (simp only [reduceCtorEq] at h; done) | (cases hl; done)
theorem KR.pfx {kv:KV} {v':Value} (hle:φ1.le φ) (hpf:∀(i:Nat) (c:Nat),cs1[i]? = some c→cs[i]? = some c) (h:KR φ1 cs1 kv v'):KR φ cs kv v':=by
 cases kv with
 | val v=>exact VR.mono hle h
 | loc i off =>
  obtain ⟨c,h1,h2⟩:=h;exact ⟨c,hpf i c h1,h2⟩
 | sli i n =>
  obtain ⟨⟨c,h1,h2⟩,h3⟩:=h;exact ⟨⟨c,hpf i c h1,h2⟩,h3⟩
theorem DA.takeL {kv:KV} (ho:ops[k]? = some (opAt ops k)) (hB:takeB P n ops A la k (opAt ops k)=true) (hc:closedOk ops.toList bs=true) (hQ:∀c a w,¬Q (.panic c) a w) (hw:wantV ops kn (opAt ops k)=some true) (hv:locDet P knA ls1 (opAt ops k)=some kv)
  (h:DA P ne m E n ops bs A H1 ls1 f (la.setIfInBounds k true) true (putV knA (opAt ops k).dst kv) (putV kn (opAt ops k).dst kv) ls H Q):DA P ne m E n ops bs A H1 ls1 (f+1) la true knA kn ls H Q:=by
 intro w1 φ1 cs1 a w φ cs hd hle hs hka hpf hJ hag;obtain ⟨v',h1,h2⟩:=zhr hv hd hka;exact zdg ho hB hc hQ hd hle hs hka hpf hJ (hag rfl) (kv:=kv) h1 (h1.pfx hle hpf) (.inl ⟨F8 hs hw,h2⟩) h
theorem zou {m2:Nat} {g:Nat} {args:Array Value} {v:Value} {H':AH} {o:Oper} (hs:SSφ P ne m E n kn ls H a w φ cs) (hx:o.op.operands.all (okx P)=true) (hkn:o.op.operands.all (knownV kn)=true) (hc:callV kn o=some (g,args)) (hr:CallS P ne m2 g args H v H')
  {K:Act→World→Prop} (hn:∀φ' v' w',VR φ' v v'→Inv φ' H' w'→Step m2 φ H w φ' H' w'→K (a.put o.dst v') w'):o.wp P a w K Q:=by
 rw [Array.all_eq_true_iff_forall_mem] at hkn hx;have hev:∀x∈o.op.operands,VR φ (evV kn x) (a.eval x):=fun x hxm=>hs.eval (hkn x hxm) (hx x hxm);obtain ⟨⟨fn,c,hf,hb⟩,hr⟩:=hr hs.sane;obtain ⟨dst,op,ty,pos,after,guard⟩:=o;unfold callV at hc;simp only at hc hev hn;split at hc
 ·rename_i g args0 ts;have hgv:=hev g (by simp [Op.operands,Call.operands]);have hargs:AR φ (args0.map (evV kn)) (args0.map a.eval):=ar_map args0 fun x hx=>hev x (by simp [Op.operands,Call.operands,hx]);split at hc
  ·rename_i f0 first cap hge
   simp only [Option.some.injEq,Prod.mk.injEq] at hc;obtain ⟨rfl,rfl⟩:=hc;rw [hge] at hgv;generalize hq:a.eval g=q at hgv;cases hgv with
   | func fn' f1 g1 f1' g1' hf1 hg1 i1 i2 =>
    have hall:AR φ (first++args0.map (evV kn)++cap) (f1'++args0.map a.eval++g1'):=((AR.append ⟨hf1,i1⟩ hargs).append ⟨hg1,i2⟩);show Oper.upon P _ a K Q _;have hex:execOp a.eval { dst:=dst,op:=.call { callee:=.value g,args:=args0,argTypes:=ts },type:=ty,pos:=pos,after:=after,guard:=guard }=callFunc f0 (f1'++args0.map a.eval++g1'):=by
     simp only [execOp,resolve,hq]; rfl
    rw [hex,z5z hs.sane hf hb];exact z9j (hr φ w _ hs.glob hall hs.inv) hn
  ·cases hc
 ·cases hc
theorem agree.trans' {w1 w w':World} (h1:agree w1 w) (h2:agree w w'):agree w1 w':=fun c hc=>by
 have hlt:c<w.heap.size:=by
  have:=h1 c hc;rw [Array.getElem?_eq_getElem hc] at this;rw [Array.getElem?_eq_some_iff] at this;exact this.1
 rw [h2 c hlt,h1 c hc]
theorem z6h (ho:ops[k]? = some (opAt ops k)) {w1:World} (hs:SSφ P ne m E n kn ls H a w φ cs) (hw:wantV ops kn (opAt ops k)=some true)
  (h:∀K:Act→World→Prop,(∀a' w',(demO ops A bs k=true→agree w1 w')∧wpAnyD P ops Q bs A w1 f (la.setIfInBounds k true) a' w'→K a' w')→(opAt ops k).wp P a w K Q) :
  wpOp P ops Q k (fun a' w'=>(demO ops A bs k=true→agree w1 w')∧wpAnyD P ops Q bs A w1 f (la.setIfInBounds k true) a' w') a w:=by
 unfold wpOp;rw [ho];simp only [F8 hs hw,if_true];left;exact h _ fun a' w' hh=>hh
theorem z6e (hr:(Region.ready .any ops la).contains k=true) (hc:closedOk ops.toList bs=true) (hJ:JC ops bs la):JC ops bs (la.setIfInBounds k true) :=
 hJ.next (rdy_of hc hJ (by simpa using hr))
theorem DA.one (k:Nat) (hr:readyIs ops la [k]=true) (h:DAk P ne m E n ops bs A H1 ls1 k f la ag knA kn ls H Q):DA P ne m E n ops bs A H1 ls1 (f+1) la ag knA kn ls H Q:=by
 intro w1 φ1 cs1 a w φ cs q1 q2 q3 q4 q5 q6 q7;have hr:=z65 hr;refine ⟨fun h0=>(by rw [hr] at h0; cases h0),fun i hi=>?_⟩;rw [hr] at hi;simp only [List.mem_cons,List.not_mem_nil,or_false] at hi;subst hi;exact h w1 φ1 cs1 a w φ cs q1 q2 q3 q4 q5 q6 q7
theorem E1 (k k2:Nat) (hr:readyIs ops la [k,k2]=true) (h:DAk P ne m E n ops bs A H1 ls1 k f la ag knA kn ls H Q) (h2:DAk P ne m E n ops bs A H1 ls1 k2 f la ag knA kn ls H Q):DA P ne m E n ops bs A H1 ls1 (f+1) la ag knA kn ls H Q:=by
 intro w1 φ1 cs1 a w φ cs q1 q2 q3 q4 q5 q6 q7;have hr:=z65 hr;refine ⟨fun h0=>(by rw [hr] at h0; cases h0),fun i hi=>?_⟩;rw [hr] at hi;simp only [List.mem_cons,List.not_mem_nil,or_false] at hi;rcases hi with rfl | rfl
 ·exact h w1 φ1 cs1 a w φ cs q1 q2 q3 q4 q5 q6 q7
 ·exact h2 w1 φ1 cs1 a w φ cs q1 q2 q3 q4 q5 q6 q7
theorem DA.three (k k2 k3:Nat) (hr:readyIs ops la [k,k2,k3]=true) (h:DAk P ne m E n ops bs A H1 ls1 k f la ag knA kn ls H Q) (h2:DAk P ne m E n ops bs A H1 ls1 k2 f la ag knA kn ls H Q) (h3:DAk P ne m E n ops bs A H1 ls1 k3 f la ag knA kn ls H Q):DA P ne m E n ops bs A H1 ls1 (f+1) la ag knA kn ls H Q:=by
 intro w1 φ1 cs1 a w φ cs q1 q2 q3 q4 q5 q6 q7;have hr:=z65 hr;refine ⟨fun h0=>(by rw [hr] at h0; cases h0),fun i hi=>?_⟩;rw [hr] at hi;simp only [List.mem_cons,List.not_mem_nil,or_false] at hi;rcases hi with rfl | rfl | rfl
 ·exact h w1 φ1 cs1 a w φ cs q1 q2 q3 q4 q5 q6 q7
 ·exact h2 w1 φ1 cs1 a w φ cs q1 q2 q3 q4 q5 q6 q7
 ·exact h3 w1 φ1 cs1 a w φ cs q1 q2 q3 q4 q5 q6 q7
theorem zl4 {w2:World} {A':List Nat} (hA:∀i,la.getD i true=false→demO ops A bs i=true→demO ops A' bs i=true∧agree w1 w2):∀(f:Nat) {la:Array Bool} {a:Act} {w:World},(∀i,la.getD i true=false→demO ops A bs i=true→demO ops A' bs i=true∧agree w1 w2)→wpAnyD P ops Q bs A' w2 f la a w→wpAnyD P ops Q bs A w1 f la a w:=by
 intro f;induction f with
 | zero=>intro la a w _ h; exact h
 | succ f ih =>
  intro la a w hA h;refine ⟨h.1,fun i hi=>wpOp_mono (fun a' w' hh=>⟨fun hd=>?_,ih (fun j hj hd=>hA j ?_ hd) hh.2⟩) (h.2 i hi)⟩
  ·have hun:la.getD i true=false:=by
    have h0:=(mem_ready.1 hi).1;have hlt:i<la.size:=by
     rcases Nat.lt_or_ge i la.size with h' | h'
     ·exact h'
     ·simp [Array.getElem?_eq_none h'] at h0
    simpa [hlt] using h0
   obtain ⟨q1,q2⟩:=hA i hun hd;exact q2.trans' (hh.1 q1)
  ·by_cases e:i=j
   ·subst e;rcases Nat.lt_or_ge i la.size with h' | h'
    ·simp [h'] at hj
    ·have:(la.setIfInBounds i true)=la:=by rw [Array.setIfInBounds]; simp [Nat.not_lt.2 h']
     rw [this] at hj; exact hj
   ·rwa [getD_set_ne true e] at hj
def restB (ops:Array Oper) (A A' bs:List Nat) (la:Array Bool) (ag:Bool):Bool :=
 (List.range la.size).all fun i=>la.getD i true||!demO ops A bs i||(ag&&demO ops A' bs i)
theorem DA.restart (A':List Nat) (hA:restB ops A A' bs la ag=true) (h:DA P ne m E n ops bs A' H ls f la true kn kn ls H Q):DA P ne m E n ops bs A H1 ls1 f la ag knA kn ls H Q:=by
 intro w1 φ1 cs1 a w φ cs q1 q2 q3 q4 q5 q6 q7;have hw:=h w φ cs a w φ cs ⟨q3.glob,q3.inv,fun i c x h1 h2=>(q3.loc i c x h1 h2).2,q3.len⟩ (Inj.le_refl φ) q3 (fun t kv hl=>q3.slot t kv hl) (fun _ _ hc=>hc) q6 (fun _=>.start q3.inv);have hh:∀i,la.getD i true=false→demO ops A bs i=true→demO ops A' bs i=true∧agree w1 w:=by
  intro i hi hd;unfold restB at hA;rw [List.all_eq_true] at hA;have hlt:i<la.size:=by
   rcases Nat.lt_or_ge i la.size with h' | h'
   ·exact h'
   ·simp [Array.getElem?_eq_none h'] at hi
  have:=hA i (by simpa using hlt);rw [hi,hd] at this;simp only [Bool.not_true,Bool.or_false,Bool.false_or,Bool.and_eq_true] at this;exact ⟨this.2,(q7 this.1).ag⟩
 exact zl4 hh f hh hw
theorem DA.actL {kv:KV} {ls':Lcs} (ag':Bool) (ho:ops[k]? = some (opAt ops k)) (hr:(Region.ready .any ops la).contains k=true) (hc:closedOk ops.toList bs=true) (hw:wantV ops kn (opAt ops k)=some true) (hd:dstV n (opAt ops k)=true) (hl:locOp P kn ls (opAt ops k)=some (kv,ls'))
  (ha:((!demO ops A bs k||(ag&&notStore (opAt ops k)))&&(!ag'||(ag&&notStore (opAt ops k))))=true)
  (h:DA P ne m E n ops bs A H1 ls1 f (la.setIfInBounds k true) ag' (dropV (opAt ops k).dst knA) (putV kn (opAt ops k).dst kv) ls' H Q):DAk P ne m E n ops bs A H1 ls1 k f la ag knA kn ls H Q:=by
 intro w1 φ1 cs1 a w φ cs hd1 hle hs hka hpf hJ hag;refine z6h ho hs hw fun K hK=>?_;refine zix hs hl hd fun v' w' cs' hs' hpf' hnw' hag'=>hK _ _ ?_;have hkeep:(ag&&notStore (opAt ops k))=true→Agr m H1 w1 cs1 φ w' cs':=fun hh=>by
  rw [Bool.and_eq_true] at hh;obtain ⟨h1,h2,h3⟩:=hag hh.1;refine ⟨h1.trans' (hag' hh.2),h2,fun i c hi hc=>?_⟩;rcases Nat.lt_or_ge i cs.length with hlt | hge
  ·rw [hpf' i cs[i] (List.getElem?_eq_getElem hlt)] at hc;cases hc;exact h3 i _ hi (List.getElem?_eq_getElem hlt)
  ·exact Nat.le_trans (z63 h1) (hnw' i c hge hc)
 rw [Bool.and_eq_true] at ha;refine ⟨fun hdm=>(hkeep (by have:=ha.1; rw [hdm] at this; simpa using this)).ag,h w1 φ1 cs1 _ _ φ cs' hd1 hle hs' (hka.drop _ _) (fun i c hc=>hpf' i c (hpf i c hc)) (z6e hr hc hJ) fun hag2=>hkeep (by have:=ha.2; rw [hag2] at this; simpa using this)⟩
theorem zhz {φ φ':Inj} {H H':AH} {w w':World} {m m2:Nat} (hm:m≤m2) (h:Step m2 φ H w φ' H' w'):Step m φ H w φ' H' w' :=
 ⟨h.le,h.ext,fun id l h1 h2=>⟨(h.new id l h1 h2).1,(h.new id l h1 h2).2.imp (fun q=>q) fun ⟨id0,l0,q1,q2⟩=>⟨id0,l0,Nat.le_trans hm q1,q2⟩⟩,h.alv,h.size,fun c hc hno=>h.keep c hc fun id l hid=>hno id l (Nat.le_trans hm hid),h.os,h.tape,h.output⟩
theorem Agr.step {w1:World} {φ':Inj} {H':AH} {w':World} {m2:Nat} (h:Agr m H1 w1 cs1 φ w cs) (hi:Inv φ H w) (hm:m≤m2) (hm2:H.next≤m2∨H1.next≤m2) (hst:Step m2 φ H w φ' H' w'):Agr m H1 w1 cs1 φ' w' cs:=by
 have hsz:=z63 h.ag;have key:∀id l,m2≤id→φ id=some l→w1.heap.size≤l.blk:=fun id l h1 h2=>by
  rcases hm2 with h3 | h3
  ·have:=(hi.dom id l h2).1; omega
  ·exact h.jn id l (Nat.max_le.2 ⟨by omega,by omega⟩) h2
 refine ⟨fun c hc=>?_,fun id l h1 h2=>?_,h.nw⟩
 ·rw [hst.keep c (Nat.lt_of_lt_of_le hc hsz) fun id l hid _ hl e=>by have:=key id l hid hl; omega];exact h.ag c hc
 ·cases hq:φ id with
  | some l0 =>
   have:=hst.ext _ _ hq;rw [h2] at this; cases this;exact h.jn id l h1 hq
  | none =>
   rcases (hst.new id l h2 hq).2 with h3 | ⟨id0,l0,h3,_,h4,h5⟩
   ·omega
   ·rw [← h5]; exact key id0 l0 h3 h4
theorem DA.actH (m2:Nat) (ag':Bool) {v:Value} {H':AH} (ho:ops[k]? = some (opAt ops k)) (hr:(Region.ready .any ops la).contains k=true) (hc:closedOk ops.toList bs=true) (hB:opV P n ops kn (opAt ops k)=true) (hv:runOp P (NE.plain 0) ih0 m2 (opAt ops k) (evV kn) H=some (v,H')) (hn:noCall (opAt ops k)=true)
  (hm:m≤m2) (hm2:(demO ops A bs k||ag')=true→H.next≤m2∨H1.next≤m2) (ha:((!demO ops A bs k||ag)&&(!ag'||ag))=true)
  (h:DA P ne m E n ops bs A H1 ls1 f (la.setIfInBounds k true) ag' (dropV (opAt ops k).dst knA) (putV kn (opAt ops k).dst (.val v)) ls H' Q):DAk P ne m E n ops bs A H1 ls1 k f la ag knA kn ls H Q:=by
 intro w1 φ1 cs1 a w φ cs hd1 hle hs hka hpf hJ hag;unfold opV at hB;simp only [Bool.and_eq_true] at hB;obtain ⟨⟨⟨hg,hx⟩,hkn⟩,hd⟩:=hB;rw [Array.all_eq_true_iff_forall_mem] at hkn hx;have hw:wantV ops kn (opAt ops k)=some true:=by
  split at hg
  ·assumption
  ·cases hg
 refine z6h ho hs hw fun K hK=>?_;have hr':runOp P ne ih0 m2 (opAt ops k) (evV kn) H=some (v,H'):=by
  rw [← hv];generalize opAt ops k=o at hn;obtain ⟨dst,op,ty,pos,after,guard⟩:=o;unfold runOp;cases op with
  | call c =>
   obtain ⟨callee,args,ts⟩:=c;cases callee with
   | value g=>cases hn
   | _=>rfl
  | _=>rfl
 refine zjt hs.sane ziy hr' hs.glob (fun x hxm=>hs.eval (hkn x hxm) (hx x hxm)) hs.inv fun φ' v' w' h1 h2 h3=>?_;have hkeep:(demO ops A bs k||ag')=true→ag=true→Agr m H1 w1 cs1 φ' w' cs:=fun hh hag2=>(hag hag2).step hs.inv hm (hm2 hh) h3;rw [Bool.and_eq_true] at ha;refine hK _ _ ⟨fun hdm=>(hkeep (by rw [hdm]; rfl) (by have:=ha.1; rw [hdm] at this; simpa using this)).ag,h w1 φ1 cs1 _ _ φ' cs hd1 (fun id l hl=>h3.ext _ _ (hle _ _ hl)) ((hs.heap h2 (zhz hm h3)).put hd h1) (hka.drop _ _) hpf (z6e hr hc hJ) fun hag2=>hkeep (by rw [hag2,Bool.or_true]) (by have:=ha.2; rw [hag2] at this; simpa using this)⟩
theorem DA.actC (m2:Nat) (ag':Bool) {v:Value} {H':AH} (g:Nat) (args:Array Value) (ho:ops[k]? = some (opAt ops k)) (hr:(Region.ready .any ops la).contains k=true) (hc:closedOk ops.toList bs=true) (hB:opV P n ops kn (opAt ops k)=true) (hcl:callV kn (opAt ops k)=some (g,args)) (hcs:CallS P ne m2 g args H v H')
  (hm:m≤m2) (hm2:(demO ops A bs k||ag')=true→H.next≤m2∨H1.next≤m2) (ha:((!demO ops A bs k||ag)&&(!ag'||ag))=true)
  (h:DA P ne m E n ops bs A H1 ls1 f (la.setIfInBounds k true) ag' (dropV (opAt ops k).dst knA) (putV kn (opAt ops k).dst (.val v)) ls H' Q):DAk P ne m E n ops bs A H1 ls1 k f la ag knA kn ls H Q:=by
 intro w1 φ1 cs1 a w φ cs hd1 hle hs hka hpf hJ hag;unfold opV at hB;simp only [Bool.and_eq_true] at hB;obtain ⟨⟨⟨hg,hx⟩,hkn⟩,hd⟩:=hB;have hw:wantV ops kn (opAt ops k)=some true:=by
  split at hg
  ·assumption
  ·cases hg
 refine z6h ho hs hw fun K hK=>?_;refine zou hs hx hkn hcl hcs fun φ' v' w' h1 h2 h3=>?_;have hkeep:(demO ops A bs k||ag')=true→ag=true→Agr m H1 w1 cs1 φ' w' cs:=fun hh hag2=>(hag hag2).step hs.inv hm (hm2 hh) h3;rw [Bool.and_eq_true] at ha;refine hK _ _ ⟨fun hdm=>(hkeep (by rw [hdm]; rfl) (by have:=ha.1; rw [hdm] at this; simpa using this)).ag,h w1 φ1 cs1 _ _ φ' cs hd1 (fun id l hl=>h3.ext _ _ (hle _ _ hl)) ((hs.heap h2 (zhz hm h3)).put hd h1) (hka.drop _ _) hpf (z6e hr hc hJ) fun hag2=>hkeep (by rw [hag2,Bool.or_true]) (by have:=ha.2; rw [hag2] at this; simpa using this)⟩
theorem DA.askip (ho:ops[k]? = some (opAt ops k)) (hr:(Region.ready .any ops la).contains k=true) (hc:closedOk ops.toList bs=true) (hB:skV n ops kn (opAt ops k)=true) (ha:(!demO ops A bs k||ag)=true)
  (h:DA P ne m E n ops bs A H1 ls1 f (la.setIfInBounds k true) ag (dropV (opAt ops k).dst knA) (putV kn (opAt ops k).dst (.val undef)) ls H Q):DAk P ne m E n ops bs A H1 ls1 k f la ag knA kn ls H Q:=by
 intro w1 φ1 cs1 a w φ cs hd1 hle hs hka hpf hJ hag;unfold skV at hB;simp only [Bool.and_eq_true] at hB;have hw:wantV ops kn (opAt ops k)=some false:=by
  have hg:=hB.1;split at hg
  ·assumption
  ·cases hg
 unfold wpOp;rw [ho];simp only [F8 hs hw,Bool.false_eq_true,if_false];exact ⟨fun hdm=>(hag (by rw [hdm] at ha; simpa using ha)).ag,h w1 φ1 cs1 _ _ φ cs hd1 hle (hs.put hB.2 (z2x φ)) (hka.drop _ _) hpf (z6e hr hc hJ) hag⟩
theorem DA.fix (t:Nat) {b:Bool} (d:Bool) (hb:b=d) (hl:lkV kn t=some (.val (.bool b))) (h:DA P ne m E n ops bs A H1 ls1 f la ag ((t,.val (.bool d)) :: knA) ((t,.val (.bool d)) :: kn) ls H Q):DA P ne m E n ops bs A H1 ls1 f la ag knA kn ls H Q:=by
 subst hb;intro w1 φ1 cs1 a w φ cs hd1 hle hs hka hpf hJ hag;have hv:VR φ (.bool b) (a.tmps.getD t undef):=hs.slot t _ hl;have hv1:VR φ1 (.bool b) (a.tmps.getD t undef):=by
  generalize a.tmps.getD t undef=u at hv;cases hv; exact .bool b
 refine h w1 φ1 cs1 a w φ cs hd1 hle ⟨hs.glob,hs.inv,hs.step,hs.len,hs.loc,hs.inj,hs.low,fun s kv hh=>?_,hs.size,hs.defers,hs.sane,hs.inv0⟩ (fun s kv hh=>?_) hpf hJ hag
 ·simp only [lkV] at hh;cases hq:Nat.beq t s with
  | true =>
   rw [hq] at hh;have:=Nat.eq_of_beq_eq_true hq;subst this;cases hh;exact hv
  | false=>rw [hq] at hh; exact hs.slot s kv hh
 ·simp only [lkV] at hh;cases hq:Nat.beq t s with
  | true =>
   rw [hq] at hh;have:=Nat.eq_of_beq_eq_true hq;subst this;cases hh;exact hv1
  | false=>rw [hq] at hh; exact hka s kv hh
end
end Go.Abs
namespace Go.Abs
structure LC where
 run:{S R:Type}→(S→Option (Lp S R))→S→Option (S⊕R)
 fuel:Nat
 ok:∀{S R:Type} {body:S→Option (Lp S R)} {s:S} {o:S⊕R},run body s=some o→loopO body s=some o
noncomputable def LCo (k:Nat):LC:=⟨fun b s=>loopO b s,k,fun h=>h⟩
def LCn (k j:Nat):LC:=⟨fun b s=>iterO b k s,j,fun h=>S9.2 ⟨k,h⟩⟩
variable {P:Program} {ne:NE} {m:Nat} {ih:Ex} {ρ:Operand→Value} {o:Oper} {H H':AH}
theorem det_load {t:TypeId} {x:Operand} {a:Addr} {v:Value} (hop:o.op=.load t x) (hu:(P.underlying t).map isAggD=some false) (hi:(P.info? t).isSome=true) (hx:ρ x=.pointer (some a)) (h:H.cell a=some v):detOp P H o ρ=some v:=by
 obtain ⟨dst,op,ty,pos,after,guard⟩:=o;simp only at hop;subst hop;obtain ⟨i,hi⟩:=Option.isSome_iff_exists.1 hi;cases hd:P.underlying t with
 | none=>rw [hd] at hu; cases hu
 | some d =>
  rw [hd] at hu;simp only [Option.map_some,Option.some.injEq] at hu;simp only [detOp,tPure,hx,aLoad,hd,hi,hu,cond_false,h]
theorem det_loadA {t:TypeId} {x:Operand} {a:Addr} {l:List Value} {k:Nat} (hop:o.op=.load t x) (hu:(P.underlying t).map isAggD=some true) (hi:(P.info? t).map (·.size)=some k) (hx:ρ x=.pointer (some a)) (h:rdCells H a 0 k=some l):detOp P H o ρ=some (.agg l.toArray):=by
 obtain ⟨dst,op,ty,pos,after,guard⟩:=o;simp only at hop;subst hop;cases hie:P.info? t with
 | none=>rw [hie] at hi; cases hi
 | some i =>
  rw [hie] at hi;simp only [Option.map_some,Option.some.injEq] at hi;subst hi;cases hd:P.underlying t with
  | none=>rw [hd] at hu; cases hu
  | some d =>
   rw [hd] at hu;simp only [Option.map_some,Option.some.injEq] at hu;simp only [detOp,tPure,hx,aLoad,hd,hie,hu,cond_true,h]
theorem det_idx {t e:TypeId} {x y:Operand} {sz:Nat} {s:Sl3} {k:IntKind} {i:Int} {a:Addr} (hop:o.op=.indexAddr t x y) (hu:P.underlying t=some (.slice e)) (hi:(P.info? e).map (·.size)=some sz)
  (hx:ρ x=s.v) (hy:ρ y=.int k i) (h:idxA sz s i=some a):detOp P H o ρ=some (.pointer (some a)):=by
 obtain ⟨dst,op,ty,pos,after,guard⟩:=o;simp only at hop;subst hop;obtain ⟨p,l,c⟩:=s;cases hie:P.info? e with
 | none=>rw [hie] at hi; cases hi
 | some inf =>
  rw [hie] at hi;simp only [Option.map_some,Option.some.injEq] at hi;subst hi;unfold idxA at h;cases p with
  | none=>cases h
  | some b =>
   simp only at h;split at h
   ·rename_i hb;simp only [Option.some.injEq] at h;subst h;obtain ⟨j,rfl⟩:∃j:Nat,i=(j:Int):=⟨i.toNat,by omega⟩;have hlt:Nat.blt j l=true:=Nat.ble_eq_true_of_le (by omega);have hp:tPure P ⟨dst,.indexAddr t x y,ty,pos,after,guard⟩ ρ=some (.pointer (some (b.add (j*inf.size)))):=by
     simp only [tPure,hu,hx,hy,Sl3.v,hie];show (match (Value.int k (Int.ofNat j)) with | .int _ (.ofNat i)=>_ | _=>none)=_;simp only [hlt,cond_true]
    simp only [detOp,hp];simp
   ·cases h
theorem run_loadAg {t:TypeId} {x:Operand} {a:Addr} {l:List Value} {k:Nat} (hop:o.op=.load t x) (hu:(P.underlying t).map isAggD=some true) (hi:(P.info? t).map (·.size)=some k) (hx:ρ x=.pointer (some a)) (h:rdCells H a 0 k=some l):runOp P ne ih m o ρ H=some (.agg l.toArray,H):=by
 obtain ⟨dst,op,ty,pos,after,guard⟩:=o;simp only at hop;subst hop;cases hie:P.info? t with
 | none=>rw [hie] at hi; cases hi
 | some i =>
  rw [hie] at hi;simp only [Option.map_some,Option.some.injEq] at hi;subst hi;cases hd:P.underlying t with
  | none=>rw [hd] at hu; cases hu
  | some d =>
   rw [hd] at hu;simp only [Option.map_some,Option.some.injEq] at hu;simp only [runOp,aOp,execOp,hx,bind];have hS:arun P m (Instr.loadAt t (.pointer (some a))) H=some (.agg l.toArray,H):=by
    unfold Instr.loadAt Go.loadVar Go.isAgg;have hl:=zdb (P:=P) (m:=m) a i.size 0 #[] H;rw [h] at hl;simp only [Instr.sureAddr,Go.underlying,Go.program,Go.sizeOf,Go.typeInfo,bind,Pure.pure,Sem.bind,arun,hd];cases d <;> first | (simp only [isAggD] at hu; cases hu; done) | (simp only [Sem.bind,arun,if_true,hie,Go.loadCells]; rw [R4,hl]; simp [arun])
   rw [R4,hS];rfl
def mapB:Blk:={ obj:=.map #[] 0,opn:=false,esz:=0,ro:=false }
def lkM {α:Type} (P:Program) (t:TypeId) (de:Value→Option α) (H:AH) (m:Option Nat) (k:Value):Option (α×Bool) :=
 match aLookup P t (.map m) k true H with
 | some (.tuple cs)=>match cs.toList with
  | [x,.bool b]=>(de x).map (·,b)
  | _=>none
 | _=>none
def lk1 {α:Type} (P:Program) (t:TypeId) (de:Value→Option α) (H:AH) (m:Option Nat) (k:Value):Option α:=(aLookup P t (.map m) k false H).bind de
theorem lkM_eq {α:Type} {t:TypeId} {de:Value→Option α} {mm:Option Nat} {k:Value} {x:α} {b:Bool} {v:Value} (h:lkM P t de H mm k=some (x,b)) (hv:∀u,de u=some x→u=v):aLookup P t (.map mm) k true H=some (.tuple #[v,.bool b]):=by
 unfold lkM at h;split at h
 ·rename_i cs hc;split at h
  ·rename_i y c hl;cases hd:de y with
   | none=>rw [hd] at h; cases h
   | some z =>
    rw [hd] at h;simp only [Option.map_some,Option.some.injEq,Prod.mk.injEq] at h;obtain ⟨rfl,rfl⟩:=h;rw [hc,← hv y hd,zam hl]
  ·cases h
 ·cases h
theorem lk1_eq {α:Type} {t:TypeId} {de:Value→Option α} {mm:Option Nat} {k:Value} {x:α} {v:Value} (h:lk1 P t de H mm k=some x) (hv:∀u,de u=some x→u=v):aLookup P t (.map mm) k false H=some v:=by
 obtain ⟨u,h1,h2⟩:=bind_some h;rw [h1,hv u h2]
theorem run_look {t:TypeId} {x y:Operand} {ok:Bool} {mm:Option Nat} {k v:Value} (hop:o.op=.lookup t x y ok) (hx:ρ x=.map mm) (hy:ρ y=k) (hf:flat depth k=true) (h:aLookup P t (.map mm) k ok H=some v):runOp P ne ih m o ρ H=some (v,H):=by
 obtain ⟨dst,op,ty,pos,after,guard⟩:=o;simp only at hop;subst hop;simp only [runOp,aOp,hx,hy,hf,cond_true,h]
theorem det_look {t:TypeId} {x y:Operand} {ok:Bool} {mm:Option Nat} {k v:Value} (hop:o.op=.lookup t x y ok) (hx:ρ x=.map mm) (hy:ρ y=k) (hf:flat depth k=true) (h:aLookup P t (.map mm) k ok H=some v):detOp P H o ρ=some v:=by
 obtain ⟨dst,op,ty,pos,after,guard⟩:=o;simp only at hop;subst hop;simp only [detOp,tPure,hx,hy,hf,cond_true,h]
def upM (P:Program) (m:Nat) (t:TypeId) (H:AH) (mm:Option Nat) (k v:Value):Option AH :=
 match aUpdate P m t (.map mm) k v H with
 | some (.tuple cs,H')=>if cs.size=0 then some H' else none
 | _=>none
theorem run_upM {t:TypeId} {x y z:Operand} {mm:Option Nat} {k v:Value} (hop:o.op=.mapUpdate t x y z) (hx:ρ x=.map mm) (hy:ρ y=k) (hz:ρ z=v) (hf:flat depth k=true) (h:upM P m t H mm k v=some H'):runOp P ne ih m o ρ H=some (undef,H'):=by
 obtain ⟨dst,op,ty,pos,after,guard⟩:=o;simp only at hop;subst hop;unfold upM at h;split at h
 ·rename_i cs H1 hu;split at h
  ·rename_i hs;simp only [Option.some.injEq] at h;subst h;have e:cs=#[]:=Array.eq_empty_of_size_eq_zero hs;subst e;simp only [runOp,aOp,hx,hy,hz,hf,cond_true,hu];rfl
  ·cases h
 ·cases h
def deM:Value→Option (Option Nat)
 | .map r=>some r
 | _=>none
theorem O7 {x:Option Nat}:∀u,deM u=some x→u=.map x:=by
 intro u h;cases u <;> simp only [deM] at h <;> cases h
 rfl
theorem P1 {a:Addr} {i k:Nat} {v:Value} {l:List Value} (h1:H.cell (a.add i)=some v) (h2:rdCells H a (i+1) k=some l):rdCells H a i (k+1)=some (v :: l):=by
 simp only [rdCells,h1,h2]
section
variable {E:Ent} {n:Nat} {kn:KN} {ls:Lcs} {ops:Array Oper} {k:Nat} {Q:Exit→Act→World→Prop}
end
end Go.Abs
namespace Go.Abs
variable {P:Program} {ne:NE} {m n:Nat}
variable {E:Ent} {kn knA:KN} {ls ls1:Lcs} {H H1 H':AH} {ops:Array Oper} {k:Nat} {Q:Exit→Act→World→Prop} {bs A:List Nat} {f:Nat} {la:Array Bool} {ag:Bool}
def newB (e:TypeId) (cells:List Value) (H:AH):Option (Addr×AH):=some (⟨H.next,0,none⟩,H.push (pubB e cells))
theorem run_newB {ih:Ex} {ρ:Operand→Value} {o:Oper} {e:TypeId} {cells:List Value} {p:Addr} (hr:runOp P ne ih m o ρ H=some (.pointer (some ⟨H.next,0,none⟩),H.push (pubB e cells))) (hx:newB e cells H=some (p,H')):runOp P ne ih m o ρ H=some (.pointer (some p),H'):=by
 cases hx;exact hr
def newM (H:AH):Option (Nat×AH):=some (H.next,H.push mapB)
theorem run_newM {ih:Ex} {ρ:Operand→Value} {o:Oper} {p:Nat} (hr:runOp P ne ih m o ρ H=some (.map (some H.next),H.push mapB)) (hx:newM H=some (p,H')):runOp P ne ih m o ρ H=some (.map (some p),H'):=by
 cases hx;exact hr
theorem RS.atD (d:Option Nat) (v:Value) (ho:ops[k]? = some (opAt ops k)) (hd:(opAt ops k).dst=d) (hB:(opV P n ops kn (opAt ops k)&&noCall (opAt ops k))=true) (hr:runOp P (NE.plain 0) ih0 m (opAt ops k) (evV kn) H=some (v,H'))
  (h:RS P ne m E n ops (k+1) (putV kn d (.val v)) ls H' Q):RS P ne m E n ops k kn ls H Q:=by
 subst hd;exact RS.at v ho hB hr h
theorem RS.callD (d:Option Nat) {v:Value} (f:Nat) (args:Array Value) (ho:ops[k]? = some (opAt ops k)) (hd:(opAt ops k).dst=d) (hB:opV P n ops kn (opAt ops k)=true) (hc:callV kn (opAt ops k)=some (f,args)) (hr:CallS P ne m f args H v H')
  (h:RS P ne m E n ops (k+1) (putV kn d (.val v)) ls H' Q):RS P ne m E n ops k kn ls H Q:=by
 subst hd;exact RS.call f args ho hB hc hr h
theorem WS.drawnX {c:Code} (ops:Array Oper) (A:List Nat) (bs:List Nat) (sz:Nat) (hc:regOf c=some (ops,true)) (hb:befores ops.toList=bs) (hs:ops.size=sz) (hB:closedOk ops.toList bs=true) (h:DA P ne m E n ops bs A H ls sz (Array.replicate sz false) true kn kn ls H Q):WS P ne m E n c kn ls H Q:=by
 subst hb hs;exact WS.drawn ops A hc hB h
theorem DA.takeD (k:Nat) (d:Option Nat) (v:Value) (ho:ops[k]? = some (opAt ops k)) (hd:(opAt ops k).dst=d) (hB:takeB P n ops A la k (opAt ops k)=true) (hc:closedOk ops.toList bs=true) (hQ:∀c a w,¬Q (.panic c) a w)
  (hw:(wantV ops kn (opAt ops k),(opAt ops k).op.operands.all (okx P),(opAt ops k).op.operands.all (knownV knA))=(some true,true,true)) (hv:detOp P H1 (opAt ops k) (evV knA)=some v)
  (h:DA P ne m E n ops bs A H1 ls1 f (la.setIfInBounds k true) true (putV knA d (.val v)) (putV kn d (.val v)) ls H Q):DA P ne m E n ops bs A H1 ls1 (f+1) la true knA kn ls H Q:=by
 subst hd;exact DA.take ho hB hc hQ hw hv h
theorem DA.tskipD (k:Nat) (d:Option Nat) (ho:ops[k]? = some (opAt ops k)) (hd:(opAt ops k).dst=d) (hB:takeB P n ops A la k (opAt ops k)=true) (hc:closedOk ops.toList bs=true) (hQ:∀c a w,¬Q (.panic c) a w) (hw:wantV ops kn (opAt ops k)=some false)
  (h:DA P ne m E n ops bs A H1 ls1 f (la.setIfInBounds k true) true (putV knA d (.val undef)) (putV kn d (.val undef)) ls H Q):DA P ne m E n ops bs A H1 ls1 (f+1) la true knA kn ls H Q:=by
 subst hd;exact DA.tskip ho hB hc hQ hw h
theorem DA.takeLD (k:Nat) (d:Option Nat) (kv:KV) (ho:ops[k]? = some (opAt ops k)) (hd:(opAt ops k).dst=d) (hB:takeB P n ops A la k (opAt ops k)=true) (hc:closedOk ops.toList bs=true) (hQ:∀c a w,¬Q (.panic c) a w) (hw:wantV ops kn (opAt ops k)=some true) (hv:locDet P knA ls1 (opAt ops k)=some kv)
  (h:DA P ne m E n ops bs A H1 ls1 f (la.setIfInBounds k true) true (putV knA d kv) (putV kn d kv) ls H Q):DA P ne m E n ops bs A H1 ls1 (f+1) la true knA kn ls H Q:=by
 subst hd;exact DA.takeL ho hB hc hQ hw hv h
theorem DA.actLD (k:Nat) (d:Option Nat) (kv:KV) (ls':Lcs) (ag':Bool) (ho:ops[k]? = some (opAt ops k)) (hdd:(opAt ops k).dst=d) (hr:(Region.ready .any ops la).contains k=true) (hc:closedOk ops.toList bs=true) (hw:wantV ops kn (opAt ops k)=some true) (hd:dstV n (opAt ops k)=true) (hl:locOp P kn ls (opAt ops k)=some (kv,ls'))
  (ha:((!demO ops A bs k||(ag&&notStore (opAt ops k)))&&(!ag'||(ag&&notStore (opAt ops k))))=true)
  (h:DA P ne m E n ops bs A H1 ls1 f (la.setIfInBounds k true) ag' (dropV d knA) (putV kn d kv) ls' H Q):DAk P ne m E n ops bs A H1 ls1 k f la ag knA kn ls H Q:=by
 subst hdd;exact DA.actL ag' ho hr hc hw hd hl ha h
theorem DA.actHD (k:Nat) (d:Option Nat) (m2:Nat) (ag':Bool) (v:Value) (ho:ops[k]? = some (opAt ops k)) (hdd:(opAt ops k).dst=d) (hr:(Region.ready .any ops la).contains k=true) (hc:closedOk ops.toList bs=true) (hB:(opV P n ops kn (opAt ops k)&&noCall (opAt ops k))=true) (hv:runOp P (NE.plain 0) ih0 m2 (opAt ops k) (evV kn) H=some (v,H'))
  (hm:m≤m2) (hm2:(demO ops A bs k||ag')=true→H.next≤m2∨H1.next≤m2) (ha:((!demO ops A bs k||ag)&&(!ag'||ag))=true)
  (h:DA P ne m E n ops bs A H1 ls1 f (la.setIfInBounds k true) ag' (dropV d knA) (putV kn d (.val v)) ls H' Q):DAk P ne m E n ops bs A H1 ls1 k f la ag knA kn ls H Q:=by
 subst hdd;rw [Bool.and_eq_true] at hB;exact DA.actH m2 ag' ho hr hc hB.1 hv hB.2 hm hm2 ha h
theorem DA.actCD (k:Nat) (d:Option Nat) (m2:Nat) (ag':Bool) {v:Value} (g:Nat) (args:Array Value) (ho:ops[k]? = some (opAt ops k)) (hdd:(opAt ops k).dst=d) (hr:(Region.ready .any ops la).contains k=true) (hc:closedOk ops.toList bs=true) (hB:opV P n ops kn (opAt ops k)=true) (hcl:callV kn (opAt ops k)=some (g,args)) (hcs:CallS P ne m2 g args H v H')
  (hm:m≤m2) (hm2:(demO ops A bs k||ag')=true→H.next≤m2∨H1.next≤m2) (ha:((!demO ops A bs k||ag)&&(!ag'||ag))=true)
  (h:DA P ne m E n ops bs A H1 ls1 f (la.setIfInBounds k true) ag' (dropV d knA) (putV kn d (.val v)) ls H' Q):DAk P ne m E n ops bs A H1 ls1 k f la ag knA kn ls H Q:=by
 subst hdd;exact DA.actC m2 ag' g args ho hr hc hB hcl hcs hm hm2 ha h
theorem DA.askipD (k:Nat) (d:Option Nat) (ho:ops[k]? = some (opAt ops k)) (hdd:(opAt ops k).dst=d) (hr:(Region.ready .any ops la).contains k=true) (hc:closedOk ops.toList bs=true) (hB:skV n ops kn (opAt ops k)=true) (ha:(!demO ops A bs k||ag)=true)
  (h:DA P ne m E n ops bs A H1 ls1 f (la.setIfInBounds k true) ag (dropV d knA) (putV kn d (.val undef)) ls H Q):DAk P ne m E n ops bs A H1 ls1 k f la ag knA kn ls H Q:=by
 subst hdd;exact DA.askip ho hr hc hB ha h
theorem U1 {a:Addr} {i:Nat}:rdCells H a i 0=some []:=rfl
end Go.Abs
namespace Go.Abs
variable {P:Program} {ne:NE} {m n:Nat}
section
variable {E:Ent} {kn:KN} {ls:Lcs} {H:AH} {a:Act} {w:World} {φ:Inj} {cs:List Nat} {Q:Exit→Act→World→Prop}
def ldO (p:Nat) (t:TypeId):Oper:={ dst:=none,op:=.load t (.tmp p),type:=0,pos:=default,after:=#[],guard:=none }
def cellV (P:Program) (kn:KN) (ls:Lcs) (H:AH) (p:Nat) (t:TypeId):Option Value :=
 match lkV kn p with
 | some (.loc _ _)=>match locDet P kn ls (ldO p t) with
  | some (.val v)=>some v
  | _=>none
 | some (.val (.pointer (some q)))=>aLoad P t q H
 | _=>none
def resL (P:Program) (kn:KN) (ls:Lcs) (H:AH):List ResultVar→Option (List Value)
 | []=>some []
 | .tmp t :: l=>match lkV kn t,resL P kn ls H l with
  | some (.val u),some us=>some (u :: us)
  | _,_=>none
 | .cell p t :: l=>match cellV P kn ls H p t,resL P kn ls H l with
  | some u,some us=>some (u :: us)
  | _,_=>none
def resF (P:Program) (fn:Func) (kn:KN) (ls:Lcs) (H:AH):Option Value :=
 match resL P kn ls H fn.results.toList with
 | some [v]=>some v
 | some l=>some (.tuple l.toArray)
 | none=>none
def RT (P:Program) (ne:NE) (m:Nat) (E:Ent) (fn:Func) (v:Value) (H:AH) (a:Act) (w:World):Prop :=
 ∃n kn ls,SS P ne m E n kn ls H a w∧resF P fn kn ls H=some v
def retS (P:Program) (ne:NE) (m:Nat) (E:Ent) (fn:Func) (v:Value) (H:AH):Exit→Act→World→Prop
 | .normal,a,w | .ret,a,w=>RT P ne m E fn v H a w
 | _,_,_=>False
def argV:Nat→List Value→KN
 | _,[]=>[]
 | i,v :: l=>(i,.val v) :: argV (i+1) l
theorem zpr:∀(l:List Value) (i t:Nat) (kv:KV),lkV (argV i l) t=some kv→∃v,kv=.val v∧i≤t∧l[t - i]? = some v:=by
 intro l;induction l with
 | nil=>intro i t kv h; cases h
 | cons v l ih =>
  intro i t kv h;simp only [argV,lkV] at h;cases hb:Nat.beq i t with
  | true =>
   rw [hb] at h;have:=Nat.eq_of_beq_eq_true hb;subst this;cases h;exact ⟨v,rfl,Nat.le_refl _,by simp⟩
  | false =>
   rw [hb] at h;have hne:=Nat.ne_of_beq_eq_false hb;obtain ⟨u,h1,h2,h3⟩:=ih _ _ _ h;refine ⟨u,h1,by omega,?_⟩;rw [show t - i=(t - (i+1))+1 by omega]
   simpa using h3
theorem znt (hs:SSφ P ne m E n kn ls H a w φ cs) {p:Nat} {t:TypeId} {v:Value} (h:cellV P kn ls H p t=some v):∃v',(resV a.tmps (.cell p t)).run P w=.ok v' w∧VR φ v v':=by
 unfold cellV at h;split at h
 ·rename_i i off hk;split at h
  ·rename_i u hu;simp only [Option.some.injEq] at h;subst h;obtain ⟨v',h1,h2⟩:=zhr hu (DC.mk hs.glob hs.inv (fun i c x h1 h2=>(hs.loc i c x h1 h2).2) hs.len) (fun t kv hl=>hs.slot t kv hl:KA φ cs kn a);refine ⟨v',?_,h1⟩;have h3:=h2 w (agree.refl w);obtain ⟨c,_,hp⟩:=z9m hs hk;have he:a.eval (.tmp p)=.pointer (some ⟨c,off,none⟩):=hp;simp only [ldO,execOp,he,Instr.loadAt,Instr.sureAddr,Sem.run_bind,Sem.run_pure,Result.andThen_ok] at h3;simp only [resV,hp,asAddr,Sem.run_bind,Sem.run_pure,Result.andThen_ok];generalize (loadVar t ⟨c,off,none⟩).run P w=q at h3 ⊢;cases q <;> simp [Result.andThen,Sem.run_pure] at h3
   obtain ⟨rfl,rfl⟩:=h3;rfl
  ·cases h
 ·rename_i q hk;have hp:=hs.slot p _ hk;obtain ⟨q',hq2,hqa⟩:=VR.ptr_inv hp;obtain ⟨v',h3,h4⟩:=zo6 hs.inv h hqa;refine ⟨v',?_,h4⟩;simp only [resV,Sem.run_bind,hq2];exact h3
 ·cases h
theorem zoq (hs:SSφ P ne m E n kn ls H a w φ cs):∀{l:List ResultVar} {vs:List Value},resL P kn ls H l=some vs→∃vs',(l.mapM (resV a.tmps)).run P w=.ok vs' w∧LR φ vs vs':=by
 intro l;induction l with
 | nil=>intro vs h; simp only [resL,Option.some.injEq] at h; subst h; exact ⟨[],rfl,.nil⟩
 | cons r l ih =>
  intro vs h;cases r with
  | tmp t =>
   simp only [resL] at h;split at h
   ·rename_i u us h1 h2;simp only [Option.some.injEq] at h;subst h;obtain ⟨vs',h3,h4⟩:=ih h2;refine ⟨a.tmps.getD t undef :: vs',?_,.cons (hs.slot t _ h1) h4⟩;rw [List.mapM_cons];have hA:(resV a.tmps (.tmp t)).run P w=.ok (a.tmps.getD t undef) w:=rfl;simp only [Sem.run_bind,hA,Sem.run_pure,Result.andThen_ok,h3]
   ·cases h
  | cell p t =>
   simp only [resL] at h;split at h
   ·rename_i u us h1 h2;simp only [Option.some.injEq] at h;subst h;obtain ⟨vs',h3,h4⟩:=ih h2;obtain ⟨v',h5,h6⟩:=znt hs h1;refine ⟨v' :: vs',?_,.cons h6 h4⟩;rw [List.mapM_cons];simp only [Sem.run_bind,h5,Sem.run_pure,Result.andThen_ok,h3]
   ·cases h
theorem CallS.mk {f:Nat} {fn:Func} {B:Code} {args:List Value} {H H':AH} {v:Value} (hf:P.funcs[f]? = some fn) (hb:fn.body=some B) (h:∀E:Ent,E.H=H→WS P ne m E fn.ntmps B (argV 0 args) [] H (retS P ne m E fn v H')):CallS P ne m f args.toArray H v H':=by
 intro hS;refine ⟨⟨fn,B,hf,hb⟩,fun φ w args' hg ha hi=>?_⟩;have hent:SS P ne m ⟨φ,H,w⟩ fn.ntmps (argV 0 args) [] H { tmps:=args'++Array.replicate (fn.ntmps - args'.size) undef,defers:=[] } w:=by
  refine ⟨φ,[],hg,hi,Step.refl _ _ _ _,rfl,fun i c x hc=>(by cases hc),fun i j c hc=>(by cases hc),fun i c hc=>(by cases hc),fun t kv hl=>?_,by simp; omega,rfl,hS,hi⟩;obtain ⟨v,rfl,_,h2⟩:=zpr _ _ _ _ hl;rw [Nat.sub_zero] at h2;have:args.toArray[t]? = some v:=by simpa using h2
  obtain ⟨y,hy,hv⟩:=ha.get this;have hlt:t<args'.size:=by rw [Array.getElem?_eq_some_iff] at hy; exact hy.1
  show VR φ v _;rw [Array.getD_eq_getD_getElem?,Array.getElem?_append,if_pos hlt,hy];exact hv
 have hw:=h ⟨φ,H,w⟩ rfl _ _ hent;refine calls_of_wp hf hb (wp_mono hw fun e a w' hpost=>?_);have fin:RT P ne m ⟨φ,H,w⟩ fn v H' a w'→a.defers=[]∧∃v',(results fn a.tmps).run P w'=.ok v' w'∧(∃φ' v'',Ending.returned v'=.returned v''∧VR φ' v v''∧Inv φ' H' w'∧Step m φ H w φ' H' w'):=by
  rintro ⟨n,kn,ls,⟨φ',cs,hs⟩,hr⟩
  refine ⟨hs.defers,?_⟩;have main:∃(vs vs':List Value),(fn.results.toList.mapM (resV a.tmps)).run P w'=.ok vs' w'∧LR φ' vs vs'∧v=(if h:vs.length=1 then vs[0]'(by omega) else .tuple vs.toArray):=by
   unfold resF at hr;cases hl:resL P kn ls H' fn.results.toList with
   | none=>rw [hl] at hr; cases hr
   | some vs =>
    rw [hl] at hr;obtain ⟨vs',h1,h2⟩:=zoq hs hl;refine ⟨vs,vs',h1,h2,?_⟩;split at hr
    ·rename_i u he;cases he;cases hr;rfl
    ·rename_i l hne he;cases he;cases hr;rw [dif_neg ?_];intro h1
     match vs,h1 with
     | [u],_=>exact hne u rfl
    ·cases hr
  obtain ⟨vs,vs',h1,h2,h3⟩:=main;have hm:(fn.results.mapM (resV a.tmps)).run P w'=.ok vs'.toArray w':=by
   rw [Array.mapM_eq_mapM_toList];show Sem.run P (List.toArray <$> _) w'=_;rw [Sem.run_map,h1]; rfl
  have hlen:=LR.length h2;have hres:(results fn a.tmps).run P w'=.ok (if h:vs'.toArray.size=1 then vs'.toArray[0] else .tuple vs'.toArray) w':=by
   rw [zmq,Sem.run_bind,hm,Result.andThen_ok]; rfl
  refine ⟨_,hres,φ',_,rfl,?_,hs.inv,hs.step⟩;rw [h3];by_cases h1':vs.length=1
  ·rw [dif_pos h1',dif_pos (by simpa [← hlen] using h1')];cases h2 with
   | nil=>cases h1'
   | cons hv ht=>exact hv
  ·rw [dif_neg h1',dif_neg (by simpa [← hlen] using h1')];have:=AR_iff.2 (show LR φ' vs.toArray.toList vs'.toArray.toList by simpa using h2);exact .tuple _ _ this.1 this.2
 cases e with
 | normal=>exact fin hpost
 | ret=>exact fin hpost
 | _=>exact hpost.elim
theorem rtR {fn:Func} {v:Value} (h:RT P ne m E fn v H a w):retS P ne m E fn v H .ret a w:=h
theorem rtN {fn:Func} {v:Value} (h:RT P ne m E fn v H a w):retS P ne m E fn v H .normal a w:=h
theorem rtS {fn:Func} {v:Value} (hs:SS P ne m E n kn ls H a w) (h:resF P fn kn ls H=some v):RT P ne m E fn v H a w:=⟨n,kn,ls,hs,h⟩
theorem WS.toone {c:Code} (kn2:KN) (ls2:Lcs) (H2:AH) (h:WS P ne m E n c kn ls H (jnS P ne m E n kn2 ls2 H2 (fun _ _ _=>False))) (hN:∀a w,SS P ne m E n kn2 ls2 H2 a w→Q .normal a w):WS P ne m E n c kn ls H Q:=by
 refine fun a w hs=>wp_mono (h a w hs) fun e a w hq=>?_;cases e with
 | normal=>exact hN a w hq
 | _=>exact hq.elim
end
end Go.Abs
namespace Go.Abs
variable {P:Program} {ne:NE} {m n:Nat}
def pureOp (P:Program) (o:Oper) (ρ:Operand→Value):Option Value :=
 match o.op with
 | .load ..=>none
 | .lookup ..=>none
 | _=>detOp P ⟨0,.nil⟩ o ρ
theorem znf {φ:Inj} {o:Oper} {ρ ρ':Operand→Value} {v:Value} (hρ:∀x∈o.op.operands,VR φ (ρ x) (ρ' x)) (h:pureOp P o ρ=some v) :
  ∃v',VR φ v v'∧∀w,(execOp ρ' o).run P w=.ok (.value v') w:=by
 have hnl:(∀t x,o.op≠.load t x)∧(∀t x k ok,o.op≠.lookup t x k ok)∧detOp P ⟨0,.nil⟩ o ρ=some v:=by
  unfold pureOp at h;split at h
  ·cases h
  ·cases h
  ·rename_i q1 q2; exact ⟨fun t x e=>q1 t x e,fun t x k ok e=>q2 t x k ok e,h⟩
 clear h;obtain ⟨n1,n2,h⟩:=hnl;unfold detOp at h;cases ht:tPure P o ρ with
 | some u =>
  rw [ht] at h;simp only [Option.some.injEq] at h;subst h;obtain ⟨v',h1,h2⟩:=zi1 hρ ht;exact ⟨v',h1,h2⟩
 | none =>
  rw [ht] at h;simp only at h;have fl:(match flatRun P o ρ ⟨0,.nil⟩ with | some (v,_)=>some v | none=>none)=some v→(∀w,∀nx,(execOp ρ' o).run P w=.ok nx w→nx≠.skip)→∃v',VR φ v v'∧∀w,(execOp ρ' o).run P w=.ok (.value v') w:=by
   intro h hns;cases hf:flatRun P o ρ ⟨0,.nil⟩ with
   | none=>rw [hf] at h; cases h
   | some p =>
    obtain ⟨u,H'⟩:=p;rw [hf] at h;simp only [Option.some.injEq] at h;subst h;obtain ⟨v',h1,h2⟩:=zk6 hρ hf hns;exact ⟨v',h1,h2⟩
  obtain ⟨dst,op,ty,pos,after,guard⟩:=o;simp only at h hρ n1 n2;split at h
  ·exact (n1 _ _ rfl).elim
  ·exact (n2 _ _ _ _ rfl).elim
  ·rename_i x i;have hx:=hρ x (by simp [Op.operands]);split at h
   ·rename_i cs hc;rw [hc] at hx;generalize hq:ρ' x=q at hx;cases hx with
    | tuple f f' hf h1 =>
     have hlt:i<f'.size:=by
      rw [Array.getElem?_eq_some_iff] at h;obtain ⟨h,_⟩:=h;omega
     refine ⟨f'[i],h1 i _ _ h (by simp [hlt]),fun w=>?_⟩;have hrun:(Instr.extract (.tuple f') i).run P w=.ok f'[i] w:=by
      simp only [Instr.extract];simp [hlt]
     simp only [execOp,hq,Sem.run_bind,hrun,Result.andThen_ok];rfl
   ·cases h
  ·rename_i args ts;split at h
   ·rename_i e b k c hu hl;simp only [Option.some.injEq] at h;subst h;have hargs:AR φ (args.map ρ) (args.map ρ'):=ar_map args fun x hx=>hρ x (by simp [Op.operands,Call.operands,hx]);obtain ⟨_,x',hx',hv⟩:=ar_one hargs hl;obtain ⟨b',c',rfl⟩:=z51 hv;refine ⟨goInt k,.int _ _,fun w=>?_⟩;cases hts:ts[0]? with
    | none=>rw [hts] at hu; cases hu
    | some t =>
     rw [hts] at hu;have hu:P.underlying t=some (.slice e):=hu;have hrun:(Builtin.len_ ts ty (args.map ρ')).run P w=.ok (goInt k) w:=by
      rw [hx'];simp [Builtin.len_,hts,C2 hu]
     show (do pure (Next.value (← Builtin.len_ ts ty (args.map ρ'))):Sem Next).run P w=_;rw [Sem.run_bind,hrun]; rfl
   ·exact fl h fun w nx hr=>N5 (s:=Builtin.len_ ts ty (args.map ρ')) hr
  ·rename_i bo t x y u;exact fl h fun w nx hr=>N5 (s:=(do eqGuard bo t x y (ρ' x) (ρ' y); binOp bo t (ρ' x) (ρ' y))) hr
  ·rename_i uo t x;exact fl h fun w nx hr=>N5 (s:=Op.unary uo (ρ' x)) hr
  ·rename_i t ps;exact fl h fun w nx hr=>N5 (s:=Instr.build t (ps.map fun (i,x)=>(i,ρ' x))) hr
  ·rename_i c x y;exact fl h fun w nx hr=>by
    simp only [execOp,Sem.run_bind] at hr;cases hb:(asBool (ρ' c)).run P w with
    | ok b w' =>
     rw [hb] at hr;have:Result.ok (Next.value (if b then ρ' x else ρ' y)) w'=Result.ok nx w:=hr;simp only [Result.ok.injEq] at this;rw [← this.1]; intro e; cases e
    | halt z w'=>rw [hb] at hr; cases hr
  ·rename_i t x f;exact fl h fun w nx hr=>N5 (s:=Instr.field t (ρ' x) f) hr
  ·rename_i t x y;exact fl h fun w nx hr=>N5 (s:=Instr.index t (ρ' x) (ρ' y)) hr
  ·rename_i s d x;split at h
   ·exact fl h fun w nx hr=>N5 (s:=convert s d (ρ' x)) hr
   ·exact fl h fun w nx hr=>N5 (s:=convert s d (ρ' x)) hr
   ·cases h
  ·cases h
variable {ops:Array Oper} {Q:Exit→Act→World→Prop} {bs A:List Nat} {w1:World}
theorem z55 {i:Nat} {oi:Oper} {v:Value} (hi:ops[i]? = some oi) (hc:closedOk ops.toList bs=true) (hsel:∀(j:Nat) (o:Oper) cs b,ops[j]? = some o→o.op≠.select cs b)
  (hQ:∀c a w,¬Q (.panic c) a w) :
  ∀(fuel:Nat) (la:Array Bool) (a:Act) (w:World),JC ops bs la →
   (∀j oj,ops[j]? = some oj→j≠i→la.getD j true=false→(∀e∈oj.after,Region.binds .any e=true→e.on≠i)→oi.apart ops oj=true) →
   i∈Region.ready .any ops la→YieldsIf P ops (fun _=>True) oi v a→demO ops A bs i=false →
   wpAnyD P ops Q bs A w1 fuel (la.setIfInBounds i true) (a.put oi.dst v) w→wpAnyD P ops Q bs A w1 (fuel+1) la a w:=by
 intro fuel;induction fuel with
 | zero =>
  intro la a w hJ _ hr hy hS H;refine ⟨fun h=>(by rw [h] at hr; cases hr),fun j hj=>?_⟩;by_cases hji:j=i
  ·subst hji; exact hy.wpOp hi trivial ⟨fun hh=>(by rw [hS] at hh; cases hh),H⟩
  ·have:=ready_mono hj hji;rw [H.1] at this;cases this
 | succ fuel ih =>
  intro la a w hJ hfree hr hy hS H;refine ⟨fun h=>(by rw [h] at hr; cases hr),fun j hj=>?_⟩;by_cases hji:j=i
  ·subst hji; exact hy.wpOp hi trivial ⟨fun hh=>(by rw [hS] at hh; cases hh),H⟩
  ·have h1:=H.2 j (ready_mono hj hji);have r:=rdy_of hc hJ hj;have ri:=rdy_of hc hJ hr;obtain ⟨hjun,oj,hoj,hall⟩:=mem_ready.1 hj;have hnot:∀e∈oj.after,Region.binds .any e=true→e.on≠i:=fun e he hb heq=>by
    have h1:=hall e he hb;have h0:=(mem_ready.1 hr).1;rw [heq] at h1;rcases Nat.lt_or_ge i la.size with h' | h'
    ·simp [h'] at h0 h1; rw [h0] at h1; cases h1
    ·simp [Array.getElem?_eq_none h'] at h1
   have h2:=wpOp_putIf hoj (hfree j oj hoj hji hjun hnot) (fun cs b=>hsel i oi cs b hi) (fun cs b=>hsel j oj cs b hoj) (fun c a w h=>absurd h (hQ c _ w)) hy h1;have hfree':∀k ok,ops[k]? = some ok→k≠i→(la.setIfInBounds j true).getD k true=false →
     (∀e∈ok.after,Region.binds .any e=true→e.on≠i)→oi.apart ops ok=true:=fun k ok hk hki hun hno=>by
    refine hfree k ok hk hki ?_ hno;by_cases hjk:j=k
    ·subst hjk; exact hjun
    ·rw [getD_set_ne true hjk] at hun; exact hun
   refine wpOp_mono (fun a' w' h3=>⟨h3.2.1,ih (la.setIfInBounds j true) a' w' (hJ.next r) hfree' (ready_mono hr (Ne.symm hji)) h3.1 hS ?_⟩) h2;rw [Array.setIfInBounds_comm _ _ hji];exact h3.2.2
theorem zmc {φ1:Inj} {cs1:List Nat} {knA:KN} {ls1:Lcs} {a:Act} {o:Oper} {kv:KV} (hnl:∀t x,o.op≠.load t x) (h:locDet P knA ls1 o=some kv) (hka:KA φ1 cs1 knA a):∃v',KR φ1 cs1 kv v'∧∀w,(execOp a.eval o).run P w=.ok (.value v') w:=by
 unfold locDet at h;have hl:∃ls',locOp P knA ls1 o=some (kv,ls'):=by
  split at h;all_goals first | (cases hq:locOp P knA ls1 o with | none=>rw [hq] at h; cases h | some p=>obtain ⟨x,y⟩:=p; rw [hq] at h; simp only [Option.map_some,Option.some.injEq] at h; subst h; exact ⟨y,rfl⟩) | cases h
 obtain ⟨ls',hl⟩:=hl;obtain ⟨dst,op,ty,pos,after,guard⟩:=o;unfold locOp at hl;simp only at hl h hnl;split at hl
 ·rename_i t;split at hl
  ·rename_i i off hk;simp only [Option.some.injEq,Prod.mk.injEq] at hl;obtain ⟨rfl,rfl⟩:=hl;exact ⟨a.tmps.getD t undef,hka t _ hk,fun w=>rfl⟩
  ·cases hl
 ·rename_i t;split at hl
  ·rename_i i off hk;simp only [Option.some.injEq,Prod.mk.injEq] at hl;obtain ⟨rfl,rfl⟩:=hl;exact ⟨a.tmps.getD t undef,hka t _ hk,fun w=>rfl⟩
  ·cases hl
 ·rename_i t;split at hl
  ·rename_i i off hk;simp only [Option.some.injEq,Prod.mk.injEq] at hl;obtain ⟨rfl,rfl⟩:=hl;refine ⟨a.tmps.getD t undef,hka t _ hk,fun w=>?_⟩;obtain ⟨c,h1,h2⟩:=hka t _ hk;have:a.eval (.tmp t)=.pointer (some ⟨c,off,none⟩):=h2;simp only [execOp,this];rw [h2]; rfl
  ·cases hl
 ·rename_i s t f;split at hl
  ·rename_i i off fs hk hu;cases hf:fs[f]? with
   | none=>rw [hf] at hl; cases hl
   | some fd =>
    rw [hf] at hl;simp only at hl;cases hi:P.info? fd.type with
    | none=>rw [hi] at hl; cases hl
    | some inf =>
     rw [hi] at hl;simp only at hl;cases hz:Nat.beq inf.size 0 with
     | true=>rw [hz] at hl; cases hl
     | false =>
      rw [hz] at hl;simp only [cond_false,Option.some.injEq,Prod.mk.injEq] at hl;obtain ⟨rfl,rfl⟩:=hl;obtain ⟨c,h1,h2⟩:=hka t _ hk;have he:a.eval (.tmp t)=.pointer (some ⟨c,off,none⟩):=h2;refine ⟨.pointer (some ⟨c,off+fd.offset,none⟩),⟨c,h1,rfl⟩,fun w=>?_⟩;have hne:=Nat.ne_of_beq_eq_false hz;have hrun:(Instr.fieldAt s (.pointer (some ⟨c,off,none⟩)) f).run P w=.ok (.pointer (some ⟨c,off+fd.offset,none⟩)) w:=by
       simp only [Instr.fieldAt,Sem.run_bind,C2 hu,Result.andThen_ok,hf,Instr.sureAddr,Sem.run_pure,fieldPlace,A6 hi];rw [if_neg hne];simp only [Sem.run_pure,Result.andThen_ok,Addr.add_lit]
      simp only [execOp,he,Sem.run_bind,hrun,Result.andThen_ok];rfl
  ·cases hl
 ·exact (hnl _ _ rfl).elim
 all_goals first | (simp only [reduceCtorEq] at h; done) | (cases hl; done)
section
variable {E:Ent} {knA kn:KN} {ls ls1:Lcs} {H H1:AH} {f k:Nat} {la:Array Bool} {ag:Bool}
def takeQ (P:Program) (n:Nat) (ops:Array Oper) (A bs:List Nat) (la:Array Bool) (k:Nat) (o:Oper):Bool :=
 !(demO ops A bs k)&&Region.noSelect ops&&Region.free .any ops la k&&(Region.ready .any ops la).contains k&&dstV n o
theorem DA.takeP (k:Nat) (d:Option Nat) (v:Value) (ho:ops[k]? = some (opAt ops k)) (hd:(opAt ops k).dst=d) (hB:takeQ P n ops A bs la k (opAt ops k)=true) (hc:closedOk ops.toList bs=true) (hQ:∀c a w,¬Q (.panic c) a w)
  (hw:(wantV ops kn (opAt ops k),(opAt ops k).op.operands.all (okx P),(opAt ops k).op.operands.all (knownV kn))=(some true,true,true)) (hv:pureOp P (opAt ops k) (evV kn)=some v)
  (h:DA P ne m E n ops bs A H1 ls1 f (la.setIfInBounds k true) ag (dropV d knA) (putV kn d (.val v)) ls H Q):DA P ne m E n ops bs A H1 ls1 (f+1) la ag knA kn ls H Q:=by
 subst hd;intro w1 φ1 cs1 a w φ cs hd hle hs hka hpf hJ hag;unfold takeQ at hB;simp only [Bool.and_eq_true] at hB;obtain ⟨⟨⟨⟨b1,b2⟩,b3⟩,b4⟩,b5⟩:=hB;have hr:k∈Region.ready .any ops la:=by simpa using b4
 simp only [Prod.mk.injEq] at hw;obtain ⟨hw1,hw2,hw3⟩:=hw;rw [Array.all_eq_true_iff_forall_mem] at hw2 hw3;obtain ⟨v',h1,h2⟩:=znf (ρ':=a.eval) (fun x hx=>hs.eval (hw3 x hx) (hw2 x hx)) hv;refine z55 ho hc (Region.noSelect_spec b2) hQ f la a w hJ (Region.free_spec ho b3) hr (.inl ⟨F8 hs hw1,fun w _=>h2 w⟩) (by simpa using b1) ?_;exact h w1 φ1 cs1 _ w φ cs hd hle (hs.put b5 h1) (hka.drop _ _) hpf (hJ.next (rdy_of hc hJ hr)) hag
theorem DA.takePL (k:Nat) (d:Option Nat) (kv:KV) (ho:ops[k]? = some (opAt ops k)) (hd:(opAt ops k).dst=d) (hB:takeQ P n ops A bs la k (opAt ops k)=true) (hc:closedOk ops.toList bs=true) (hQ:∀c a w,¬Q (.panic c) a w)
  (hw:wantV ops kn (opAt ops k)=some true) (hv:(match (opAt ops k).op with | .load ..=>none | _=>locDet P kn ls (opAt ops k))=some kv)
  (h:DA P ne m E n ops bs A H1 ls1 f (la.setIfInBounds k true) ag (dropV d knA) (putV kn d kv) ls H Q):DA P ne m E n ops bs A H1 ls1 (f+1) la ag knA kn ls H Q:=by
 subst hd;intro w1 φ1 cs1 a w φ cs hd hle hs hka hpf hJ hag;unfold takeQ at hB;simp only [Bool.and_eq_true] at hB;obtain ⟨⟨⟨⟨b1,b2⟩,b3⟩,b4⟩,b5⟩:=hB;have hr:k∈Region.ready .any ops la:=by simpa using b4
 have hv2:locDet P kn ls (opAt ops k)=some kv:=by
  split at hv
  ·cases hv
  ·exact hv
 have hnl:∀t x,(opAt ops k).op≠.load t x:=by
  intro t x e;rw [e] at hv;cases hv
 obtain ⟨v',h1,h2⟩:=zmc hnl hv2 (fun t kv hl=>hs.slot t kv hl:KA φ cs kn a);refine z55 ho hc (Region.noSelect_spec b2) hQ f la a w hJ (Region.free_spec ho b3) hr (.inl ⟨F8 hs hw,fun w _=>h2 w⟩) (by simpa using b1) ?_;exact h w1 φ1 cs1 _ w φ cs hd hle (hs.put b5 h1) (hka.drop _ _) hpf (hJ.next (rdy_of hc hJ hr)) hag
theorem C1 (k:Nat) (d:Option Nat) (ho:ops[k]? = some (opAt ops k)) (hd:(opAt ops k).dst=d) (hB:takeQ P n ops A bs la k (opAt ops k)=true) (hc:closedOk ops.toList bs=true) (hQ:∀c a w,¬Q (.panic c) a w) (hw:wantV ops kn (opAt ops k)=some false)
  (h:DA P ne m E n ops bs A H1 ls1 f (la.setIfInBounds k true) ag (dropV d knA) (putV kn d (.val undef)) ls H Q):DA P ne m E n ops bs A H1 ls1 (f+1) la ag knA kn ls H Q:=by
 subst hd;intro w1 φ1 cs1 a w φ cs hd hle hs hka hpf hJ hag;unfold takeQ at hB;simp only [Bool.and_eq_true] at hB;obtain ⟨⟨⟨⟨b1,b2⟩,b3⟩,b4⟩,b5⟩:=hB;have hr:k∈Region.ready .any ops la:=by simpa using b4
 refine z55 (v:=undef) ho hc (Region.noSelect_spec b2) hQ f la a w hJ (Region.free_spec ho b3) hr (.inr ⟨F8 hs hw,rfl⟩) (by simpa using b1) ?_;exact h w1 φ1 cs1 _ w φ cs hd hle (hs.put b5 (kv:=.val undef) (z2x _)) (hka.drop _ _) hpf (hJ.next (rdy_of hc hJ hr)) hag
end
def notRead (o:Oper):Bool:=match o.op with
 | .load ..=>false
 | .lookup ..=>false
 | _=>true
theorem znh {o:Oper} {ρ:Operand→Value} {v:Value} (hn:notRead o=true) (h:detOp P ⟨0,.nil⟩ o ρ=some v):pureOp P o ρ=some v:=by
 unfold pureOp;unfold notRead at hn;split
 ·rename_i e; rw [e] at hn; cases hn
 ·rename_i e; rw [e] at hn; cases hn
 ·exact h
end Go.Abs
namespace Go.Abs
variable {P:Program} {ne:NE} {m n:Nat}
variable {E:Ent} {kn knA:KN} {ls ls1:Lcs} {H H1 H':AH} {ops:Array Oper} {k:Nat} {Q:Exit→Act→World→Prop} {bs A:List Nat} {f:Nat} {la:Array Bool} {ag:Bool}
def bsB (P:Program) (t:TypeId) (len:Nat) (ps:Array (Nat×Value)):Option (TypeId×List Value) :=
 match P.underlying t with
 | some (.slice e)=>match P.info? e with
  | some inf=>match inf.zero with
   | some z=>bif Nat.ble (len*inf.size) 1000000&&flat depth z&&!(Nat.beq (len*inf.size) 0)&&Nat.blt len OPEN then
     (Instr.fill (fun i=>some (i*inf.size,inf.size)) ((Array.range (len*inf.size)).map (z.cells[· % z.cells.size]!)) ps.toList).map fun cs=>(e,cs.toList)
    else none
   | none=>none
  | none=>none
 | _=>none
theorem bs_run {φ:Inj} {t:TypeId} {len:Nat} {ps ps':Array (Nat×Value)} {e:TypeId} {l:List Value} (h:bsB P t len ps=some (e,l)) (hp:F2 (PR φ) ps.toList ps'.toList) (w:World) :
  len≠OPEN∧∃cs',(Instr.buildSlice t len ps').run P w=.ok (.slice (some ⟨w.heap.size,0,none⟩) len len) { w with heap:=w.heap.push (.cells cs' e (0,0)) }∧AR φ l.toArray cs':=by
 unfold bsB at h;split at h
 ·rename_i el hu;cases hi:P.info? el with
  | none=>rw [hi] at h; cases h
  | some inf =>
   rw [hi] at h;simp only at h;cases hz:inf.zero with
   | none=>rw [hz] at h; cases h
   | some z =>
    rw [hz] at h;simp only at h;cases hc:(Nat.ble (len*inf.size) 1000000&&flat depth z&&!(Nat.beq (len*inf.size) 0)&&Nat.blt len OPEN) with
    | false=>rw [hc] at h; cases h
    | true =>
     rw [hc] at h;simp only [cond_true] at h;simp only [Bool.and_eq_true] at hc;obtain ⟨⟨⟨c1,c2⟩,c3⟩,c4⟩:=hc;have c1:=Nat.le_of_ble_eq_true c1;have c3:len*inf.size≠0:=by
      intro e0;rw [e0] at c3;cases c3
     have c4:=blt_lt c4;refine ⟨fun e0=>by rw [e0] at c4; exact absurd c4 (Nat.lt_irrefl _),?_⟩;have hzc:AR φ z.cells z.cells:=y8 c2;rcases zdm (φ:=φ) (fun i=>some (i*inf.size,inf.size)) _ _ _ _ hp (z6u hzc (len*inf.size)) with ⟨e1,e2⟩ | ⟨o,o',e1,e2,ho⟩
     ·rw [e1] at h; cases h
     ·rw [e1] at h;simp only [Option.map_some,Option.some.injEq,Prod.mk.injEq] at h;obtain ⟨rfl,rfl⟩:=h;refine ⟨o',?_,by simpa using ho⟩;have hzr:(zeroValue el).run P w=.ok z w:=z7j (by rw [hi]; exact hz) w;unfold Instr.buildSlice;simp only [Sem.run_bind,C2 hu,Result.andThen_ok,A6 hi];rw [if_neg (by omega),if_neg c3];simp only [Sem.run_bind,hzr,Result.andThen_ok,Sem.run_pure,e2];rfl
 ·cases h
def lsBS (P:Program) (kn:KN) (ls:Lcs) (o:Oper):Option (KV×Lcs) :=
 match o.op with
 | .buildSlice t len ps=>match bsB P t len (ps.map fun (i,x)=>(i,evV kn x)) with
  | some (e,l)=>some (.sli ls.length len,ls++[some (e,l)])
  | none=>none
 | _=>none
theorem DA.actS (k:Nat) (d:Option Nat) (kv:KV) (ls':Lcs) (ho:ops[k]? = some (opAt ops k)) (hdd:(opAt ops k).dst=d) (hr:(Region.ready .any ops la).contains k=true) (hc:closedOk ops.toList bs=true) (hB:opV P n ops kn (opAt ops k)=true) (hl:lsBS P kn ls (opAt ops k)=some (kv,ls'))
  (ha:(!demO ops A bs k||ag)=true)
  (h:DA P ne m E n ops bs A H1 ls1 f (la.setIfInBounds k true) ag (dropV d knA) (putV kn d kv) ls' H Q):DAk P ne m E n ops bs A H1 ls1 k f la ag knA kn ls H Q:=by
 subst hdd;intro w1 φ1 cs1 a w φ cs hd1 hle hs hka hpf hJ hag;unfold opV at hB;simp only [Bool.and_eq_true] at hB;obtain ⟨⟨⟨hg,hx⟩,hkn⟩,hd⟩:=hB;rw [Array.all_eq_true_iff_forall_mem] at hkn hx;have hw:wantV ops kn (opAt ops k)=some true:=by
  split at hg
  ·assumption
  ·cases hg
 refine z6h ho hs hw fun K hK=>?_;have hev:∀x∈(opAt ops k).op.operands,VR φ (evV kn x) (a.eval x):=fun x hxm=>hs.eval (hkn x hxm) (hx x hxm);have hh:=h w1 φ1 cs1;obtain ⟨oo,hoo⟩:∃oo,opAt ops k=oo:=⟨_,rfl⟩;rw [hoo] at hl hd hev hh ⊢;obtain ⟨dst,op,ty,pos,after,guard⟩:=oo;unfold lsBS at hl;simp only at hl hd;cases op with
 | buildSlice t len ps =>
  simp only at hl;cases hb:bsB P t len (ps.map fun (i,x)=>(i,evV kn x)) with
  | none=>rw [hb] at hl; cases hl
  | some p =>
   obtain ⟨e,l⟩:=p;rw [hb] at hl;simp only [Option.some.injEq,Prod.mk.injEq] at hl;obtain ⟨rfl,rfl⟩:=hl;obtain ⟨hno,cs',hrun,har⟩:=bs_run hb (zcv ps (ρ:=evV kn) (ρ':=a.eval) hev) w;obtain ⟨cs2,hs2,hp2,hq2,hn2⟩:=hs.new (e:=e) (v:=.agg l.toArray) (v':=.agg cs') (.agg _ _ har.1 har.2) (d:=none) rfl;have hs3:=hs2.put (d:=dst) hd (kv:=.sli ls.length len) (v':=.slice (some ⟨w.heap.size,0,none⟩) len len) ⟨⟨_,hq2,rfl⟩,hno⟩;have hex:(execOp a.eval ⟨dst,.buildSlice t len ps,ty,pos,after,guard⟩).run P w=.ok (.value (.slice (some ⟨w.heap.size,0,none⟩) len len)) { w with heap:=w.heap.push (.cells cs' e (0,0)) }:=by
    simp only [execOp,Sem.run_bind,hrun,Result.andThen_ok]; rfl
   unfold Oper.wp;rw [hex];have hag':ag=true→Agr m H1 w1 cs1 φ { w with heap:=w.heap.push (.cells cs' e (0,0)) } cs2:=fun h1=>by
    obtain ⟨q1,q2,q3⟩:=hag h1;refine ⟨q1.trans' (z67 _ _),q2,fun i c hi hc=>?_⟩;rcases Nat.lt_or_ge i cs.length with hlt | hge
    ·rw [hp2 i cs[i] (List.getElem?_eq_getElem hlt)] at hc;cases hc;exact q3 i _ hi (List.getElem?_eq_getElem hlt)
    ·exact Nat.le_trans (z63 q1) (hn2 i c hge hc)
   refine hK _ _ ⟨fun hdm=>(hag' (by rw [hdm] at ha; simpa using ha)).ag,?_⟩;exact hh _ _ φ cs2 hd1 hle (by simpa [putV,Act.put,Value.cells] using hs3) (by simpa using hka.drop dst _) (fun i c hc=>hp2 i c (hpf i c hc)) (z6e hr hc hJ) hag'
 | _=>cases hl
def newS (e:TypeId) (cells:List Value) (H:AH):Option (Nat×AH):=some (H.next,H.push (pubB e cells))
theorem K1 (i:Nat) {e:TypeId} {cells:List Value} {id:Nat} (kn':KN) (ls':Lcs) (hx:newS e cells H=some (id,H')) (hi:ls[i]? = some (some (e,cells))) (hk:pubK i id kn=kn') (hl:ls.set i none=ls')
  (h:DAk P ne m E n ops bs A H1 ls1 k f la ag knA kn' ls' H' Q) (hnw:(!ag||Nat.ble ls1.length i)=true:=by kernel_rfl):DAk P ne m E n ops bs A H1 ls1 k f la ag knA kn ls H Q:=by
 cases hx;subst hk hl;intro w1 φ1 cs1 a w φ cs hd1 hle hs hka hpf hJ hag;obtain ⟨φ',h1,h3,h2⟩:=hs.pub i hi;refine h w1 φ1 cs1 a w φ' cs hd1 (fun id l hl=>h1 _ _ (hle _ _ hl)) h2 hka hpf hJ fun hg=>⟨(hag hg).ag,fun id l hid hl=>?_,(hag hg).nw⟩;rcases h3 id l hl with h4 | h4
 ·exact (hag hg).jn id l hid h4
 ·rw [hg] at hnw;exact (hag hg).nw i _ (by rw [hd1.len]; simpa using hnw) h4
theorem WS.pubS (i:Nat) {e:TypeId} {cells:List Value} {id:Nat} (kn':KN) (ls':Lcs) (hx:newS e cells H=some (id,H')) (hi:ls[i]? = some (some (e,cells))) (hk:pubK i id kn=kn') (hl:ls.set i none=ls')
  (h:∀a w,SS P ne m E n kn' ls' H' a w→Q .normal a w):∀a w,SS P ne m E n kn ls H a w→Q .normal a w:=by
 cases hx;subst hk hl;exact fun a w hs=>h a w (hs.pub i hi)
def isScope:Code→Bool | .scope _=>true | _=>false
theorem WS.scope {c:Code} (hc:isScope c=true) (h:WS P ne m E n (cfst c) kn ls H (Exit.noGoto Q)):WS P ne m E n c kn ls H Q:=by
 cases c with
 | scope b=>exact fun a w hs=>wp_scope_straight (h a w hs)
 | _=>cases hc
theorem sgR {a:Act} {w:World} (h:Q .ret a w):Exit.noGoto Q .ret a w:=h
section
variable {S R:Type} {knOf:S→KN} {lsOf:S→Lcs} {hOf:S→AH} {i:Nat} {QR:R→Exit→Act→World→Prop} {a:Act} {w:World}
def lpX (P:Program) (ne:NE) (m:Nat) (E:Ent) (n:Nat) (knOf:S→KN) (lsOf:S→Lcs) (hOf:S→AH) (i:Nat) (QR:R→Exit→Act→World→Prop) (o:Lp S R):Exit→Act→World→Prop
 | .normal,a,w=>∃s,o=.next s∧SS P ne m E n (knOf s) (lsOf s) (hOf s) a w
 | e,a,w=>(∃s,o=.brk s∧e=.exit i∧SS P ne m E n (knOf s) (lsOf s) (hOf s) a w)∨∃r,o=.ret r∧QR r e a w
theorem lxN {o:Lp S R} {s:S} (ho:o=.next s) (h:SS P ne m E n (knOf s) (lsOf s) (hOf s) a w):lpX P ne m E n knOf lsOf hOf i QR o .normal a w:=⟨s,ho,h⟩
theorem lxB {o:Lp S R} {s:S} (ho:o=.brk s) (h:SS P ne m E n (knOf s) (lsOf s) (hOf s) a w):lpX P ne m E n knOf lsOf hOf i QR o (.exit i) a w:=.inl ⟨s,ho,rfl,h⟩
theorem lxR {o:Lp S R} {r:R} (ho:o=.ret r) (h:QR r .ret a w):lpX P ne m E n knOf lsOf hOf i QR o .ret a w:=.inr ⟨r,ho,h⟩
theorem lxE {o:Lp S R} {r:R} {j:Nat} (ho:o=.ret r) (h:QR r (.exit j) a w):lpX P ne m E n knOf lsOf hOf i QR o (.exit j) a w:=.inr ⟨r,ho,h⟩
theorem zmh {c:Code} {body:S→Option (Lp S R)}
  (hbody:∀s o,body s=some o→WS P ne m E n c (knOf s) (lsOf s) (hOf s) (lpX P ne m E n knOf lsOf hOf i QR o)) :
  ∀(k:Nat) (s:S) (o:S⊕R),iterO body k s=some o→∀{Q:Exit→Act→World→Prop},(∀s',o=.inl s'→∀a w,SS P ne m E n (knOf s') (lsOf s') (hOf s') a w→Q (.exit i) a w)→(∀r,o=.inr r→∀e a w,QR r e a w→Q e a w) →
   ∀a w,SS P ne m E n (knOf s) (lsOf s) (hOf s) a w→Code.rounds P c Q k a w:=by
 intro k;induction k with
 | zero=>intro s o h; cases h
 | succ k ih =>
  intro s o h Q h1 h2 a w hs;rw [rounds_succ];simp only [iterO] at h;cases hb:body s with
  | none=>rw [hb] at h; cases h
  | some l =>
   rw [hb] at h;have other:∀e a' w',((∃s,l=.brk s∧e=.exit i∧SS P ne m E n (knOf s) (lsOf s) (hOf s) a' w')∨∃r,l=.ret r∧QR r e a' w')→Q e a' w':=by
    rintro e a' w' (⟨s',rfl,rfl,hs'⟩ | ⟨r,rfl,hr⟩)
    ·simp only [Option.some.injEq] at h;exact h1 s' h.symm a' w' hs'
    ·simp only [Option.some.injEq] at h;exact h2 r h.symm _ a' w' hr
   refine wp_mono (hbody s l hb a w hs) fun e a' w' hq=>?_;cases e with
   | normal =>
    obtain ⟨s',rfl,hs'⟩:=hq;exact ih s' o h h1 h2 a' w' hs'
   | _=>exact other _ a' w' hq
theorem WS.loopX_ {c:Code} (hc:isLoop c=true) (body:S→Option (Lp S R)) (knOf:S→KN) (lsOf:S→Lcs) (hOf:S→AH) (i:Nat) (QR:R→Exit→Act→World→Prop)
  (hbody:∀s o,body s=some o→WS P ne m E n (cfst c) (knOf s) (lsOf s) (hOf s) (lpX P ne m E n knOf lsOf hOf i QR o)) {s:S} {o:S⊕R} (hl:loopO body s=some o) (k:Nat) (hsub:SubV (knOf s) kn) (hls:ls.take k=lsOf s) (hbl:belowL k (knOf s)=true) (hH:H=hOf s)
  (h1:∀s',o=.inl s'→∀a w,SS P ne m E n (knOf s') (lsOf s') (hOf s') a w→Q (.exit i) a w) (h2:∀r,o=.inr r→∀e a w,QR r e a w→Q e a w):WS P ne m E n c kn ls H Q:=by
 cases c with
 | loop body' =>
  intro a w hs;obtain ⟨k',hk⟩:=S9.1 hl;subst hH;exact wp_loop_rounds k' (zmh hbody k' s o hk h1 h2 a w (hs.sub hsub k hls hbl))
 | _=>cases hc
theorem WS.loopXI {c:Code} (hc:isLoop c=true) (body:S→Option (Lp S R)) (knOf:S→KN) (lsOf:S→Lcs) (hOf:S→AH) (i:Nat) (QR:R→Exit→Act→World→Prop)
  (hbody:∀s o,body s=some o→WS P ne m E n (cfst c) (knOf s) (lsOf s) (hOf s) (lpX P ne m E n knOf lsOf hOf i QR o)) {s s':S} (hl:loopO body s=some (.inl s')) (k:Nat) (hsub:SubV (knOf s) kn) (hls:ls.take k=lsOf s) (hbl:belowL k (knOf s)=true) (hH:H=hOf s)
  (h1:∀a w,SS P ne m E n (knOf s') (lsOf s') (hOf s') a w→Q (.exit i) a w):WS P ne m E n c kn ls H Q :=
 WS.loopX_ hc body knOf lsOf hOf i QR hbody hl k hsub hls hbl hH (fun s2 e=>by cases e; exact h1) (fun r e=>by cases e)
theorem WS.loopXR {c:Code} (hc:isLoop c=true) (body:S→Option (Lp S R)) (knOf:S→KN) (lsOf:S→Lcs) (hOf:S→AH) (i:Nat) (QR:R→Exit→Act→World→Prop)
  (hbody:∀s o,body s=some o→WS P ne m E n (cfst c) (knOf s) (lsOf s) (hOf s) (lpX P ne m E n knOf lsOf hOf i QR o)) {s:S} {r:R} (hl:loopO body s=some (.inr r)) (k:Nat) (hsub:SubV (knOf s) kn) (hls:ls.take k=lsOf s) (hbl:belowL k (knOf s)=true) (hH:H=hOf s)
  (h2:∀e a w,QR r e a w→Q e a w):WS P ne m E n c kn ls H Q :=
 WS.loopX_ hc body knOf lsOf hOf i QR hbody hl k hsub hls hbl hH (fun s2 e=>by cases e) (fun r2 e=>by cases e; exact h2)
end
def gOp {α:Type} (P:Program) (m:Nat) (ops:Array Oper) (k:Nat) (kn:KN) (de:Value→Option α) (H:AH):Option (α×AH) :=
 match runOp P (NE.plain 0) ih0 m (opAt ops k) (evV kn) H with
 | some (v,H')=>(de v).map fun x=>(x,H')
 | none=>none
theorem zr1 {α:Type} {knS:KN} {de:Value→Option α} {x:α} {v:Value} (hx:gOp P m ops k knS de H=some (x,H')) (hv:∀u,de u=some x→u=v) (he:runOp P (NE.plain 0) ih0 m (opAt ops k) (evV knS) H=runOp P (NE.plain 0) ih0 m (opAt ops k) (evV kn) H):runOp P (NE.plain 0) ih0 m (opAt ops k) (evV kn) H=some (v,H'):=by
 rw [← he];unfold gOp at hx;split at hx
 ·rename_i u H1 hu;cases hd:de u with
  | none=>rw [hd] at hx; cases hx
  | some y =>
   rw [hd] at hx;simp only [Option.map_some,Option.some.injEq,Prod.mk.injEq] at hx;obtain ⟨rfl,rfl⟩:=hx;rw [hu,hv u hd]
 ·cases hx
def gOp1 {α:Type} (P:Program) (ops:Array Oper) (k:Nat) (kn:KN) (de:Value→Option α) (H:AH):Option α :=
 (gOp P 0 ops k kn de H).map (·.1)
end Go.Abs
namespace Go.Abs
variable {P:Program} {m:Nat}
theorem zdh {laid:List (String×DataW Unit)} {W:World} {name:String} {k:IntKind} {zs:List Int} {g:Nat} {e t te:TypeId} {n:Nat} (hL:laidMet P laid W) (hf:laid.filter (fun x=>x.1 == name)=[(name,Lib.tabData k zs)])
  (hg:P.globalNamed name=some g) (hty:(P.globals[g]?).map (·.type)=some t) (ht:P.underlying t=some (.array n te)) (he:P.underlying te=some (.int k)) (hce:P.cellsOf te=1) (hct:P.cellsOf t=n) (hlt:g<P.globals.size)
  (hrow:(((begin P (fun _ _=>0) default).world.heap[g]?).bind Obj.row?).map (·.2)=some e) (hsh:W.ShapedOpen P):∃fr,W.heap[g]? = some (.cells (zs.map fun z=>Value.int k z).toArray e fr):=by
 have h1:=laidMet.filter (fun x=>x.1 == name) hL;rw [hf] at h1;exact ⟨(0,0),zo4 hg hlt hrow hsh (Lib.tabIs_of_head hg hty ht he hce hct h1)⟩
def zsOf:DataW Unit→List Int
 | .agg l=>l.map fun | .lit (.int _ z)=>z | _=>0
 | _=>[]
end Go.Abs
namespace Go.Abs
variable {P:Program} {ne:NE} {m n:Nat}
variable {E:Ent} {kn knA:KN} {ls ls1:Lcs} {H H1 H':AH} {ops:Array Oper} {k:Nat} {Q:Exit→Act→World→Prop} {bs A:List Nat} {f:Nat} {la:Array Bool} {ag:Bool} {c:Code}
theorem A0 (h:WS P ne m E n (cfst c) kn ls H (Exit.then ((csnd c).wp P Q) Q)) (hc:isSeq c=true:=by kernel_rfl):WS P ne m E n c kn ls H Q:=WS.seq hc h
theorem G0 (h:∀a w,SS P ne m E n kn ls H a w→Q .normal a w) (hc:isSkip c=true:=by kernel_rfl):WS P ne m E n c kn ls H Q:=WS.skip hc h
theorem I0 (h:∀a w,SS P ne m E n kn ls H a w→Q .ret a w) (hc:isRet c=true:=by kernel_rfl):WS P ne m E n c kn ls H Q:=WS.ret hc h
theorem WS.ex (i:Nat) (h:∀a w,SS P ne m E n kn ls H a w→Q (.exit i) a w) (hc:isExit i c=true:=by kernel_rfl):WS P ne m E n c kn ls H Q:=WS.exit i hc h
theorem J0 (i:Nat) (h:WS P ne m E n (cfst c) kn ls H (blkS i Q)) (hc:isBlock i c=true:=by kernel_rfl):WS P ne m E n c kn ls H Q:=WS.blk i hc h
theorem E0 (h:WS P ne m E n (cfst c) kn ls H Q) (hc:(condOf c).map (fun x=>(knownV kn x,evV kn x))=some (true,.bool true):=by kernel_rfl):WS P ne m E n c kn ls H Q:=WS.condT true rfl hc h
theorem F0 (h:WS P ne m E n (csnd c) kn ls H Q) (hc:(condOf c).map (fun x=>(knownV kn x,evV kn x))=some (true,.bool false):=by kernel_rfl):WS P ne m E n c kn ls H Q:=WS.condF false rfl hc h
theorem D0 (t:Nat) {b:Bool} (d:Bool) (hb:b=d) (h:WS P ne m E n c ((t,.val (.bool d)) :: kn) ls H Q) (hl:lkV kn t=some (.val (.bool b)):=by kernel_rfl):WS P ne m E n c kn ls H Q:=WS.fix t d hb hl h
theorem K0 (t:Nat) {b:Bool} (d:Bool) (hb:b=d) (h:RS P ne m E n ops k ((t,.val (.bool d)) :: kn) ls H Q) (hl:lkV kn t=some (.val (.bool b)):=by kernel_rfl):RS P ne m E n ops k kn ls H Q:=RS.fix t d hb hl h
theorem N1 (t:Nat) {b:Bool} (d:Bool) (hb:b=d) (h:DA P ne m E n ops bs A H1 ls1 f la ag ((t,.val (.bool d)) :: knA) ((t,.val (.bool d)) :: kn) ls H Q) (hl:lkV kn t=some (.val (.bool b)):=by kernel_rfl):DA P ne m E n ops bs A H1 ls1 f la ag knA kn ls H Q:=DA.fix t d hb hl h
theorem C0 (h:RS P ne m E n (opsOf c) 0 kn ls H Q) (hc:(regOf c).map (·.2)=some false:=by kernel_rfl):WS P ne m E n c kn ls H Q:=by
 refine WS.region (opsOf c) ?_ h;cases c with
 | region id ops d =>
  simp only [regOf,Option.map_some,Option.some.injEq] at hc;subst hc; rfl
 | _=>cases hc
theorem B0 (h:∀a w,SS P ne m E n kn ls H a w→Q .normal a w) (hk:Nat.ble ops.size k=true:=by kernel_rfl):RS P ne m E n ops k kn ls H Q:=RS.done hk h
theorem m0 (j:Nat) (new:KN) (h:RS P ne m E n ops (k+j) (new++kn) ls H Q) (hr:runLs P m n ops j k kn ls H=some (new++kn,ls,H):=by kernel_rfl):RS P ne m E n ops k kn ls H Q:=RS.many j new ls hr h
theorem Q0 (j:Nat) (new:KN) (ls':Lcs) (h:RS P ne m E n ops (k+j) (new++kn) ls' H Q) (hr:runLs P m n ops j k kn ls H=some (new++kn,ls',H):=by kernel_rfl):RS P ne m E n ops k kn ls H Q:=RS.many j new ls' hr h
theorem P0 (d:Option Nat) (v:Value) (hr:runOp P (NE.plain 0) ih0 m (opAt ops k) (evV kn) H=some (v,H')) (h:RS P ne m E n ops (k+1) (putV kn d (.val v)) ls H' Q)
  (ho:ops[k]? = some (opAt ops k):=by kernel_rfl) (hd:(opAt ops k).dst=d:=by kernel_rfl) (hB:(opV P n ops kn (opAt ops k)&&noCall (opAt ops k))=true:=by kernel_rfl):RS P ne m E n ops k kn ls H Q:=RS.atD d v ho hd hB hr h
theorem N0 (d:Option Nat) {v:Value} (g:Nat) (args:Array Value) (hr:CallS P ne m g args H v H') (h:RS P ne m E n ops (k+1) (putV kn d (.val v)) ls H' Q)
  (ho:ops[k]? = some (opAt ops k):=by kernel_rfl) (hd:(opAt ops k).dst=d:=by kernel_rfl) (hB:opV P n ops kn (opAt ops k)=true:=by kernel_rfl) (hc:callV kn (opAt ops k)=some (g,args):=by kernel_rfl):RS P ne m E n ops k kn ls H Q:=RS.callD d g args ho hd hB hc hr h
theorem D1 (A:List Nat) (bs:List Nat) (sz:Nat) (h:closedOk (opsOf c).toList bs=true→DA P ne m E n (opsOf c) bs A H ls sz (Array.replicate sz false) true kn kn ls H Q) (hc:regOf c=some (opsOf c,true):=by kernel_rfl) (hb:befores (opsOf c).toList=bs:=by kernel_rfl) (hs:(opsOf c).size=sz:=by kernel_rfl) (hB:closedOk (opsOf c).toList bs=true:=by kernel_rfl):WS P ne m E n c kn ls H Q:=WS.drawnX (opsOf c) A bs sz hc hb hs hB (h hB)
theorem W0 (h:∀a w,SS P ne m E n kn ls H a w→Q .normal a w) (hr:readyIs ops la []=true:=by kernel_rfl):DA P ne m E n ops bs A H1 ls1 f la ag knA kn ls H Q:=DA.done hr h
theorem DA.on (k:Nat) (h:DAk P ne m E n ops bs A H1 ls1 k f la ag knA kn ls H Q) (hr:readyIs ops la [k]=true:=by kernel_rfl):DA P ne m E n ops bs A H1 ls1 (f+1) la ag knA kn ls H Q:=DA.one k hr h
theorem Z0 (k:Nat) (d:Option Nat) (v:Value) (hv:detOp P H1 (opAt ops k) (evV knA)=some v) (h:DA P ne m E n ops bs A H1 ls1 f (la.setIfInBounds k true) true (putV knA d (.val v)) (putV kn d (.val v)) ls H Q)
  (hc:closedOk ops.toList bs=true:=by assumption) (ho:ops[k]? = some (opAt ops k):=by kernel_rfl) (hd:(opAt ops k).dst=d:=by kernel_rfl) (hB:takeB P n ops A la k (opAt ops k)=true:=by kernel_rfl) (hQ:∀c a w,¬Q (.panic c) a w:=by exact fun _ _ _ h=>h)
  (hw:(wantV ops kn (opAt ops k),(opAt ops k).op.operands.all (okx P),(opAt ops k).op.operands.all (knownV knA))=(some true,true,true):=by kernel_rfl):DA P ne m E n ops bs A H1 ls1 (f+1) la true knA kn ls H Q:=DA.takeD k d v ho hd hB hc hQ hw hv h
theorem U0 (k:Nat) (d:Option Nat) (v:Value) (h:DA P ne m E n ops bs A H1 ls1 f (la.setIfInBounds k true) true (putV knA d (.val v)) (putV kn d (.val v)) ls H Q)
  (hc:closedOk ops.toList bs=true:=by assumption) (ho:ops[k]? = some (opAt ops k):=by kernel_rfl) (hd:(opAt ops k).dst=d:=by kernel_rfl) (hB:takeB P n ops A la k (opAt ops k)=true:=by kernel_rfl) (hQ:∀c a w,¬Q (.panic c) a w:=by exact fun _ _ _ h=>h)
  (hw:(wantV ops kn (opAt ops k),(opAt ops k).op.operands.all (okx P),(opAt ops k).op.operands.all (knownV knA))=(some true,true,true):=by kernel_rfl) (hv:detOp P H1 (opAt ops k) (evV knA)=some v:=by kernel_rfl):DA P ne m E n ops bs A H1 ls1 (f+1) la true knA kn ls H Q:=DA.takeD k d v ho hd hB hc hQ hw hv h
theorem V0 (k:Nat) (d:Option Nat) (kv:KV) (h:DA P ne m E n ops bs A H1 ls1 f (la.setIfInBounds k true) true (putV knA d kv) (putV kn d kv) ls H Q)
  (hc:closedOk ops.toList bs=true:=by assumption) (ho:ops[k]? = some (opAt ops k):=by kernel_rfl) (hd:(opAt ops k).dst=d:=by kernel_rfl) (hB:takeB P n ops A la k (opAt ops k)=true:=by kernel_rfl) (hQ:∀c a w,¬Q (.panic c) a w:=by exact fun _ _ _ h=>h)
  (hw:wantV ops kn (opAt ops k)=some true:=by kernel_rfl) (hv:locDet P knA ls1 (opAt ops k)=some kv:=by kernel_rfl):DA P ne m E n ops bs A H1 ls1 (f+1) la true knA kn ls H Q:=DA.takeLD k d kv ho hd hB hc hQ hw hv h
theorem M0 (k:Nat) (d:Option Nat) (v:Value) (h:DA P ne m E n ops bs A H1 ls1 f (la.setIfInBounds k true) ag (dropV d knA) (putV kn d (.val v)) ls H Q)
  (hc:closedOk ops.toList bs=true:=by assumption) (ho:ops[k]? = some (opAt ops k):=by kernel_rfl) (hd:(opAt ops k).dst=d:=by kernel_rfl) (hB:takeQ P n ops A bs la k (opAt ops k)=true:=by kernel_rfl) (hQ:∀c a w,¬Q (.panic c) a w:=by exact fun _ _ _ h=>h)
  (hw:(wantV ops kn (opAt ops k),(opAt ops k).op.operands.all (okx P),(opAt ops k).op.operands.all (knownV kn))=(some true,true,true):=by kernel_rfl) (hv:pureOp P (opAt ops k) (evV kn)=some v:=by kernel_rfl):DA P ne m E n ops bs A H1 ls1 (f+1) la ag knA kn ls H Q:=DA.takeP k d v ho hd hB hc hQ hw hv h
theorem J1 (k:Nat) (d:Option Nat) (v:Value) (hv:detOp P ⟨0,.nil⟩ (opAt ops k) (evV kn)=some v) (h:DA P ne m E n ops bs A H1 ls1 f (la.setIfInBounds k true) ag (dropV d knA) (putV kn d (.val v)) ls H Q)
  (hc:closedOk ops.toList bs=true:=by assumption) (ho:ops[k]? = some (opAt ops k):=by kernel_rfl) (hd:(opAt ops k).dst=d:=by kernel_rfl) (hB:takeQ P n ops A bs la k (opAt ops k)=true:=by kernel_rfl) (hQ:∀c a w,¬Q (.panic c) a w:=by exact fun _ _ _ h=>h)
  (hw:(wantV ops kn (opAt ops k),(opAt ops k).op.operands.all (okx P),(opAt ops k).op.operands.all (knownV kn))=(some true,true,true):=by kernel_rfl) (hn:notRead (opAt ops k)=true:=by kernel_rfl):DA P ne m E n ops bs A H1 ls1 (f+1) la ag knA kn ls H Q:=DA.takeP k d v ho hd hB hc hQ hw (znh hn hv) h
theorem F1 (k:Nat) (d:Option Nat) (kv:KV) (h:DA P ne m E n ops bs A H1 ls1 f (la.setIfInBounds k true) ag (dropV d knA) (putV kn d kv) ls H Q)
  (hc:closedOk ops.toList bs=true:=by assumption) (ho:ops[k]? = some (opAt ops k):=by kernel_rfl) (hd:(opAt ops k).dst=d:=by kernel_rfl) (hB:takeQ P n ops A bs la k (opAt ops k)=true:=by kernel_rfl) (hQ:∀c a w,¬Q (.panic c) a w:=by exact fun _ _ _ h=>h)
  (hw:wantV ops kn (opAt ops k)=some true:=by kernel_rfl) (hv:(match (opAt ops k).op with | .load ..=>none | _=>locDet P kn ls (opAt ops k))=some kv:=by kernel_rfl):DA P ne m E n ops bs A H1 ls1 (f+1) la ag knA kn ls H Q:=DA.takePL k d kv ho hd hB hc hQ hw hv h
theorem B1 (k:Nat) (d:Option Nat) (kv:KV) (ls':Lcs) (ag':Bool) (h:DA P ne m E n ops bs A H1 ls1 f (la.setIfInBounds k true) ag' (dropV d knA) (putV kn d kv) ls' H Q)
  (hc:closedOk ops.toList bs=true:=by assumption) (ho:ops[k]? = some (opAt ops k):=by kernel_rfl) (hdd:(opAt ops k).dst=d:=by kernel_rfl) (hr:(Region.ready .any ops la).contains k=true:=by kernel_rfl) (hw:wantV ops kn (opAt ops k)=some true:=by kernel_rfl) (hd:dstV n (opAt ops k)=true:=by kernel_rfl) (hl:locOp P kn ls (opAt ops k)=some (kv,ls'):=by kernel_rfl)
  (ha:((!demO ops A bs k||(ag&&notStore (opAt ops k)))&&(!ag'||(ag&&notStore (opAt ops k))))=true:=by kernel_rfl):DAk P ne m E n ops bs A H1 ls1 k f la ag knA kn ls H Q:=DA.actLD k d kv ls' ag' ho hdd hr hc hw hd hl ha h
theorem Y0 (k:Nat) (d:Option Nat) (v:Value) (hv:runOp P (NE.plain 0) ih0 m (opAt ops k) (evV kn) H=some (v,H')) (h:DA P ne m E n ops bs A H1 ls1 f (la.setIfInBounds k true) false (dropV d knA) (putV kn d (.val v)) ls H' Q)
  (hc:closedOk ops.toList bs=true:=by assumption) (ho:ops[k]? = some (opAt ops k):=by kernel_rfl) (hdd:(opAt ops k).dst=d:=by kernel_rfl) (hr:(Region.ready .any ops la).contains k=true:=by kernel_rfl) (hB:(opV P n ops kn (opAt ops k)&&noCall (opAt ops k))=true:=by kernel_rfl) (hd:demO ops A bs k=false:=by kernel_rfl):DAk P ne m E n ops bs A H1 ls1 k f la ag knA kn ls H Q :=
 DA.actHD k d m false v ho hdd hr hc hB hv (Nat.le_refl _) (fun hh=>by rw [hd] at hh; cases hh) (by rw [hd]; rfl) h
theorem DA.aHk (k:Nat) (d:Option Nat) (ag':Bool) (v:Value) (hv:runOp P (NE.plain 0) ih0 (Nat.max m H.next) (opAt ops k) (evV kn) H=some (v,H')) (h:DA P ne m E n ops bs A H1 ls1 f (la.setIfInBounds k true) ag' (dropV d knA) (putV kn d (.val v)) ls H' Q)
  (hc:closedOk ops.toList bs=true:=by assumption) (ho:ops[k]? = some (opAt ops k):=by kernel_rfl) (hdd:(opAt ops k).dst=d:=by kernel_rfl) (hr:(Region.ready .any ops la).contains k=true:=by kernel_rfl) (hB:(opV P n ops kn (opAt ops k)&&noCall (opAt ops k))=true:=by kernel_rfl) (ha:((!demO ops A bs k||ag)&&(!ag'||ag))=true:=by kernel_rfl):DAk P ne m E n ops bs A H1 ls1 k f la ag knA kn ls H Q :=
 DA.actHD k d (Nat.max m H.next) ag' v ho hdd hr hc hB hv (Nat.le_max_left _ _) (fun _=>.inl (Nat.le_max_right _ _)) ha h
theorem X0 (k:Nat) (d:Option Nat) {v:Value} (g:Nat) (args:Array Value) (hcs:CallS P ne m g args H v H') (h:DA P ne m E n ops bs A H1 ls1 f (la.setIfInBounds k true) false (dropV d knA) (putV kn d (.val v)) ls H' Q)
  (hc:closedOk ops.toList bs=true:=by assumption) (ho:ops[k]? = some (opAt ops k):=by kernel_rfl) (hdd:(opAt ops k).dst=d:=by kernel_rfl) (hr:(Region.ready .any ops la).contains k=true:=by kernel_rfl) (hB:opV P n ops kn (opAt ops k)=true:=by kernel_rfl) (hcl:callV kn (opAt ops k)=some (g,args):=by kernel_rfl) (hd:demO ops A bs k=false:=by kernel_rfl):DAk P ne m E n ops bs A H1 ls1 k f la ag knA kn ls H Q :=
 DA.actCD k d m false g args ho hdd hr hc hB hcl hcs (Nat.le_refl _) (fun hh=>by rw [hd] at hh; cases hh) (by rw [hd]; rfl) h
theorem I1 (k:Nat) (d:Option Nat) (ag':Bool) {v:Value} (g:Nat) (args:Array Value) (hcs:CallS P ne (Nat.max m H.next) g args H v H') (h:DA P ne m E n ops bs A H1 ls1 f (la.setIfInBounds k true) ag' (dropV d knA) (putV kn d (.val v)) ls H' Q)
  (hc:closedOk ops.toList bs=true:=by assumption) (ho:ops[k]? = some (opAt ops k):=by kernel_rfl) (hdd:(opAt ops k).dst=d:=by kernel_rfl) (hr:(Region.ready .any ops la).contains k=true:=by kernel_rfl) (hB:opV P n ops kn (opAt ops k)=true:=by kernel_rfl) (hcl:callV kn (opAt ops k)=some (g,args):=by kernel_rfl) (ha:((!demO ops A bs k||ag)&&(!ag'||ag))=true:=by kernel_rfl):DAk P ne m E n ops bs A H1 ls1 k f la ag knA kn ls H Q :=
 DA.actCD k d (Nat.max m H.next) ag' g args ho hdd hr hc hB hcl hcs (Nat.le_max_left _ _) (fun _=>.inl (Nat.le_max_right _ _)) ha h
theorem SubV.of:∀{kn' kn:KN},kn'.map (fun p=>lkV kn p.1)=kn'.map (fun p=>some p.2)→SubV kn' kn:=by
 intro kn';induction kn' with
 | nil=>intro kn _; trivial
 | cons p l ih =>
  intro kn h;obtain ⟨t,v⟩:=p;simp only [List.map_cons,List.cons.injEq] at h;exact ⟨h.1,ih h.2⟩
theorem SS.sb {a:Act} {w:World} (h:SS P ne m E n kn ls H a w) {kn':KN} (k:Nat) {ls':Lcs} (hs:kn'.map (fun p=>lkV kn p.1)=kn'.map (fun p=>some p.2):=by kernel_rfl) (hl:ls.take k=ls':=by kernel_rfl) (hb:belowL k kn'=true:=by kernel_rfl):SS P ne m E n kn' ls' H a w:=h.sub (SubV.of hs) k hl hb
theorem rS {fn:Func} {v:Value} {a:Act} {w:World} (hs:SS P ne m E n kn ls H a w) (h:resF P fn kn ls H=some v:=by kernel_rfl):RT P ne m E fn v H a w:=rtS hs h
section
variable {S R:Type} {body:S→Option (Lp S R)} {knOf:S→KN} {lsOf:S→Lcs} {hOf:S→AH} {i:Nat}
theorem S0 {QR:R→Act→World→Prop} (hbody:∀s o,body s=some o→WS P ne m E n (cfst c) (knOf s) (lsOf s) (hOf s) (lpS P ne m E n knOf lsOf hOf i QR o)) {s s':S} (hl:loopO body s=some (.inl s')) (k:Nat) (h1:∀a w,SS P ne m E n (knOf s') (lsOf s') (hOf s') a w→Q (.exit i) a w)
  (hc:isLoop c=true:=by kernel_rfl) (hs:(knOf s).map (fun p=>lkV kn p.1)=(knOf s).map (fun p=>some p.2):=by kernel_rfl) (hls:ls.take k=lsOf s:=by kernel_rfl) (hbl:belowL k (knOf s)=true:=by kernel_rfl) (hH:H=hOf s:=by rfl):WS P ne m E n c kn ls H Q :=
 WS.loopI hc body knOf lsOf hOf i QR hbody hl k (SubV.of hs) hls hbl hH h1
theorem R0 {QR:R→Act→World→Prop} (hbody:∀s o,body s=some o→WS P ne m E n (cfst c) (knOf s) (lsOf s) (hOf s) (lpS P ne m E n knOf lsOf hOf i QR o)) {s:S} {r:R} (hl:loopO body s=some (.inr r)) (k:Nat) (h2:∀a w,QR r a w→Q .ret a w)
  (hc:isLoop c=true:=by kernel_rfl) (hs:(knOf s).map (fun p=>lkV kn p.1)=(knOf s).map (fun p=>some p.2):=by kernel_rfl) (hls:ls.take k=lsOf s:=by kernel_rfl) (hbl:belowL k (knOf s)=true:=by kernel_rfl) (hH:H=hOf s:=by rfl):WS P ne m E n c kn ls H Q :=
 WS.loopR hc body knOf lsOf hOf i QR hbody hl k (SubV.of hs) hls hbl hH h2
theorem WS.lXI {QR:R→Exit→Act→World→Prop} (hbody:∀s o,body s=some o→WS P ne m E n (cfst c) (knOf s) (lsOf s) (hOf s) (lpX P ne m E n knOf lsOf hOf i QR o)) {s s':S} (hl:loopO body s=some (.inl s')) (k:Nat) (h1:∀a w,SS P ne m E n (knOf s') (lsOf s') (hOf s') a w→Q (.exit i) a w)
  (hc:isLoop c=true:=by kernel_rfl) (hs:(knOf s).map (fun p=>lkV kn p.1)=(knOf s).map (fun p=>some p.2):=by kernel_rfl) (hls:ls.take k=lsOf s:=by kernel_rfl) (hbl:belowL k (knOf s)=true:=by kernel_rfl) (hH:H=hOf s:=by rfl):WS P ne m E n c kn ls H Q :=
 WS.loopXI hc body knOf lsOf hOf i QR hbody hl k (SubV.of hs) hls hbl hH h1
theorem WS.lXR {QR:R→Exit→Act→World→Prop} (hbody:∀s o,body s=some o→WS P ne m E n (cfst c) (knOf s) (lsOf s) (hOf s) (lpX P ne m E n knOf lsOf hOf i QR o)) {s:S} {r:R} (hl:loopO body s=some (.inr r)) (k:Nat) (h2:∀e a w,QR r e a w→Q e a w)
  (hc:isLoop c=true:=by kernel_rfl) (hs:(knOf s).map (fun p=>lkV kn p.1)=(knOf s).map (fun p=>some p.2):=by kernel_rfl) (hls:ls.take k=lsOf s:=by kernel_rfl) (hbl:belowL k (knOf s)=true:=by kernel_rfl) (hH:H=hOf s:=by rfl):WS P ne m E n c kn ls H Q :=
 WS.loopXR hc body knOf lsOf hOf i QR hbody hl k (SubV.of hs) hls hbl hH h2
end
end Go.Abs
namespace Go.Abs
variable {P:Program} {ne:NE} {m:Nat} {H:AH}
theorem zo5 {φ:Inj} {w:World} {x:Tab} (hg:Glob P φ) (hi:Inv φ H w) (hlt:x.1<P.globals.size) (hfl:x.2.2.all (flat depth)=true) (hx:H.get x.1=some (tabBlk x)) :
  ∃fr,w.heap[x.1]? = some (.cells x.2.2 x.2.1 fr):=by
 obtain ⟨l,h1,h2⟩:=hi.obj x.1 _ hx;obtain ⟨l',g1,g2,g3⟩:=hg x.1 hlt;rw [h1] at g1; cases g1;obtain ⟨c',e',f',k1,k2⟩:=h2;obtain ⟨k3,k4⟩:=k2.exact_ rfl;have k5:=k2.elem;subst k5;rw [g2] at k1;refine ⟨f',?_⟩;rw [k1];have:c'=x.2.2:=by
  refine Array.ext k4 fun i hi1 hi2=>?_;obtain ⟨v',q1,q2⟩:=k2.cell i x.2.2[i] (by simp [hi2]);rw [k3,Nat.zero_add] at q1;have hf:flat depth x.2.2[i]=true:=by
   rw [Array.all_eq_true] at hfl;exact hfl i hi2
  have:=z22 depth hf q2;rw [← this] at q1;have q3:c'[i]? = some c'[i]:=by simp [hi1]
  rw [q3] at q1;exact Option.some.inj q1
 rw [this]
structure UnderRes (P:Program) (φ:Inj) (H:AH) (w:World) (v:Value) (H1:AH) (v':Value) (w':World) (φ1:Inj):Prop where
 vr:VR φ1 v v'
 inv:Inv φ1 H1 w'
 new:∀l,φ1 P.globals.size=some l→w.heap.size≤l.blk
 size:w.heap.size≤w'.heap.size
 keep:∀c,c<w.heap.size→w'.heap[c]? = w.heap[c]?
 os:w'.os=w.os
 tape:w'.tape=w.tape
 output:w'.output=w.output
theorem zm8 {tabs:List Tab} {f:Nat} {args:Array Value} {v:Value} {H1:AH} (hP:0<P.globals.size) (hB:tabsB P tabs=true) (hc:CallS P ne P.globals.size f args (startH P tabs) v H1)
  (ha:args.all (flat depth)=true) (hsub:∀x∈tabs,H.get x.1=some (tabBlk x)) (hS:Sane P ne) :
  (∃fn c,P.funcs[f]? = some fn∧fn.body=some c)∧∀φ w args',Glob P φ→AR φ args args'→Inv φ H w→Calls P f args' w fun e w'=>∃v' φ1,e=.returned v'∧UnderRes P φ H w v H1 v' w' φ1:=by
 obtain ⟨h1,h2⟩:=hc hS;refine ⟨h1,fun φ w args' hg har hi=>?_⟩;have hB':=hB;unfold tabsB at hB';rw [List.all_eq_true] at hB';have hlt:∀x∈tabs,x.1<P.globals.size∧x.2.2.all (flat depth)=true:=fun x hx=>by
  have:=hB' x hx;simp only [Bool.and_eq_true] at this;exact ⟨blt_lt this.1,this.2⟩
 have hsz:P.globals.size≤w.heap.size:=by
  obtain ⟨l,g1,g2,_⟩:=hg (P.globals.size - 1) (by omega);have:=(hi.dom _ l g1).2;omega
 have hinv:Inv (φg P) (startH P tabs) w:=zj3 hsz hB fun x hx=>zo5 hg hi (hlt x hx).1 (hlt x hx).2 (hsub x hx);have har':AR (φg P) args args':=by
  refine ⟨har.1,fun i x y hx hy=>?_⟩;have hf:flat depth x=true:=by
   rw [Array.all_eq_true_iff_forall_mem] at ha;exact ha x (Array.mem_of_getElem? hx)
  have:=z22 depth hf (har.2 i x y hx hy);subst this;exact D5 depth hf
 refine (h2 (φg P) w args' zm0 har' hinv).mono fun e w' ⟨φ1,v',he,hv,hi1,hst⟩=>⟨v',φ1,he,hv,hi1,fun l hl=>?_,hst.size,fun c hc=>?_,hst.os,hst.tape,hst.output⟩
 ·have hno:φg P P.globals.size=none:=by simp [φg]
  rcases (hst.new _ l hl hno).2 with h | ⟨id0,l0,a1,a2,a3,_⟩
  ·exact h
  ·obtain ⟨b,hb⟩:=Option.isSome_iff_exists.1 a2;obtain ⟨x,hx,rfl,_⟩:=z3r hb;have:=(hlt x hx).1;omega
 ·refine hst.keep c hc fun id l hm hs _=>?_;obtain ⟨b,hb⟩:=Option.isSome_iff_exists.1 hs;obtain ⟨x,hx,rfl,_⟩:=z3r hb;have:=(hlt x hx).1;omega
theorem zpe {φ:Inj} {w w':World} (hi:Inv φ H w) (hs:w.heap.size≤w'.heap.size) (hk:∀c,c<w.heap.size→w'.heap[c]? = w.heap[c]?):Inv φ H w':=by
 refine ⟨fun id l hl=>?_,fun id b hb=>?_,hi.sep⟩
 ·have:=hi.dom id l hl;exact ⟨this.1,by omega⟩
 ·obtain ⟨l,q1,q2⟩:=hi.obj id b hb;exact ⟨l,q1,q2.same (hk l.blk (hi.dom id l q1).2)⟩
theorem CallS.under {tabs:List Tab} {f:Nat} {args:Array Value} {v:Value} {H1:AH} (hP:0<P.globals.size) (hB:tabsB P tabs=true) (hc:CallS P ne P.globals.size f args (startH P tabs) v H1)
  (ha:args.all (flat depth)=true) (hv:flat depth v=true) (hsub:∀x∈tabs,H.get x.1=some (tabBlk x)):CallS P ne m f args H v H:=by
 intro hS;obtain ⟨h1,h2⟩:=zm8 hP hB hc ha hsub hS;refine ⟨h1,fun φ w args' hg har hi=>(h2 φ w args' hg har hi).mono fun e w' ⟨v',φ1,he,hr⟩=>?_⟩;have hvv:=z22 depth hv hr.vr;subst hvv;exact ⟨φ,v,he,D5 depth hv,zpe hi hr.size hr.keep,⟨Nat.le_refl _,Inj.le_refl _,fun id l hl hn=>(by rw [hl] at hn; cases hn),fun id hh=>.inl hh,hr.size,fun c hc _=>hr.keep c hc,hr.os,hr.tape,hr.output⟩⟩
end Go.Abs
namespace Go.Abs
instance:DecidableEq Sl3:=fun a b =>
 if h:a.p=b.p∧a.n=b.n∧a.c=b.c then isTrue (by cases a; cases b; obtain ⟨rfl,rfl,rfl⟩:=h; rfl)
 else isFalse fun e=>h (by subst e; exact ⟨rfl,rfl,rfl⟩)
@[reducible] def kI (t:Nat) (x:Int):Nat×KV:=(t,.val (.int .i64 x))
@[reducible] def kB (t:Nat) (x:Bool):Nat×KV:=(t,.val (.bool x))
@[reducible] def kS (t:Nat) (x:Sl3):Nat×KV:=(t,.val x.v)
@[reducible] def kP (t:Nat) (x:Addr):Nat×KV:=(t,.val (.pointer (some x)))
@[reducible] def kT (t:Nat) (x:ByteArray):Nat×KV:=(t,.val (.string x))
@[reducible] def kA (t:Nat) (x:Array Value):Nat×KV:=(t,.val (.agg x))
@[reducible] def kU (t:Nat):Nat×KV:=(t,.val undef)
@[reducible] def kL (t i o:Nat):Nat×KV:=(t,.loc i o)
variable {P:Program} {ne:NE} {m n:Nat}
variable {E:Ent} {kn:KN} {ls:Lcs} {H H':AH} {ops:Array Oper} {k:Nat} {Q:Exit→Act→World→Prop}
def LoopF (P:Program) (ne:NE) (m:Nat) (E:Ent) (fn:Func) (c:Code) {S R:Type} (st:S→KN×Lcs) (hOf:S→AH) (i:Nat) (enc:R→Value) (hp:R→AH) (body:S→Option (Lp S R)):Prop :=
 ∀s o,body s=some o→WS P ne m E fn.ntmps (cfst c) (st s).1 (st s).2 (hOf s) (lpS P ne m E fn.ntmps (fun s=>(st s).1) (fun s=>(st s).2) hOf i (fun r=>RT P ne m E fn (enc r) (hp r)) o)
section
variable {ih:Ex} {ρ:Operand→Value} {o:Oper}
end
theorem O0 (d:Nat) (t e:TypeId) (x y:Operand) {sz:Nat} {s:Sl3} {i:Int} {a:Addr} (hx:idxA sz s i=some a) (h:RS P ne m E n ops (k+1) (putV kn (some d) (.val (.pointer (some a)))) ls H Q)
  (hop:(opAt ops k).op=.indexAddr t x y:=by kernel_rfl) (hu:P.underlying t=some (.slice e):=by kernel_rfl) (hi:(P.info? e).map (·.size)=some sz:=by kernel_rfl) (h1:evV kn x=s.v:=by kernel_rfl) (h2:evV kn y=.int .i64 i:=by kernel_rfl)
  (ho:ops[k]? = some (opAt ops k):=by kernel_rfl) (hd:(opAt ops k).dst=some d:=by kernel_rfl) (hB:(opV P n ops kn (opAt ops k)&&noCall (opAt ops k))=true:=by kernel_rfl):RS P ne m E n ops k kn ls H Q :=
 P0 (some d) _ (zqn hop hu hi h1 h2 hx) h ho hd hB
theorem T0 (d:Nat) (t:TypeId) (x:Operand) {a:Addr} {v:Value} (hx:H.cell a=some v) (h:RS P ne m E n ops (k+1) (putV kn (some d) (.val v)) ls H Q)
  (hop:(opAt ops k).op=.load t x:=by kernel_rfl) (hu:(P.underlying t).map isAggD=some false:=by kernel_rfl) (h1:evV kn x=.pointer (some a):=by kernel_rfl)
  (ho:ops[k]? = some (opAt ops k):=by kernel_rfl) (hd:(opAt ops k).dst=some d:=by kernel_rfl) (hB:(opV P n ops kn (opAt ops k)&&noCall (opAt ops k))=true:=by kernel_rfl):RS P ne m E n ops k kn ls H Q :=
 P0 (some d) _ (run_load hop hu h1 hx) h ho hd hB
theorem RS.la (d:Nat) (t:TypeId) (x:Operand) (c:Nat) {a:Addr} {l:List Value} (hx:rdCells H a 0 c=some l) (h:RS P ne m E n ops (k+1) (putV kn (some d) (.val (.agg l.toArray))) ls H Q)
  (hop:(opAt ops k).op=.load t x:=by kernel_rfl) (hu:(P.underlying t).map isAggD=some true:=by kernel_rfl) (hi:(P.info? t).map (·.size)=some c:=by kernel_rfl) (h1:evV kn x=.pointer (some a):=by kernel_rfl)
  (ho:ops[k]? = some (opAt ops k):=by kernel_rfl) (hd:(opAt ops k).dst=some d:=by kernel_rfl) (hB:(opV P n ops kn (opAt ops k)&&noCall (opAt ops k))=true:=by kernel_rfl):RS P ne m E n ops k kn ls H Q :=
 P0 (some d) _ (run_loadAg hop hu hi h1 hx) h ho hd hB
end Go.Abs
namespace Go.Abs
variable {P:Program} {ne:NE} {m n:Nat}
variable {E:Ent} {kn knA:KN} {ls ls1:Lcs} {H H1:AH} {ops:Array Oper} {k:Nat} {Q:Exit→Act→World→Prop} {bs A:List Nat} {f:Nat} {la:Array Bool} {ag:Bool}
def mkN (bytes:Nat) (len:Int):Option Nat:=if 0≤len∧len≤281474976710656∧bytes*len≤281474976710656 then some len.toNat else none
def mkCells (z:Array Value) (sz c:Nat):List Value:=(if c*sz=0 then #[] else zerosA z (c*sz)).toList
theorem mk_run {φ:Inj} {t e:TypeId} {sz bytes:Nat} {z:Array Value} {k1 k2:IntKind} {len:Int} {c:Nat} (hi:mkI P t=some (e,sz,bytes,z)) (h:mkN bytes len=some c) (w:World) :
  c≠OPEN∧(Instr.makeSlice t (.int k1 len) (.int k2 len)).run P w=.ok (.slice (some ⟨w.heap.size,0,none⟩) c c) { w with heap:=w.heap.push (.cells (mkCells z sz c).toArray e (0,0)) }∧AR φ (mkCells z sz c).toArray (mkCells z sz c).toArray:=by
 have hO:OPEN=9223372036854775808:=rfl;unfold mkN at h;split at h
 ·rename_i hh;obtain ⟨h1,h3,h4⟩:=hh;simp only [Option.some.injEq] at h;subst h;unfold mkI at hi;split at hi
  ·rename_i e1 hu;cases hie:P.info? e1 with
   | none=>rw [hie] at hi; cases hi
   | some i =>
    rw [hie] at hi;simp only at hi;cases hz:i.zero with
    | none=>rw [hz] at hi; cases hi
    | some zv =>
     rw [hz] at hi;simp only at hi;cases hze:zelem P t with
     | false=>rw [hze] at hi; cases hi
     | true =>
      rw [hze] at hi;simp only [cond_true,Option.some.injEq,Prod.mk.injEq] at hi;obtain ⟨rfl,rfl,rfl,rfl⟩:=hi;have hfl:flat depth zv=true:=by
       have h0:zflat P e1=true:=by
        unfold zelem at hze; rw [hu] at hze; exact hze
       unfold zflat at h0;rw [hie] at h0;simp only [hz] at h0;exact h0
      have hzc:AR φ zv.cells zv.cells:=y8 hfl;refine ⟨by omega,?_,?_⟩
      ·have w1:=zgv h1 (by omega);unfold Instr.makeSlice;have c1:(decide ((i.bytes:Int)*len > 2 ^ 48))=false:=by
        simp only [decide_eq_false_iff_not];omega
       have c2:(decide (len<0))=false:=by simp; omega
       have c3:(decide (len > len))=false:=by simp
       have hti:(Go.typeInfo e1).run P w=.ok i w:=by
        simp [Go.typeInfo,hie]
       have hask:∀b,(Go.askRoom b).run P w=.ok () w:=fun b=>by
        unfold Go.askRoom; split <;> rfl
       have hai:∀(q:IntKind) (v:Int),(Go.asInt (.int q v)).run P w=.ok v w:=fun q v=>rfl;simp only [Sem.run_bind,C2 hu,Result.andThen_ok,hai,asIntOf,Sem.run_pure,hti,A6 hie,w1];simp only [c1,c2,c3,Bool.or_false,Bool.false_eq_true,if_false,hask,Sem.run_bind,Result.andThen_ok,A6 hie];by_cases h0:len.toNat*i.size=0
       ·simp only [h0,if_true,Sem.run_bind,Sem.run_pure,Result.andThen_ok,mkCells];rw [show (Array.map (fun x=>(#[]:Array Value)[x % (#[]:Array Value).size]!) (Array.range 0))=#[] by simp];rfl
       ·simp only [h0,if_false,Sem.run_bind,z7j (show (P.info? e1).bind (·.zero)=some zv by rw [hie]; exact hz),Sem.run_pure,Result.andThen_ok,mkCells,zerosA];simp only [Array.toArray_toList];rfl
      ·unfold mkCells;rw [Array.toArray_toList];split
       ·exact AR.empty _
       ·exact z6u hzc _
  ·cases hi
 ·cases h
theorem L1 (k:Nat) (d:Option Nat) (t e:TypeId) (sz bytes:Nat) (z:Array Value) (x y:Operand) {k1 k2:IntKind} {len:Int} {c:Nat} (hx:mkN bytes len=some c)
  (h:DA P ne m E n ops bs A H1 ls1 f (la.setIfInBounds k true) ag (dropV d knA) (putV kn d (.sli ls.length c)) (ls++[some (e,mkCells z sz c)]) H Q)
  (ho:ops[k]? = some (opAt ops k):=by kernel_rfl) (hdd:(opAt ops k).dst=d:=by kernel_rfl) (hop:(opAt ops k).op=.makeSlice t x y:=by kernel_rfl) (hr:(Region.ready .any ops la).contains k=true:=by kernel_rfl) (hB:opV P n ops kn (opAt ops k)=true:=by kernel_rfl)
  (hi:mkI P t=some (e,sz,bytes,z):=by kernel_rfl) (ex:evV kn x=.int k1 len:=by kernel_rfl) (ey:evV kn y=.int k2 len:=by kernel_rfl)
  (ha:(!demO ops A bs k||ag)=true:=by kernel_rfl) (hc:closedOk ops.toList bs=true:=by assumption):DAk P ne m E n ops bs A H1 ls1 k f la ag knA kn ls H Q:=by
 subst hdd;intro w1 φ1 cs1 a w φ cs hd1 hle hs hka hpf hJ hag;unfold opV at hB;simp only [Bool.and_eq_true] at hB;obtain ⟨⟨⟨hg,hx'⟩,hkn⟩,hd⟩:=hB;rw [Array.all_eq_true_iff_forall_mem] at hkn hx';have hw:wantV ops kn (opAt ops k)=some true:=by
  split at hg
  ·assumption
  ·cases hg
 refine z6h ho hs hw fun K hK=>?_;have hev:∀x∈(opAt ops k).op.operands,VR φ (evV kn x) (a.eval x):=fun x hxm=>hs.eval (hkn x hxm) (hx' x hxm);have hh:=h w1 φ1 cs1;obtain ⟨oo,hoo⟩:∃oo,opAt ops k=oo:=⟨_,rfl⟩;rw [hoo] at hd hev hh hop ⊢;obtain ⟨dst,op,ty,pos,after,guard⟩:=oo;simp only at hop hd;subst hop;have vx:=hev x (by simp [Op.operands]);have vy:=hev y (by simp [Op.operands]);rw [ex] at vx;rw [ey] at vy;generalize hqx:a.eval x=qx at vx;generalize hqy:a.eval y=qy at vy;cases vx;cases vy;obtain ⟨hno,hrun,har⟩:=mk_run (φ:=φ) (k1:=k1) (k2:=k2) hi hx w;obtain ⟨cs2,hs2,hp2,hq2,hn2⟩:=hs.new (e:=e) (v:=.agg (mkCells z sz c).toArray) (v':=.agg (mkCells z sz c).toArray) (.agg _ _ har.1 har.2) (d:=none) rfl;have hs3:=hs2.put (d:=dst) hd (kv:=.sli ls.length c) (v':=.slice (some ⟨w.heap.size,0,none⟩) c c) ⟨⟨_,hq2,rfl⟩,hno⟩;have hex:(execOp a.eval ⟨dst,.makeSlice t x y,ty,pos,after,guard⟩).run P w=.ok (.value (.slice (some ⟨w.heap.size,0,none⟩) c c)) { w with heap:=w.heap.push (.cells (mkCells z sz c).toArray e (0,0)) }:=by
  simp only [execOp,hqx,hqy,Sem.run_bind,hrun,Result.andThen_ok]; rfl
 unfold Oper.wp;rw [hex];have hag':ag=true→Agr m H1 w1 cs1 φ { w with heap:=w.heap.push (.cells (mkCells z sz c).toArray e (0,0)) } cs2:=fun h1=>by
  obtain ⟨q1,q2,q3⟩:=hag h1;refine ⟨q1.trans' (z67 _ _),q2,fun i c hi hc=>?_⟩;rcases Nat.lt_or_ge i cs.length with hlt | hge
  ·rw [hp2 i cs[i] (List.getElem?_eq_getElem hlt)] at hc;cases hc;exact q3 i _ hi (List.getElem?_eq_getElem hlt)
  ·exact Nat.le_trans (z63 q1) (hn2 i c hge hc)
 refine hK _ _ ⟨fun hdm=>(hag' (by rw [hdm] at ha; simpa using ha)).ag,?_⟩;exact hh _ _ φ cs2 hd1 hle (by simpa [putV,Act.put,Value.cells] using hs3) (by simpa using hka.drop dst _) (fun i c hc=>hp2 i c (hpf i c hc)) (z6e hr hc hJ) hag'
end Go.Abs
namespace Go.Abs
open Go
set_option maxRecDepth 100000
variable {P:Program} {m:Nat} {ops:Array Oper} {kn:KN} {k:Nat} {H:AH}
theorem zoc {α:Type} {knS:KN} {de:Value→Option α} {x:α} {v:Value} (hx:gOp1 P ops k knS de H=some x) (hv:∀u,de u=some x→u=v)
  (hq:runOp P (NE.plain 0) ih0 0 (opAt ops k) (evV knS) H=flatRun P (opAt ops k) (evV knS) H)
  (he:runOp P (NE.plain 0) ih0 0 (opAt ops k) (evV knS) H=runOp P (NE.plain 0) ih0 m (opAt ops k) (evV kn) H):runOp P (NE.plain 0) ih0 m (opAt ops k) (evV kn) H=some (v,H):=by
 unfold gOp1 at hx;cases hg:gOp P 0 ops k knS de H with
 | none=>rw [hg] at hx; cases hx
 | some p =>
  obtain ⟨y,H1⟩:=p;rw [hg] at hx;simp only [Option.map_some,Option.some.injEq] at hx;subst hx;rw [← he];have h1:runOp P (NE.plain 0) ih0 0 (opAt ops k) (evV knS) H=some (v,H1):=zr1 hg hv rfl;rw [h1,zj7 (hq.symm.trans h1)]
end Go.Abs
namespace Go.Abs
def Fm (W:Nat→Prop) (H H':AH):Prop:=H.next≤H'.next∧∀id b,id<H.next→¬W id→H.get id=some b→H'.get id=some b
abbrev Ext (H H':AH):Prop:=Fm (fun _=>False) H H'
theorem Fm.refl (W:Nat→Prop) (H:AH):Fm W H H:=⟨Nat.le_refl _,fun _ _ _ _ h=>h⟩
theorem Fm.comp {W W':Nat→Prop} {H H1 H2:AH} (h:Fm W H H1) (h':Fm W' H1 H2) (hw:∀id,id<H.next→¬W id→¬W' id):Fm W H H2 :=
 ⟨Nat.le_trans h.1 h'.1,fun id b hid hn hb=>h'.2 id b (Nat.lt_of_lt_of_le hid h.1) (hw id hid hn) (h.2 id b hid hn hb)⟩
theorem Ext.trans {H H1 H2:AH} (h:Ext H H1) (h':Ext H1 H2):Ext H H2:=Fm.comp h h' fun _ _ h=>h
theorem Fm.weak {W W':Nat→Prop} {H H1:AH} (h:Fm W H H1) (hw:∀id,id<H.next→W id→W' id):Fm W' H H1 :=
 ⟨h.1,fun id b hid hn hb=>h.2 id b hid (fun hh=>hn (hw id hid hh)) hb⟩
theorem Fm.push (W:Nat→Prop) (H:AH) (b:Blk):Fm W H (H.push b) :=
 ⟨by simp,fun id _ hid _ hb=>by rw [AH.get_push_other H _ (by omega)]; exact hb⟩
theorem Fm.put {H:AH} {i:Nat} {b:Blk}:Fm (fun id=>id=i) H (H.put i b) :=
 ⟨Nat.le_refl _,fun id _ _ hn hb=>by rw [AH.get_put_other H _ hn]; exact hb⟩
def blkIs (s:Sl3) (id:Nat):Prop:=∃a,s.p=some a∧a.block=id
theorem zfc {H:AH} {a:Addr} {v:Value} (h:H.cell a=some v):∃b c e f,H.get a.block=some b∧b.obj=.cells c e f∧a.spot=none∧c[a.off]? = some v:=by
 unfold AH.cell at h;split at h
 ·rename_i c e f o z r hg hs;exact ⟨_,c,e,f,hg,rfl,hs,h⟩
 ·cases h
theorem z9f {H:AH} {a:Addr} {v:Value} {b:Blk} {c:Array Value} {e:TypeId} {f:Nat×Nat} (hg:H.get a.block=some b) (hb:b.obj=.cells c e f) (hs:a.spot=none) (hv:c[a.off]? = some v):H.cell a=some v:=by
 unfold AH.cell;obtain ⟨obj,o,z,r⟩:=b;simp only at hb;subst hb;rw [hg,hs];exact hv
theorem L3 (a:Addr) (i:Nat):(a.add i).block=a.block:=by unfold Addr.add; split <;> rfl
theorem zq6 {W:Nat→Prop} {H H':AH} (h:Fm W H H') {a:Addr} {v:Value} (hlt:a.block<H.next) (hw:¬W a.block) (hc:H.cell a=some v):H'.cell a=some v:=by
 obtain ⟨b,c,e,f,h1,h2,h3,h4⟩:=zfc hc;exact z9f (h.2 _ _ hlt hw h1) h2 h3 h4
structure Ro (k:IntKind) (H:AH) (s:Sl3) (xs:List Nat):Prop where
 len:s.n=xs.length
 cap:s.n≤s.c
 top:s.c≤OPEN
 nil:s.p=none→s.n=0∧s.c=0
 low:∀a,s.p=some a→a.block<H.next
 opn:∀a,s.p=some a→s.c=OPEN→∃b,H.get a.block=some b∧b.opn=true∧b.esz=1∧isCells b.obj=true
 cell:∀a,s.p=some a→∀(i:Nat) (h:i<xs.length),H.cell (a.add i)=some (.int k (xs[i]:Nat))
theorem U2 {x:Int} (h0:-9223372036854775808≤x) (h1:x<9223372036854775808):IntKind.i64.wrap x=x:=by
 rw [IntKind.wrap_i64]; omega
theorem add_zero (a:Addr):a.add 0=a:=rfl
theorem I5 {a:Addr} (ha:a.spot=none) (i j:Nat):(a.add i).add j=a.add (i+j):=by
 obtain ⟨b,o,s⟩:=a;simp only at ha;subst ha;unfold Addr.add;by_cases hi:i=0 <;> by_cases hj:j=0 <;> simp [hi,hj] <;> omega
inductive Vec (k:IntKind) (e:TypeId) (m:Nat) (H:AH) (xs:List Nat):Sl3→Prop
 | nil (hx:xs=[]):Vec k e m H xs Sl3.nil
 | opn (id:Nat) (hm:m≤id) (hid:id<H.next) (hg:H.get id=some { obj:=.cells (xs.map fun (x:Nat)=>Value.int k (x:Int)).toArray e (0,0),opn:=true,esz:=1,ro:=false }):Vec k e m H xs ⟨some ⟨id,0,none⟩,xs.length,OPEN⟩
 | fix (id c:Nat) (cs:Array Value) (hm:m≤id) (hid:id<H.next) (hg:H.get id=some { obj:=.cells cs e (0,0),opn:=false,esz:=0,ro:=false }) (hc:cs.size=c) (ho:c<OPEN) (hl:xs.length≤c)
   (hx:∀(i:Nat) (h:i<xs.length),cs[i]? = some (.int k (xs[i]:Nat))):Vec k e m H xs ⟨some ⟨id,0,none⟩,xs.length,c⟩
theorem C5 (id o i:Nat):(Addr.mk id o none).add i=⟨id,o+i,none⟩:=by
 unfold Addr.add;split
 ·rename_i h; subst h; rfl
 ·rfl
theorem z3o {H:AH} {a:Addr}:∀(l:List Value) (j:Nat),(∀(i:Nat) (h:i<l.length),H.cell (a.add (j+i))=some l[i])→rdCells H a j l.length=some l:=by
 intro l;induction l with
 | nil=>intro j _; rfl
 | cons v l ih =>
  intro j h;have h0:=h 0 (by simp);simp only [Nat.add_zero,List.getElem_cons_zero] at h0;have h1:=ih (j+1) fun i hi=>by
   have:=h (i+1) (by simpa using hi);rw [show j+1+i=j+(i+1) by omega,this];simp
  simp only [List.length_cons,rdCells,h0,h1]
theorem zdf {H:AH} {e:TypeId} {sz bytes need:Nat} {cs:List Value} (h1:(2*need+1000)*bytes≤281474976710656) (h2:need≤281474976710656) :
  grownS H e sz bytes need cs=some (⟨some ⟨H.next,0,none⟩,need,OPEN⟩,H.push { obj:=.cells cs.toArray e (0,0),opn:=true,esz:=sz,ro:=false }):=by
 unfold grownS;rw [if_pos ⟨h1,h2⟩]
theorem zm5 {H:AH} {m id off:Nat} {v:Value} {cs:Array Value} {e:TypeId} {opn:Bool} {esz:Nat} (hm:m≤id) (hg:H.get id=some { obj:=.cells cs e (0,0),opn,esz,ro:=false }) (ho:off<cs.size) :
  H.setCell m ⟨id,off,none⟩ v=some (H.put id { obj:=.cells (cs.setIfInBounds off v) e (0,0),opn,esz,ro:=false }):=by
 unfold AH.setCell;simp only [hg,ble_of hm,zhe.2 ho,Bool.and_self,cond_true]
def val (B:Nat):List Nat→Nat
 | []=>0
 | x :: l=>x+B*val B l
variable {B:Nat}
theorem zju {x:Int} {n:Nat} (h:x=n) (hn:n<9223372036854775808):IntKind.i64.wrap x=n:=by
 subst h;exact U2 (by omega) (by omega)
end Go.Abs
namespace Go.Abs
def Cel (H:AH) (a:Addr) (v:Value):Prop:=H.cell a=some v∧a.block<H.next
theorem Cel.fr {W:Nat→Prop} {H H':AH} {a:Addr} {v:Value} (h:Cel H a v) (hf:Fm W H H') (hw:¬W a.block):Cel H' a v :=
 ⟨zq6 hf h.2 hw h.1,Nat.lt_of_lt_of_le h.2 hf.1⟩
theorem Cel.ext {H H':AH} {a:Addr} {v:Value} (h:Cel H a v) (hf:Ext H H'):Cel H' a v:=h.fr hf fun h=>h
theorem Cel.rd {α:Type} {H:AH} {a:Addr} {v:Value} (h:Cel H a v) (de:Value→Option α):rd de H a=de v:=by
 unfold Abs.rd;rw [h.1];rfl
def LAt {α:Type} (R:AH→Addr→α→Prop) (sz:Nat) (H:AH) (p:Option Addr):Nat→List α→Prop
 | _,[]=>True
 | i,x :: xs=>(∃a,p=some a∧R H (a.add (i*sz)) x)∧LAt R sz H p (i+1) xs
theorem LAt.get {α:Type} {R:AH→Addr→α→Prop} {sz:Nat} {H:AH} {p:Option Addr}:∀{xs:List α} {i:Nat},LAt R sz H p i xs→∀(j:Nat) (h:j<xs.length),∃a,p=some a∧R H (a.add ((i+j)*sz)) xs[j]
 | x :: xs,i,h,0,hj=>h.1
 | x :: xs,i,h,j+1,hj=>by
  obtain ⟨a,h1,h2⟩:=LAt.get h.2 j (by simpa using hj);exact ⟨a,h1,by rw [show i+(j+1)=i+1+j by omega]; exact h2⟩
theorem LAt.imp {α:Type} {R R':AH→Addr→α→Prop} {sz:Nat} {H H':AH} {p:Option Addr} (hr:∀a x,R H a x→R' H' a x):∀{xs:List α} {i:Nat},LAt R sz H p i xs→LAt R' sz H' p i xs
 | [],_,_=>trivial
 | _ :: _,_,h=>⟨let ⟨a,h1,h2⟩:=h.1; ⟨a,h1,hr _ _ h2⟩,LAt.imp hr h.2⟩
theorem LAt.of {α:Type} {R:AH→Addr→α→Prop} {sz:Nat} {H:AH} {p:Option Addr}:∀{xs:List α} {i:Nat},(∀(j:Nat) (h:j<xs.length),∃a,p=some a∧R H (a.add ((i+j)*sz)) xs[j])→LAt R sz H p i xs
 | [],_,_=>trivial
 | x :: xs,i,h=>⟨h 0 (by simp),LAt.of fun j hj=>by
   obtain ⟨a,h1,h2⟩:=h (j+1) (by simpa using hj);exact ⟨a,h1,by rw [show i+1+j=i+(j+1) by omega]; exact h2⟩⟩
def maxN:Nat:=9223372036854775807
structure SlL {α:Type} (R:AH→Addr→α→Prop) (sz:Nat) (H:AH) (s:Sl3) (xs:List α):Prop where
 n:s.n=xs.length
 cap:s.n≤s.c
 top:s.n≤maxN
 low:∀a,s.p=some a→a.block<H.next∧a.spot=none
 at_:LAt R sz H s.p 0 xs
theorem SlL.len {α:Type} {R:AH→Addr→α→Prop} {sz:Nat} {H:AH} {s:Sl3} {xs:List α} (h:SlL R sz H s xs):xs.length≤maxN:=by
 have:=h.n; have:=h.top; omega
theorem SlL.imp {α:Type} {R R':AH→Addr→α→Prop} {sz:Nat} {H H':AH} {s:Sl3} {xs:List α} (h:SlL R sz H s xs) (hn:H.next≤H'.next) (hr:∀a x,R H a x→R' H' a x):SlL R' sz H' s xs :=
 ⟨h.n,h.cap,h.top,fun a ha=>⟨Nat.lt_of_lt_of_le (h.low a ha).1 hn,(h.low a ha).2⟩,h.at_.imp hr⟩
theorem J6 {sz:Nat} {s:Sl3} {a:Addr} (ha:s.p=some a) {i:Nat} {v:Int} (hv:v=i) (hi:i<s.n):idxA sz s v=some (a.add (i*sz)):=by
 subst hv;unfold idxA;rw [ha];simp only [Int.toNat_natCast];rw [if_pos ⟨by omega,by omega⟩]
theorem SlL.get {α:Type} {R:AH→Addr→α→Prop} {sz:Nat} {H:AH} {s:Sl3} {xs:List α} (h:SlL R sz H s xs) {i:Nat} (hi:i<xs.length) {v:Int} (hv:v=i) :
  ∃q,idxA sz s v=some q∧R H q xs[i]:=by
 obtain ⟨a,h1,h2⟩:=h.at_.get i hi;rw [Nat.zero_add] at h2;exact ⟨_,J6 h1 hv (by rw [h.n]; exact hi),h2⟩
theorem V1 {n i:Nat} (hi:i<n) (hn:n≤maxN):IntKind.i64.wrap ((i:Int)+1)=((i+1:Nat):Int):=by
 refine zju (by omega) ?_;have:maxN=9223372036854775807:=rfl;omega
def found {R:Type} (n:Nat):Option R→Int⊕R
 | some r=>.inr r
 | none=>.inl (n:Int)
def stepO {R:Type} (i:Nat):Option R→Lp Int R
 | some r=>.ret r
 | none=>.next (IntKind.i64.wrap ((i:Int)+1))
theorem V3 {R:Type} {body:Int→Option (Lp Int R)} (n:Nat) (hn:n≤maxN) (out:Nat→Option R)
  (hs:∀i:Nat,i<n→body i=some (stepO i (out i))) (he:body n=some (.brk n)) :
  loopO body 0=some (found n ((List.range n).findSome? out)):=by
 have key:∀(d i:Nat),i+d=n→loopO body (i:Int)=some (found n ((List.range' i d).findSome? out)):=by
  intro d;induction d with
  | zero =>
   intro i hi;have:i=n:=by omega
   subst this;rw [S9];exact ⟨1,by rw [iterO,he]; rfl⟩
  | succ d ih =>
   intro i hi;have hb:=hs i (by omega);rw [List.range'_succ,List.findSome?_cons];cases ho:out i with
   | some r =>
    rw [ho] at hb;rw [S9];exact ⟨1,by rw [iterO,hb]; rfl⟩
   | none =>
    rw [ho] at hb;simp only [stepO] at hb;rw [V1 (by omega) hn] at hb;rw [W1 hb];exact ih (i+1) (by omega)
 have:=key n 0 (by omega);rw [List.range_eq_range'];exact this
theorem zab {α S R:Type} {body:S→Option (Lp S R)} (xs:List α) (Inv:Nat→S→Prop) (post:S⊕R→Prop) (hpost:∀i s,i=xs.length→Inv i s→∃s',body s=some (.brk s')∧post (.inl s'))
  (hstep:∀(i:Nat) (hi:i<xs.length) s,Inv i s→(∃r,body s=some (.ret r)∧post (.inr r))∨(∃s',body s=some (.next s')∧Inv (i+1) s')) {s:S} (h0:Inv 0 s):∃o,loopO body s=some o∧post o:=by
 have key:∀(d i:Nat) (s:S),i+d=xs.length→Inv i s→∃o,loopO body s=some o∧post o:=by
  intro d;induction d with
  | zero =>
   intro i s hi h;obtain ⟨s',h1,h2⟩:=hpost i s (by omega) h;exact ⟨_,Y1 h1,h2⟩
  | succ d ih =>
   intro i s hi h;rcases hstep i (by omega) s h with ⟨r,h1,h2⟩ | ⟨s',h1,h2⟩
   ·exact ⟨_,N3 h1,h2⟩
   ·obtain ⟨o,h3,h4⟩:=ih (i+1) s' (by omega) h2;exact ⟨o,by rw [W1 h1]; exact h3,h4⟩
 exact key xs.length 0 s (by omega) h0
def StrA (H:AH) (q:Addr) (s:ByteArray):Prop:=Cel H q (.string s)
theorem Cel.push {H:AH} {b:Blk} {c:Array Value} {e:TypeId} {f:Nat×Nat} (hb:b.obj=.cells c e f) {i:Nat} {v:Value} (hv:c[i]? = some v):Cel (H.push b) ⟨H.next,i,none⟩ v :=
 ⟨z9f (a:=⟨H.next,i,none⟩) (AH.get_push_same _ _) hb rfl hv,by simp⟩
theorem SlL.push {α:Type} {R:AH→Addr→α→Prop} {H:AH} {b:Blk} {c:Array Value} {e:TypeId} {f:Nat×Nat} (hb:b.obj=.cells c e f) {xs:List α} (hn:xs.length≤maxN)
  (hr:∀(i:Nat) (h:i<xs.length),R (H.push b) ⟨H.next,i,none⟩ xs[i]):SlL R 1 (H.push b) ⟨some ⟨H.next,0,none⟩,xs.length,xs.length⟩ xs:=by
 refine ⟨rfl,Nat.le_refl _,hn,fun a ha=>?_,LAt.of fun j hj=>⟨_,rfl,?_⟩⟩
 ·cases ha; simp
 ·rw [C5,Nat.mul_one,Nat.zero_add,Nat.zero_add];exact hr j hj
theorem SlL.ext {α:Type} {R:AH→Addr→α→Prop} {sz:Nat} {H H':AH} {s:Sl3} {xs:List α} (h:SlL R sz H s xs) (hf:Ext H H') (hr:∀a x,R H a x→R H' a x):SlL R sz H' s xs:=h.imp hf.1 hr
theorem zoy {s:ByteArray} {i:Nat} (hi:i<s.size) {v:Int} (hv:v=i):bytA s v=some ((s[i].toNat:Nat):Int):=by
 subst hv;unfold bytA;rw [if_pos (by omega)];simp [hi]
structure RoS (H:AH) (s:Sl3) (ss:List Sl3):Prop where
 len:s.n=ss.length
 cap:s.n≤s.c
 nil:s.p=none→s.n=0∧s.c=0
 low:∀a,s.p=some a→a.block<H.next
 cell:∀a,s.p=some a→∀(i:Nat) (h:i<ss.length),H.cell (a.add i)=some ss[i].v
variable {P:Program}
structure Imp (P:Program) (φ:Inj) (H:AH) (W:World):Prop where
 inv:Inv φ H W
 glob:Glob P φ
 ro:∀id b,H.get id=some b→b.ro=true
def viewB (c:Array Value) (e:TypeId):Blk:=⟨.cells c e (0,0),true,1,true⟩
theorem Imp.add {φ:Inj} {H:AH} {W:World} (h:Imp P φ H W) {blk off:Nat} {c c':Array Value} {e:TypeId} {f:Nat×Nat} (hb:W.heap[blk]? = some (.cells c' e f))
  (hc:∀(i:Nat) (v:Value),c[i]? = some v→∃v',c'[off+i]? = some v'∧VR φ v v'):Imp P (φ.upd H.next ⟨blk,off,0,1⟩) (H.push (viewB c e)) W∧φ.le (φ.upd H.next ⟨blk,off,0,1⟩):=by
 have hle:=Inj.le_upd ⟨blk,off,0,1⟩ h.inv.fresh;have hro:∀id b,(H.push (viewB c e)).get id=some b→b.ro=true:=fun id b hg=>by
  by_cases e':id=H.next
  ·subst e';rw [AH.get_push_same] at hg; cases hg; rfl
  ·rw [AH.get_push_other _ _ e'] at hg;exact h.ro id b hg
 refine ⟨⟨⟨fun i l hl=>?_,fun i b hg=>?_,fun i j b b' l l' h1 _ _ hr=>?_⟩,fun g hg=>?_,hro⟩,hle⟩
 ·by_cases e':i=H.next
  ·subst e';rw [Inj.upd_same] at hl; cases hl;exact ⟨by simp,(Array.getElem?_eq_some_iff.1 hb).1⟩
  ·rw [Inj.upd_other _ _ e'] at hl;have:=h.inv.dom i l hl;simp only [AH.next_push];omega
 ·by_cases e':i=H.next
  ·subst e';rw [AH.get_push_same] at hg; cases hg;refine ⟨_,Inj.upd_same _ _ _,c',e,f,hb,fun i v hv=>?_,Nat.zero_le _,fun _=>rfl,fun ho=>(by cases ho),fun hr=>(by cases hr),rfl⟩;obtain ⟨v',h1,h2⟩:=hc i v hv;exact ⟨v',h1,h2.mono hle⟩
  ·rw [AH.get_push_other _ _ e'] at hg;obtain ⟨l,h1,h2⟩:=h.inv.obj i b hg;exact ⟨l,by rw [Inj.upd_other _ _ e']; exact h1,h2.mono hle⟩
 ·rw [hro i b h1] at hr; cases hr
 ·obtain ⟨l,h1,h2,h3⟩:=h.glob g hg;exact ⟨l,hle _ _ h1,h2,h3⟩
theorem z66 {w:World} {a:Addr} {v:Value} (h:w.cell? a=some v):∃c e f,w.heap[a.block]? = some (.cells c e f)∧a.spot=none∧c[a.off]? = some v:=by
 unfold World.cell? at h;split at h
 ·rename_i c e f hc;split at h
  ·cases h
  ·rename_i hs;refine ⟨c,e,f,hc,?_,h⟩;cases hh:a.spot with
   | none=>rfl
   | some x=>rw [hh] at hs; simp at hs
 ·cases h
theorem zlg (a:Addr) (hs:a.spot=none) (i:Nat):a.add i=⟨a.block,a.off+i,none⟩:=by
 obtain ⟨b,o,s⟩:=a;simp only at hs;subst hs;unfold Addr.add;split
 ·rename_i h; subst h; rfl
 ·rfl
theorem zk1 (a:Addr) (hs:a.spot=none):(⟨a.block,a.off,none⟩:Addr)=a:=by
 obtain ⟨b,o,s⟩:=a;simp only at hs;subst hs;rfl
theorem Imp.cells {φ:Inj} {H:AH} {W:World} (h:Imp P φ H W) {a:Addr} {c:Array Value} (h0:0<c.size) (hc:∀(i:Nat) (v:Value),c[i]? = some v→∃v',W.cell? (a.add i)=some v'∧VR φ v v') :
  ∃φ' e,Imp P φ' (H.push (viewB c e)) W∧φ.le φ'∧∀n k,k≠OPEN→VR φ' (.slice (some ⟨H.next,0,none⟩) n k) (.slice (some a) n k):=by
 obtain ⟨v',h1,_⟩:=hc 0 c[0] (by simp [h0]);obtain ⟨c',e,f,h2,h3,_⟩:=z66 h1;rw [L3] at h2;have hsp:a.spot=none:=by
  unfold Addr.add at h3
  simpa using h3
 obtain ⟨h4,h5⟩:=h.add (blk:=a.block) (off:=a.off) (c:=c) (c':=c') (e:=e) (f:=f) h2 (fun i v hv=>by
  obtain ⟨w,g1,g2⟩:=hc i v hv;obtain ⟨c'',e',f',g3,_,g5⟩:=z66 g1;rw [L3,h2] at g3;simp only [Option.some.injEq,Obj.cells.injEq] at g3;obtain ⟨rfl,_⟩:=g3;rw [zlg a hsp] at g5;exact ⟨w,g5,g2⟩)
 refine ⟨_,e,h4,h5,fun n k hk=>?_⟩;have:=VR.slice H.next 0 n k ⟨a.block,a.off,0,1⟩ (Inj.upd_same φ H.next ⟨a.block,a.off,0,1⟩) hk;rw [show (⟨(⟨a.block,a.off,0,1⟩:Loc).blk,(⟨a.block,a.off,0,1⟩:Loc).off+0,none⟩:Addr)=a from zk1 a hsp] at this;exact this
theorem znb {H:AH} {c:Array Value} {e:TypeId} (i:Nat):(H.push (viewB c e)).cell ((⟨H.next,0,none⟩:Addr).add i)=c[i]? := by
 rw [zlg _ rfl];unfold AH.cell;simp only [AH.get_push_same,viewB,Nat.zero_add]
open Go.ChangeShapes in
theorem zkv {H:Type} {enc:TypeId×Value→H} {W:World} {sp:Nat→Bool} {hd:Bool}:∀(ts:List TypeId) (vs:List Value) (ds:List (DataW H)) (ps:List MemPlace),DataW.TrodAll enc P W 0 sp hd ts vs ds ps→ds.length=ts.length:=by
 intro ts;induction ts with
 | nil=>intro vs ds ps h; obtain ⟨_,rfl,_⟩:=trodAll_nil h; rfl
 | cons t ts ih=>intro vs ds ps h; obtain ⟨v,vs',d,ds',p,q,_,rfl,_,_,h2⟩:=trodAll_cons h; simp [ih _ _ _ h2]
theorem Imp.startT {W:World} {tabs:List Tab} (h:P.globals.size≤W.heap.size) (hB:tabsB P tabs=true) (ht:∀x∈tabs,∃fr,W.heap[x.1]? = some (.cells x.2.2 x.2.1 fr)):Imp P (φg P) (startH P tabs) W :=
 ⟨zj3 h hB ht,zm0,fun id b hb=>by obtain ⟨x,_,_,rfl⟩:=z3r hb; rfl⟩
open Go.RowKit in
theorem zi7 {ne:NE} (hS:Sane P ne) {f:Nat} {args args':Array Value} {H H':AH} {φ:Inj} {W:World} (h:CallS P ne H.next f args H (.bool true) H') (hi:Imp P φ H W) (ha:AR φ args args') :
  Calls P f args' W fun e W'=>e=.returned (.bool true)∧Below W.heap.size W W':=by
 refine ((h hS).2 φ W args' hi.glob ha hi.inv).mono fun e W' hpost=>?_;obtain ⟨φ',v',rfl,hv,_,hst⟩:=hpost;cases hv;refine ⟨rfl,hst.os,hst.tape,hst.output,hst.size,fun k hk=>hst.keep k hk fun id l hm hs _=>?_⟩;obtain ⟨b,hb⟩:=Option.isSome_iff_exists.1 hs;obtain ⟨l',h1,_⟩:=hi.inv.obj id b hb;have:=(hi.inv.dom id l' h1).1;omega
theorem zg4 {H:Type} {enc:TypeId×Value→H} {C:Checked} {os:Os} {f:FuncId} {fn:Func} {s:OpenSpec} {k:(H:Type)→List (DataW H)→Bool} (hk:s.cond=some k) {F:Stop.Interp} {laid:List (String×DataW Unit)}
  (own:ownKnob C.prog.godebug=none) (started:os.Started) (noInit:C.prog.inits.idxOf? f=none) (hfn:C.prog.funcs[f]? = some fn)
  (hgb:globalsB C.prog=true) (hl:laidOutB C.prog=true) (hts:readB C.prog fn=true) (hv:s.vars=[]) (hres:boolRes C.prog fn=true)
  (hspec:∀ds:List (DataW H),ds.length=fn.params.size→((s.at F).fn H ds).results=[.lit (.bool true)]∧((s.at F).fn H ds).args=ds∧((s.at F).fn H ds).vars=[])
  (hva:(s.at F).vars=s.vars) (hh:(laid.filter fun x=>x.2.handleName?.isSome)=[])
  (witness:∃(w:World) (tape:Tape) (i:Input),w.os=os∧(w.forCall tape i).Shaped C.prog∧i.vars=[]∧Input.okWide C.prog (w.forCall tape i) .any w.heap.size f i ∧
   s.preRow enc C.prog fn [] false laid (w.forCall tape i).memory i.args∧({}:Assume).holds C.prog (lone (Frame.enter C.prog f i.args .normal) [] (w.forCall tape i)))
  (contract:∀(W:World) (base:Nat) (args:Array Value) (ds:List (DataW H)) (ps:List MemPlace),C.prog.globals.size≤W.heap.size →
   (∀(j:Nat) t v,fn.params[j]? = some t→args[j]? = some v→Value.okWide C.prog W .any base t v) →
   DataW.TrodAll enc C.prog W 0 (fun _=>true) true fn.params.toList args.toList ds ps→k H ds=true→laidMet C.prog laid W→W.ShapedOpen C.prog→(DataW.weightsEach C.prog (fn.params.toList++s.bare.plain.varTypes C.prog) ds).all (·≤reachBytes)=true →
   Calls C.prog f args W fun e W'=>e=.returned (.bool true)∧RowKit.Below W.heap.size W W') :
  ReturnsInHanded {} C os f .any (s.preRow enc C.prog fn [] false laid) ((s.at F).post enc C.prog fn false true false false):=by
 obtain ⟨tb,hres,hbool⟩:=zm6 hres;have hts:=zp5 hts;refine returnsInHanded_of_row own started noInit hfn witness ?_;intro W base args ds gs before hval hW _ hcond hwt hL hsh _;have hL':laidMet C.prog laid W:=by
  unfold laidMetH at hL;rw [hh] at hL;exact hL
 have hW2:=hW;obtain ⟨p,q,hA,hV,_⟩:=hW;rw [hv] at hV;obtain ⟨rfl,rfl⟩:=ChangeShapes.trodVars_none hV;have hkk:=hcond k hk;rw [List.append_nil] at hkk hwt;have hlen:ds.length=fn.params.size:=by simpa using zkv _ _ _ _ hA
 refine (contract W base args ds p (zi5 hgb hsh) hval hA hkk hL' hsh hwt).mono fun e W' ⟨he,hb⟩=>?_;subst he;exact ⟨_,rfl,zp1 hl hts (hva.trans hv) hres hbool (hva.symm▸hW2) (hspec ds hlen) hb⟩
end Go.Abs
namespace Go.Abs
variable {P:Program} {W:World} {φ:Inj} {H:AH}
def ElemIn {β:Type} (P:Program) (W:World) (sz:Nat) (R:AH→List Value→β→Prop) (cs:List Value):Prop :=
 ∀(φ:Inj) (H:AH),Imp P φ H W→∃φ' H' cs' b,Imp P φ' H' W∧φ.le φ'∧Ext H H'∧cs'.length=sz∧cs.length=sz∧LR φ' cs' cs∧R H' cs' b
theorem lr_get {φ:Inj} {l l':List Value} (h:LR φ l l') {i:Nat} {v v':Value} (h1:l[i]? = some v) (h2:l'[i]? = some v'):VR φ v v':=(b9 h).2 i v v' h1 h2
theorem Imp.elems {β:Type} {sz:Nat} {R:AH→List Value→β→Prop} (hR:∀H H' cs b,Ext H H'→R H cs b→R H' cs b):∀(n:Nat) (C:Nat→List Value),(∀i,i<n→ElemIn P W sz R (C i))→∀(φ:Inj) (H:AH),Imp P φ H W →
  ∃φ' H',∃(C':Nat→List Value) (bs:List β),Imp P φ' H' W∧φ.le φ'∧Ext H H'∧bs.length=n∧∀(i:Nat),i<n→(C' i).length=sz∧(C i).length=sz∧LR φ' (C' i) (C i)∧∀b,bs[i]? = some b→R H' (C' i) b:=by
 intro n;induction n with
 | zero=>intro C _ φ H h; exact ⟨φ,H,fun _=>[],[],h,Inj.le_refl _,Fm.refl _ _,rfl,fun i hi=>absurd hi (Nat.not_lt_zero _)⟩
 | succ n ih =>
  intro C hC φ H h;obtain ⟨φ1,H1,C',bs,h1,h2,h3,h4,h5⟩:=ih C (fun i hi=>hC i (by omega)) φ H h;obtain ⟨φ2,H2,cs',b,g1,g2,g3,g4,g5,g6,g7⟩:=hC n (Nat.lt_succ_self n) φ1 H1 h1;refine ⟨φ2,H2,fun i=>if i=n then cs' else C' i,bs++[b],g1,Inj.le_trans h2 g2,h3.trans g3,by simp [h4],fun i hi=>?_⟩;by_cases e:i=n
  ·subst e;simp only [if_true];refine ⟨g4,g5,g6,fun b' hb'=>?_⟩;rw [List.getElem?_append_right (by omega),h4,Nat.sub_self] at hb';simp at hb';subst hb';exact g7
  ·simp only [if_neg e];obtain ⟨k1,k2,k3,k4⟩:=h5 i (by omega);refine ⟨k1,k2,k3.mono g2,fun b' hb'=>?_⟩;rw [List.getElem?_append_left (by omega)] at hb';exact hR _ _ _ _ g3 (k4 b' hb')
def Stands {β:Type} (sz:Nat) (R:AH→List Value→β→Prop) (H:AH) (q:Addr) (b:β):Prop:=∃cs:List Value,cs.length=sz∧(∀j v,cs[j]? = some v→Cel H (q.add j) v)∧R H cs b
theorem Imp.slice {β:Type} {sz:Nat} (hsz:0<sz) {R:AH→List Value→β→Prop} (hR:∀H H' cs b,Ext H H'→R H cs b→R H' cs b) (h:Imp P φ H W) (hP:0<P.globals.size)
  {A:Option Addr} {n c:Nat} (hn:n≤c) (hc:c≤maxLen) (hnil:A=none→c=0) {C:Nat→List Value} (hC:∀i,i<n→ElemIn P W sz R (C i))
  (hsp:∀a,A=some a→0<c→∃v,W.cell? a=some v)
  (hcell:∀a,A=some a→∀i,i<n→∀j,j<sz→W.cell? (a.add (i*sz+j))=(C i)[j]?) :
  ∃φ' H' s bs,Imp P φ' H' W∧φ.le φ'∧Ext H H'∧VR φ' (Sl3.v s) (.slice A n c)∧SlL (Stands sz R) sz H' s bs∧bs.length=n:=by
 have hO:c≠OPEN:=by
  have:OPEN=9223372036854775808:=rfl;have:maxLen=9223372036854775807:=rfl;omega
 have hm:n≤maxN:=by
  have:maxN=9223372036854775807:=rfl;have:maxLen=9223372036854775807:=rfl;omega
 by_cases h0:n=0
 ·subst h0;cases A with
  | none =>
   obtain rfl:c=0:=hnil rfl;exact ⟨φ,H,Sl3.nil,[],h,Inj.le_refl _,Fm.refl _ _,VR.sliceNil 0 0,⟨rfl,Nat.le_refl _,Nat.zero_le _,fun a ha=>(by cases ha),trivial⟩,rfl⟩
  | some a =>
   obtain ⟨l,h1,_,_⟩:=h.glob 0 hP;by_cases hc0:c=0
   ·subst hc0;refine ⟨φ,H,⟨some ⟨0,0,none⟩,0,0⟩,[],h,Inj.le_refl _,Fm.refl _ _,VR.sliceZero 0 0 l a h1,⟨rfl,Nat.le_refl _,Nat.zero_le _,fun a ha=>?_,trivial⟩,rfl⟩;cases ha; exact ⟨(h.inv.dom 0 l h1).1,rfl⟩
   ·obtain ⟨v,hv⟩:=hsp a rfl (by omega);obtain ⟨c',e,f,k1,k2,k3⟩:=z66 hv;obtain ⟨g1,g2⟩:=h.add (blk:=a.block) (off:=a.off) (c:=#[]) (c':=c') (e:=e) (f:=f) k1 (fun i v hv=>by simp at hv);refine ⟨_,_,⟨some ⟨H.next,0,none⟩,0,c⟩,[],g1,g2,Fm.push _ _ _,?_,⟨rfl,Nat.zero_le _,Nat.zero_le _,fun a' ha'=>?_,trivial⟩,rfl⟩
    ·have:=VR.slice H.next 0 0 c ⟨a.block,a.off,0,1⟩ (Inj.upd_same φ H.next ⟨a.block,a.off,0,1⟩) hO;rw [show (⟨(⟨a.block,a.off,0,1⟩:Loc).blk,(⟨a.block,a.off,0,1⟩:Loc).off+0,none⟩:Addr)=a from zk1 a k2] at this;exact this
    ·cases ha'; exact ⟨by simp,rfl⟩
 ·cases A with
  | none=>exact absurd (hnil rfl) (by omega)
  | some a =>
   obtain ⟨φ1,H1,C',bs,h1,h2,h3,h4,h5⟩:=Imp.elems hR n C hC φ H h;have hsize:0<n*sz:=Nat.mul_pos (by omega) hsz;have hdiv:∀x,x<n*sz→x / sz<n:=fun x hx=>Nat.div_lt_of_lt_mul (by rw [Nat.mul_comm]; exact hx)
   let c':Array Value:=Array.ofFn fun x:Fin (n*sz)=>((C' (x.val / sz))[x.val % sz]?).getD undef
   have hget:∀x,x<n*sz→c'[x]? = (C' (x / sz))[x % sz]? := by
    intro x hx;have hl:=(h5 (x / sz) (hdiv x hx)).1;have hmod:=Nat.mod_lt x hsz;have:(C' (x / sz))[x % sz]? = some (C' (x / sz))[x % sz]:=List.getElem?_eq_getElem (by omega);simp only [c',Array.getElem?_ofFn,dif_pos hx,this,Option.getD_some]
   obtain ⟨φ2,e,g1,g2,g3⟩:=h1.cells (a:=a) (c:=c') (by simp [c',hsize]) (fun x v hv=>by
    have hx:x<n*sz:=by
     have:=(Array.getElem?_eq_some_iff.1 hv).1
     simpa [c'] using this
    have hmod:=Nat.mod_lt x hsz;obtain ⟨k1,k2,k3,_⟩:=h5 (x / sz) (hdiv x hx);rw [hget x hx] at hv;have hw:(C (x / sz))[x % sz]? = some ((C (x / sz))[x % sz]'(by omega)):=List.getElem?_eq_getElem (by omega);refine ⟨_,?_,lr_get k3 hv hw⟩;have:=hcell a rfl (x / sz) (hdiv x hx) (x % sz) hmod;rw [show x / sz*sz+x % sz=x by rw [Nat.mul_comm]; exact Nat.div_add_mod x sz] at this;rw [this,hw])
   refine ⟨φ2,_,⟨some ⟨H1.next,0,none⟩,n,c⟩,bs,g1,Inj.le_trans h2 g2,h3.trans (Fm.push _ _ _),g3 n c hO,⟨h4.symm,hn,hm,fun a' ha'=>?_,LAt.of fun j hj=>⟨_,rfl,?_⟩⟩,h4⟩
   ·cases ha'; exact ⟨by simp,rfl⟩
   ·rw [h4] at hj;obtain ⟨k1,k2,k3,k4⟩:=h5 j hj;have hb:bs[j]? = some bs[j]:=List.getElem?_eq_getElem (by omega);refine ⟨C' j,k1,fun i v hv=>?_,hR _ _ _ _ (Fm.push _ _ _) (k4 _ hb)⟩;have hi:i<sz:=by
     have:=(List.getElem?_eq_some_iff.1 hv).1;omega
    rw [I5 rfl,Nat.zero_add];have hx:j*sz+i<n*sz:=by
     have:(j+1)*sz≤n*sz:=Nat.mul_le_mul_right sz (by omega);rw [Nat.add_mul,Nat.one_mul] at this;omega
    have e1:(j*sz+i) / sz=j:=by
     rw [Nat.mul_comm,Nat.mul_add_div hsz,Nat.div_eq_of_lt hi,Nat.add_zero]
    have e2:(j*sz+i) % sz=i:=by
     rw [Nat.mul_comm,Nat.mul_add_mod,Nat.mod_eq_of_lt hi]
    refine ⟨?_,?_⟩
    ·rw [znb,hget _ hx,e1,e2];exact hv
    ·rw [C5]; simp
end Go.Abs
namespace Go.Abs
theorem ba_beq (s t:ByteArray):(s == t)=decide (s=t):=by
 obtain ⟨a⟩:=s;obtain ⟨b⟩:=t;rw [Bool.eq_iff_iff];simp only [decide_eq_true_eq,ByteArray.mk.injEq];show (a == b)=true↔_;exact beq_iff_eq
theorem zlv (s t:ByteArray):(s.toList == t.toList)=decide (s=t):=by
 rw [ByteArray.toList_eq,ByteArray.toList_eq,Bool.eq_iff_iff];simp only [beq_iff_eq,decide_eq_true_eq];obtain ⟨a⟩:=s;obtain ⟨b⟩:=t;simp only [ByteArray.mk.injEq];exact Array.toList_inj
variable {P:Program} {γ:Type} [DecidableEq γ]
structure KeyK (P:Program) (kt:TypeId) (enc:γ→Value):Prop where
 und:∃d,P.underlying kt=some d∧((∀a b,Instr.sameNow d (enc a) (enc b)=some (decide (a=b)))∨((∀a b,Instr.sameNow d (enc a) (enc b)=none)∧∀a b,peval P (Op.equal kt (enc a) (enc b))=some (decide (a=b))))
 chk:∀a b,peval P (Instr.checkKey b 10000 kt (enc a))=some ()
 bits:∀a,Instr.sameBits 10000 (enc a) (enc a)=true
def look (l:List (γ×Value)) (k:γ):Option Value:=(l.find? fun x=>decide (x.1=k)).map (·.2)
def findI (k:γ):List (γ×Value)→Nat→Option (Nat×Value)
 | [],_=>none
 | x :: l,i=>if k=x.1 then some (i,x.2) else findI k l (i+1)
theorem zat (k:γ):∀(l:List (γ×Value)) (i:Nat),(findI k l i).map (·.2)=look l k
 | [],_=>rfl
 | x :: l,i=>by
  unfold findI look;rw [List.find?_cons];by_cases h:k=x.1
  ·rw [if_pos h,decide_eq_true h.symm]; rfl
  ·rw [if_neg h,decide_eq_false (fun e=>h e.symm)];exact zat k l (i+1)
def Ents (enc:γ→Value) (es:List MapEntry) (l:List (γ×Value)):Prop:=es.map (fun e=>(e.key,e.val))=l.map fun x=>(enc x.1,x.2)
theorem z6a {kt:TypeId} {enc:γ→Value} (hK:KeyK P kt enc) (k:γ) {es:List MapEntry} {l:List (γ×Value)} (h:Ents enc es l):aFind P kt (enc k) es=some (findI k l 0):=by
 obtain ⟨d,h1,h2⟩:=hK.und;unfold aFind;rw [h1];simp only;rcases h2 with h2 | ⟨h2,h3⟩
 ·have key:∀(es:List MapEntry) (l:List (γ×Value)) (i:Nat),Ents enc es l→Instr.findNow d (enc k) es i=some (findI k l i):=by
   intro es;induction es with
   | nil =>
    intro l i h;cases l with
    | nil=>rfl
    | cons x l=>simp [Ents] at h
   | cons e es ih =>
    intro l i h;cases l with
    | nil=>simp [Ents] at h
    | cons x l =>
     simp only [Ents,List.map_cons,List.cons.injEq,Prod.mk.injEq] at h;obtain ⟨⟨e1,e2⟩,e3⟩:=h;unfold Instr.findNow findI;rw [e1,h2,e2];by_cases hk:k=x.1
     ·rw [decide_eq_true hk,if_pos hk]
     ·rw [decide_eq_false hk,if_neg hk];exact ih l (i+1) e3
  rw [key es l 0 h]
 ·have key:∀(es:List MapEntry) (l:List (γ×Value)) (i:Nat),Ents enc es l→aAsk P kt (enc k) es i=some (findI k l i):=by
   intro es;induction es with
   | nil =>
    intro l i h;cases l with
    | nil=>rfl
    | cons x l=>simp [Ents] at h
   | cons e es ih =>
    intro l i h;cases l with
    | nil=>simp [Ents] at h
    | cons x l =>
     simp only [Ents,List.map_cons,List.cons.injEq,Prod.mk.injEq] at h;obtain ⟨⟨e1,e2⟩,e3⟩:=h;unfold aAsk findI;rw [e1,h3,e2];by_cases hk:k=x.1
     ·rw [decide_eq_true hk,if_pos hk]
     ·rw [decide_eq_false hk,if_neg hk];exact ih l (i+1) e3
  cases es with
  | nil =>
   cases l with
   | nil=>rfl
   | cons x l=>simp [Ents] at h
  | cons e es =>
   cases l with
   | nil=>simp [Ents] at h
   | cons x l =>
    have h':=h;simp only [Ents,List.map_cons,List.cons.injEq,Prod.mk.injEq] at h';have hn:Instr.findNow d (enc k) (e :: es) 0=none:=by
     unfold Instr.findNow;rw [h'.1.1,h2]
    rw [hn];exact key _ _ 0 h
def MapA (enc:γ→Value) (H:AH) (id:Nat) (f:γ→Option Value):Prop :=
 ∃es n opn esz l,H.get id=some { obj:=.map es n,opn:=opn,esz:=esz,ro:=false }∧Ents enc es.toList l∧∀k,look l k=f k
theorem MapA.fr {W:Nat→Prop} {enc:γ→Value} {H H':AH} {id:Nat} {f:γ→Option Value} (h:MapA enc H id f) (hf:Fm W H H') (hlt:id<H.next) (hw:¬W id):MapA enc H' id f:=by
 obtain ⟨es,n,opn,esz,l,h1,h2,h3⟩:=h;exact ⟨es,n,opn,esz,l,hf.2 _ _ hlt hw h1,h2,h3⟩
theorem MapA.new (enc:γ→Value) {H:AH}:MapA enc (H.push mapB) H.next fun _=>none :=
 ⟨#[],0,false,0,[],by rw [AH.get_push_same]; rfl,rfl,fun k=>rfl⟩
theorem zal {α:Type} {t kt e:TypeId} {enc:γ→Value} (hK:KeyK P kt enc) (ht:P.underlying t=some (.map kt e)) {z:Value} (hz:(P.info? e).bind (·.zero)=some z) (hzf:flat depth z=true)
  {H:AH} {id:Nat} {f:γ→Option Value} (h:MapA enc H id f) (k:γ) (de:Value→Option α):lkM P t de H (some id) (enc k)=(de ((f k).getD z)).map fun x=>(x,(f k).isSome):=by
 obtain ⟨es,n,opn,esz,l,h1,h2,h3⟩:=h;have ha:aLookup P t (.map (some id)) (enc k) true H=some (.tuple #[(f k).getD z,.bool (f k).isSome]):=by
  unfold aLookup;rw [ht];simp only [aEntries,h1,hK.chk,z6a hK k h2];have:=zat k l 0;rw [h3 k] at this;cases hq:findI k l 0 with
  | none=>rw [hq] at this; simp only [Option.map_none] at this; rw [← this]; simp only [hz,hzf,cond_true]; rfl
  | some r=>rw [hq] at this; simp only [Option.map_some] at this; rw [← this]; simp only [cond_true]; rfl
 unfold lkM;rw [ha]
theorem zjm {α:Type} {t kt e:TypeId} {enc:γ→Value} (hK:KeyK P kt enc) (ht:P.underlying t=some (.map kt e)) {z:Value} (hz:(P.info? e).bind (·.zero)=some z) (hzf:flat depth z=true)
  {H:AH} {id:Nat} {f:γ→Option Value} (h:MapA enc H id f) (k:γ) (de:Value→Option α):lk1 P t de H (some id) (enc k)=de ((f k).getD z):=by
 obtain ⟨es,n,opn,esz,l,h1,h2,h3⟩:=h;have ha:aLookup P t (.map (some id)) (enc k) false H=some ((f k).getD z):=by
  unfold aLookup;rw [ht];simp only [aEntries,h1,hK.chk,z6a hK k h2];have:=zat k l 0;rw [h3 k] at this;cases hq:findI k l 0 with
  | none=>rw [hq] at this; simp only [Option.map_none] at this; rw [← this]; simp only [hz,hzf,cond_true]; rfl
  | some r=>rw [hq] at this; simp only [Option.map_some] at this; rw [← this]; simp only [cond_false]; rfl
 unfold lk1;rw [ha];rfl
theorem zfy {k:γ}:∀{l:List (γ×Value)} {i:Nat},findI k l i=none→∀x∈l,x.1≠k
 | [],_,_,x,hx=>by cases hx
 | y :: l,i,h,x,hx=>by
  unfold findI at h;split at h
  ·cases h
  ·rename_i hn;rcases List.mem_cons.1 hx with rfl | hx
   ·exact fun e=>hn e.symm
   ·exact zfy h x hx
theorem zkk (l:List (γ×Value)) (k k':γ) (v:Value) (hn:∀x∈l,x.1≠k):look (l++[(k,v)]) k'=if k'=k then some v else look l k':=by
 unfold look;rw [List.find?_append];by_cases h:k'=k
 ·subst h;have:l.find? (fun x=>decide (x.1=k'))=none:=by
   rw [List.find?_eq_none];intro x hx
   simpa using hn x hx
  rw [this,if_pos rfl];simp
 ·rw [if_neg h];have:([(k,v)]:List (γ×Value)).find? (fun x=>decide (x.1=k'))=none:=by
   simp only [List.find?_cons,decide_eq_false (show ¬k=k' from fun e=>h e.symm),List.find?_nil]
  rw [this];cases l.find? fun x=>decide (x.1=k') <;> rfl
theorem zf7 {k k':γ} {v:Value}:∀{l:List (γ×Value)} {i j:Nat} {w:Value},findI k l i=some (j,w)→i≤j∧j - i<l.length∧(∀(h:j - i<l.length),(l[j - i]).1=k)∧look (l.modify (j - i) fun x=>(k,v)) k'=if k'=k then some v else look l k'
 | [],i,j,w,h=>by cases h
 | x :: l,i,j,w,h=>by
  unfold findI at h;split at h
  ·rename_i hk;cases h;refine ⟨Nat.le_refl _,by simp,fun _=>by simp [hk],?_⟩;rw [Nat.sub_self];simp only [List.modify_zero_cons];unfold look;rw [List.find?_cons,List.find?_cons];by_cases e:k'=k
   ·subst e;simp
   ·rw [if_neg e,decide_eq_false (show ¬k=k' from fun q=>e q.symm),decide_eq_false (show ¬x.1=k' from fun q=>e (q.symm.trans hk.symm))]
  ·rename_i hk;obtain ⟨h1,h2,h3,h4⟩:=zf7 (k':=k') (v:=v) h;obtain ⟨d,rfl⟩:∃d,j=i+1+d:=⟨j - (i+1),by omega⟩;have e1:i+1+d - i=d+1:=by omega
   have e2:i+1+d - (i+1)=d:=by omega
   rw [e2] at h2 h3 h4;rw [e1];refine ⟨by omega,by simp; omega,fun _=>by simpa using h3 h2,?_⟩;rw [List.modify_succ_cons];unfold look at h4 ⊢;rw [List.find?_cons,List.find?_cons];by_cases e:x.1=k'
   ·rw [decide_eq_true e];have:¬k'=k:=fun q=>hk (q.symm.trans e.symm);rw [if_neg this]
   ·rw [decide_eq_false e];exact h4
theorem z7h {t kt e:TypeId} {enc:γ→Value} (hK:KeyK P kt enc) (ht:P.underlying t=some (.map kt e)) {m:Nat} {H:AH} {id:Nat} {f:γ→Option Value} (h:MapA enc H id f) (hm:m≤id) (k:γ) (v:Value) :
  ∃H',upM P m t H (some id) (enc k) v=some H'∧MapA enc H' id (fun k'=>if k'=k then some v else f k')∧Fm (fun i=>i=id) H H'∧H'.next=H.next:=by
 obtain ⟨es,n,opn,esz,l,h1,h2,h3⟩:=h;have hmap:aMapAt m H (.map (some id))=some (id,{ obj:=.map es n,opn:=opn,esz:=esz,ro:=false },es,n):=by
  unfold aMapAt;simp only [h1];rw [show Nat.ble m id=true by simp [hm]];rfl
 cases hq:findI k l 0 with
 | none =>
  refine ⟨H.put id { obj:=.map (es.push { key:=enc k,val:=v,born:=n }) (n+1),opn:=opn,esz:=esz,ro:=false },?_,⟨_,_,_,_,l++[(k,v)],AH.get_put_same _ _ _,?_,fun k'=>?_⟩,Fm.put,rfl⟩
  ·unfold upM aUpdate;rw [ht];simp only [hmap,hK.chk,z6a hK k h2,hq];rfl
  ·unfold Ents at h2 ⊢;simp [h2]
  ·rw [zkk l k k' v (zfy hq),h3 k']
 | some r =>
  obtain ⟨j,w⟩:=r;obtain ⟨_,h5,h6,h7⟩:=zf7 (k':=k) (v:=v) hq;rw [Nat.sub_zero] at h5 h6;have hlen:es.size=l.length:=by
   have:=congrArg List.length h2
   simpa using this
  have hj:j<es.size:=by omega
  have hkey:(es[j]'hj).key=enc k:=by
   have h8:(es.toList.map (fun e=>(e.key,e.val)))[j]? = (l.map fun x=>(enc x.1,x.2))[j]? := by
    unfold Ents at h2;rw [h2]
   simp [hj,h5] at h8;rw [h8.1,h6 h5]
  have hb:Instr.sameBits 10000 (((es[j]?).map (·.key)).getD (enc k)) (enc k)=true:=by
   rw [Array.getElem?_eq_getElem hj];simp only [Option.map_some,Option.getD_some,hkey];exact hK.bits k
  refine ⟨H.put id { obj:=.map (es.modify j fun e=>{ e with key:=enc k,val:=v }) n,opn:=opn,esz:=esz,ro:=false },?_,⟨_,_,_,_,l.modify j fun x=>(k,v),AH.get_put_same _ _ _,?_,fun k'=>?_⟩,Fm.put,rfl⟩
  ·unfold upM aUpdate;rw [ht];simp only [hmap,hK.chk,z6a hK k h2,hq,hb,cond_true];rfl
  ·unfold Ents at h2 ⊢;have:(es.modify j fun e=>{ e with key:=enc k,val:=v }).toList=es.toList.modify j fun e=>{ e with key:=enc k,val:=v }:=by simp
   rw [this];refine List.ext_getElem? fun i=>?_;have h8:(es.toList.map (fun e=>(e.key,e.val)))[i]? = (l.map fun x=>(enc x.1,x.2))[i]? := by rw [h2]
   simp only [List.getElem?_map,List.getElem?_modify] at h8 ⊢;by_cases hij:j=i
   ·subst hij;simp only [if_true];have g1:es.toList[j]? = some es[j]:=by simp [hj]
    have g2:l[j]? = some l[j]:=by simp [h5]
    rw [g1,g2];rfl
   ·simp only [if_neg hij]
    simpa using h8
  ·have:=(zf7 (k':=k') (v:=v) hq).2.2.2;rw [Nat.sub_zero] at this;rw [this,h3 k']
end Go.Abs
namespace Go.Abs
inductive VecV (e:TypeId) (sz m:Nat) (H:AH) (n:Nat) (vs:List Value):Sl3→Prop
 | nil (hn:n=0) (hv:vs=[]):VecV e sz m H n vs Sl3.nil
 | zero (a:Addr) (ha:a.block<H.next∧a.spot=none) (hn:n=0) (hv:vs=[]):VecV e sz m H n vs ⟨some a,0,0⟩
 | opn (id off:Nat) (cs:Array Value) (hm:m≤id) (hid:id<H.next) (hg:H.get id=some { obj:=.cells cs e (0,0),opn:=true,esz:=sz,ro:=false }) (hl:vs.length=n*sz) (ho:vs.all one=true)
   (hx:∀(i:Nat) (v:Value),vs[i]? = some v→cs[off+i]? = some v):VecV e sz m H n vs ⟨some ⟨id,off,none⟩,n,OPEN⟩
structure RdV (sz:Nat) (H:AH) (s:Sl3) (n:Nat) (vs:List Value):Prop where
 len:s.n=n
 nil:s.p=none→n=0∧vs=[]
 rd:∀a,s.p=some a→rdCells H a 0 (n*sz)=some vs
 one:vs.all one=true
theorem VecV.len {e:TypeId} {sz m n:Nat} {H:AH} {vs:List Value} {s:Sl3} (h:VecV e sz m H n vs s):vs.length=n*sz∧s.n=n∧vs.all Abs.one=true:=by
 cases h with
 | nil hn hv=>subst hn hv; exact ⟨by simp,rfl,rfl⟩
 | zero a ha hn hv=>subst hn hv; exact ⟨by simp,rfl,rfl⟩
 | opn id off cs hm hid hg hl ho hx=>exact ⟨hl,rfl,ho⟩
theorem VecV.cell {e:TypeId} {sz m n:Nat} {H:AH} {vs:List Value} {s:Sl3} (h:VecV e sz m H n vs s) {i:Nat} {v:Value} (hv:vs[i]? = some v):∃a,s.p=some a∧Cel H (a.add i) v:=by
 cases h with
 | nil hn hv'=>subst hv'; simp at hv
 | zero a ha hn hv'=>subst hv'; simp at hv
 | opn id off cs hm hid hg hl ho hx =>
  refine ⟨⟨id,off,none⟩,rfl,?_⟩;rw [C5];exact ⟨z9f (a:=⟨id,off+i,none⟩) hg rfl rfl (hx i v hv),hid⟩
theorem VecV.rdv {e:TypeId} {sz m n:Nat} {H:AH} {vs:List Value} {s:Sl3} (h:VecV e sz m H n vs s):RdV sz H s n vs:=by
 have hl:=h.len;refine ⟨hl.2.1,fun hp=>?_,fun a ha=>?_,hl.2.2⟩
 ·cases h with
  | nil hn hv=>exact ⟨hn,hv⟩
  | zero a ha hn hv=>cases hp
  | opn=>cases hp
 ·have:=z3o (H:=H) (a:=a) vs 0 fun i hi=>by
   obtain ⟨a',h1,h2⟩:=h.cell (i:=i) (v:=vs[i]) (by simp [hi]);rw [ha] at h1;cases h1;rw [Nat.zero_add];exact h2.1
  rw [hl.1] at this;exact this
def owns (s:Sl3) (id:Nat):Prop:=s.c=OPEN∧blkIs s id
theorem VecV.fr {e:TypeId} {sz m n:Nat} {H H':AH} {vs:List Value} {s:Sl3} {W:Nat→Prop} (h:VecV e sz m H n vs s) (hf:Fm W H H') (hw:∀id,owns s id→¬W id):VecV e sz m H' n vs s:=by
 cases h with
 | nil hn hv=>exact .nil hn hv
 | zero a ha hn hv=>exact .zero a ⟨Nat.lt_of_lt_of_le ha.1 hf.1,ha.2⟩ hn hv
 | opn id off cs hm hid hg hl ho hx=>exact .opn id off cs hm (Nat.lt_of_lt_of_le hid hf.1) (hf.2 _ _ hid (hw id ⟨rfl,_,rfl,rfl⟩) hg) hl ho hx
theorem VecV.ext {e:TypeId} {sz m n:Nat} {H H':AH} {vs:List Value} {s:Sl3} (h:VecV e sz m H n vs s) (hf:Ext H H'):VecV e sz m H' n vs s:=h.fr hf fun _ _ h=>h
theorem VecV.own {e:TypeId} {sz m n:Nat} {H:AH} {vs:List Value} {s:Sl3} (h:VecV e sz m H n vs s):∀id,owns s id→m≤id∧id<H.next:=by
 rintro id ⟨hc,a,ha,rfl⟩
 cases h with
 | nil hn' hv=>cases ha
 | zero a ha hn' hv=>cases hc
 | opn id off cs hm hid hg hl ho hx=>cases ha; exact ⟨hm,hid⟩
theorem VecV.app {e:TypeId} {sz bytes m n k:Nat} {H:AH} {vs ws:List Value} {s z:Sl3} (h:VecV e sz m H n vs s) (hz:RdV sz H z k ws) (hwl:ws.length=k*sz)
  (h1:(2*(n+k)+1000)*bytes≤281474976710656) (h2:n+k≤281474976710656) (hm:m≤H.next) :
  ∃s' H',appS m e sz bytes H s z=some (s',H')∧VecV e sz m H' (n+k) (vs++ws) s'∧Fm (owns s) H H'∧∀id,owns s' id→owns s id∨H.next≤id:=by
 have hO:OPEN=9223372036854775808:=rfl;have hsrc:∀r,appL m e sz bytes H s k ws=r→appS m e sz bytes H s z=r:=by
  intro r hr;unfold appS;cases hp:z.p with
  | none =>
   obtain ⟨rfl,rfl⟩:=hz.nil hp;simp only;rw [if_pos hz.len];exact hr
  | some b =>
   simp only;rw [hz.len,hz.rd b hp];simp only;rw [if_pos hz.one];exact hr
 by_cases hk:k=0
 ·subst hk;have:ws=[]:=List.length_eq_zero_iff.1 (by simpa using hwl);subst this;refine ⟨s,H,hsrc _ ?_,by simpa using h,Fm.refl _ _,fun id hid=>.inl hid⟩;unfold appL;rw [if_pos rfl,if_pos];cases h with
  | nil=>exact Nat.le_refl _
  | zero=>exact Nat.le_refl _
  | opn=>show n≤OPEN; omega
 ·have hone:(vs++ws).all one=true:=by rw [List.all_append,h.len.2.2,hz.one]; rfl
  have hlen:(vs++ws).length=(n+k)*sz:=by rw [List.length_append,h.len.1,hwl,Nat.add_mul]
  have fin:∀(G:AH),Fm (owns s) H G→G.next=H.next→appL m e sz bytes H s k ws=some (⟨some ⟨G.next,0,none⟩,n+k,OPEN⟩,G.push { obj:=.cells (vs++ws).toArray e (0,0),opn:=true,esz:=sz,ro:=false }) →
    ∃s' H',appS m e sz bytes H s z=some (s',H')∧VecV e sz m H' (n+k) (vs++ws) s'∧Fm (owns s) H H'∧∀id,owns s' id→owns s id∨H.next≤id:=by
   intro G hG hn he;refine ⟨_,_,hsrc _ he,.opn G.next 0 _ (by omega) (by simp) (by rw [AH.get_push_same]) hlen hone (fun i v hv=>by simpa using hv),?_,?_⟩
   ·refine ⟨by simp; omega,fun id b hid hw hb=>?_⟩;rw [AH.get_push_other _ _ (by omega)];exact hG.2 id b hid hw hb
   ·rintro id ⟨_,a,ha,rfl⟩
    cases ha;exact .inr (by show H.next≤G.next; omega)
  cases h with
  | nil hn hv =>
   subst hn hv;refine fin H (Fm.refl _ _) rfl ?_;unfold appL;rw [if_neg hk];simp only [Sl3.nil];rw [if_pos ⟨trivial,trivial⟩];simp only [Nat.zero_add,List.nil_append] at h1 h2 ⊢;rw [zdf h1 h2]
  | zero a ha hn hv =>
   subst hn hv;refine fin H (Fm.refl _ _) rfl ?_;unfold appL;rw [if_neg hk];simp only [Nat.zero_mul,rdCells,Nat.zero_add,List.nil_append];rw [if_neg (by omega),if_neg (by omega),if_pos (Nat.le_refl _)];simp only [Nat.zero_add] at h1 h2;rw [zdf h1 h2]
  | opn id off cs hm' hid hg hl ho hx =>
   have hrd:=(VecV.opn (H:=H) id off cs hm' hid hg hl ho hx).rdv.rd _ rfl;refine fin (H.put id dead) ⟨Nat.le_refl _,fun id' b hid' hn hb=>?_⟩ rfl ?_
   ·have hne:id'≠id:=fun e=>hn ⟨rfl,_,rfl,e.symm⟩;rw [AH.get_put_other _ _ hne];exact hb
   ·unfold appL;rw [if_neg hk];simp only;rw [hrd];simp only;have hown:ownedB m H ⟨id,off,none⟩ e sz=true:=by
     unfold ownedB;simp only [hg,ble_of hm',Nat.beq_refl,Bool.and_self]
    rw [if_pos trivial,if_pos ⟨hown,hz.one⟩,zdf h1 h2]
theorem zox {e:TypeId} {H:AH} {k sz:Nat} {cells:List Value} (hl:cells.length=k*sz) (ho:cells.all one=true):RdV sz (H.push { obj:=.cells cells.toArray e (0,0),opn:=false,esz:=0,ro:=false }) ⟨some ⟨H.next,0,none⟩,k,k⟩ k cells:=by
 refine ⟨rfl,fun h=>(by cases h),fun a ha=>?_,ho⟩;cases ha;rw [← hl];exact z3o cells 0 fun i hi=>by
  rw [C5,Nat.zero_add,Nat.zero_add];exact z9f (a:=⟨H.next,i,none⟩) (AH.get_push_same _ _) rfl rfl (by simp [hi])
structure Enc (α:Type) where
 enc:α→List Value
 sz:Nat
 len:∀x,(enc x).length=sz
 one:∀x,(enc x).all Abs.one=true
theorem Enc.flat_len {α:Type} (E:Enc α) (l:List α):(l.flatMap E.enc).length=l.length*E.sz:=by
 induction l with
 | nil=>simp
 | cons x l ih=>rw [List.flatMap_cons,List.length_append,E.len,ih,List.length_cons,Nat.add_mul,Nat.one_mul,Nat.add_comm]
theorem Enc.flat_one {α:Type} (E:Enc α) (l:List α):(l.flatMap E.enc).all Abs.one=true:=by
 induction l with
 | nil=>rfl
 | cons x l ih=>rw [List.flatMap_cons,List.all_append,E.one,ih]; rfl
theorem Enc.flat_get {α:Type} (E:Enc α):∀{l:List α} {i j:Nat} (hi:i<l.length),j<E.sz→(l.flatMap E.enc)[i*E.sz+j]? = (E.enc l[i])[j]?
 | x :: l,0,j,hi,hj=>by
  rw [List.flatMap_cons,Nat.zero_mul,Nat.zero_add,List.getElem?_append_left (by rw [E.len]; exact hj)];rfl
 | x :: l,i+1,j,hi,hj=>by
  have hi':i<l.length:=by simpa using hi
  rw [List.flatMap_cons,List.getElem?_append_right (by rw [E.len,Nat.add_mul]; omega),E.len,show (i+1)*E.sz+j - E.sz=i*E.sz+j by rw [Nat.add_mul]; omega];rw [Enc.flat_get E hi' hj];rfl
def VecA {α:Type} (E:Enc α) (e:TypeId) (m:Nat) (H:AH) (l:List α) (s:Sl3):Prop:=VecV e E.sz m H l.length (l.flatMap E.enc) s
structure Ch (H:AH) (s:Sl3) (H':AH) (s':Sl3):Prop where
 fm:Fm (owns s) H H'
 ow:∀id,owns s' id→owns s id∨H.next≤id
theorem Ch.refl (H:AH) (s:Sl3):Ch H s H s:=⟨Fm.refl _ _,fun _ h=>.inl h⟩
theorem Ch.trans {H H1 H2:AH} {s s1 s2:Sl3} (h:Ch H s H1 s1) (k:Ch H1 s1 H2 s2):Ch H s H2 s2:=by
 refine ⟨h.fm.comp k.fm fun id hlt hn ho=>?_,fun id ho=>?_⟩
 ·rcases h.ow id ho with h1 | h1
  ·exact hn h1
  ·omega
 ·rcases k.ow id ho with h1 | h1
  ·exact h.ow id h1
  ·exact .inr (Nat.le_trans h.fm.1 h1)
theorem Ch.ext {H0 H H':AH} {s s':Sl3} (h:Ch H s H' s') (hx:Ext H0 H) (ho:∀id,owns s id→H0.next≤id):Ext H0 H'∧∀id,owns s' id→H0.next≤id:=by
 refine ⟨hx.comp h.fm fun id hlt _ hw=>?_,fun id hw=>?_⟩
 ·have:=ho id hw; omega
 ·rcases h.ow id hw with h1 | h1
  ·exact ho id h1
  ·exact Nat.le_trans hx.1 h1
theorem VecA.nil {α:Type} (E:Enc α) (e:TypeId) (m:Nat) (H:AH):VecA E e m H [] Sl3.nil:=VecV.nil (by rfl) (by rfl)
theorem VecA.zero {α:Type} (E:Enc α) (e:TypeId) (m:Nat) (H:AH) (a:Addr) (ha:a.block<H.next∧a.spot=none):VecA E e m H [] ⟨some a,0,0⟩:=VecV.zero a ha (by rfl) (by rfl)
theorem E8 {id:Nat}:¬owns Sl3.nil id:=by rintro ⟨_,a,ha,_⟩; cases ha
theorem z8g {id n:Nat} {a:Option Addr}:¬owns ⟨a,n,0⟩ id:=by rintro ⟨h,_⟩; cases h
theorem VecA.n {α:Type} {E:Enc α} {e:TypeId} {m:Nat} {H:AH} {l:List α} {s:Sl3} (h:VecA E e m H l s):s.n=l.length:=h.len.2.1
theorem VecA.other {α:Type} {E:Enc α} {e:TypeId} {m:Nat} {H H':AH} {l:List α} {s t t':Sl3} (h:VecA E e m H l s) (hc:Ch H t H' t') (hd:∀id,owns s id→¬owns t id):VecA E e m H' l s:=h.fr hc.fm hd
theorem VecA.app {α:Type} {E:Enc α} {e:TypeId} {bytes m:Nat} {H:AH} {l l':List α} {s z:Sl3} (h:VecA E e m H l s) (hz:RdV E.sz H z l'.length (l'.flatMap E.enc))
  (h1:(2*(l.length+l'.length)+1000)*bytes≤281474976710656) (h2:l.length+l'.length≤281474976710656) (hm:m≤H.next) :
  ∃s' H',appS m e E.sz bytes H s z=some (s',H')∧VecA E e m H' (l++l') s'∧Ch H s H' s':=by
 obtain ⟨s',H',a1,a2,a3,a4⟩:=VecV.app h hz (E.flat_len l') h1 h2 hm;refine ⟨s',H',a1,?_,⟨a3,a4⟩⟩;unfold VecA;rw [List.length_append,List.flatMap_append];exact a2
theorem VecA.push {α:Type} {E:Enc α} {e:TypeId} {bytes m:Nat} {H:AH} {l:List α} {s:Sl3} (h:VecA E e m H l s) (x:α)
  (h1:(2*(l.length+1)+1000)*bytes≤281474976710656) (h2:l.length+1≤281474976710656) (hm:m≤H.next) (ho:∀id,owns s id→id<H.next) :
  ∃z H1 s' H',newR e 1 (E.enc x).toArray H=some (z,H1)∧appS m e E.sz bytes H1 s z=some (s',H')∧VecA E e m H' (l++[x]) s'∧Ch H s H' s':=by
 have hp:Ext H (H.push { obj:=.cells (E.enc x).toArray e (0,0),opn:=false,esz:=0,ro:=false }):=Fm.push _ _ _;have hz:=zox (e:=e) (H:=H) (k:=1) (sz:=E.sz) (cells:=E.enc x) (by rw [E.len]; omega) (E.one x);have h':VecA E e m (H.push { obj:=.cells (E.enc x).toArray e (0,0),opn:=false,esz:=0,ro:=false }) l s:=VecV.ext h hp;obtain ⟨s',H',a1,a2,a3⟩:=VecA.app (l':=[x]) h' (by simpa using hz) h1 h2 (by simp; omega);refine ⟨_,_,s',H',rfl,a1,a2,⟨?_,fun id hid=>?_⟩⟩
 ·exact (hp.weak (W':=owns s) fun _ _ h=>h.elim).comp a3.fm fun id _ hn=>hn
 ·rcases a3.ow id hid with h3 | h3
  ·exact .inl h3
  ·simp only [AH.next_push] at h3;exact .inr (by omega)
theorem Y9 {α β R:Type} {E:Enc β} {e:TypeId} {m:Nat} {xs:List α} {body:AH×Sl3×Int→Option (Lp (AH×Sl3×Int) R)} (f:α→List β) (N:Nat) {H0:AH}
  (step:∀(i:Nat) (hi:i<xs.length) (H:AH) (s:Sl3) (l:List β),VecA E e m H l s→Ext H0 H→(∀id,owns s id→H0.next≤id)→l.length+(f xs[i]).length≤N →
   ∃H' s',body (H,s,(i:Int))=some (.next (H',s',((i+1:Nat):Int)))∧VecA E e m H' (l++f xs[i]) s'∧Ch H s H' s')
  (he:∀H s,Ext H0 H→body (H,s,(xs.length:Int))=some (.brk (H,s,(xs.length:Int)))) :
  ∀(d i:Nat) (H:AH) (s:Sl3) (l:List β),i+d=xs.length→VecA E e m H l s→Ext H0 H→(∀id,owns s id→H0.next≤id)→l.length+((xs.drop i).flatMap f).length≤N →
   ∃H' s',loopO body (H,s,(i:Int))=some (.inl (H',s',(xs.length:Int)))∧VecA E e m H' (l++(xs.drop i).flatMap f) s'∧Ch H s H' s':=by
 intro d;induction d with
 | zero =>
  intro i H s l hi hv hx ho hN;have:i=xs.length:=by omega
  subst this;refine ⟨H,s,Y1 (he H s hx),?_,Ch.refl _ _⟩;rw [List.drop_length]
  simpa using hv
 | succ d ih =>
  intro i H s l hi hv hx ho hN;have hlt:i<xs.length:=by omega
  rw [List.drop_eq_getElem_cons hlt,List.flatMap_cons,List.length_append] at hN;obtain ⟨H1,s1,b1,v1,c1⟩:=step i hlt H s l hv hx ho (by omega);obtain ⟨x1,o1⟩:=c1.ext hx ho;obtain ⟨H2,s2,b2,v2,c2⟩:=ih (i+1) H1 s1 (l++f xs[i]) (by omega) v1 x1 o1 (by rw [List.length_append]; omega);refine ⟨H2,s2,by rw [W1 b1]; exact b2,?_,c1.trans c2⟩;rw [List.drop_eq_getElem_cons hlt,List.flatMap_cons,← List.append_assoc];exact v2
theorem z84 {α β γ R:Type} {E:Enc β} {e:TypeId} {m:Nat} {xs:List α} {body:AH×Sl3×Int→Option (Lp (AH×Sl3×Int) R)} (er:β→γ) (ok:β→Prop) (f:α→List γ) (N:Nat) {H0:AH}
  (step:∀(i:Nat) (hi:i<xs.length) (H:AH) (s:Sl3) (l:List β),VecA E e m H l s→Ext H0 H→(∀id,owns s id→H0.next≤id)→l.length+(f xs[i]).length≤N →
   ∃H' s' l2,body (H,s,(i:Int))=some (.next (H',s',((i+1:Nat):Int)))∧VecA E e m H' (l++l2) s'∧Ch H s H' s'∧l2.map er=f xs[i]∧∀y∈l2,ok y)
  (he:∀H s,Ext H0 H→body (H,s,(xs.length:Int))=some (.brk (H,s,(xs.length:Int)))) :
  ∀(d i:Nat) (H:AH) (s:Sl3) (l:List β),i+d=xs.length→VecA E e m H l s→Ext H0 H→(∀id,owns s id→H0.next≤id)→l.length+((xs.drop i).flatMap f).length≤N →
   ∃H' s' l2,loopO body (H,s,(i:Int))=some (.inl (H',s',(xs.length:Int)))∧VecA E e m H' (l++l2) s'∧Ch H s H' s'∧l2.map er=(xs.drop i).flatMap f∧∀y∈l2,ok y:=by
 intro d;induction d with
 | zero =>
  intro i H s l hi hv hx ho hN;have:i=xs.length:=by omega
  subst this;refine ⟨H,s,[],Y1 (he H s hx),?_,Ch.refl _ _,by simp,fun y hy=>by cases hy⟩
  simpa using hv
 | succ d ih =>
  intro i H s l hi hv hx ho hN;have hlt:i<xs.length:=by omega
  rw [List.drop_eq_getElem_cons hlt,List.flatMap_cons,List.length_append] at hN;obtain ⟨H1,s1,l1,b1,v1,c1,q1,k1⟩:=step i hlt H s l hv hx ho (by omega);obtain ⟨x1,o1⟩:=c1.ext hx ho;have hl1:l1.length=(f xs[i]).length:=by rw [← q1,List.length_map]
  obtain ⟨H2,s2,l2,b2,v2,c2,q2,k2⟩:=ih (i+1) H1 s1 (l++l1) (by omega) v1 x1 o1 (by rw [List.length_append]; omega);refine ⟨H2,s2,l1++l2,by rw [W1 b1]; exact b2,by rw [← List.append_assoc]; exact v2,c1.trans c2,?_,fun y hy=>?_⟩
  ·rw [List.drop_eq_getElem_cons hlt,List.flatMap_cons,List.map_append,q1,q2]
  ·rcases List.mem_append.1 hy with hy | hy
   ·exact k1 y hy
   ·exact k2 y hy
theorem VecA.low {α:Type} {E:Enc α} {e:TypeId} {m:Nat} {H:AH} {l:List α} {s:Sl3} (h:VecA E e m H l s):∀a,s.p=some a→a.block<H.next∧a.spot=none:=by
 intro a ha;cases h with
 | nil hn hv=>cases ha
 | zero a' h' hn hv=>cases ha; exact h'
 | opn id off cs hm hid hg hl ho hx=>cases ha; exact ⟨hid,rfl⟩
theorem VecA.sl {α:Type} {E:Enc α} {e:TypeId} {m:Nat} {H:AH} {l:List α} {s:Sl3} (h:VecA E e m H l s) (hN:l.length≤maxN) {R:AH→Addr→α→Prop}
  (hR:∀x q,(∀j v,(E.enc x)[j]? = some v→Cel H (q.add j) v)→R H q x):SlL R E.sz H s l:=by
 have hlow:=h.low;have hO:OPEN=9223372036854775808:=rfl;have eN:maxN=9223372036854775807:=rfl;refine ⟨h.n,?_,by rw [h.n]; exact hN,hlow,LAt.of fun i hi=>?_⟩
 ·have hn:=h.n;cases h with
  | nil hn hv=>exact Nat.le_refl _
  | zero a ha hn hv=>exact Nat.le_refl _
  | opn=>show l.length≤OPEN; omega
 ·have hpos:∃a,s.p=some a:=by
   cases h with
   | nil hn hv=>omega
   | zero a ha hn hv=>exact ⟨_,rfl⟩
   | opn=>exact ⟨_,rfl⟩
  obtain ⟨a,ha⟩:=hpos;refine ⟨a,ha,?_⟩;rw [Nat.zero_add];refine hR _ _ fun j v hv=>?_;have hj:j<E.sz:=by
   have:=(List.getElem?_eq_some_iff.1 hv).1;rw [E.len] at this;exact this
  obtain ⟨a',h1,h2⟩:=VecV.cell h (i:=i*E.sz+j) (v:=v) (by rw [E.flat_get hi hj]; exact hv);rw [ha] at h1;cases h1;rw [I5 (hlow a ha).2];exact h2
structure ArrV (e:TypeId) (m:Nat) (H:AH) (id:Nat) (vs:List Value):Prop where
 get:H.get id=some { obj:=.cells vs.toArray e (0,0),opn:=false,esz:=0,ro:=false }
 own:m≤id
 low:id<H.next
theorem ArrV.fr {e:TypeId} {m:Nat} {H H':AH} {id:Nat} {vs:List Value} {W:Nat→Prop} (h:ArrV e m H id vs) (hf:Fm W H H') (hw:¬W id):ArrV e m H' id vs :=
 ⟨hf.2 _ _ h.low hw h.get,h.own,Nat.lt_of_lt_of_le h.low hf.1⟩
theorem ArrV.ext {e:TypeId} {m:Nat} {H H':AH} {id:Nat} {vs:List Value} (h:ArrV e m H id vs) (hf:Ext H H'):ArrV e m H' id vs:=h.fr hf fun h=>h
theorem ArrV.cel {e:TypeId} {m:Nat} {H:AH} {id:Nat} {vs:List Value} (h:ArrV e m H id vs) {i:Nat} {v:Value} (hv:vs[i]? = some v):Cel H ((⟨id,0,none⟩:Addr).add (i*1)) v:=by
 rw [C5];exact ⟨z9f (a:=⟨id,0+i*1,none⟩) h.get rfl rfl (by simpa using hv),h.low⟩
theorem ArrV.set {e:TypeId} {m:Nat} {H:AH} {id:Nat} {vs:List Value} (h:ArrV e m H id vs) {i:Nat} (hi:i<vs.length) (v:Value) :
  ∃H',H.setCell m ((⟨id,0,none⟩:Addr).add (i*1)) v=some H'∧ArrV e m H' id (vs.set i v)∧Fm (fun j=>j=id) H H'∧H'.next=H.next:=by
 have hs:=zm5 (v:=v) (off:=0+i*1) h.own h.get (by simpa using hi);rw [C5];refine ⟨_,hs,⟨?_,h.own,h.low⟩,Fm.put,rfl⟩;rw [AH.get_put_same];simp
theorem X3 {id n:Nat} {i:Nat} (hi:i<n) {v:Int} (hv:v=i):idxA 1 (⟨some ⟨id,0,none⟩,n,n⟩:Sl3) v=some ((⟨id,0,none⟩:Addr).add (i*1)):=J6 rfl hv hi
theorem z9i {e:TypeId} {bytes m:Nat} {H:AH} {z:Value} {n:Nat} (hn:n≤281474976710656) (hb:bytes*n≤281474976710656) (hm:m≤H.next) :
  ∃H',mkS e 1 bytes #[z] H (n:Int) (n:Int)=some (⟨some ⟨H.next,0,none⟩,n,n⟩,H')∧ArrV e m H' H.next (List.replicate n z)∧Ext H H'∧H'.next=H.next+1:=by
 unfold mkS;have hb':(bytes:Int)*(n:Int)≤281474976710656:=by
  rw [← Int.natCast_mul];omega
 rw [if_pos ⟨by omega,by omega,by omega,hb'⟩];simp only [Int.toNat_natCast,Nat.mul_one];refine ⟨_,rfl,⟨?_,hm,by simp⟩,Fm.push _ _ _,by simp⟩;rw [AH.get_push_same]
 congr 2
 by_cases h0:n=0
 ·subst h0; rfl
 ·rw [if_neg h0];have:zerosA #[z] n=(List.replicate n z).toArray:=by
   unfold zerosA;refine Array.ext (by simp) fun i h1 h2=>?_;have:i % 1=0:=Nat.mod_one i;simp [this]
  rw [this]
theorem VecA.tail {α:Type} {E:Enc α} {e:TypeId} {m:Nat} {H:AH} {x:α} {l:List α} {s:Sl3} (h:VecA E e m H (x :: l) s) (hE:E.sz=1) (hN:l.length<OPEN) :
  ∃s',slc 1 H s (some 1) none none=some s'∧VecA E e m H l s'∧∀id,owns s' id→owns s id:=by
 unfold VecA at h;generalize hn:(x :: l).length=n at h;generalize hv:(x :: l).flatMap E.enc=vs at h;cases h with
 | nil hn' hv'=>subst hn'; simp at hn
 | zero a ha hn' hv'=>subst hn'; simp at hn
 | opn id off cs hm hid hg hl ho hx =>
  simp only [List.length_cons] at hn;subst hn;refine ⟨⟨some ((⟨id,off,none⟩:Addr).add (1*1)),l.length+1 - 1,OPEN⟩,?_,?_,?_⟩
  ·unfold slc;have hb:slcB (l.length+1) (l.length+1) (some 1) none none=some (1,l.length+1,l.length+1):=by
    unfold slcB;have b1:boundI (l.length+1) (l.length+1) none=some (l.length+1):=rfl;have b3:boundI (l.length+1) 0 (some 1)=some 1:=by
     unfold boundI;simp only [];rw [if_pos ⟨by omega,by omega⟩];rfl
    simp only [b1,b3];rfl
   simp only [if_true,hb,hg];rw [if_pos ⟨trivial,hE,rfl⟩]
  ·unfold VecA;rw [C5,Nat.mul_one,Nat.add_sub_cancel];have hl1:(E.enc x).length=1:=by rw [E.len,hE]
   refine .opn id (off+1) cs hm hid hg (E.flat_len l) (E.flat_one l) fun i v hi=>?_;rw [show off+1+i=off+(i+1) by omega];refine hx (i+1) v ?_;rw [← hv,List.flatMap_cons,List.getElem?_append_right (by omega),hl1,Nat.add_sub_cancel];exact hi
  ·rintro id' ⟨_,a,ha,rfl⟩
   rw [C5] at ha;cases ha;exact ⟨rfl,_,rfl,rfl⟩
end Go.Abs
namespace Go.Proofs.YtccbilfbhecdaaaGreatDoor
open Go Go.Abs
open Go.Value renaming int → vI, string → vS, pointer → vP, agg → vA, bool → vB
set_option maxRecDepth 100000
def tabs:List Tab:=[(1,147,((zsOf Rows.laid_strings_asciiSpace).map fun z=>vI .u8 z).toArray),(0,141,((zsOf Rows.laid_internal_strconv_uint64pow10).map fun z=>vI .u64 z).toArray),(4,156,((zsOf Rows.laid_math_bits_deBruijn32tab).map fun z=>vI .u8 z).toArray),(5,157,((zsOf Rows.laid_math_bits_deBruijn64tab).map fun z=>vI .u8 z).toArray)]
theorem zlq:tabsB Tryz.prog tabs=true:=by kernel_rfl
theorem globals7:Tryz.prog.globals.size=7:=by kernel_rfl
theorem z6g:0<Tryz.prog.globals.size:=by rw [globals7]; omega
def HasT (H:AH):Prop:=∀x∈tabs,H.get x.1=some (tabBlk x)∧x.1<H.next
noncomputable def lc:LC:=LCn 100000 1000
noncomputable def H0:AH:=startH Tryz.prog tabs
def zgj:(Sl3×Sl3×Sl3×AH)→Value
 | (r0,r1,r2,_)=>(vA #[(Sl3.v r0),(Sl3.v r1),(Sl3.v r2)])
def zh0 (_:AH):(Sl3×Sl3×Sl3×AH)→AH:=fun r=>r.2.2.2
noncomputable def B20:Code:=(Tryz.f20.body).getD .skip
noncomputable def z98 (_L:LC) (_m:Nat) (H:AH):Option (Sl3×Sl3×Sl3×AH) :=
 (newR 105 2 #[(vS (⟨#[104,101,97,100]⟩:ByteArray)),(vI .i64 2),(vI .i64 0),(vS (⟨#[]⟩:ByteArray)),(Sl3.v Sl3.nil),(vS (⟨#[116,97,105,108]⟩:ByteArray)),(vI .i64 6),(vI .i64 0),(vS (⟨#[76,105,115,116]⟩:ByteArray)),(Sl3.v Sl3.nil)] H).bind fun (s1,H2) => (newR 103 2 #[(vS (⟨#[110,105,108]⟩:ByteArray)),(Sl3.v Sl3.nil),(vS (⟨#[99,111,110,115]⟩:ByteArray)),(Sl3.v s1)] H2).bind fun (s3,H4) => (newR 103 2 #[(vS (⟨#[114,101,100]⟩:ByteArray)),(Sl3.v Sl3.nil),(vS (⟨#[103,114,101,101,110]⟩:ByteArray)),(Sl3.v Sl3.nil)] H4).bind fun (s5,H6) => (newR 93 2 #[(vS (⟨#[76,105,115,116]⟩:ByteArray)),(Sl3.v s3),(vS (⟨#[67,111,108,111,114]⟩:ByteArray)),(Sl3.v s5)] H6).bind fun (s7,H8) => some (Sl3.nil,s7,Sl3.nil,H8)
theorem zhg {L:LC} {m:Nat} {H:AH} {r:(Sl3×Sl3×Sl3×AH)} (h:z98 L m H=some r) :
  CallS Tryz.prog (NE.plain 1000) m 20 #[] H (zgj r) (zh0 H r):=by
 refine CallS.mk (args:=[]) Tryz.func20 (B:=B20) (by kernel_rfl) (fun E _=>?_);unfold z98 at h;refine A0 (C0 (Q0 1 [kL 0 0 0] ([some (30,[(Sl3.v Sl3.nil),(Sl3.v Sl3.nil),(Sl3.v Sl3.nil)])]) (B0 (o0 (A0 (C0 (Q0 3 [kL 1 1 0,kA 2 #[(vI .i64 6),(vI .i64 0),(vS (⟨#[76,105,115,116]⟩:ByteArray)),(Sl3.v Sl3.nil)]] ([some (30,[(Sl3.v Sl3.nil),(Sl3.v Sl3.nil),(Sl3.v Sl3.nil)]),some (25,[(vI .i64 6),(vI .i64 0),(vS (⟨#[76,105,115,116]⟩:ByteArray)),(Sl3.v Sl3.nil)])]) (B0 (o0 ?_)))))))));refine A0 (C0 (m0 5 [kA 7 #[(vS (⟨#[116,97,105,108]⟩:ByteArray)),(vI .i64 6),(vI .i64 0),(vS (⟨#[76,105,115,116]⟩:ByteArray)),(Sl3.v Sl3.nil)],kA 6 #[(vI .i64 6),(vI .i64 0),(vS (⟨#[76,105,115,116]⟩:ByteArray)),(Sl3.v Sl3.nil)],kA 5 #[(vS (⟨#[104,101,97,100]⟩:ByteArray)),(vI .i64 2),(vI .i64 0),(vS (⟨#[]⟩:ByteArray)),(Sl3.v Sl3.nil)],kA 4 #[(vI .i64 2),(vI .i64 0),(vS (⟨#[]⟩:ByteArray)),(Sl3.v Sl3.nil)],kA 3 #[(vS (⟨#[110,105,108]⟩:ByteArray)),(Sl3.v Sl3.nil)]] ?_));obtain ⟨⟨s1,H2⟩,hx,h⟩:=bind_some h;try dsimp only at h
 refine P0 (H':=H2) (some 8) (Sl3.v s1) (Abs.run_newR (by kernel_rfl) (by kernel_rfl) hx) (m0 1 [kA 9 #[(vS (⟨#[99,111,110,115]⟩:ByteArray)),(Sl3.v s1)]] ?_);obtain ⟨⟨s3,H4⟩,hx,h⟩:=bind_some h;try dsimp only at h
 refine P0 (H':=H4) (some 10) (Sl3.v s3) (Abs.run_newR (by kernel_rfl) (by kernel_rfl) hx) (m0 3 [kA 13 #[(vS (⟨#[103,114,101,101,110]⟩:ByteArray)),(Sl3.v Sl3.nil)],kA 12 #[(vS (⟨#[114,101,100]⟩:ByteArray)),(Sl3.v Sl3.nil)],kA 11 #[(vS (⟨#[76,105,115,116]⟩:ByteArray)),(Sl3.v s3)]] ?_);obtain ⟨⟨s5,H6⟩,hx,h⟩:=bind_some h;try dsimp only at h
 refine P0 (H':=H6) (some 14) (Sl3.v s5) (Abs.run_newR (by kernel_rfl) (by kernel_rfl) hx) (m0 1 [kA 15 #[(vS (⟨#[67,111,108,111,114]⟩:ByteArray)),(Sl3.v s5)]] ?_);obtain ⟨⟨s7,H8⟩,hx,h⟩:=bind_some h;try dsimp only at h
 refine P0 (H':=H8) (some 16) (Sl3.v s7) (Abs.run_newR (by kernel_rfl) (by kernel_rfl) hx) (Q0 2 [kA 17 #[(Sl3.v Sl3.nil),(Sl3.v s7),(Sl3.v Sl3.nil)]] ([some (30,[(Sl3.v Sl3.nil),(Sl3.v s7),(Sl3.v Sl3.nil)]),some (25,[(vI .i64 6),(vI .i64 0),(vS (⟨#[76,105,115,116]⟩:ByteArray)),(Sl3.v Sl3.nil)])]) (B0 (o0 (I0 ?_))));cases h;exact fun a w hs=>rtR (rS hs)
def Z8:(Int×Bool)→Value
 | (r0,r1)=>(Value.tuple #[(vI .i64 r0),(vB r1)])
def L9 (H:AH):(Int×Bool)→AH:=fun _=>H
noncomputable def B70:Code:=(Tryz.f70.body).getD .skip
noncomputable def Z5 (_L:LC) (rec_sort_parts:AH→Int→Int→ByteArray→Sl3→Int→Option (Int×Bool)) (H:AH) (_a0_0 _a0_1:Int) (_a0_2:ByteArray) (a0_3:Sl3) (a1:Int):(Int×Int)→Option (Lp (Int×Int) (Int×Bool)):=fun (v6_1,v16_2) =>
 if v16_2<(a0_3.n:Int) then
  (idxA 4 a0_3 v16_2).bind fun p3 => (rd (deI .i64) H (Addr.add p3 0)).bind fun x4_0 => (rd (deI .i64) H (Addr.add p3 1)).bind fun x4_1 => (rd deS H (Addr.add p3 2)).bind fun x4_2 => (rd deSl H (Addr.add p3 3)).bind fun x4_3 => (rec_sort_parts H x4_0 x4_1 x4_2 x4_3 (IntKind.i64.wrap (a1+1))).bind fun (x5,x6) => Option.bind (α:=Bool) (
   if x6=true then
    some (decide ((IntKind.i64.wrap (v6_1+x5)) > 256))
   else
    some true) fun v35_7 =>
  if v35_7=true then
   some (.ret ((IntKind.i64.wrap (v6_1+x5)),false))
  else
   some (.next ((IntKind.i64.wrap (v6_1+x5)),(IntKind.i64.wrap (v16_2+1))))
 else
  some (.brk (v6_1,v16_2))
def zes (_L:LC) (_rec_sort_parts:AH→Int→Int→ByteArray→Sl3→Int→Option (Int×Bool)) (_H:AH) (a0_0 a0_1:Int) (a0_2:ByteArray) (a0_3:Sl3) (a1:Int):(Int×Int)→KN×Lcs:=fun (v6_1,v16_2)=>([kI 6 v6_1,kI 16 v16_2,kI 1 a1,kS 14 a0_3,kI 15 (a0_3.n:Int)],[some (25,[(vI .i64 a0_0),(vI .i64 a0_1),(vS a0_2),(Sl3.v a0_3)])])
noncomputable def V6 (L:LC) (rec_sort_parts:AH→Int→Int→ByteArray→Sl3→Int→Option (Int×Bool)) (H:AH) (a0_0 a0_1:Int) (a0_2:ByteArray) (a0_3:Sl3) (a1:Int):Option (Int×Bool) :=
 if a1 > 16 then
  some (0,false)
 else
  (L.run (Z5 L rec_sort_parts H a0_0 a0_1 a0_2 a0_3 a1) (1,0)).bind fun o=>match o with
  | .inl (v6_8,_) =>
   some (v6_8,true)
  | .inr r=>some r
noncomputable def K4 (L:LC) (n:Nat):(AH→Int→Int→ByteArray→Sl3→Int→Option (Int×Bool)):=Nat.rec (motive:=fun _=>(AH→Int→Int→ByteArray→Sl3→Int→Option (Int×Bool))) (fun _ _ _ _ _ _=>none) (fun _ p=>V6 L p) n
noncomputable def za7 (L:LC) (H:AH) (a0_0 a0_1:Int) (a0_2:ByteArray) (a0_3:Sl3) (a1:Int):Option (Int×Bool):=(K4 L L.fuel) H a0_0 a0_1 a0_2 a0_3 a1
theorem z6y {E m L rec_sort_parts H a0_0 a0_1 a0_2 a0_3 a1} (hrec_sort_parts:∀(m:Nat) (H:AH) (a0_0 a0_1:Int) (a0_2:ByteArray) (a0_3:Sl3) (a1:Int) (r:(Int×Bool)),rec_sort_parts H a0_0 a0_1 a0_2 a0_3 a1=some r→CallS Tryz.prog (NE.plain 1000) m 70 #[(vA #[(vI .i64 a0_0),(vI .i64 a0_1),(vS a0_2),(Sl3.v a0_3)]),(vI .i64 a1)] H (Z8 r) (L9 H r)):LoopF Tryz.prog (NE.plain 1000) m E Tryz.f70 ((cfst (csnd (cfst (csnd (csnd (csnd B70))))))) (zes L rec_sort_parts H a0_0 a0_1 a0_2 a0_3 a1) (fun _=>H) 0 Z8 (L9 H) (Z5 L rec_sort_parts H a0_0 a0_1 a0_2 a0_3 a1):=by
 rintro ⟨v6_1,v16_2⟩ o h
 unfold Z5 at h;try dsimp only at h
 refine A0 (C0 (m0 1 [kB 17 (decide (v16_2<(a0_3.n:Int)))] (B0 (o0 (A0 ?_)))));rcases Q1 h with ⟨hp,h⟩ | ⟨hp,h⟩
 ·refine D0 17 true (decide_eq_true hp) (E0 (G0 (o0 (A0 (J0 1 (A0 (C0 ?_)))))));obtain ⟨p3,hx,h⟩:=bind_some h;refine O0 18 23 25 (.tmp 14) (.tmp 16) hx ?_;obtain ⟨x4_0,hx0,h⟩:=bind_some h;obtain ⟨x4_1,hx1,h⟩:=bind_some h;obtain ⟨x4_2,hx2,h⟩:=bind_some h;obtain ⟨x4_3,hx3,h⟩:=bind_some h;refine RS.la 19 25 (.tmp 18) 4 (P1 (O1 hx0 S1) (P1 (O1 hx1 S1) (P1 (O1 hx2 T1) (P1 (O1 hx3 R1) U1)))) (Q0 2 [kL 8 1 0] ([some (25,[(vI .i64 a0_0),(vI .i64 a0_1),(vS a0_2),(Sl3.v a0_3)]),some (25,[(vI .i64 x4_0),(vI .i64 x4_1),(vS x4_2),(Sl3.v x4_3)])]) (B0 (o0 (A0 (C0 (m0 3 [kI 23 (IntKind.i64.wrap (a1+1)),kI 22 a1,kA 21 #[(vI .i64 x4_0),(vI .i64 x4_1),(vS x4_2),(Sl3.v x4_3)]] ?_))))));obtain ⟨⟨x5,x6⟩,hx,h⟩:=bind_some h;try dsimp only at h
  refine N0 (some 24) (v:=(Value.tuple #[(vI .i64 x5),(vB x6)])) 70 _ (hrec_sort_parts _ _ _ _ _ _ _ _ hx) (m0 5 [kB 10 x6,kI 9 x5,kB 26 x6,kI 25 x5,(20,.val (Value.tuple #[(vI .i64 x5),(vB x6)]))] (B0 (o0 (A0 (C0 (m0 4 [kI 6 (IntKind.i64.wrap (v6_1+x5)),kI 29 (IntKind.i64.wrap (v6_1+x5)),kI 28 x5,kI 27 v6_1] (B0 (o0 ?_))))))));obtain ⟨v35_7,hx,h⟩:=bind_some h;refine A0 ?_;refine A1 ([kB 35 v35_7,kI 1 a1,kI 6 (IntKind.i64.wrap (v6_1+x5)),kS 14 a0_3,kI 15 (a0_3.n:Int),kI 16 v16_2]) ([some (25,[(vI .i64 a0_0),(vI .i64 a0_1),(vS a0_2),(Sl3.v a0_3)]),some (25,[(vI .i64 x4_0),(vI .i64 x4_1),(vS x4_2),(Sl3.v x4_3)])]) H ?_ (fun a w hs=>o0 ?_ a w hs)
  ·clear h; rename _=>h;refine C0 (m0 3 [kB 32 (!x6),kB 31 (!x6),kB 30 x6] ?_);rcases Q1 h with ⟨hp,h⟩ | ⟨hp,h⟩
   ·refine K0 32 false (nb_not hp) (m0 3 [kB 35 (decide ((IntKind.i64.wrap (v6_1+x5)) > 256)),kB 34 (decide ((IntKind.i64.wrap (v6_1+x5)) > 256)),kI 33 (IntKind.i64.wrap (v6_1+x5))] (B0 ?_));cases h;exact fun a w hs=>(jsN (hs.sb 2))
   ·refine K0 32 true (W2 hp) (m0 3 [kB 35 true,kU 34,kU 33] (B0 ?_));cases h;exact fun a w hs=>(jsN (hs.sb 2))
  ·clear hx;rcases Q1 h with ⟨hp,h⟩ | ⟨hp,h⟩
   ·refine D0 35 true hp (E0 (A0 (C0 (m0 3 [kB 5 false,kI 4 (IntKind.i64.wrap (v6_1+x5)),kI 36 (IntKind.i64.wrap (v6_1+x5))] (B0 (o0 (I0 ?_)))))));cases h;exact fun a w hs=>bkR (sqR (lsR rfl (rS hs)))
   ·refine D0 35 false (b_not hp) (F0 (G0 ?_));refine fun a w hs=>bkN ((o0 ?_ a w hs));refine C0 (m0 2 [kI 16 (IntKind.i64.wrap (v16_2+1)),kI 37 (IntKind.i64.wrap (v16_2+1))] (B0 ?_));cases h;exact fun a w hs=>lsN rfl (hs.sb 1)
 ·refine D0 17 false (decide_eq_false hp) (F0 (WS.ex 0 ?_));cases h;exact fun a w hs=>sqE (lsB rfl (hs.sb 1))
theorem zc9 {L:LC} {rec_sort_parts:AH→Int→Int→ByteArray→Sl3→Int→Option (Int×Bool)} (hrec_sort_parts:∀(m:Nat) (H:AH) (a0_0 a0_1:Int) (a0_2:ByteArray) (a0_3:Sl3) (a1:Int) (r:(Int×Bool)),rec_sort_parts H a0_0 a0_1 a0_2 a0_3 a1=some r→CallS Tryz.prog (NE.plain 1000) m 70 #[(vA #[(vI .i64 a0_0),(vI .i64 a0_1),(vS a0_2),(Sl3.v a0_3)]),(vI .i64 a1)] H (Z8 r) (L9 H r)) {m:Nat} {H:AH} {a0_0 a0_1:Int} {a0_2:ByteArray} {a0_3:Sl3} {a1:Int} {r:(Int×Bool)} (h:V6 L rec_sort_parts H a0_0 a0_1 a0_2 a0_3 a1=some r) :
  CallS Tryz.prog (NE.plain 1000) m 70 #[(vA #[(vI .i64 a0_0),(vI .i64 a0_1),(vS a0_2),(Sl3.v a0_3)]),(vI .i64 a1)] H (Z8 r) (L9 H r):=by
 refine CallS.mk (args:=[(vA #[(vI .i64 a0_0),(vI .i64 a0_1),(vS a0_2),(Sl3.v a0_3)]),(vI .i64 a1)]) Tryz.func70 (B:=B70) (by kernel_rfl) (fun E _=>?_);unfold V6 at h;refine A0 (C0 (Q0 3 [kB 5 false,kI 4 0,kL 2 0 0] ([some (25,[(vI .i64 a0_0),(vI .i64 a0_1),(vS a0_2),(Sl3.v a0_3)])]) (B0 (o0 (A0 (A0 (C0 (m0 2 [kB 12 (decide (a1 > 16)),kI 11 a1] (B0 ?_)))))))));refine o0 ?_;rcases Q1 h with ⟨hp,h⟩ | ⟨hp,h⟩
 ·refine D0 12 true (decide_eq_true hp) (E0 (A0 (C0 (m0 2 [kB 5 false,kI 4 0] (B0 (o0 (I0 ?_)))))));cases h;exact fun a w hs=>sqR (rtR (rS hs))
 ·refine D0 12 false (decide_eq_false hp) (F0 (G0 (o0 (A0 (C0 (m0 1 [kI 6 1] (B0 (o0 (A0 ?_)))))))));refine A0 (C0 (m0 4 [kI 16 0,kI 15 (a0_3.n:Int),kS 14 a0_3,kL 13 0 3] (B0 (o0 (J0 0 ?_)))));obtain ⟨o,hl,h⟩:=bind_some h;rcases o with ⟨v6_8,v16_9⟩ | r
  ·try dsimp only at h
   refine S0 (z6y (L:=L) (E:=E) (m:=m) (H:=H) hrec_sort_parts) (L.ok hl) 1 ?_;clear hl;refine fun a w hs=>bkE ((o0 ?_ a w hs));refine A0 (C0 (m0 3 [kB 5 true,kI 4 v6_8,kI 38 v6_8] (B0 (o0 (I0 ?_)))));cases h;exact fun a w hs=>rtR (rS hs)
  ·try dsimp only at h
   refine R0 (z6y (L:=L) (E:=E) (m:=m) (H:=H) hrec_sort_parts) (L.ok hl) 1 ?_;cases h;exact fun a w hq=>bkR (sqR (rtR hq))
theorem ze3 {L:LC}:∀n,(∀(m:Nat) (H:AH) (a0_0 a0_1:Int) (a0_2:ByteArray) (a0_3:Sl3) (a1:Int) (r:(Int×Bool)),((K4 L n)) H a0_0 a0_1 a0_2 a0_3 a1=some r→CallS Tryz.prog (NE.plain 1000) m 70 #[(vA #[(vI .i64 a0_0),(vI .i64 a0_1),(vS a0_2),(Sl3.v a0_3)]),(vI .i64 a1)] H (Z8 r) (L9 H r)):=by
 intro n;induction n with
 | zero=>exact (fun _ _ _ _ _ _ _ _ h=>(Option.some_ne_none _ h.symm).elim)
 | succ n ih=>exact (fun _ _ _ _ _ _ _ _ h=>zc9 (L:=L) ih h)
theorem zic {L:LC} {m:Nat} {H:AH} {a0_0 a0_1:Int} {a0_2:ByteArray} {a0_3:Sl3} {a1:Int} {r:(Int×Bool)} (h:za7 L H a0_0 a0_1 a0_2 a0_3 a1=some r) :
  CallS Tryz.prog (NE.plain 1000) m 70 #[(vA #[(vI .i64 a0_0),(vI .i64 a0_1),(vS a0_2),(Sl3.v a0_3)]),(vI .i64 a1)] H (Z8 r) (L9 H r) :=
 (ze3 _) _ _ _ _ _ _ _ _ h
def zbf:Bool→Value
 | r0=>(vB r0)
def zda (H:AH):Bool→AH:=fun _=>H
noncomputable def B25:Code:=(Tryz.f25.body).getD .skip
noncomputable def A9 (_L:LC) (a0:ByteArray):Int→Option (Lp Int Bool):=fun v24_4 =>
 if v24_4<(a0.size:Int) then
  Option.bind (α:=Bool) (
   (bytA a0 v24_4).bind fun x6 => if x6<32 then
    some true
   else
    (bytA a0 v24_4).bind fun x7 => if x7 > 126 then
     some true
    else
     (bytA a0 v24_4).bind fun x8 => if x8=124 then
      some true
     else
      (bytA a0 v24_4).bind fun x9 => some (decide (x9=92))) fun v48_5 =>
  if v48_5=true then
   some (.ret false)
  else
   some (.next (IntKind.i64.wrap (v24_4+1)))
 else
  some (.brk v24_4)
def zgf (_L:LC) (a0:ByteArray):Int→KN×Lcs:=fun v24_4=>([kI 24 v24_4,kT 0 a0,kI 23 (a0.size:Int)],[])
noncomputable def zm (L:LC) (a0:ByteArray):Option Bool :=
 Option.bind (α:=Bool) (
  if (a0.size:Int)<1 then
   some true
  else
   if (a0.size:Int) > 200 then
    some true
   else
    (bytA a0 0).bind fun x2 => if x2=64 then
     some true
    else
     (bytA a0 0).bind fun x3 => some (decide (x3=46))) fun v21_1 =>
 if v21_1=true then
  some false
 else
  (L.run (A9 L a0) 0).bind fun o=>match o with
  | .inl _ =>
   some true
  | .inr r=>some r
theorem z87 {E m H L a0} :LoopF Tryz.prog (NE.plain 1000) m E Tryz.f25 ((cfst (csnd (cfst (csnd (csnd B25)))))) (zgf L a0) (fun _=>H) 0 zbf (zda H) (A9 L a0):=by
 rintro v24_4 o h
 unfold A9 at h;try dsimp only at h
 refine A0 (C0 (m0 1 [kB 25 (decide (v24_4<(a0.size:Int)))] (B0 (o0 (A0 ?_)))));rcases Q1 h with ⟨hp,h⟩ | ⟨hp,h⟩
 ·refine D0 25 true (decide_eq_true hp) (E0 (G0 (o0 (A0 (J0 1 (A0 (C0 (m0 2 [kI 3 v24_4,kI 26 v24_4] (B0 ?_)))))))));refine o0 ?_;obtain ⟨v48_5,hx,h⟩:=bind_some h;refine A0 ?_;refine A1 ([kB 48 v48_5,kT 0 a0,kI 23 (a0.size:Int),kI 24 v24_4]) ([]) H ?_ (fun a w hs=>o0 ?_ a w hs)
  ·clear h; rename _=>h;refine C0 (m0 2 [kI 28 v24_4,kT 27 a0] ?_);obtain ⟨x6,hx,h⟩:=bind_some h;refine P0 (H':=H) (some 29) (vI .u8 x6) (Abs.run_byt (t:=9) (x:=.tmp 27) (y:=.tmp 28) (s:=a0) (k:=.i64) (i:=v24_4) (by kernel_rfl) (by kernel_rfl) (by kernel_rfl) (by kernel_rfl) hx) (m0 2 [kB 31 (decide (x6<32)),kB 30 (decide (x6<32))] ?_);rcases Q1 h with ⟨hp,h⟩ | ⟨hp,h⟩
   ·refine K0 31 true (decide_eq_true hp) (m0 17 [kB 48 true,kU 47,kU 46,kU 45,kU 44,kB 43 true,kB 42 true,kU 41,kU 40,kU 39,kU 38,kB 37 true,kB 36 true,kU 35,kU 34,kU 33,kU 32] (B0 ?_));cases h;exact fun a w hs=>(jsN (hs.sb 0))
   ·refine K0 31 false (decide_eq_false hp) (m0 2 [kI 33 v24_4,kT 32 a0] ?_);obtain ⟨x7,hx,h⟩:=bind_some h;refine P0 (H':=H) (some 34) (vI .u8 x7) (Abs.run_byt (t:=9) (x:=.tmp 32) (y:=.tmp 33) (s:=a0) (k:=.i64) (i:=v24_4) (by kernel_rfl) (by kernel_rfl) (by kernel_rfl) (by kernel_rfl) hx) (m0 3 [kB 37 (decide (x7 > 126)),kB 36 (decide (x7 > 126)),kB 35 (decide (x7 > 126))] ?_);rcases Q1 h with ⟨hp,h⟩ | ⟨hp,h⟩
    ·refine K0 37 true (decide_eq_true hp) (m0 11 [kB 48 true,kU 47,kU 46,kU 45,kU 44,kB 43 true,kB 42 true,kU 41,kU 40,kU 39,kU 38] (B0 ?_));cases h;exact fun a w hs=>(jsN (hs.sb 0))
    ·refine K0 37 false (decide_eq_false hp) (m0 2 [kI 39 v24_4,kT 38 a0] ?_);obtain ⟨x8,hx,h⟩:=bind_some h;refine P0 (H':=H) (some 40) (vI .u8 x8) (Abs.run_byt (t:=9) (x:=.tmp 38) (y:=.tmp 39) (s:=a0) (k:=.i64) (i:=v24_4) (by kernel_rfl) (by kernel_rfl) (by kernel_rfl) (by kernel_rfl) hx) (m0 3 [kB 43 (decide (x8=124)),kB 42 (decide (x8=124)),kB 41 (decide (x8=124))] ?_);rcases Q1 h with ⟨hp,h⟩ | ⟨hp,h⟩
     ·refine K0 43 true (decide_eq_true hp) (m0 5 [kB 48 true,kU 47,kU 46,kU 45,kU 44] (B0 ?_));cases h;exact fun a w hs=>(jsN (hs.sb 0))
     ·refine K0 43 false (decide_eq_false hp) (m0 2 [kI 45 v24_4,kT 44 a0] ?_);obtain ⟨x9,hx,h⟩:=bind_some h;refine P0 (H':=H) (some 46) (vI .u8 x9) (Abs.run_byt (t:=9) (x:=.tmp 44) (y:=.tmp 45) (s:=a0) (k:=.i64) (i:=v24_4) (by kernel_rfl) (by kernel_rfl) (by kernel_rfl) (by kernel_rfl) hx) (m0 2 [kB 48 (decide (x9=92)),kB 47 (decide (x9=92))] (B0 ?_));cases h;exact fun a w hs=>(jsN (hs.sb 0))
  ·clear hx;rcases Q1 h with ⟨hp,h⟩ | ⟨hp,h⟩
   ·refine D0 48 true hp (E0 (A0 (C0 (m0 1 [kB 2 false] (B0 (o0 (I0 ?_)))))));cases h;exact fun a w hs=>bkR (sqR (lsR rfl (rS hs)))
   ·refine D0 48 false (b_not hp) (F0 (G0 ?_));refine fun a w hs=>bkN ((o0 ?_ a w hs));refine C0 (m0 2 [kI 24 (IntKind.i64.wrap (v24_4+1)),kI 49 (IntKind.i64.wrap (v24_4+1))] (B0 ?_));cases h;exact fun a w hs=>lsN rfl (hs.sb 0)
 ·refine D0 25 false (decide_eq_false hp) (F0 (WS.ex 0 ?_));cases h;exact fun a w hs=>sqE (lsB rfl (hs.sb 0))
theorem zcf {L:LC} {m:Nat} {H:AH} {a0:ByteArray} {r:Bool} (h:zm L a0=some r) :
  CallS Tryz.prog (NE.plain 1000) m 25 #[(vS a0)] H (zbf r) (zda H r):=by
 refine CallS.mk (args:=[(vS a0)]) Tryz.func25 (B:=B25) (by kernel_rfl) (fun E _=>?_);unfold zm at h;refine A0 (C0 (m0 1 [kB 2 false] (B0 (o0 (A0 ?_)))));obtain ⟨v21_1,hx,h⟩:=bind_some h;refine A0 ?_;refine A1 ([kB 21 v21_1,kT 0 a0]) ([]) H ?_ (fun a w hs=>o0 ?_ a w hs)
 ·clear h; rename _=>h;refine C0 (m0 4 [kB 7 (decide ((a0.size:Int)<1)),kB 6 (decide ((a0.size:Int)<1)),kI 5 (a0.size:Int),kT 4 a0] ?_);rcases Q1 h with ⟨hp,h⟩ | ⟨hp,h⟩
  ·refine K0 7 true (decide_eq_true hp) (m0 14 [kB 21 true,kU 20,kU 19,kU 18,kB 17 true,kB 16 true,kU 15,kU 14,kU 13,kB 12 true,kB 11 true,kU 10,kU 9,kU 8] (B0 ?_));cases h;exact fun a w hs=>(jsN (hs.sb 0))
  ·refine K0 7 false (decide_eq_false hp) (m0 5 [kB 12 (decide ((a0.size:Int) > 200)),kB 11 (decide ((a0.size:Int) > 200)),kB 10 (decide ((a0.size:Int) > 200)),kI 9 (a0.size:Int),kT 8 a0] ?_);rcases Q1 h with ⟨hp,h⟩ | ⟨hp,h⟩
   ·refine K0 12 true (decide_eq_true hp) (m0 9 [kB 21 true,kU 20,kU 19,kU 18,kB 17 true,kB 16 true,kU 15,kU 14,kU 13] (B0 ?_));cases h;exact fun a w hs=>(jsN (hs.sb 0))
   ·refine K0 12 false (decide_eq_false hp) (m0 1 [kT 13 a0] ?_);obtain ⟨x2,hx,h⟩:=bind_some h;refine P0 (H':=H) (some 14) (vI .u8 x2) (Abs.run_byt (t:=9) (x:=.tmp 13) (y:=.const (vI .i64 0)) (s:=a0) (k:=.i64) (i:=0) (by kernel_rfl) (by kernel_rfl) (by kernel_rfl) (by kernel_rfl) hx) (m0 3 [kB 17 (decide (x2=64)),kB 16 (decide (x2=64)),kB 15 (decide (x2=64))] ?_);rcases Q1 h with ⟨hp,h⟩ | ⟨hp,h⟩
    ·refine K0 17 true (decide_eq_true hp) (m0 4 [kB 21 true,kU 20,kU 19,kU 18] (B0 ?_));cases h;exact fun a w hs=>(jsN (hs.sb 0))
    ·refine K0 17 false (decide_eq_false hp) (m0 1 [kT 18 a0] ?_);obtain ⟨x3,hx,h⟩:=bind_some h;refine P0 (H':=H) (some 19) (vI .u8 x3) (Abs.run_byt (t:=9) (x:=.tmp 18) (y:=.const (vI .i64 0)) (s:=a0) (k:=.i64) (i:=0) (by kernel_rfl) (by kernel_rfl) (by kernel_rfl) (by kernel_rfl) hx) (m0 2 [kB 21 (decide (x3=46)),kB 20 (decide (x3=46))] (B0 ?_));cases h;exact fun a w hs=>(jsN (hs.sb 0))
 ·clear hx;rcases Q1 h with ⟨hp,h⟩ | ⟨hp,h⟩
  ·refine D0 21 true hp (E0 (A0 (C0 (m0 1 [kB 2 false] (B0 (o0 (I0 ?_)))))));cases h;exact fun a w hs=>sqR (rtR (rS hs))
  ·refine D0 21 false (b_not hp) (F0 (G0 (o0 (A0 (A0 (C0 (m0 3 [kI 24 0,kI 23 (a0.size:Int),kT 22 a0] (B0 (o0 ?_)))))))));refine J0 0 ?_;obtain ⟨o,hl,h⟩:=bind_some h;rcases o with v24_10 | r
   ·try dsimp only at h
    refine S0 (z87 (L:=L) (E:=E) (m:=m) (H:=H)) (L.ok hl) 0 ?_;clear hl;refine fun a w hs=>bkE ((o0 ?_ a w hs));refine A0 (C0 (m0 1 [kB 2 true] (B0 (o0 (I0 ?_)))));cases h;exact fun a w hs=>rtR (rS hs)
   ·try dsimp only at h
    refine R0 (z87 (L:=L) (E:=E) (m:=m) (H:=H)) (L.ok hl) 0 ?_;cases h;exact fun a w hq=>bkR (sqR (rtR hq))
def g8:Bool→Value
 | r0=>(vB r0)
def X8 (H:AH):Bool→AH:=fun _=>H
noncomputable def B71:Code:=(Tryz.f71.body).getD .skip
noncomputable def N6 (_L:LC) (rec_sort_shaped:AH→Int→Int→ByteArray→Sl3→Option Bool) (H:AH) (_a0_0 _a0_1:Int) (_a0_2:ByteArray) (a0_3:Sl3):(Bool×Int)→Option (Lp (Bool×Int) Bool):=fun (v3_5,v82_6) =>
 if v82_6<(a0_3.n:Int) then
  Option.bind (α:=Bool) (
   (idxA 4 a0_3 v82_6).bind fun p8 => (rd (deI .i64) H (Addr.add p8 0)).bind fun x9_0 => (rd (deI .i64) H (Addr.add p8 1)).bind fun x9_1 => (rd deS H (Addr.add p8 2)).bind fun x9_2 => (rd deSl H (Addr.add p8 3)).bind fun x9_3 => if v3_5=true then
    (rec_sort_shaped H x9_0 x9_1 x9_2 x9_3).bind fun x10 => some x10
   else
    some false) fun v3_7 =>
  some (.next (v3_7,(IntKind.i64.wrap (v82_6+1))))
 else
  some (.brk (v3_5,v82_6))
def zdx (_L:LC) (_rec_sort_shaped:AH→Int→Int→ByteArray→Sl3→Option Bool) (_H:AH) (a0_0 a0_1:Int) (a0_2:ByteArray) (a0_3:Sl3):(Bool×Int)→KN×Lcs:=fun (v3_5,v82_6)=>([kB 3 v3_5,kI 82 v82_6,kS 80 a0_3,kI 81 (a0_3.n:Int)],[some (25,[(vI .i64 a0_0),(vI .i64 a0_1),(vS a0_2),(Sl3.v a0_3)])])
noncomputable def q9 (L:LC) (rec_sort_shaped:AH→Int→Int→ByteArray→Sl3→Option Bool) (H:AH) (a0_0 a0_1:Int) (a0_2:ByteArray) (a0_3:Sl3):Option Bool :=
 Option.bind (α:=Bool) (
  Option.bind (α:=Bool) (
   if a0_0=1 then
    some true
   else
    some (decide (a0_0=2))) fun v8_2 =>
  if v8_2=true then
   if a0_1=0 then
    if (a0_2.toList == (⟨#[]⟩:ByteArray).toList)=true then
     some (decide ((a0_3.n:Int)=0))
    else
     some false
   else
    some false
  else
   if a0_0=3 then
    if a0_1≥1 then
     if a0_1≤4096 then
      if (a0_2.toList == (⟨#[]⟩:ByteArray).toList)=true then
       some (decide ((a0_3.n:Int)=0))
      else
       some false
     else
      some false
    else
     some false
   else
    if a0_0=4 then
     if a0_1=0 then
      if (a0_2.toList == (⟨#[]⟩:ByteArray).toList)=true then
       some (decide ((a0_3.n:Int)=2))
      else
       some false
     else
      some false
    else
     Option.bind (α:=Bool) (
      if a0_0=5 then
       some true
      else
       some (decide (a0_0=6))) fun v62_3 =>
     if v62_3=true then
      if a0_1=0 then
       (zm L a0_2).bind fun x4 => if x4=true then
        some (decide ((a0_3.n:Int)=0))
       else
        some false
      else
       some false
     else
      some false) fun v3_1 =>
 (L.run (N6 L rec_sort_shaped H a0_0 a0_1 a0_2 a0_3) (v3_1,0)).bind fun o=>match o with
 | .inl (v3_11,_) =>
  some v3_11
 | .inr r=>some r
noncomputable def U5 (L:LC) (n:Nat):(AH→Int→Int→ByteArray→Sl3→Option Bool):=Nat.rec (motive:=fun _=>(AH→Int→Int→ByteArray→Sl3→Option Bool)) (fun _ _ _ _ _=>none) (fun _ p=>q9 L p) n
noncomputable def z8w (L:LC) (H:AH) (a0_0 a0_1:Int) (a0_2:ByteArray) (a0_3:Sl3):Option Bool:=(U5 L L.fuel) H a0_0 a0_1 a0_2 a0_3
theorem z5r {E m L rec_sort_shaped H a0_0 a0_1 a0_2 a0_3} (hrec_sort_shaped:∀(m:Nat) (H:AH) (a0_0 a0_1:Int) (a0_2:ByteArray) (a0_3:Sl3) (r:Bool),rec_sort_shaped H a0_0 a0_1 a0_2 a0_3=some r→CallS Tryz.prog (NE.plain 1000) m 71 #[(vA #[(vI .i64 a0_0),(vI .i64 a0_1),(vS a0_2),(Sl3.v a0_3)])] H (g8 r) (X8 H r)):LoopF Tryz.prog (NE.plain 1000) m E Tryz.f71 ((cfst (csnd (cfst (csnd (csnd (csnd B71))))))) (zdx L rec_sort_shaped H a0_0 a0_1 a0_2 a0_3) (fun _=>H) 1 g8 (X8 H) (N6 L rec_sort_shaped H a0_0 a0_1 a0_2 a0_3):=by
 rintro ⟨v3_5,v82_6⟩ o h
 unfold N6 at h;try dsimp only at h
 refine A0 (C0 (m0 1 [kB 83 (decide (v82_6<(a0_3.n:Int)))] (B0 (o0 (A0 ?_)))));rcases Q1 h with ⟨hp,h⟩ | ⟨hp,h⟩
 ·refine D0 83 true (decide_eq_true hp) (E0 (G0 (o0 ?_)));obtain ⟨v3_7,hx,h⟩:=bind_some h;refine A0 ?_;refine A1 ([kB 3 v3_7,kS 80 a0_3,kI 81 (a0_3.n:Int),kI 82 v82_6]) ([some (25,[(vI .i64 a0_0),(vI .i64 a0_1),(vS a0_2),(Sl3.v a0_3)])]) H ?_ (fun a w hs=>o0 ?_ a w hs)
  ·clear h; rename _=>h;refine J0 2 (A0 (C0 ?_));obtain ⟨p8,hx,h⟩:=bind_some h;refine O0 84 23 25 (.tmp 80) (.tmp 82) hx ?_;obtain ⟨x9_0,hx0,h⟩:=bind_some h;obtain ⟨x9_1,hx1,h⟩:=bind_some h;obtain ⟨x9_2,hx2,h⟩:=bind_some h;obtain ⟨x9_3,hx3,h⟩:=bind_some h;refine RS.la 85 25 (.tmp 84) 4 (P1 (O1 hx0 S1) (P1 (O1 hx1 S1) (P1 (O1 hx2 T1) (P1 (O1 hx3 R1) U1)))) (Q0 2 [kL 5 1 0] ([some (25,[(vI .i64 a0_0),(vI .i64 a0_1),(vS a0_2),(Sl3.v a0_3)]),some (25,[(vI .i64 x9_0),(vI .i64 x9_1),(vS x9_2),(Sl3.v x9_3)])]) (B0 (o0 (C0 (m0 2 [kB 87 v3_5,kB 86 v3_5] ?_)))));rcases Q1 h with ⟨hp,h⟩ | ⟨hp,h⟩
   ·refine K0 87 true hp (m0 1 [kA 88 #[(vI .i64 x9_0),(vI .i64 x9_1),(vS x9_2),(Sl3.v x9_3)]] ?_);obtain ⟨x10,hx,h⟩:=bind_some h;refine N0 (some 89) (v:=(vB x10)) 71 _ (hrec_sort_shaped _ _ _ _ _ _ _ hx) (m0 2 [kB 3 x10,kB 90 x10] (B0 ?_));cases h;exact fun a w hs=>bkN ((jsN (hs.sb 1)))
   ·refine K0 87 false (b_not hp) (m0 4 [kB 3 false,kB 90 false,kU 89,kU 88] (B0 ?_));cases h;exact fun a w hs=>bkN ((jsN (hs.sb 1)))
  ·clear hx;refine C0 (m0 2 [kI 82 (IntKind.i64.wrap (v82_6+1)),kI 91 (IntKind.i64.wrap (v82_6+1))] (B0 ?_));cases h;exact fun a w hs=>lsN rfl (hs.sb 1)
 ·refine D0 83 false (decide_eq_false hp) (F0 (WS.ex 1 ?_));cases h;exact fun a w hs=>sqE (lsB rfl (hs.sb 1))
theorem zbq {L:LC} {rec_sort_shaped:AH→Int→Int→ByteArray→Sl3→Option Bool} (hrec_sort_shaped:∀(m:Nat) (H:AH) (a0_0 a0_1:Int) (a0_2:ByteArray) (a0_3:Sl3) (r:Bool),rec_sort_shaped H a0_0 a0_1 a0_2 a0_3=some r→CallS Tryz.prog (NE.plain 1000) m 71 #[(vA #[(vI .i64 a0_0),(vI .i64 a0_1),(vS a0_2),(Sl3.v a0_3)])] H (g8 r) (X8 H r)) {m:Nat} {H:AH} {a0_0 a0_1:Int} {a0_2:ByteArray} {a0_3:Sl3} {r:Bool} (h:q9 L rec_sort_shaped H a0_0 a0_1 a0_2 a0_3=some r) :
  CallS Tryz.prog (NE.plain 1000) m 71 #[(vA #[(vI .i64 a0_0),(vI .i64 a0_1),(vS a0_2),(Sl3.v a0_3)])] H (g8 r) (X8 H r):=by
 refine CallS.mk (args:=[(vA #[(vI .i64 a0_0),(vI .i64 a0_1),(vS a0_2),(Sl3.v a0_3)])]) Tryz.func71 (B:=B71) (by kernel_rfl) (fun E _=>?_);unfold q9 at h;refine A0 (C0 (Q0 2 [kB 2 false,kL 1 0 0] ([some (25,[(vI .i64 a0_0),(vI .i64 a0_1),(vS a0_2),(Sl3.v a0_3)])]) (B0 (o0 (A0 (C0 (m0 1 [kB 3 false] (B0 (o0 ?_)))))))));obtain ⟨v3_1,hx,h⟩:=bind_some h;refine A0 ?_;refine A1 ([kB 3 v3_1,kL 1 0 0]) ([some (25,[(vI .i64 a0_0),(vI .i64 a0_1),(vS a0_2),(Sl3.v a0_3)])]) H ?_ (fun a w hs=>o0 ?_ a w hs)
 ·clear h; rename _=>h;refine A0 (C0 (m0 2 [kI 7 a0_0,kL 6 0 0] (B0 (o0 (J0 0 ?_)))));obtain ⟨v8_2,hx,h⟩:=bind_some h;refine A0 ?_;refine A1 ([kB 8 v8_2,kL 1 0 0,kB 3 false,kI 7 a0_0]) ([some (25,[(vI .i64 a0_0),(vI .i64 a0_1),(vS a0_2),(Sl3.v a0_3)])]) H ?_ (fun a w hs=>o0 ?_ a w hs)
  ·clear h; rename _=>h;refine A0 (C0 (m0 2 [kB 8 (decide (a0_0=1)),kB 9 (decide (a0_0=1))] (B0 (o0 ?_))));rcases Q1 h with ⟨hp,h⟩ | ⟨hp,h⟩
   ·refine D0 8 true (decide_eq_true hp) (E0 (G0 ?_));cases h;exact fun a w hs=>(jsN (hs.sb 1))
   ·refine D0 8 false (decide_eq_false hp) (F0 (C0 (m0 2 [kB 8 (decide (a0_0=2)),kB 10 (decide (a0_0=2))] (B0 ?_))));cases h;exact fun a w hs=>(jsN (hs.sb 1))
  ·clear hx;rcases Q1 h with ⟨hp,h⟩ | ⟨hp,h⟩
   ·refine D0 8 true hp (E0 (C0 (m0 4 [kB 14 (decide (a0_1=0)),kB 13 (decide (a0_1=0)),kI 12 a0_1,kL 11 0 1] ?_)));rcases Q1 h with ⟨hp,h⟩ | ⟨hp,h⟩
    ·refine K0 14 true (decide_eq_true hp) (m0 5 [kB 19 (a0_2.toList == (⟨#[]⟩:ByteArray).toList),kB 18 (a0_2.toList == (⟨#[]⟩:ByteArray).toList),kB 17 (a0_2.toList == (⟨#[]⟩:ByteArray).toList),kT 16 a0_2,kL 15 0 2] ?_);rcases Q1 h with ⟨hp,h⟩ | ⟨hp,h⟩
     ·refine K0 19 true hp (m0 6 [kB 3 (decide ((a0_3.n:Int)=0)),kB 24 (decide ((a0_3.n:Int)=0)),kB 23 (decide ((a0_3.n:Int)=0)),kI 22 (a0_3.n:Int),kS 21 a0_3,kL 20 0 3] (B0 ?_));cases h;exact fun a w hs=>bkN ((jsN (hs.sb 1)))
     ·refine K0 19 false (b_not hp) (m0 6 [kB 3 false,kB 24 false,kU 23,kU 22,kU 21,kU 20] (B0 ?_));cases h;exact fun a w hs=>bkN ((jsN (hs.sb 1)))
    ·refine K0 14 false (decide_eq_false hp) (m0 11 [kB 3 false,kB 24 false,kU 23,kU 22,kU 21,kU 20,kB 19 false,kB 18 false,kU 17,kU 16,kU 15] (B0 ?_));cases h;exact fun a w hs=>bkN ((jsN (hs.sb 1)))
   ·refine D0 8 false (b_not hp) (F0 (A0 (C0 (m0 2 [kB 25 (decide (a0_0=3)),kB 26 (decide (a0_0=3))] (B0 (o0 ?_))))));rcases Q1 h with ⟨hp,h⟩ | ⟨hp,h⟩
    ·refine D0 25 true (decide_eq_true hp) (E0 (C0 (m0 4 [kB 30 (decide (a0_1≥1)),kB 29 (decide (a0_1≥1)),kI 28 a0_1,kL 27 0 1] ?_)));rcases Q1 h with ⟨hp,h⟩ | ⟨hp,h⟩
     ·refine K0 30 true (decide_eq_true hp) (m0 5 [kB 35 (decide (a0_1≤4096)),kB 34 (decide (a0_1≤4096)),kB 33 (decide (a0_1≤4096)),kI 32 a0_1,kL 31 0 1] ?_);rcases Q1 h with ⟨hp,h⟩ | ⟨hp,h⟩
      ·refine K0 35 true (decide_eq_true hp) (m0 5 [kB 40 (a0_2.toList == (⟨#[]⟩:ByteArray).toList),kB 39 (a0_2.toList == (⟨#[]⟩:ByteArray).toList),kB 38 (a0_2.toList == (⟨#[]⟩:ByteArray).toList),kT 37 a0_2,kL 36 0 2] ?_);rcases Q1 h with ⟨hp,h⟩ | ⟨hp,h⟩
       ·refine K0 40 true hp (m0 6 [kB 3 (decide ((a0_3.n:Int)=0)),kB 45 (decide ((a0_3.n:Int)=0)),kB 44 (decide ((a0_3.n:Int)=0)),kI 43 (a0_3.n:Int),kS 42 a0_3,kL 41 0 3] (B0 ?_));cases h;exact fun a w hs=>bkN ((jsN (hs.sb 1)))
       ·refine K0 40 false (b_not hp) (m0 6 [kB 3 false,kB 45 false,kU 44,kU 43,kU 42,kU 41] (B0 ?_));cases h;exact fun a w hs=>bkN ((jsN (hs.sb 1)))
      ·refine K0 35 false (decide_eq_false hp) (m0 11 [kB 3 false,kB 45 false,kU 44,kU 43,kU 42,kU 41,kB 40 false,kB 39 false,kU 38,kU 37,kU 36] (B0 ?_));cases h;exact fun a w hs=>bkN ((jsN (hs.sb 1)))
     ·refine K0 30 false (decide_eq_false hp) (m0 16 [kB 3 false,kB 45 false,kU 44,kU 43,kU 42,kU 41,kB 40 false,kB 39 false,kU 38,kU 37,kU 36,kB 35 false,kB 34 false,kU 33,kU 32,kU 31] (B0 ?_));cases h;exact fun a w hs=>bkN ((jsN (hs.sb 1)))
    ·refine D0 25 false (decide_eq_false hp) (F0 (A0 (C0 (m0 2 [kB 46 (decide (a0_0=4)),kB 47 (decide (a0_0=4))] (B0 (o0 ?_))))));rcases Q1 h with ⟨hp,h⟩ | ⟨hp,h⟩
     ·refine D0 46 true (decide_eq_true hp) (E0 (C0 (m0 4 [kB 51 (decide (a0_1=0)),kB 50 (decide (a0_1=0)),kI 49 a0_1,kL 48 0 1] ?_)));rcases Q1 h with ⟨hp,h⟩ | ⟨hp,h⟩
      ·refine K0 51 true (decide_eq_true hp) (m0 5 [kB 56 (a0_2.toList == (⟨#[]⟩:ByteArray).toList),kB 55 (a0_2.toList == (⟨#[]⟩:ByteArray).toList),kB 54 (a0_2.toList == (⟨#[]⟩:ByteArray).toList),kT 53 a0_2,kL 52 0 2] ?_);rcases Q1 h with ⟨hp,h⟩ | ⟨hp,h⟩
       ·refine K0 56 true hp (m0 6 [kB 3 (decide ((a0_3.n:Int)=2)),kB 61 (decide ((a0_3.n:Int)=2)),kB 60 (decide ((a0_3.n:Int)=2)),kI 59 (a0_3.n:Int),kS 58 a0_3,kL 57 0 3] (B0 ?_));cases h;exact fun a w hs=>bkN ((jsN (hs.sb 1)))
       ·refine K0 56 false (b_not hp) (m0 6 [kB 3 false,kB 61 false,kU 60,kU 59,kU 58,kU 57] (B0 ?_));cases h;exact fun a w hs=>bkN ((jsN (hs.sb 1)))
      ·refine K0 51 false (decide_eq_false hp) (m0 11 [kB 3 false,kB 61 false,kU 60,kU 59,kU 58,kU 57,kB 56 false,kB 55 false,kU 54,kU 53,kU 52] (B0 ?_));cases h;exact fun a w hs=>bkN ((jsN (hs.sb 1)))
     ·refine D0 46 false (decide_eq_false hp) (F0 ?_);obtain ⟨v62_3,hx,h⟩:=bind_some h;refine A0 ?_;refine A1 ([kB 62 v62_3,kL 1 0 0,kB 3 false]) ([some (25,[(vI .i64 a0_0),(vI .i64 a0_1),(vS a0_2),(Sl3.v a0_3)])]) H ?_ (fun a w hs=>o0 ?_ a w hs)
      ·clear h; rename _=>h;refine A0 (C0 (m0 2 [kB 62 (decide (a0_0=5)),kB 63 (decide (a0_0=5))] (B0 (o0 ?_))));rcases Q1 h with ⟨hp,h⟩ | ⟨hp,h⟩
       ·refine D0 62 true (decide_eq_true hp) (E0 (G0 ?_));cases h;exact fun a w hs=>(jsN (hs.sb 1))
       ·refine D0 62 false (decide_eq_false hp) (F0 (C0 (m0 2 [kB 62 (decide (a0_0=6)),kB 64 (decide (a0_0=6))] (B0 ?_))));cases h;exact fun a w hs=>(jsN (hs.sb 1))
      ·clear hx;rcases Q1 h with ⟨hp,h⟩ | ⟨hp,h⟩
       ·refine D0 62 true hp (E0 (C0 (m0 4 [kB 68 (decide (a0_1=0)),kB 67 (decide (a0_1=0)),kI 66 a0_1,kL 65 0 1] ?_)));rcases Q1 h with ⟨hp,h⟩ | ⟨hp,h⟩
        ·refine K0 68 true (decide_eq_true hp) (m0 2 [kT 70 a0_2,kL 69 0 2] ?_);obtain ⟨x4,hx,h⟩:=bind_some h;refine N0 (some 71) (v:=(vB x4)) 25 _ (zcf hx) (m0 2 [kB 73 x4,kB 72 x4] ?_);rcases Q1 h with ⟨hp,h⟩ | ⟨hp,h⟩
         ·refine K0 73 true hp (m0 6 [kB 3 (decide ((a0_3.n:Int)=0)),kB 78 (decide ((a0_3.n:Int)=0)),kB 77 (decide ((a0_3.n:Int)=0)),kI 76 (a0_3.n:Int),kS 75 a0_3,kL 74 0 3] (B0 ?_));cases h;exact fun a w hs=>bkN ((jsN (hs.sb 1)))
         ·refine K0 73 false (b_not hp) (m0 6 [kB 3 false,kB 78 false,kU 77,kU 76,kU 75,kU 74] (B0 ?_));cases h;exact fun a w hs=>bkN ((jsN (hs.sb 1)))
        ·refine K0 68 false (decide_eq_false hp) (m0 11 [kB 3 false,kB 78 false,kU 77,kU 76,kU 75,kU 74,kB 73 false,kB 72 false,kU 71,kU 70,kU 69] (B0 ?_));cases h;exact fun a w hs=>bkN ((jsN (hs.sb 1)))
       ·refine D0 62 false (b_not hp) (F0 (G0 ?_));cases h;exact fun a w hs=>bkN ((jsN (hs.sb 1)))
 ·clear hx;refine A0 (A0 (C0 (m0 4 [kI 82 0,kI 81 (a0_3.n:Int),kS 80 a0_3,kL 79 0 3] (B0 (o0 (J0 1 ?_))))));obtain ⟨o,hl,h⟩:=bind_some h;rcases o with ⟨v3_11,v82_12⟩ | r
  ·try dsimp only at h
   refine S0 (z5r (L:=L) (E:=E) (m:=m) (H:=H) hrec_sort_shaped) (L.ok hl) 1 ?_;clear hl;refine fun a w hs=>bkE ((o0 ?_ a w hs));refine A0 (C0 (m0 2 [kB 2 v3_11,kB 92 v3_11] (B0 (o0 (I0 ?_)))));cases h;exact fun a w hs=>rtR (rS hs)
  ·try dsimp only at h
   refine R0 (z5r (L:=L) (E:=E) (m:=m) (H:=H) hrec_sort_shaped) (L.ok hl) 1 ?_;cases h;exact fun a w hq=>bkR (sqR (rtR hq))
theorem zcs {L:LC}:∀n,(∀(m:Nat) (H:AH) (a0_0 a0_1:Int) (a0_2:ByteArray) (a0_3:Sl3) (r:Bool),((U5 L n)) H a0_0 a0_1 a0_2 a0_3=some r→CallS Tryz.prog (NE.plain 1000) m 71 #[(vA #[(vI .i64 a0_0),(vI .i64 a0_1),(vS a0_2),(Sl3.v a0_3)])] H (g8 r) (X8 H r)):=by
 intro n;induction n with
 | zero=>exact (fun _ _ _ _ _ _ _ h=>(Option.some_ne_none _ h.symm).elim)
 | succ n ih=>exact (fun _ _ _ _ _ _ _ h=>zbq (L:=L) ih h)
theorem zh2 {L:LC} {m:Nat} {H:AH} {a0_0 a0_1:Int} {a0_2:ByteArray} {a0_3:Sl3} {r:Bool} (h:z8w L H a0_0 a0_1 a0_2 a0_3=some r) :
  CallS Tryz.prog (NE.plain 1000) m 71 #[(vA #[(vI .i64 a0_0),(vI .i64 a0_1),(vS a0_2),(Sl3.v a0_3)])] H (g8 r) (X8 H r) :=
 (zcs _) _ _ _ _ _ _ _ h
def zhi:Int→Value
 | r0=>(vI .i64 r0)
def zib (H:AH):Int→AH:=fun _=>H
noncomputable def B49:Code:=(Tryz.f49.body).getD .skip
noncomputable def z1v (L:LC) (H:AH) (a0_0 a0_1:Int) (a0_2:ByteArray) (a0_3:Sl3):Option Int :=
 (za7 L H a0_0 a0_1 a0_2 a0_3 1).bind fun (_,x2) => if x2=true then
  (z8w L H a0_0 a0_1 a0_2 a0_3).bind fun x3 => if x3=true then
   some 0
  else
   some 40
 else
  some 3
theorem zb8 {L:LC} {m:Nat} {H:AH} {a0_0 a0_1:Int} {a0_2:ByteArray} {a0_3:Sl3} {r:Int} (h:z1v L H a0_0 a0_1 a0_2 a0_3=some r) :
  CallS Tryz.prog (NE.plain 1000) m 49 #[(vA #[(vI .i64 a0_0),(vI .i64 a0_1),(vS a0_2),(Sl3.v a0_3)])] H (zhi r) (zib H r):=by
 refine CallS.mk (args:=[(vA #[(vI .i64 a0_0),(vI .i64 a0_1),(vS a0_2),(Sl3.v a0_3)])]) Tryz.func49 (B:=B49) (by kernel_rfl) (fun E _=>?_);unfold z1v at h;refine A0 (C0 (Q0 2 [kI 2 0,kL 1 0 0] ([some (25,[(vI .i64 a0_0),(vI .i64 a0_1),(vS a0_2),(Sl3.v a0_3)])]) (B0 (o0 (A0 (A0 (C0 (m0 1 [kA 6 #[(vI .i64 a0_0),(vI .i64 a0_1),(vS a0_2),(Sl3.v a0_3)]] ?_))))))));obtain ⟨⟨x1,x2⟩,hx,h⟩:=bind_some h;try dsimp only at h
 refine N0 (some 7) (v:=(Value.tuple #[(vI .i64 x1),(vB x2)])) 70 _ (zic hx) (m0 5 [kB 4 x2,kI 3 x1,kB 9 x2,kI 8 x1,(5,.val (Value.tuple #[(vI .i64 x1),(vB x2)]))] (B0 (o0 (A0 (C0 (m0 2 [kB 11 (!x2),kB 10 x2] (B0 (o0 ?_))))))));rcases Q1 h with ⟨hp,h⟩ | ⟨hp,h⟩
 ·refine D0 11 false (nb_not hp) (F0 (G0 (o0 (A0 (A0 (C0 (m0 1 [kA 12 #[(vI .i64 a0_0),(vI .i64 a0_1),(vS a0_2),(Sl3.v a0_3)]] ?_)))))));obtain ⟨x3,hx,h⟩:=bind_some h;refine N0 (some 13) (v:=(vB x3)) 71 _ (zh2 hx) (m0 1 [kB 14 (!x3)] (B0 (o0 ?_)));rcases Q1 h with ⟨hp,h⟩ | ⟨hp,h⟩
  ·refine D0 14 false (nb_not hp) (F0 (G0 (o0 (A0 (C0 (m0 1 [kI 2 0] (B0 (o0 (I0 ?_)))))))));cases h;exact fun a w hs=>rtR (rS hs)
  ·refine D0 14 true (W2 hp) (E0 (A0 (C0 (m0 1 [kI 2 40] (B0 (o0 (I0 ?_)))))));cases h;exact fun a w hs=>sqR (rtR (rS hs))
 ·refine D0 11 true (W2 hp) (E0 (A0 (C0 (m0 1 [kI 2 3] (B0 (o0 (I0 ?_)))))));cases h;exact fun a w hs=>sqR (rtR (rS hs))
def zdr:ByteArray→Value
 | r0=>(vS r0)
def zf6 (H:AH):ByteArray→AH:=fun _=>H
noncomputable def B83:Code:=(Tryz.f83.body).getD .skip
noncomputable def z5d (_L:LC) (a0:Int):Option ByteArray :=
 if a0<10 then
  (strC (⟨#[48,49,50,51,52,53,54,55,56,57,97,98,99,100,101,102,103,104,105,106,107,108,109,110,111,112,113,114,115,116,117,118,119,120,121,122]⟩:ByteArray) (some a0) (some (IntKind.i64.wrap (a0+1)))).bind fun s1 => some s1
 else
  none
theorem zf5 {L:LC} {m:Nat} {H:AH} {a0:Int} {r:ByteArray} (h:z5d L a0=some r) :
  CallS Tryz.prog (NE.plain 1000) m 83 #[(vI .i64 a0)] H (zdr r) (zf6 H r):=by
 refine CallS.mk (args:=[(vI .i64 a0)]) Tryz.func83 (B:=B83) (by kernel_rfl) (fun E _=>?_);unfold z5d at h;refine A0 (C0 (m0 1 [kT 2 (⟨#[]⟩:ByteArray)] (B0 (o0 (A0 (A0 (C0 (m0 2 [kB 4 (decide (a0<10)),kI 3 a0] (B0 ?_)))))))));refine o0 ?_;rcases Q1 h with ⟨hp,h⟩ | ⟨hp,h⟩
 ·refine D0 4 true (decide_eq_true hp) (E0 (A0 (C0 (m0 3 [kI 7 (IntKind.i64.wrap (a0+1)),kI 6 a0,kI 5 a0] ?_))));obtain ⟨s1,hx,h⟩:=bind_some h;refine P0 (H':=H) (some 8) (vS s1) (Abs.run_strC (t:=9) (x:=.const (vS (⟨#[48,49,50,51,52,53,54,55,56,57,97,98,99,100,101,102,103,104,105,106,107,108,109,110,111,112,113,114,115,116,117,118,119,120,121,122]⟩:ByteArray))) (lo:=(some (.tmp 5))) (hi:=(some (.tmp 7))) (s:=(⟨#[48,49,50,51,52,53,54,55,56,57,97,98,99,100,101,102,103,104,105,106,107,108,109,110,111,112,113,114,115,116,117,118,119,120,121,122]⟩:ByteArray)) (k1:=.i64) (k2:=.i64) (by kernel_rfl) (by kernel_rfl) (by kernel_rfl) (by kernel_rfl) (by kernel_rfl) hx) (m0 1 [kT 2 s1] (B0 (o0 (I0 ?_))));cases h;exact fun a w hs=>sqR (rtR (rS hs))
 ·refine D0 4 false (decide_eq_false hp) (F0 ?_);cases h
def za2:(ByteArray×AH)→Value
 | (r0,_)=>(vS r0)
def zav (_:AH):(ByteArray×AH)→AH:=fun r=>r.2
noncomputable def B79:Code:=(Tryz.f79.body).getD .skip
noncomputable def z27 (L:LC) (_m:Nat) (H:AH) (a0 a1:Int):Option (ByteArray×AH) :=
 if a1=10 then
  if 0≤a0 then
   if a0<100 then
    (z5d L a0).bind fun x1 => some (x1,H)
   else
    none
  else
   none
 else
  none
theorem zai {L:LC} {m:Nat} {H:AH} {a0 a1:Int} {r:(ByteArray×AH)} (h:z27 L m H a0 a1=some r) :
  CallS Tryz.prog (NE.plain 1000) m 79 #[(vI .i64 a0),(vI .i64 a1)] H (za2 r) (zav H r):=by
 refine CallS.mk (args:=[(vI .i64 a0),(vI .i64 a1)]) Tryz.func79 (B:=B79) (by kernel_rfl) (fun E _=>?_);unfold z27 at h;refine A0 (C0 (m0 1 [kT 4 (⟨#[]⟩:ByteArray)] (B0 (o0 (A0 (A0 (C0 (m0 2 [kB 11 (decide (a1=10)),kI 10 a1] (B0 ?_)))))))));refine o0 ?_;rcases Q1 h with ⟨hp,h⟩ | ⟨hp,h⟩
 ·refine D0 11 true (decide_eq_true hp) (E0 (A0 (A0 (C0 (m0 3 [kB 14 (decide (0≤a0)),kB 13 (decide (0≤a0)),kI 12 a0] ?_)))));rcases Q1 h with ⟨hp,h⟩ | ⟨hp,h⟩
  ·refine K0 14 true (decide_eq_true hp) (m0 3 [kB 17 (decide (a0<100)),kB 16 (decide (a0<100)),kI 15 a0] (B0 (o0 ?_)));rcases Q1 h with ⟨hp,h⟩ | ⟨hp,h⟩
   ·refine D0 17 true (decide_eq_true hp) (E0 (A0 (C0 (m0 1 [kI 18 a0] ?_))));obtain ⟨x1,hx,h⟩:=bind_some h;refine N0 (some 19) (v:=(vS x1)) 83 _ (zf5 hx) (m0 1 [kT 4 x1] (B0 (o0 (I0 ?_))));cases h;exact fun a w hs=>sqR (sqR (rtR (rS hs)))
   ·refine D0 17 false (decide_eq_false hp) (F0 ?_);cases h
  ·refine K0 14 false (decide_eq_false hp) ?_;cases h
 ·refine D0 11 false (decide_eq_false hp) (F0 ?_);cases h
def zbr:(ByteArray×AH)→Value
 | (r0,_)=>(vS r0)
def zcp (_:AH):(ByteArray×AH)→AH:=fun r=>r.2
noncomputable def B77:Code:=(Tryz.f77.body).getD .skip
noncomputable def z43 (L:LC) (m:Nat) (H:AH) (a0:Int):Option (ByteArray×AH) :=
 (z27 L m H a0 10).bind fun (x1,H2) => some (x1,H2)
theorem zcr {L:LC} {m:Nat} {H:AH} {a0:Int} {r:(ByteArray×AH)} (h:z43 L m H a0=some r) :
  CallS Tryz.prog (NE.plain 1000) m 77 #[(vI .i64 a0)] H (zbr r) (zcp H r):=by
 refine CallS.mk (args:=[(vI .i64 a0)]) Tryz.func77 (B:=B77) (by kernel_rfl) (fun E _=>?_);unfold z43 at h;refine A0 (C0 (m0 1 [kT 2 (⟨#[]⟩:ByteArray)] (B0 (o0 (A0 (C0 (m0 1 [kI 3 a0] ?_)))))));obtain ⟨⟨x1,H2⟩,hx,h⟩:=bind_some h;try dsimp only at h
 refine N0 (some 4) (v:=(vS x1)) 79 _ (zai hx) (m0 1 [kT 2 x1] (B0 (o0 (I0 ?_))));cases h;exact fun a w hs=>rtR (rS hs)
def zfe:(ByteArray×AH)→Value
 | (r0,_)=>(vS r0)
def zfx (_:AH):(ByteArray×AH)→AH:=fun r=>r.2
noncomputable def B72:Code:=(Tryz.f72.body).getD .skip
noncomputable def z6p (L:LC) (m:Nat) (H:AH) (a0:Int):Option (ByteArray×AH) :=
 (z43 L m H a0).bind fun (x1,H2) => some (x1,H2)
theorem zg9 {L:LC} {m:Nat} {H:AH} {a0:Int} {r:(ByteArray×AH)} (h:z6p L m H a0=some r) :
  CallS Tryz.prog (NE.plain 1000) m 72 #[(vI .i64 a0)] H (zfe r) (zfx H r):=by
 refine CallS.mk (args:=[(vI .i64 a0)]) Tryz.func72 (B:=B72) (by kernel_rfl) (fun E _=>?_);unfold z6p at h;refine A0 (C0 (m0 1 [kT 2 (⟨#[]⟩:ByteArray)] (B0 (o0 (A0 (C0 (m0 1 [kI 3 a0] ?_)))))));obtain ⟨⟨x1,H2⟩,hx,h⟩:=bind_some h;try dsimp only at h
 refine N0 (some 4) (v:=(vS x1)) 77 _ (zcr hx) (m0 1 [kT 2 x1] (B0 (o0 (I0 ?_))));cases h;exact fun a w hs=>rtR (rS hs)
end Go.Proofs.YtccbilfbhecdaaaGreatDoor
