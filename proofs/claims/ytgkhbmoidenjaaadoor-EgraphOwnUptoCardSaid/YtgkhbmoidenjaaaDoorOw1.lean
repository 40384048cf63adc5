/- Parts of the proof: an abstract interpreter of the loaded program and its soundness, printed functions, the law's own texts; part 1. No condition. -/
import GoSem.Dispatch
import GoSem.Machine.Return
import Derived.Control
import Derived.Orders
import Derived.Laws.Sem
import Derived.Laws.World
import Derived.Laws.Cells
import Derived.Laws.Slices
import Derived.Deep.AppendSrc
import Derived.Deep.Upon
import Derived.Laws.IdiomCopy
import Derived.Laws.BytesString
import Derived.Lib.BytesEntry
import Derived.LoopN
import Derived.Scope
import Derived.Recover
import Derived.ProofKit
import Derived.LaidLaws
import Derived.Deep.DeepLaidRun
namespace Go.Abs
structure Blk where
 obj:Obj
 opn:Bool
 esz:Nat
 ro:Bool
inductive Tr (α:Type) where
 | nil
 | node (v:Option α) (l r:Tr α)
def Tr.get {α:Type}:Tr α→Nat→Option α
 | .nil,_=>none
 | .node v l r,i=>bif Nat.beq i 0 then v else bif Nat.beq (i % 2) 1 then l.get (i / 2) else r.get (i / 2 - 1)
def Tr.set {α:Type}:Nat→Tr α→Nat→α→Tr α
 | 0,t,_,_=>t
 | n+1,.nil,i,b =>
  bif Nat.beq i 0 then .node (some b) .nil .nil
  else bif Nat.beq (i % 2) 1 then .node none (Tr.set n .nil (i / 2) b) .nil
  else .node none .nil (Tr.set n .nil (i / 2 - 1) b)
 | n+1,.node v l r,i,b =>
  bif Nat.beq i 0 then .node (some b) l r
  else bif Nat.beq (i % 2) 1 then .node v (Tr.set n l (i / 2) b) r
  else .node v l (Tr.set n r (i / 2 - 1) b)
structure AH where
 next:Nat
 mem:Tr Blk
def AH.get (H:AH) (i:Nat):Option Blk:=H.mem.get i
def AH.put (H:AH) (i:Nat) (b:Blk):AH:={ H with mem:=H.mem.set (i+1) i b }
def AH.push (H:AH) (b:Blk):AH:={ next:=H.next+1,mem:=H.mem.set (H.next+1) H.next b }
def AH.cell (H:AH) (a:Addr):Option Value :=
 match H.get a.block,a.spot with
 | some { obj:=.cells c _ _,.. },none=>c[a.off]?
 | _,_=>none
def AH.setCell (m:Nat) (H:AH) (a:Addr) (v:Value):Option AH :=
 match H.get a.block,a.spot with
 | some { obj:=.cells c e f,opn,esz,ro:=false },none =>
  bif Nat.ble m a.block&&Nat.blt a.off c.size then some (H.put a.block { obj:=.cells (c.setIfInBounds a.off v) e f,opn,esz,ro:=false }) else none
 | _,_=>none
def one:Value→Bool
 | .agg _ | .tuple _=>false
 | _=>true
def blkOf:Obj→Option Blk
 | .cells c e (0,0)=>some { obj:=.cells c e (0,0),opn:=false,esz:=0,ro:=false }
 | .map es n=>some { obj:=.map es n,opn:=false,esz:=0,ro:=false }
 | .stringIter s n=>some { obj:=.stringIter s n,opn:=false,esz:=0,ro:=false }
 | .mapIter a b c d=>some { obj:=.mapIter a b c d,opn:=false,esz:=0,ro:=false }
 | _=>none
def isRef:Obj→Bool
 | .map .. | .stringIter .. | .mapIter ..=>true
 | _=>false
def arun {α:Type} (P:Program) (m:Nat):Sem α→AH→Option (α×AH)
 | .pure a,H=>some (a,H)
 | .load _ a k,H=>match H.cell a with
  | some v=>arun P m (k v) H
  | none=>none
 | .store _ a v k,H=>bif one v then (match H.setCell m a v with | some H'=>arun P m k H' | none=>none) else none
 | .new o k,H=>match blkOf o with
  | some b=>arun P m (k H.next) (H.push b)
  | none=>none
 | .getObj r k,H=>match H.get r with
  | some b=>bif isRef b.obj then arun P m (k b.obj) H else none
  | none=>none
 | .setObj r o k,H=>match H.get r with
  | some b=>bif Nat.ble m r&&isRef b.obj&&isRef o&&!b.ro then arun P m k (H.put r { b with obj:=o }) else none
  | none=>none
 | .program k,H=>arun P m (k P) H
 | .mark _ k,H=>arun P m k H
 | .choose q k,H=>bif q.forced then arun P m (k 0) H else none
 | _,_=>none
def peval {α:Type} (P:Program):Sem α→Option α
 | .pure a=>some a
 | .program k=>peval P (k P)
 | .mark _ k=>peval P k
 | _=>none
def flat:Nat→Value→Bool
 | _,.complex ..=>false
 | _,.bool _ | _,.int .. | _,.float .. | _,.string _ | _,.nilFunc | _,.nilIface=>true
 | _,.pointer a=>a.isNone
 | _,.slice a _ _=>a.isNone
 | _,.map r=>r.isNone
 | _,.chan r=>r.isNone
 | n+1,.func _ f c=>f.all (flat n)&&c.all (flat n)
 | n+1,.iface _ v=>flat n v
 | n+1,.agg cs=>cs.all (flat n)
 | n+1,.tuple cs=>cs.all (flat n)
 | 0,_=>false
def depth:Nat:=8
def OPEN:Nat:=9223372036854775808
def asVal (H:AH):Option Next→Option (Value×AH)
 | some (.value v)=>bif flat depth v then some (v,H) else none
 | some .skip=>some (undef,H)
 | _=>none
def asNext:Option (Next×AH)→Option (Value×AH)
 | some (.value v,H)=>some (v,H)
 | some (.skip,H)=>some (undef,H)
 | _=>none
def bnd (y dflt:Nat):Option Value→Option Nat
 | none=>some dflt
 | some (.int _ (.ofNat n))=>bif Nat.ble n y then some n else none
 | _=>none
def abounds (len cap:Nat) (lo hi mx:Option Value):Option (Nat×Nat×Nat) :=
 match bnd cap cap mx with
 | some k=>bif mx.isSome&&hi.isNone then none else match bnd k len hi with
  | some h=>match bnd h 0 lo with
   | some l=>some (l,h,k)
   | none=>none
  | none=>none
 | none=>none
def isCells:Obj→Bool
 | .cells ..=>true
 | _=>false
def aSlice (P:Program) (t:TypeId) (a:Addr) (len cap:Nat) (lo hi mx:Option Value) (H:AH):Option Value :=
 match P.underlying t with
 | some (.slice elem)=>match P.info? elem with
  | some i =>
   bif Nat.beq cap OPEN then
    match abounds len len lo hi mx with
    | some (l,h,k) =>
     match mx with
     | some _=>bif Nat.blt k OPEN then some (.slice (if k=l then some a else some (a.add (l*i.size))) (h - l) (k - l)) else none
     | none=>match H.get a.block with
      | some b=>bif b.opn&&Nat.beq b.esz i.size&&isCells b.obj then some (.slice (some (a.add (l*i.size))) (h - l) OPEN) else none
      | none=>none
    | none=>none
   else
    match abounds len cap lo hi mx with
    | some (l,h,k)=>bif Nat.blt k OPEN&&Nat.ble h k then some (.slice (if k=l then some a else some (a.add (l*i.size))) (h - l) (k - l)) else none
    | none=>none
  | none=>none
 | _=>none
def aSliceArr (P:Program) (t:TypeId) (a:Addr) (lo hi mx:Option Value):Option Value :=
 match P.underlying t with
 | some (.array n elem)=>match P.info? elem with
  | some i=>match abounds n n lo hi mx with
   | some (l,h,k)=>bif Nat.blt n OPEN&&Nat.ble k n then some (.slice (some (if k=l then a else a.add (l*i.size))) (h - l) (k - l)) else none
   | none=>none
  | none=>none
 | _=>none
def rdCells (H:AH) (a:Addr):Nat→Nat→Option (List Value)
 | _,0=>some []
 | i,n+1=>match H.cell (a.add i),rdCells H a (i+1) n with
  | some v,some l=>some (v :: l)
  | _,_=>none
def wrCells (m:Nat) (a:Addr):Nat→List Value→AH→Option AH
 | _,[],H=>some H
 | i,v :: l,H=>bif one v then (match H.setCell m (a.add i) v with | some H'=>wrCells m a (i+1) l H' | none=>none) else none
def grown (H:AH) (e size bytes need:Nat) (cs:List Value):Option (Value×AH) :=
 bif Nat.ble ((2*need+1000)*bytes) 281474976710656&&Nat.ble need 281474976710656 then
  some (.slice (some ⟨H.next,0,none⟩) need OPEN,H.push { obj:=.cells cs.toArray e (0,0),opn:=true,esz:=size,ro:=false })
 else none
def dead:Blk:={ obj:=.deferred none,opn:=false,esz:=0,ro:=true }
def zflat (P:Program) (t:TypeId):Bool :=
 match P.info? t with
 | some i=>match i.zero with
  | some z=>flat depth z
  | none=>true
 | none=>true
def zelem (P:Program) (t:TypeId):Bool :=
 match P.underlying t with
 | some (.slice e)=>zflat P e
 | some (.map _ e)=>zflat P e
 | _=>true
def zsize (i:TypeInfo):Bool :=
 match i.zero with
 | some z=>Nat.beq z.cells.size i.size
 | none=>false
def aSrc (P:Program) (xt e:TypeId) (i:TypeInfo) (x:Value) (H:AH):Option (Nat×List Value) :=
 match P.underlying xt,x with
 | some (.slice _),.slice (some b) n _=>match rdCells H b 0 (n*i.size) with
  | some l=>bif l.all one then some (n,l) else none
  | none=>none
 | some (.slice _),.slice none n _=>bif Nat.beq n 0 then some (0,[]) else none
 | some .string,.string s=>bif Nat.beq i.size 1 then some (s.size,s.data.toList.map fun b=>.int .u8 b.toNat) else none
 | some (.int _),.int _ (.ofNat n)=>bif Nat.ble (n*i.bytes) 281474976710656&&zflat P e&&Nat.ble 1 i.bytes then
   match i.zero with
   | some z=>bif Nat.beq z.cells.size i.size then some (n,(Builtin.zeroCells z.cells n).toList) else none
   | none=>none
  else none
 | _,_=>none
def aAppend (P:Program) (m:Nat) (ts:Array TypeId) (args:Array Value) (H:AH):Option (Value×AH) :=
 match ts.toList,args.toList with
 | [st,xt],[.slice base n cap,x] =>
  match P.underlying st with
  | some (.slice e)=>match P.info? e with
   | some i=>match aSrc P xt e i x H with
    | some (k,new) =>
     bif Nat.beq i.size 0||!zsize i then none else
     bif Nat.beq k 0 then (bif Nat.ble n cap then some (.slice base n cap,H) else none) else
     match base with
     | none=>bif Nat.beq n 0&&Nat.beq cap 0 then grown H e i.size i.bytes k new else none
     | some a=>match rdCells H a 0 (n*i.size) with
      | none=>none
      | some old =>
       bif Nat.beq cap OPEN then
        match H.get a.block with
        | some { obj:=.cells _ e' _,opn:=true,esz,ro:=false } =>
         bif Nat.ble m a.block&&Nat.beq esz i.size&&Nat.beq e e'&&new.all one then
          grown (H.put a.block dead) e i.size i.bytes (n+k) (old++new)
         else none
        | _=>none
       else bif Nat.ble (n+k) cap then
        match wrCells m (a.add (n*i.size)) 0 new H with
        | some H'=>some (.slice base (n+k) cap,H')
        | none=>none
       else bif Nat.ble n cap then grown H e i.size i.bytes (n+k) (old++new) else none
    | none=>none
   | none=>none
  | _=>none
 | _,_=>none
def aEntries (H:AH):Value→Option (Array MapEntry)
 | .map none=>some #[]
 | .map (some r)=>match H.get r with
  | some { obj:=.map es _,.. }=>some es
  | _=>none
 | _=>none
def aAsk (P:Program) (kt:TypeId) (k:Value):List MapEntry→Nat→Option (Option (Nat×Value))
 | [],_=>some none
 | e :: es,i=>match peval P (Op.equal kt k e.key) with
  | some true=>some (some (i,e.val))
  | some false=>aAsk P kt k es (i+1)
  | none=>none
def aFind (P:Program) (kt:TypeId) (k:Value) (es:List MapEntry):Option (Option (Nat×Value)) :=
 match P.underlying kt with
 | some d=>match Instr.findNow d k es 0 with
  | some r=>some r
  | none=>aAsk P kt k es 0
 | none=>none
def aLookup (P:Program) (t:TypeId) (x k:Value) (ok:Bool) (H:AH):Option Value :=
 match P.underlying t with
 | some (.map kt e)=>match aEntries H x with
  | some es=>match peval P (Instr.checkKey es.isEmpty 10000 kt k),aFind P kt k es.toList with
   | some _,some (some (_,v))=>some (bif ok then .tuple #[v,.bool true] else v)
   | some _,some none=>match (P.info? e).bind (·.zero) with
    | some z=>bif flat depth z then some (bif ok then .tuple #[z,.bool false] else z) else none
    | none=>none
   | _,_=>none
  | none=>none
 | _=>none
def aMapAt (m:Nat) (H:AH):Value→Option (Nat×Blk×Array MapEntry×Nat)
 | .map (some r)=>match H.get r with
  | some { obj:=.map es n,opn,esz,ro:=false }=>bif Nat.ble m r then some (r,{ obj:=.map es n,opn,esz,ro:=false },es,n) else none
  | _=>none
 | _=>none
def aUpdate (P:Program) (m:Nat) (t:TypeId) (x k v:Value) (H:AH):Option (Value×AH) :=
 match P.underlying t with
 | some (.map kt _)=>match aMapAt m H x with
  | some (r,b,es,n)=>match peval P (Instr.checkKey false 10000 kt k),aFind P kt k es.toList with
   | some _,some (some (i,_)) =>
    bif Instr.sameBits 10000 (((es[i]?).map (·.key)).getD k) k then
     some (undef,H.put r { b with obj:=.map (es.modify i fun e=>{ e with key:=k,val:=v }) n })
    else none
   | some _,some none=>some (undef,H.put r { b with obj:=.map (es.push { key:=k,val:=v,born:=n }) (n+1) })
   | _,_=>none
  | none=>none
 | _=>none
def aEntry (P:Program) (m:Nat) (t:TypeId) (x k:Value) (H:AH):Option (Value×AH) :=
 match P.underlying t with
 | some (.map kt e)=>match aMapAt m H x with
  | some (r,b,es,n)=>match peval P (Instr.checkKey false 10000 kt k),aFind P kt k es.toList with
   | some _,some (some (i,v)) =>
    bif Instr.sameBits 10000 (((es[i]?).map (·.key)).getD k) k then
     some (.tuple #[v,goInt (((es[i]?).map (·.born)).getD 0)],H.put r { b with obj:=.map (es.modify i fun e=>{ e with key:=k }) n })
    else none
   | some _,some none=>match (P.info? e).bind (·.zero) with
    | some z=>bif flat depth z then some (.tuple #[z,goInt n],H.put r { b with obj:=.map (es.push { key:=k,val:=z,born:=n }) (n+1) }) else none
    | none=>none
   | _,_=>none
  | none=>none
 | _=>none
def aDelete (P:Program) (m:Nat) (ts:Array TypeId) (args:List Value) (H:AH):Option (Value×AH) :=
 match ts[0]?,args with
 | some t,[x,k]=>bif flat depth k then
  match P.underlying t with
  | some (.map kt _)=>match x with
   | .map none=>match peval P (Instr.checkKey true 10000 kt k) with
    | some _=>some (.tuple #[],H)
    | none=>none
   | _=>match aMapAt m H x with
    | some (r,b,es,n)=>match peval P (Instr.checkKey es.isEmpty 10000 kt k),aFind P kt k es.toList with
     | some _,some (some (i,_))=>some (.tuple #[],H.put r { b with obj:=.map (es.eraseIdxIfInBounds i) n })
     | some _,some none=>some (.tuple #[],H)
     | _,_=>none
    | none=>none
  | _=>none
  else none
 | _,_=>none
def flatRun (P:Program) (o:Oper) (ρ:Operand→Value) (H:AH):Option (Value×AH) :=
 match o.op with
 | .select ..=>none
 | _=>bif o.op.operands.all (fun x=>flat depth (ρ x)) then asVal H (peval P (execOp ρ o)) else none
def aEqV (P:Program) (t:TypeId) (x y:Value):Option Bool :=
 match P.underlying t,x,y with
 | some (.pointer _),.pointer none,.pointer (some _)=>some false
 | some (.pointer _),.pointer (some _),.pointer none=>some false
 | some (.pointer e),.pointer (some ⟨b,o,none⟩),.pointer (some ⟨b',o',none⟩)=>match P.info? e with
  | some i=>bif Nat.beq b b'&&!Nat.beq i.size 0 then some (Nat.beq o o') else none
  | none=>none
 | some (.slice _),.slice none _ _,.slice (some _) _ _=>some false
 | some (.slice _),.slice (some _) _ _,.slice none _ _=>some false
 | some (.map ..),.map none,.map (some _)=>some false
 | some (.map ..),.map (some _),.map none=>some false
 | some (.func ..),.nilFunc,.func ..=>some false
 | some (.func ..),.func ..,.nilFunc=>some false
 | some (.interface _),.nilIface,.iface ..=>some false
 | some (.interface _),.iface ..,.nilIface=>some false
 | _,_,_=>none
def aEq (P:Program) (op:BinOp) (t:TypeId) (x y:Value):Option Value :=
 match op with
 | .eql=>match aEqV P t x y with
  | some b=>some (.bool b)
  | none=>none
 | .neq=>match aEqV P t x y with
  | some b=>some (.bool !b)
  | none=>none
 | _=>none
def aConvPtr (P:Program) (src dst:TypeId) (x:Value) (H:AH):Option Value :=
 match x with
 | .pointer (some ⟨b,off,none⟩)=>match H.get b with
  | some { obj:=.cells c e _,opn:=false,ro:=false,.. } =>
   match P.underlying src,P.underlying dst with
   | some (.pointer t),some .unsafePointer=>match P.info? t with
    | some i=>bif Nat.blt off c.size&&!Nat.beq i.size 0 then some x else none
    | none=>none
   | some .unsafePointer,some (.pointer u)=>match P.info? u with
    | some i=>bif !Nat.beq i.size 0&&liesAt P P.depth e (c.size / P.cellsOf e) off u 1 then some x else none
    | none=>none
   | _,_=>none
  | _=>none
 | _=>none
def rdBytes (H:AH) (a:Addr):Nat→Nat→Option (List UInt8)
 | _,0=>some []
 | i,n+1=>match H.cell (a.add i),rdBytes H a (i+1) n with
  | some (.int .u8 b),some l=>some (b.toNat.toUInt8 :: l)
  | _,_=>none
def aUnsafeString (P:Program) (m:Nat) (ts:Array TypeId) (args:List Value) (H:AH):Option (Value×AH) :=
 match args,ts[0]? with
 | [.pointer none,.int _ (.ofNat 0)],some _=>some (.string .empty,H)
 | [.pointer (some a),.int _ (.ofNat n)],some pt =>
  bif Nat.beq n 0 then some (.string .empty,H) else
  match H.get a.block,a.spot,P.underlying pt with
  | some { obj:=.cells c e f,opn,esz,ro:=_ },none,some (.pointer u) =>
   bif Nat.ble m a.block&&Nat.ble (a.off+n) c.size&&Nat.beq e u&&Nat.beq (P.cellsOf e) 1&&Nat.ble n 9223372036854775807 then
    match rdBytes H a 0 n with
    | some l=>some (.string ⟨l.toArray⟩,H.put a.block { obj:=.cells c e f,opn,esz,ro:=true })
    | none=>none
   else none
  | _,_,_=>none
 | _,_=>none
def aAssert (P:Program) (t:TypeId) (v:Value) (asserted:TypeId) (ok:Bool):Option Value :=
 match P.underlying asserted with
 | some (.interface _)=>none
 | some _=>bif Nat.beq t asserted then some (bif ok then .tuple #[v,.bool true] else v)
  else bif ok then (match (P.info? asserted).bind (·.zero) with
   | some z=>bif flat depth z then some (.tuple #[z,.bool false]) else none
   | none=>none)
  else none
 | none=>none
def aOp (P:Program) (m:Nat) (o:Oper) (ρ:Operand→Value) (H:AH):Option (Value×AH) :=
 match o.op with
 | .move x | .assign x=>some (ρ x,H)
 | .pick c a b=>match ρ c with
  | .bool t=>some (bif t then ρ a else ρ b,H)
  | _=>none
 | .slice t x lo hi mx=>match ρ x with
  | .slice (some a) len cap=>match aSlice P t a len cap (lo.map ρ) (hi.map ρ) (mx.map ρ) H with
   | some v=>some (v,H)
   | none=>none
  | .pointer (some a)=>match aSliceArr P t a (lo.map ρ) (hi.map ρ) (mx.map ρ) with
   | some v=>some (v,H)
   | none=>none
  | _=>flatRun P o ρ H
 | .binOp op t x y _=>match aEq P op t (ρ x) (ρ y) with
  | some v=>some (v,H)
  | none=>flatRun P o ρ H
 | .typeAssert x _ asserted ok=>match ρ x with
  | .iface t v=>match aAssert P t v asserted ok with
   | some u=>some (u,H)
   | none=>flatRun P o ρ H
  | _=>flatRun P o ρ H
 | .convert src dst x=>match ρ x with
  | .pointer (some _)=>match aConvPtr P src dst (ρ x) H with
   | some v=>some (v,H)
   | none=>none
  | .slice (some a) n _=>match P.underlying src,P.underlying dst with
   | some (.slice e),some .string=>match P.underlying e,rdBytes H a 0 n with
    | some (.int .u8),some l=>some (.string ⟨l.toArray⟩,H)
    | _,_=>none
   | _,_=>none
  | .string s=>match P.underlying src,P.underlying dst with
   | some .string,some (.slice e)=>match P.underlying e,P.info? e with
    | some (.int .u8),some i=>bif Nat.beq i.size 1 then
      some (.slice (some ⟨H.next,0,none⟩) s.size OPEN,H.push { obj:=.cells (s.data.map fun b=>.int .u8 b.toNat) e (0,0),opn:=true,esz:=1,ro:=false })
     else none
    | _,_=>none
   | _,_=>flatRun P o ρ H
  | _=>flatRun P o ρ H
 | .alloc e=>bif zflat P e then asNext (arun P m (execOp ρ o) H) else none
 | .build t _=>bif zflat P t then asNext (arun P m (execOp ρ o) H) else none
 | .buildSlice t n _=>bif zelem P t&&Nat.blt n OPEN then asNext (arun P m (execOp ρ o) H) else none
 | .makeSlice t _ _=>bif zelem P t then asNext (arun P m (execOp ρ o) H) else none
 | .lookup t x k ok=>bif flat depth (ρ k) then (match aLookup P t (ρ x) (ρ k) ok H with | some v=>some (v,H) | none=>none) else none
 | .mapUpdate t x k v | .insert t x k v=>bif flat depth (ρ k) then aUpdate P m t (ρ x) (ρ k) (ρ v) H else none
 | .mapEntry t x k=>bif flat depth (ρ k) then aEntry P m t (ρ x) (ρ k) H else none
 | .nilCheck x=>match ρ x with
  | .pointer (some _) | .func (.func _) ..=>some (ρ x,H)
  | _=>none
 | .box .. | .load .. | .store .. | .makeInterface .. | .makeFunc .. | .makeMap ..
 | .fieldAddr .. | .field .. | .indexAddr .. | .index .. | .entryStore .. | .range .. | .next .. | .entry .. | .extract ..=>asNext (arun P m (execOp ρ o) H)
 | _=>flatRun P o ρ H
abbrev Sl:=Tr Value
def ofArgs:Nat→List Value→Sl→Sl
 | _,[],t=>t
 | i,v :: l,t=>ofArgs (i+1) l (t.set (i+1) i v)
def evalA (ss:Sl):Operand→Value
 | .tmp t=>(ss.get t).getD undef
 | .const v=>v
 | .global g=>.pointer (some ⟨g,0,none⟩)
 | .func f=>.func (.func f) #[] #[]
def okx (P:Program):Operand→Bool
 | .const v=>flat depth v
 | .global g=>Nat.blt g P.globals.size
 | _=>true
structure Fr where
 n:Nat
 ds:List (FuncId×Array Value)
def putA (n:Fr) (ss:Sl) (d:Option Tmp) (v:Value):Option Sl :=
 match d with
 | some d=>bif Nat.blt d n.n then some (ss.set (d+1) d v) else none
 | none=>some ss
inductive AExit where
 | normal
 | exit (id:Nat)
 | goto (l:Nat)
 | ret
structure ASt where
 ss:Sl
 n:Fr
 H:AH
abbrev Ex:=Nat→Code→ASt→Option (AExit×ASt)
def isAggD:TypeDesc→Bool
 | .struct _ | .array ..=>true
 | _=>false
def aLoad (P:Program) (t:TypeId) (q:Addr) (H:AH):Option Value :=
 match P.underlying t,P.info? t with
 | some d,some i=>bif isAggD d then (match rdCells H q 0 i.size with | some l=>some (.agg l.toArray) | none=>none) else H.cell q
 | _,_=>none
def resultsA (P:Program) (st:ASt):List ResultVar→Option (List Value)
 | []=>some []
 | .tmp t :: l=>match resultsA P st l with
  | some vs=>some (evalA st.ss (.tmp t) :: vs)
  | none=>none
 | .cell a t :: l=>match evalA st.ss (.tmp a),resultsA P st l with
  | .pointer (some p),some vs=>match aLoad P t p st.H with
   | some v=>some (v :: vs)
   | none=>none
  | _,_=>none
def resultA (P:Program) (fn:Func) (st:ASt):Option (Value×AH) :=
 match resultsA P st fn.results.toList with
 | some [v]=>some (v,st.H)
 | some l=>some (.tuple l.toArray,st.H)
 | none=>none
structure NE where
 esc:Nat
 orc:Nat→FuncId→Array Value→AH→Option (Value×AH)
def recoverOp (o:Oper):Bool :=
 match o.op with
 | .call { callee:=.builtin .recover,.. }=>true
 | _=>false
def dOps (P:Program):List Oper→ASt→Option ASt
 | [],st=>some st
 | o :: l,st=>match o.guard with
  | some _=>none
  | none=>match (bif recoverOp o then some .nilIface else match o.op with
    | .move x | .assign x=>bif okx P x then some (evalA st.ss x) else none
    | _=>none) with
   | some v=>match putA st.n st.ss o.dst v with
    | some ss=>dOps P l ⟨ss,st.n,st.H⟩
    | none=>none
   | none=>none
def dFin (P:Program) (fn:Func):Option (AExit×ASt)→Option AH
 | some (.normal,st) | some (.ret,st)=>match st.n.ds,resultA P fn st with
  | [],some (_,H)=>some H
  | _,_=>none
 | _=>none
def callD (P:Program) (ih:Ex) (m:Nat) (f:FuncId) (args:Array Value) (H:AH):Option AH :=
 match P.funcs[f]? with
 | some fn=>match fn.body with
  | some c=>match c with
   | .seq (.region _ ops false) b=>bif ops.toList.any recoverOp then
     match dOps P ops.toList ⟨ofArgs 0 args.toList .nil,⟨fn.ntmps,[]⟩,H⟩ with
     | some st=>dFin P fn (ih m b st)
     | none=>none
    else dFin P fn (ih m c ⟨ofArgs 0 args.toList .nil,⟨fn.ntmps,[]⟩,H⟩)
   | c=>dFin P fn (ih m c ⟨ofArgs 0 args.toList .nil,⟨fn.ntmps,[]⟩,H⟩)
  | none=>none
 | none=>none
def leaveA (P:Program) (ih:Ex) (m:Nat) (fn:Func):List (FuncId×Array Value)→ASt→Option (Value×AH)
 | [],st=>resultA P fn st
 | (f,args) :: ds,st=>match callD P ih m f args st.H with
  | some H=>leaveA P ih m fn ds ⟨st.ss,st.n,H⟩
  | none=>none
def acallFn (P:Program) (ne:NE) (ih:Ex) (m:Nat) (f:FuncId) (args:Array Value) (H:AH):Option (Value×AH) :=
 match ne.orc m f args H with
 | some r=>some r
 | none=>match P.funcs[f]? with
 | some fn=>match fn.body with
  | some c=>match ih m c ⟨ofArgs 0 args.toList .nil,⟨fn.ntmps,[]⟩,H⟩ with
   | some (.normal,st)=>leaveA P ih m fn st.n.ds st
   | some (.ret,st)=>leaveA P ih m fn st.n.ds st
   | _=>none
  | none=>bif args.all (flat depth) then asVal H (peval P (callFunc f args)) else
    match args.toList with
    | [x]=>bif Nat.beq f ne.esc then some (x,H) else none
    | _=>none
 | none=>none
def runOp (P:Program) (ne:NE) (ih:Ex) (m:Nat) (o:Oper) (ρ:Operand→Value) (H:AH):Option (Value×AH) :=
 match o.op with
 | .call { callee:=.value g,args,.. }=>match ρ g with
  | .func (.func f) first captured=>acallFn P ne ih m f (first++args.map ρ++captured) H
  | _=>none
 | .call { callee:=.builtin b,args,argTypes }=>match b with
  | .append=>aAppend P m argTypes (args.map ρ) H
  | .len=>match (argTypes[0]?).bind P.underlying,(args.map ρ).toList with
   | some (.slice _),[.slice _ n _]=>some (goInt n,H)
   | some (.map ..),[.map (some r)]=>match H.get r with
    | some { obj:=.map es _,.. }=>some (goInt es.size,H)
    | _=>none
   | _,_=>flatRun P o ρ H
  | .copy=>match (args.map ρ).toList with
   | [_,_]=>asNext (arun P m (execOp ρ o) H)
   | _=>none
  | .delete=>aDelete P m argTypes (args.map ρ).toList H
  | .unsafeSliceData=>match (args.map ρ).toList with
   | [.slice (some a) n c]=>bif Nat.beq n 0||Nat.beq c 0 then none else some (.pointer (some a),H)
   | _=>flatRun P o ρ H
  | .unsafeString=>aUnsafeString P m argTypes (args.map ρ).toList H
  | _=>flatRun P o ρ H
 | .call _=>none
 | _=>aOp P m o ρ H
def wantedA (ops:Array Oper) (o:Oper) (ss:Sl):Option Bool :=
 match o.guard with
 | none=>some true
 | some (j,want)=>match (ops[j]?).bind (·.dst) with
  | some d=>match ss.get d with
   | some (.bool b)=>some (b == want)
   | some (.tuple _)=>some false
   | _=>none
  | none=>none
def befores (ops:List Oper):List Nat:=(Region.before ops.toArray).toList
def pre (bs:List Nat) (i j:Nat):Bool:=(bs.getD i 0).testBit j
def tmpsOf (o:Oper):List Nat:=o.op.operands.toList.filterMap fun | .tmp t=>some t | _=>none
def namesOf (ops:Array Oper) (o:Oper):List Nat :=
 o.dst.toList++tmpsOf o++(match o.guard with | some (j,_)=>((ops[j]?).bind (·.dst)).toList | none=>[])
def slotsOk (ops:Array Oper) (bs:List Nat):Bool :=
 (ops.toList.zipIdx).all fun (o,j)=>(ops.toList.zipIdx).all fun (p,i) =>
  !(Nat.blt i j)||pre bs j i||!((p.dst.toList.any fun t=>(namesOf ops o).contains t)||(o.dst.toList.any fun t=>(namesOf ops p).contains t))
def edgesOk (ops:List Oper):Bool :=
 (ops.zipIdx).all fun (o,i)=>o.after.all fun e=>!Region.binds .any e||Nat.blt e.on i
def closedOk (ops:List Oper) (bs:List Nat):Bool :=
 (ops.zipIdx).all fun (o,i)=>(List.range i).all fun j=>!pre bs i j||o.after.any fun e=>Region.binds .any e&&(Nat.beq e.on j||(Nat.blt j e.on&&pre bs e.on j))
def quiet (P:Program) (o:Oper):Bool :=
 match o.op with
 | .move _ | .assign _ | .pick .. | .slice .. | .binOp .. | .unOp .. | .build .. | .nilCheck _ | .makeInterface .. | .makeFunc .. | .fieldAddr .. | .field .. | .indexAddr .. | .index ..
 | .load .. | .lookup .. | .extract .. | .typeAssert ..=>true
 | .convert s d _=>match P.underlying s,P.underlying d with
  | some (.int _),some (.int _)=>true
  | some .string,some .string=>true
  | _,_=>false
 | .call { callee:=.builtin b,.. }=>match b with
  | .len | .cap | .min | .max | .unsafeSliceData=>true
  | _=>false
 | _=>false
def makes (o:Oper):Bool :=
 match o.op with
 | .alloc _ | .box .. | .buildSlice .. | .makeSlice .. | .makeMap ..=>true
 | _=>false
inductive Kind where
 | quiet
 | new (b:Blk)
 | act
 | pass
structure Pl where
 kind:Kind
 ss:Sl
 cnt:Nat
 val:Value
 nxt:Nat
def putAll:List (Nat×Nat×Blk)→AH→AH
 | [],H=>H
 | (_,id,b) :: l,H=>putAll l (H.put id b)
structure DSt where
 ss:Sl
 cnt:Nat
 G:AH
 pend:List (Nat×Nat×Blk)
 gs:List AH
 acts:List Nat
 pls:List Pl
def veq:Nat→Value→Value→Bool
 | _,.bool a,.bool b=>a == b
 | _,.int j a,.int k b=>j == k&&a == b
 | _,.string a,.string b=>a.data.toList == b.data.toList
 | _,.complex j a b,.complex k c d=>j == k&&Nat.beq a c&&Nat.beq b d
 | _,.pointer a,.pointer b=>a == b
 | _,.slice a n c,.slice b n' c'=>a == b&&Nat.beq n n'&&Nat.beq c c'
 | _,.map a,.map b=>a == b
 | _,.nilFunc,.nilFunc=>true
 | _,.nilIface,.nilIface=>true
 | n+1,.iface t v,.iface u w=>Nat.beq t u&&veq n v w
 | n+1,.agg a,.agg b=>Nat.beq a.size b.size&&(a.toList.zip b.toList).all fun (x,y)=>veq n x y
 | n+1,.tuple a,.tuple b=>Nat.beq a.size b.size&&(a.toList.zip b.toList).all fun (x,y)=>veq n x y
 | n+1,.func f a c,.func g b d=>f == g&&Nat.beq a.size b.size&&((a.toList.zip b.toList).all fun (x,y)=>veq n x y)&&Nat.beq c.size d.size&&(c.toList.zip d.toList).all fun (x,y)=>veq n x y
 | _,_,_=>false
def unders (c:Nat):Nat→Value→Bool
 | _,.bool _ | _,.int .. | _,.float .. | _,.complex .. | _,.string _ | _,.nilFunc | _,.nilIface=>true
 | _,.pointer a=>match a with | some a=>Nat.blt a.block c | none=>true
 | _,.slice a _ _=>match a with | some a=>Nat.blt a.block c | none=>true
 | _,.map r=>match r with | some r=>Nat.blt r c | none=>true
 | _,.chan r=>r.isNone
 | n+1,.func _ f g=>f.all (unders c n)&&g.all (unders c n)
 | n+1,.iface _ v=>unders c n v
 | n+1,.agg cs=>cs.all (unders c n)
 | n+1,.tuple cs=>cs.all (unders c n)
 | 0,_=>false
def fits (bs:List Nat) (acts:List Nat) (i j:Nat):Bool :=
 (acts.take j).all (fun a=>!(Nat.blt i a&&pre bs a i))&&(acts.drop j).all (fun a=>!(Nat.blt a i&&pre bs i a))
def steady (P:Program) (ne:NE) (ih:Ex) (m:Nat) (bs:List Nat) (gs:List AH) (acts:List Nat) (i:Nat) (o:Oper) (pl:Pl):Bool :=
 match pl.kind with
 | .quiet=>unders pl.cnt depth pl.val&&(gs.zipIdx).all fun (G,j)=>!fits bs acts i j ||
   (match runOp P ne ih m o (evalA pl.ss) { G with next:=max pl.cnt G.next } with
    | some (v,_)=>veq depth v pl.val
    | none=>false)
 | _=>true
def tPure (P:Program) (o:Oper) (ρ:Operand→Value):Option Value :=
 match o.op with
 | .move x=>some (ρ x)
 | .assign x=>some (ρ x)
 | .nilCheck x=>match ρ x with
  | .pointer (some a)=>some (.pointer (some a))
  | _=>none
 | .fieldAddr s x f=>match P.underlying s,ρ x with
  | some (.struct fs),.pointer (some a)=>match fs[f]? with
   | some fd=>match P.info? fd.type with
    | some i=>bif Nat.beq i.size 0 then none else some (.pointer (some (a.add fd.offset)))
    | none=>none
   | none=>none
  | _,_=>none
 | .indexAddr t x y=>match P.underlying t,ρ x,ρ y with
  | some (.slice e),.slice (some a) n _,.int _ (.ofNat i)=>match P.info? e with
   | some inf=>bif Nat.blt i n then some (.pointer (some (a.add (i*inf.size)))) else none
   | none=>none
  | _,_,_=>none
 | _=>none
def readyIs (ops:Array Oper) (la:Array Bool) (l:List Nat):Bool:=Region.ready .any ops la == l
structure Loc where
 blk:Nat
 off:Nat
 fin:Nat
 esz:Nat
abbrev Inj:=Nat→Option Loc
def Inj.le (φ ψ:Inj):Prop:=∀i l,φ i=some l→ψ i=some l
theorem Inj.le_refl (φ:Inj):φ.le φ:=fun _ _ h=>h
theorem Inj.le_trans {φ ψ χ:Inj} (h:φ.le ψ) (k:ψ.le χ):φ.le χ:=fun i l e=>k i l (h i l e)
inductive VR (φ:Inj):Value→Value→Prop
 | bool (b:Bool):VR φ (.bool b) (.bool b)
 | int (k:IntKind) (n:Int):VR φ (.int k n) (.int k n)
 | float (k:FloatKind) (n:Nat):VR φ (.float k n) (.float k n)
 | complex (k:FloatKind) (a b:Nat) (v:Value) (hv:one v=true):VR φ (.complex k a b) v
 | string (s:ByteArray):VR φ (.string s) (.string s)
 | ptrNil:VR φ (.pointer none) (.pointer none)
 | ptr (b o:Nat) (l:Loc) (h:φ b=some l):VR φ (.pointer (some ⟨b,o,none⟩)) (.pointer (some ⟨l.blk,l.off+o,none⟩))
 | sliceNil (n c:Nat):VR φ (.slice none n c) (.slice none n c)
 | slice (b o n c:Nat) (l:Loc) (h:φ b=some l) (hc:c≠OPEN):VR φ (.slice (some ⟨b,o,none⟩) n c) (.slice (some ⟨l.blk,l.off+o,none⟩) n c)
 | sliceOpen (b o n c:Nat) (l:Loc) (h:φ b=some l) (hn:n≤c) (hc:l.off+o+c*l.esz≤l.fin) :
   VR φ (.slice (some ⟨b,o,none⟩) n OPEN) (.slice (some ⟨l.blk,l.off+o,none⟩) n c)
 | sliceEnd (b o:Nat) (l:Loc) (a:Addr) (h:φ b=some l):VR φ (.slice (some ⟨b,o,none⟩) 0 OPEN) (.slice (some a) 0 0)
 | sliceZero (b o:Nat) (l:Loc) (a:Addr) (h:φ b=some l):VR φ (.slice (some ⟨b,o,none⟩) 0 0) (.slice (some a) 0 0)
 | mapNil:VR φ (.map none) (.map none)
 | map (r:Nat) (l:Loc) (h:φ r=some l):VR φ (.map (some r)) (.map (some l.blk))
 | chanNil:VR φ (.chan none) (.chan none)
 | func (fn:Fn) (f g f' g':Array Value) (hf:f.size=f'.size) (hg:g.size=g'.size)
   (h1:∀(i:Nat) (x y:Value),f[i]? = some x→f'[i]? = some y→VR φ x y)
   (h2:∀(i:Nat) (x y:Value),g[i]? = some x→g'[i]? = some y→VR φ x y):VR φ (.func fn f g) (.func fn f' g')
 | nilFunc:VR φ .nilFunc .nilFunc
 | iface (t:TypeId) (v v':Value) (h:VR φ v v'):VR φ (.iface t v) (.iface t v')
 | nilIface:VR φ .nilIface .nilIface
 | agg (f f':Array Value) (hf:f.size=f'.size) (h1:∀(i:Nat) (x y:Value),f[i]? = some x→f'[i]? = some y→VR φ x y):VR φ (.agg f) (.agg f')
 | tuple (f f':Array Value) (hf:f.size=f'.size) (h1:∀(i:Nat) (x y:Value),f[i]? = some x→f'[i]? = some y→VR φ x y):VR φ (.tuple f) (.tuple f')
theorem VR.mono {φ ψ:Inj} (hle:φ.le ψ) {v v':Value} (h:VR φ v v'):VR ψ v v':=by
 induction h with
 | bool b=>exact .bool b
 | int k n=>exact .int k n
 | float k n=>exact .float k n
 | complex k a b v hv=>exact .complex k a b v hv
 | string s=>exact .string s
 | ptrNil=>exact .ptrNil
 | ptr b o l h=>exact .ptr b o l (hle _ _ h)
 | sliceNil n c=>exact .sliceNil n c
 | slice b o n c l h hc=>exact .slice b o n c l (hle _ _ h) hc
 | sliceOpen b o n c l h hn hc=>exact .sliceOpen b o n c l (hle _ _ h) hn hc
 | sliceEnd b o l a h=>exact .sliceEnd b o l a (hle _ _ h)
 | sliceZero b o l a h=>exact .sliceZero b o l a (hle _ _ h)
 | mapNil=>exact .mapNil
 | map r l h=>exact .map r l (hle _ _ h)
 | chanNil=>exact .chanNil
 | func fn f g f' g' hf hg _ _ i1 i2=>exact .func fn f g f' g' hf hg i1 i2
 | nilFunc=>exact .nilFunc
 | iface t v v' _ ih=>exact .iface t v v' ih
 | nilIface=>exact .nilIface
 | agg f f' hf _ ih=>exact .agg f f' hf ih
 | tuple f f' hf _ ih=>exact .tuple f f' hf ih
def AR (φ:Inj) (f f':Array Value):Prop:=f.size=f'.size∧∀(i:Nat) (x y:Value),f[i]? = some x→f'[i]? = some y→VR φ x y
theorem AR.mono {φ ψ:Inj} (hle:φ.le ψ) {f f':Array Value} (h:AR φ f f'):AR ψ f f':=⟨h.1,fun i x y hx hy=>(h.2 i x y hx hy).mono hle⟩
theorem AR.get {φ:Inj} {f f':Array Value} (h:AR φ f f') {i:Nat} {x:Value} (hx:f[i]? = some x):∃y,f'[i]? = some y∧VR φ x y:=by
 have hi:i<f.size:=by
  rw [Array.getElem?_eq_some_iff] at hx; exact hx.1
 have hi':i<f'.size:=h.1▸hi;exact ⟨f'[i],by simp [hi'],h.2 i x _ hx (by simp [hi'])⟩
inductive F2 {α β:Type} (R:α→β→Prop):List α→List β→Prop
 | nil:F2 R [] []
 | cons {a:α} {b:β} {l:List α} {l':List β} (h:R a b) (t:F2 R l l'):F2 R (a :: l) (b :: l')
def LR (φ:Inj) (l l':List Value):Prop:=F2 (VR φ) l l'
theorem I8 {α β:Type} {R:α→β→Prop}:∀(l:List α) (l':List β),l.length=l'.length →
  (∀(i:Nat) x y,l[i]? = some x→l'[i]? = some y→R x y)→F2 R l l'
 | [],[],_,_=>.nil
 | [],_ :: _,h,_=>by simp at h
 | _ :: _,[],h,_=>by simp at h
 | a :: l,b :: l',h,hh=>.cons (hh 0 a b rfl rfl) (I8 l l' (by simpa using h) fun i x y hx hy=>hh (i+1) x y hx hy)
theorem J8 {α β:Type} {R:α→β→Prop} {l:List α} {l':List β} (h:F2 R l l') :
  l.length=l'.length∧∀(i:Nat) x y,l[i]? = some x→l'[i]? = some y→R x y:=by
 induction h with
 | nil=>exact ⟨rfl,fun i x y hx _=>by simp at hx⟩
 | cons hab _ ih =>
  refine ⟨by simp [ih.1],fun i x y hx hy=>?_⟩;cases i with
  | zero=>simp at hx hy; subst hx hy; exact hab
  | succ i=>exact ih.2 i x y hx hy
theorem AR_iff {φ:Inj} {f f':Array Value}:AR φ f f'↔LR φ f.toList f'.toList:=by
 constructor
 ·intro h;exact I8 _ _ (by simpa using h.1) fun i x y hx hy=>h.2 i x y (by simpa using hx) (by simpa using hy)
 ·intro h;have:=J8 h;exact ⟨by simpa using this.1,fun i x y hx hy=>this.2 i x y (by simpa using hx) (by simpa using hy)⟩
theorem LR.mono {φ ψ:Inj} (hle:φ.le ψ) {l l':List Value} (h:LR φ l l'):LR ψ l l':=by
 induction h with
 | nil=>exact .nil
 | cons hab _ ih=>exact .cons (hab.mono hle) ih
theorem K8 {φ:Inj}:∀(n:Nat) {v v':Value},flat n v=true→VR φ v v'→v=v':=by
 intro n;induction n with
 | zero=>intro v v' h hr; cases hr <;> first | rfl | (simp [flat] at h)
 | succ n ih =>
  intro v v' h hr;have arr:∀(f f':Array Value),f.all (flat n)=true→f.size=f'.size→(∀(i:Nat) (x y:Value),f[i]? = some x→f'[i]? = some y→VR φ x y)→f=f':=by
   intro f f' hall hs hh;refine Array.ext hs fun i h1 h2=>?_;refine ih ?_ (hh i _ _ (by simp [h1]) (by simp [h2]));rw [Array.all_eq_true] at hall;exact hall i h1
  cases hr with
  | func fn f g f' g' hf hg h1 h2 =>
   simp only [flat,Bool.and_eq_true] at h;rw [arr f f' h.1 hf h1,arr g g' h.2 hg h2]
  | iface t v v' hv=>simp only [flat] at h; rw [ih h hv]
  | agg f f' hf h1=>simp only [flat] at h; rw [arr f f' h hf h1]
  | tuple f f' hf h1=>simp only [flat] at h; rw [arr f f' h hf h1]
  | _=>first | rfl | (simp [flat] at h)
theorem N2 {φ:Inj}:∀(n:Nat) {v:Value},flat n v=true→VR φ v v:=by
 intro n;induction n with
 | zero =>
  intro v h;cases v with
  | bool b=>exact .bool b
  | int k n=>exact .int k n
  | float k n=>exact .float k n
  | complex k a b=>simp [flat] at h
  | string s=>exact .string s
  | pointer a=>cases a with | none=>exact .ptrNil | some a=>simp [flat] at h
  | slice a n c=>cases a with | none=>exact .sliceNil n c | some a=>simp [flat] at h
  | map a=>cases a with | none=>exact .mapNil | some a=>simp [flat] at h
  | chan a=>cases a with | none=>exact .chanNil | some a=>simp [flat] at h
  | nilFunc=>exact .nilFunc
  | nilIface=>exact .nilIface
  | func f a b=>simp [flat] at h
  | iface t v=>simp [flat] at h
  | agg a=>simp [flat] at h
  | tuple a=>simp [flat] at h
 | succ n ih =>
  intro v h;have arr:∀(f:Array Value),f.all (flat n)=true→(∀(i:Nat) (x y:Value),f[i]? = some x→f[i]? = some y→VR φ x y):=by
   intro f hall i x y hx hy;rw [hx] at hy; cases hy;rw [Array.getElem?_eq_some_iff] at hx;obtain ⟨hi,rfl⟩:=hx;rw [Array.all_eq_true] at hall;exact ih (hall i hi)
  cases v with
  | bool b=>exact .bool b
  | int k n=>exact .int k n
  | float k n=>exact .float k n
  | complex k a b=>simp [flat] at h
  | string s=>exact .string s
  | pointer a=>cases a with | none=>exact .ptrNil | some a=>simp [flat] at h
  | slice a n c=>cases a with | none=>exact .sliceNil n c | some a=>simp [flat] at h
  | map a=>cases a with | none=>exact .mapNil | some a=>simp [flat] at h
  | chan a=>cases a with | none=>exact .chanNil | some a=>simp [flat] at h
  | nilFunc=>exact .nilFunc
  | nilIface=>exact .nilIface
  | func fn f g=>simp only [flat,Bool.and_eq_true] at h; exact .func fn f g f g rfl rfl (arr f h.1) (arr g h.2)
  | iface t v=>simp only [flat] at h; exact .iface t v v (ih h)
  | agg f=>simp only [flat] at h; exact .agg f f rfl (arr f h)
  | tuple f=>simp only [flat] at h; exact .tuple f f rfl (arr f h)
theorem Tr.get_set_same {α:Type}:∀(n:Nat) (t:Tr α) (i:Nat) (b:α),i<n→(t.set n i b).get i=some b:=by
 intro n;induction n with
 | zero=>intro t i b h; omega
 | succ n ih =>
  intro t i b h;cases h0:Nat.beq i 0
  ·have ei:=Nat.ne_of_beq_eq_false h0;have q1:i / 2<n:=by omega
   have q2:i / 2 - 1<n:=by omega
   cases h1:Nat.beq (i % 2) 1 <;> cases t <;> simp only [Tr.set,h0,h1,cond_true,cond_false,Tr.get] <;> first | exact ih _ _ _ q1 | exact ih _ _ _ q2
  ·cases t <;> simp only [Tr.set,h0,cond_true,Tr.get]
theorem Tr.get_set_other {α:Type}:∀(n:Nat) (t:Tr α) (i j:Nat) (b:α),i<n→j≠i→(t.set n i b).get j=t.get j:=by
 intro n;induction n with
 | zero=>intro t i j b h; omega
 | succ n ih =>
  intro t i j b h hne;have half:∀k,Nat.beq k 0=false→Nat.beq (k % 2) 1=true→k=2*(k / 2)+1:=by
   intro k _ h1; have:=Nat.eq_of_beq_eq_true h1; omega
  have half':∀k,Nat.beq k 0=false→Nat.beq (k % 2) 1=false→k=2*(k / 2 - 1)+2:=by
   intro k h0 h1;have a:=Nat.ne_of_beq_eq_false h0; have:=Nat.ne_of_beq_eq_false h1; omega
  cases t with
  | nil =>
   simp only [Tr.set];cases h0:Nat.beq i 0
   ·simp only [cond_false];have ei:=Nat.ne_of_beq_eq_false h0;cases h1:Nat.beq (i % 2) 1 <;> simp only [cond_true,cond_false,Tr.get] <;> cases j0:Nat.beq j 0 <;> simp only [cond_true,cond_false] <;>
     cases j1:Nat.beq (j % 2) 1 <;> simp only [cond_true,cond_false]
    ·rw [ih .nil _ _ b (by omega) (by have a:=half' i h0 h1; have c:=half' j j0 j1; omega)]; rfl
    ·rw [ih .nil _ _ b (by omega) (by have a:=half i h0 h1; have c:=half j j0 j1; omega)]; rfl
   ·have ei:=Nat.eq_of_beq_eq_true h0;simp only [cond_true,Tr.get];cases j0:Nat.beq j 0
    ·simp only [cond_false]; cases Nat.beq (j % 2) 1 <;> rfl
    ·exact absurd ((Nat.eq_of_beq_eq_true j0).trans ei.symm) hne
  | node v l r =>
   simp only [Tr.set];cases h0:Nat.beq i 0
   ·simp only [cond_false];have ei:=Nat.ne_of_beq_eq_false h0;cases h1:Nat.beq (i % 2) 1 <;> simp only [cond_true,cond_false,Tr.get] <;> cases j0:Nat.beq j 0 <;> simp only [cond_true,cond_false] <;>
     cases j1:Nat.beq (j % 2) 1 <;> simp only [cond_true,cond_false]
    ·rw [ih r _ _ b (by omega) (by have a:=half' i h0 h1; have c:=half' j j0 j1; omega)]
    ·rw [ih l _ _ b (by omega) (by have a:=half i h0 h1; have c:=half j j0 j1; omega)]
   ·have ei:=Nat.eq_of_beq_eq_true h0;simp only [cond_true,Tr.get];cases j0:Nat.beq j 0
    ·simp only [cond_false]
    ·exact absurd ((Nat.eq_of_beq_eq_true j0).trans ei.symm) hne
theorem AH.get_put_same (H:AH) (i:Nat) (b:Blk):(H.put i b).get i=some b:=Tr.get_set_same _ _ _ _ (by omega)
theorem AH.get_put_other (H:AH) {i j:Nat} (b:Blk) (h:j≠i):(H.put i b).get j=H.get j:=Tr.get_set_other _ _ _ _ _ (by omega) h
theorem AH.get_push_same (H:AH) (b:Blk):(H.push b).get H.next=some b:=Tr.get_set_same _ _ _ _ (by omega)
theorem AH.get_push_other (H:AH) {j:Nat} (b:Blk) (h:j≠H.next):(H.push b).get j=H.get j:=Tr.get_set_other _ _ _ _ _ (by omega) h
@[simp] theorem AH.next_put (H:AH) (i:Nat) (b:Blk):(H.put i b).next=H.next:=rfl
@[simp] theorem AH.next_push (H:AH) (b:Blk):(H.push b).next=H.next+1:=rfl
def alive (b:Blk):Bool:=match b.obj with | .deferred _=>false | _=>true
def ER (φ:Inj) (e e':MapEntry):Prop:=e.key=e'.key∧VR φ e.val e'.val∧e.born=e'.born∧flat depth e.key=true
def MR (φ:Inj) (es es':Array MapEntry):Prop:=es.size=es'.size∧∀(i:Nat) (x y:MapEntry),es[i]? = some x→es'[i]? = some y→ER φ x y
def ObjR (φ:Inj):Obj→Obj→Prop
 | .map es n,.map es' n'=>n=n'∧MR φ es es'
 | .stringIter s p,.stringIter s' p'=>s=s'∧p=p'
 | .mapIter m a b c,.mapIter m' a' b' c'=>VR φ (.map m) (.map m')∧a=a'∧b=b'∧c=c'
 | _,_=>False
structure CellsR (φ:Inj) (l:Loc) (b:Blk) (c:Array Value) (e:TypeId) (c':Array Value) (e':TypeId) (f':Nat×Nat):Prop where
 cell:∀(i:Nat) (v:Value),c[i]? = some v→∃v',c'[l.off+i]? = some v'∧VR φ v v'
 fin:l.fin≤c'.size
 esz:b.opn=true→l.esz=b.esz
 exact_:b.opn=false→l.off=0∧c'.size=c.size
 own:b.ro=false→f'.2≤f'.1∨c'.size≤f'.1
 elem:e'=e
def OR (φ:Inj) (l:Loc) (b:Blk) (w:World):Prop :=
 match b.obj with
 | .cells c e _=>∃c' e' f',w.heap[l.blk]? = some (.cells c' e' f')∧CellsR φ l b c e c' e' f'
 | .deferred _=>True
 | o=>∃o',w.heap[l.blk]? = some o'∧ObjR φ o o'∧l.off=0
theorem MR.mono {φ ψ:Inj} (hle:φ.le ψ) {a b:Array MapEntry} (h:MR φ a b):MR ψ a b :=
 ⟨h.1,fun i x y hx hy=>let ⟨h1,h2,h3⟩:=h.2 i x y hx hy; ⟨h1,h2.mono hle,h3⟩⟩
theorem ObjR.mono {φ ψ:Inj} (hle:φ.le ψ) {o o':Obj} (h:ObjR φ o o'):ObjR ψ o o':=by
 unfold ObjR at h ⊢;split at h
 ·exact ⟨h.1,h.2.mono hle⟩
 ·exact h
 ·exact ⟨h.1.mono hle,h.2⟩
 ·exact h.elim
theorem CellsR.mono {φ ψ:Inj} (hle:φ.le ψ) {l:Loc} {b:Blk} {c:Array Value} {e:TypeId} {c':Array Value} {e':TypeId} {f':Nat×Nat}
  (h:CellsR φ l b c e c' e' f'):CellsR ψ l b c e c' e' f' :=
 ⟨fun i v hv=>let ⟨v',h1,h2⟩:=h.cell i v hv; ⟨v',h1,h2.mono hle⟩,h.fin,h.esz,h.exact_,h.own,h.elem⟩
theorem OR.mono {φ ψ:Inj} (hle:φ.le ψ) {l:Loc} {b:Blk} {w:World} (h:OR φ l b w):OR ψ l b w:=by
 unfold OR at h ⊢;split at h
 ·rename_i c e f hb;obtain ⟨c',e',f',h1,h2⟩:=h;exact ⟨c',e',f',h1,h2.mono hle⟩
 ·trivial
 ·rename_i o h1 h2;obtain ⟨o',h3,h4⟩:=h;exact ⟨o',h3,h4.1.mono hle,h4.2⟩
theorem OR.same {φ:Inj} {l:Loc} {b:Blk} {w w':World} (h:OR φ l b w) (hw:w'.heap[l.blk]? = w.heap[l.blk]?):OR φ l b w':=by
 unfold OR at h ⊢;split at h
 ·rename_i c e f hb;obtain ⟨c',e',f',h1,h2⟩:=h;exact ⟨c',e',f',hw.trans h1,h2⟩
 ·trivial
 ·rename_i o h1 h2;obtain ⟨o',h3,h4⟩:=h;exact ⟨o',hw.trans h3,h4⟩
structure Inv (φ:Inj) (H:AH) (w:World):Prop where
 dom:∀id l,φ id=some l→id<H.next∧l.blk<w.heap.size
 obj:∀id b,H.get id=some b→∃l,φ id=some l∧OR φ l b w
 sep:∀id id' b b' l l',H.get id=some b→H.get id'=some b'→id≠id'→b.ro=false→alive b=true→alive b'=true →
  φ id=some l→φ id'=some l'→l.blk≠l'.blk
structure Step (m:Nat) (φ:Inj) (H:AH) (w:World) (φ':Inj) (H':AH) (w':World):Prop where
 le:H.next≤H'.next
 ext:φ.le φ'
 new:∀id l,φ' id=some l→φ id=none→H.next≤id∧(w.heap.size≤l.blk∨∃id0 l0,m≤id0∧(H.get id0).isSome=true∧φ id0=some l0∧l0.blk=l.blk)
 alv:∀id,(H'.get id).isSome=true→(H.get id).isSome=true∨φ id=none
 size:w.heap.size≤w'.heap.size
 keep:∀c,c<w.heap.size→(∀id l,m≤id→(H.get id).isSome=true→φ id=some l→l.blk≠c)→w'.heap[c]? = w.heap[c]?
 os:w'.os=w.os
 tape:w'.tape=w.tape
 output:w'.output=w.output
theorem Step.refl (m:Nat) (φ:Inj) (H:AH) (w:World):Step m φ H w φ H w :=
 ⟨Nat.le_refl _,Inj.le_refl _,fun id l h h'=>by rw [h] at h'; simp at h',fun _ h=>.inl h,Nat.le_refl _,fun _ _ _=>rfl,rfl,rfl,rfl⟩
theorem Step.trans {m:Nat} {φ:Inj} {H:AH} {w:World} {φ':Inj} {H':AH} {w':World} {φ'':Inj} {H'':AH} {w'':World} (hi:Inv φ H w)
  (h:Step m φ H w φ' H' w') (k:Step m φ' H' w' φ'' H'' w''):Step m φ H w φ'' H'' w'':=by
 have al:∀id l,(H.get id).isSome=true→φ' id=some l→φ id=some l:=by
  intro id l ha hl;obtain ⟨b,hb⟩:=Option.isSome_iff_exists.1 ha;obtain ⟨l0,h0,_⟩:=hi.obj id b hb;have:=h.ext _ _ h0;rw [hl] at this; cases this; exact h0
 refine ⟨Nat.le_trans h.le k.le,Inj.le_trans h.ext k.ext,?_,?_,Nat.le_trans h.size k.size,?_,k.os.trans h.os,k.tape.trans h.tape,k.output.trans h.output⟩
 ·intro id l h2 h0;cases h1:φ' id with
  | some l1 =>
   have:=k.ext _ _ h1;rw [h2] at this; cases this;exact h.new id l h1 h0
  | none =>
   obtain ⟨n1,n2⟩:=k.new id l h2 h1;refine ⟨Nat.le_trans h.le n1,?_⟩;rcases n2 with n2 | ⟨id0,l0,a1,a2,a3,a4⟩
   ·exact .inl (Nat.le_trans h.size n2)
   ·cases h00:φ id0 with
    | none =>
     obtain ⟨_,m2⟩:=h.new id0 l0 a3 h00;rcases m2 with m2 | ⟨id1,l1,b1,b2,b3,b4⟩
     ·exact .inl (a4▸m2)
     ·exact .inr ⟨id1,l1,b1,b2,b3,b4.trans a4⟩
    | some l00 =>
     rcases h.alv id0 a2 with ha | ha
     ·have:=h.ext _ _ h00;rw [a3] at this; cases this;exact .inr ⟨id0,l0,a1,ha,h00,a4⟩
     ·rw [h00] at ha; cases ha
 ·intro id h2;rcases k.alv id h2 with h1 | h1
  ·exact h.alv id h1
  ·refine .inr ?_;cases h0:φ id with
   | none=>rfl
   | some l=>rw [h.ext _ _ h0] at h1; cases h1
 ·intro c hc hno;rw [k.keep c (Nat.lt_of_lt_of_le hc h.size) ?_,h.keep c hc hno];intro id l hm ha hl;rcases h.alv id ha with h0 | h0
  ·exact hno id l hm h0 (al id l h0 hl)
  ·obtain ⟨_,m2⟩:=h.new id l hl h0;rcases m2 with m2 | ⟨id1,l1,b1,b2,b3,b4⟩
   ·omega
   ·exact b4▸hno id1 l1 b1 b2 b3
theorem I2 {α β:Type} (P:Program) (m:Nat) (s:Sem α) (k:α→Sem β) (H:AH) :
  arun P m (s.bind k) H=match arun P m s H with | some (a,H')=>arun P m (k a) H' | none=>none:=by
 induction s generalizing H with
 | pure a=>simp [Sem.bind,arun]
 | load md a c ih=>simp only [Sem.bind,arun]; split <;> simp_all
 | store md a v c ih =>
  simp only [Sem.bind,arun];cases one v <;> simp only [cond_true,cond_false]
  split <;> simp_all
 | new o c ih=>simp only [Sem.bind,arun]; split <;> simp_all
 | shape r c ih=>simp [Sem.bind,arun]
 | freeze a n c ih=>simp [Sem.bind,arun]
 | frozen a c ih=>simp [Sem.bind,arun]
 | getObj r c ih =>
  simp only [Sem.bind,arun];split
  ·rename_i b _; cases isRef b.obj <;> simp_all
  ·rfl
 | setObj r o c ih =>
  simp only [Sem.bind,arun];split
  ·rename_i b _; cases (Nat.ble m r&&isRef b.obj&&isRef o&&!b.ro) <;> simp_all
  ·rfl
 | choose q c ih=>simp only [Sem.bind,arun]; cases q.forced <;> simp_all
 | sys c k ih=>simp [Sem.bind,arun]
 | program c ih=>simp [Sem.bind,arun,ih]
 | mark mk c ih=>simp [Sem.bind,arun,ih]
 | halt h=>simp [Sem.bind,arun]
theorem D4 {α:Type} (P:Program) (s:Sem α) (a:α) (h:peval P s=some a) (w:World):s.run P w=.ok a w:=by
 induction s generalizing w with
 | pure b=>simp [peval] at h; subst h; rfl
 | program c ih=>exact ih _ h w
 | mark mk c ih=>exact ih h w
 | _=>simp [peval] at h
def Sim (P:Program) (m:Nat) {α β:Type} (R:Inj→α→β→Prop) (φ:Inj) (s:Sem α) (s':Sem β):Prop :=
 ∀H w x H',arun P m s H=some (x,H')→Inv φ H w→∃φ' y w',s'.run P w=.ok y w'∧Inv φ' H' w'∧Step m φ H w φ' H' w'∧R φ' x y
variable {P:Program} {m:Nat} {α β γ δ:Type}
theorem C1 {R:Inj→α→β→Prop} {R':Inj→γ→δ→Prop} {φ:Inj} {s:Sem α} {s':Sem β} {k:α→Sem γ} {k':β→Sem δ}
  (h:Sim P m R φ s s') (hk:∀φ',φ.le φ'→∀x y,R φ' x y→Sim P m R' φ' (k x) (k' y)):Sim P m R' φ (s >>= k) (s' >>= k'):=by
 intro H w z H'' hr hi;change arun P m (s.bind k) H=_ at hr;rw [I2] at hr;cases hs:arun P m s H with
 | none=>rw [hs] at hr; cases hr
 | some p =>
  obtain ⟨x,H'⟩:=p;rw [hs] at hr;obtain ⟨φ',y,w',r1,i1,s1,q1⟩:=h H w x H' hs hi;obtain ⟨φ'',u,w'',r2,i2,s2,q2⟩:=hk φ' s1.ext x y q1 H' w' z H'' hr i1;exact ⟨φ'',u,w'',by rw [Sem.run_bind,r1]; exact r2,i2,s1.trans hi s2,q2⟩
theorem E1 {R:Inj→α→β→Prop} {φ:Inj} {x:α} {y:β} (h:R φ x y):Sim P m R φ (Pure.pure x) (Pure.pure y):=by
 intro H w z H' hr hi;have:some (x,H)=some (z,H'):=hr;simp only [Option.some.injEq,Prod.mk.injEq] at this;obtain ⟨rfl,rfl⟩:=this;exact ⟨φ,y,w,rfl,hi,Step.refl _ _ _ _,h⟩
theorem G1 {R:Inj→α→β→Prop} {φ:Inj} {h:Halt} {s':Sem β}:Sim P m R φ (.halt h) s':=by
 intro H w z H' hr hi;simp [arun] at hr
def EqR (α:Type):Inj→α→α→Prop:=fun _ x y=>x=y
theorem z8s {φ:Inj}:Sim P m (EqR Program) φ program program:=by
 intro H w z H' hr hi;have:some (P,H)=some (z,H'):=hr;simp only [Option.some.injEq,Prod.mk.injEq] at this;obtain ⟨rfl,rfl⟩:=this;exact ⟨φ,P,w,rfl,hi,Step.refl _ _ _ _,rfl⟩
theorem O2 {φ:Inj} (t:TypeId):Sim P m (EqR TypeDesc) φ (underlying t) (underlying t):=by
 unfold Go.underlying;refine C1 z8s fun φ' _ x y e=>?_;cases e;cases x.underlying t with
 | some d=>exact E1 rfl
 | none=>exact G1
theorem z7t {φ:Inj} (t:TypeId):Sim P m (EqR TypeInfo) φ (typeInfo t) (typeInfo t):=by
 unfold Go.typeInfo;refine C1 z8s fun φ' _ x y e=>?_;cases e;cases x.info? t with
 | some d=>exact E1 rfl
 | none=>exact G1
theorem U4 {φ:Inj} (t:TypeId):Sim P m (EqR Nat) φ (sizeOf t) (sizeOf t):=by
 unfold Go.sizeOf;exact C1 (z7t t) fun φ' _ x y e=>by cases e; exact E1 rfl
theorem zbj {φ:Inj} (t:TypeId):Sim P m (EqR Bool) φ (isAgg t) (isAgg t):=by
 unfold Go.isAgg;exact C1 (O2 t) fun φ' _ x y e=>by cases e; split <;> exact E1 rfl
end Go.Abs
namespace Go.Abs
variable {P:Program} {m:Nat}
def AddrR (φ:Inj) (a a':Addr):Prop:=a.spot=none∧∃l,φ a.block=some l∧a'=⟨l.blk,l.off+a.off,none⟩
theorem AddrR.mono {φ ψ:Inj} (hle:φ.le ψ) {a a':Addr} (h:AddrR φ a a'):AddrR ψ a a' :=
 let ⟨h1,l,h2,h3⟩:=h; ⟨h1,l,hle _ _ h2,h3⟩
theorem AddrR.add {φ:Inj} {a a':Addr} (h:AddrR φ a a') (n:Nat):AddrR φ (a.add n) (a'.add n):=by
 obtain ⟨h1,l,h2,h3⟩:=h;subst h3;unfold Addr.add;split
 ·exact ⟨h1,l,h2,rfl⟩
 ·exact ⟨rfl,l,h2,by simp [Nat.add_assoc]⟩
theorem VR.ptr_inv {φ:Inj} {a:Addr} {v':Value} (h:VR φ (.pointer (some a)) v'):∃a',v'=.pointer (some a')∧AddrR φ a a':=by
 cases h with
 | ptr b o l h=>exact ⟨_,rfl,rfl,l,h,rfl⟩
theorem AddrR.ptr {φ:Inj} {a a':Addr} (h:AddrR φ a a'):VR φ (.pointer (some a)) (.pointer (some a')):=by
 obtain ⟨h1,l,h2,h3⟩:=h;obtain ⟨b,o,s⟩:=a;simp only at h1 h2 h3; subst h1 h3;exact .ptr b o l h2
theorem zj6 {H:AH} {a:Addr} {v:Value} (h:H.cell a=some v):a.spot=none∧∃b c e f,H.get a.block=some b∧b.obj=.cells c e f∧c[a.off]? = some v:=by
 unfold AH.cell at h;split at h
 ·rename_i b s c e f opn esz ro h1 h2;exact ⟨h2,_,c,e,f,h1,rfl,h⟩
 ·cases h
theorem Inv.cells {φ:Inj} {H:AH} {w:World} (hi:Inv φ H w) {id:Nat} {b:Blk} {c:Array Value} {e:TypeId} {f:Nat×Nat} (hb:H.get id=some b) (ho:b.obj=.cells c e f) :
  ∃l c' f',φ id=some l∧w.heap[l.blk]? = some (.cells c' e f')∧CellsR φ l b c e c' e f':=by
 obtain ⟨l,hl,h⟩:=hi.obj id b hb;unfold OR at h;rw [ho] at h;obtain ⟨c',e',f',h1,h2⟩:=h;have:=h2.elem;subst this;exact ⟨l,c',f',hl,h1,h2⟩
theorem Inv.cell {φ:Inj} {H:AH} {w:World} (hi:Inv φ H w) {a a':Addr} {v:Value} (h:H.cell a=some v) (ha:AddrR φ a a'):∃v',w.cell? a'=some v'∧VR φ v v':=by
 obtain ⟨h1,b,c,e,f,h2,h3,h4⟩:=zj6 h;obtain ⟨l,c',f',h5,h6,h7⟩:=hi.cells h2 h3;obtain ⟨_,l',h8,h9⟩:=ha;rw [h5] at h8; cases h8;obtain ⟨v',h10,h11⟩:=h7.cell _ _ h4;subst h9;exact ⟨v',by simp [World.cell?,h6,h10],h11⟩
theorem zdd {φ:Inj} {a a':Addr} {md:Mode} (ha:AddrR φ a a'):Sim P m VR φ (load a md) (load a' md):=by
 intro H w z H' hr hi;simp only [Go.load,arun] at hr;cases hc:H.cell a with
 | none=>rw [hc] at hr; cases hr
 | some v =>
  rw [hc] at hr;simp only [Option.some.injEq,Prod.mk.injEq] at hr;obtain ⟨rfl,rfl⟩:=hr;obtain ⟨v',h1,h2⟩:=hi.cell hc ha;exact ⟨φ,v',w,by simp [Go.load,Sem.run,h1],hi,Step.refl _ _ _ _,h2⟩
theorem Inv.put {φ:Inj} {H:AH} {w w':World} {id:Nat} {b b':Blk} {l:Loc} (hi:Inv φ H w) (hb:H.get id=some b) (hro:b.ro=false) (hal:alive b=true) (hl:φ id=some l)
  (hsz:w'.heap.size=w.heap.size) (hoth:∀c,c≠l.blk→w'.heap[c]? = w.heap[c]?) (hor:OR φ l b' w'):Inv φ (H.put id b') w':=by
 refine ⟨fun i k h=>?_,?_,?_⟩
 ·have:=hi.dom i k h; rw [hsz]; exact this
 ·intro i k h;by_cases e:i=id
  ·subst e;rw [AH.get_put_same] at h; cases h;exact ⟨l,hl,hor⟩
  ·rw [AH.get_put_other _ _ e] at h;obtain ⟨l1,h1,h2⟩:=hi.obj i k h;refine ⟨l1,h1,?_⟩;by_cases hk:alive k=true
   ·exact h2.same (hoth _ fun hc=>hi.sep id i b k l l1 hb h (fun hh=>e hh.symm) hro hal hk hl h1 hc.symm)
   ·unfold alive at hk;unfold OR;split at hk
    ·rename_i hd; rw [hd]; trivial
    ·exact absurd rfl hk
 ·intro i j k k' l1 l2 h h' hne hr ha ha' hl1 hl2;by_cases e:i=id
  ·subst e;rw [AH.get_put_other _ _ (fun hh=>hne hh.symm)] at h';exact hi.sep i j b k' l1 l2 hb h' hne hro hal ha' hl1 hl2
  ·rw [AH.get_put_other _ _ e] at h;by_cases e':j=id
   ·subst e';exact hi.sep i j k b l1 l2 h hb hne hr ha hal hl1 hl2
   ·rw [AH.get_put_other _ _ e'] at h';exact hi.sep i j k k' l1 l2 h h' hne hr ha ha' hl1 hl2
theorem Step.put {φ:Inj} {H:AH} {w w':World} {id:Nat} {b b':Blk} {l:Loc} (hm:m≤id) (hb:H.get id=some b) (hl:φ id=some l)
  (hsz:w'.heap.size=w.heap.size) (hoth:∀c,c≠l.blk→w'.heap[c]? = w.heap[c]?) (ho:w'.os=w.os) (ht:w'.tape=w.tape) (hp:w'.output=w.output):Step m φ H w φ (H.put id b') w':=by
 refine ⟨Nat.le_refl _,Inj.le_refl _,fun i k h h'=>(by rw [h] at h'; cases h'),?_,Nat.le_of_eq hsz.symm,?_,ho,ht,hp⟩
 ·intro i h;by_cases e:i=id
  ·subst e; exact .inl (by rw [hb]; rfl)
  ·rw [AH.get_put_other _ _ e] at h; exact .inl h
 ·intro c hc hno;exact hoth c fun e=>hno id l hm (by rw [hb]; rfl) hl e.symm
def Inj.upd (φ:Inj) (id:Nat) (l:Loc):Inj:=fun i=>if i=id then some l else φ i
theorem Inj.upd_same (φ:Inj) (id:Nat) (l:Loc):φ.upd id l id=some l:=by simp [Inj.upd]
theorem Inj.upd_other (φ:Inj) {id i:Nat} (l:Loc) (h:i≠id):φ.upd id l i=φ i:=by simp [Inj.upd,h]
theorem Inj.le_upd {φ:Inj} {id:Nat} (l:Loc) (h:φ id=none):φ.le (φ.upd id l):=by
 intro i k hk;by_cases e:i=id
 ·subst e; rw [h] at hk; cases hk
 ·rw [Inj.upd_other _ _ e]; exact hk
theorem Inv.fresh {φ:Inj} {H:AH} {w:World} (hi:Inv φ H w):φ H.next=none:=by
 cases h:φ H.next with
 | none=>rfl
 | some l=>exact absurd (hi.dom _ _ h).1 (Nat.lt_irrefl _)
theorem Inv.get_lt {φ:Inj} {H:AH} {w:World} (hi:Inv φ H w) {id:Nat} {b:Blk} (h:H.get id=some b):id<H.next:=by
 obtain ⟨l,hl,_⟩:=hi.obj id b h;exact (hi.dom id l hl).1
theorem Inv.push {φ:Inj} {H:AH} {w:World} {b:Blk} {l:Loc} {o:Obj} (hi:Inv φ H w) (hl:l.blk=w.heap.size) (hor:OR (φ.upd H.next l) l b (w.alloc o)) :
  Inv (φ.upd H.next l) (H.push b) (w.alloc o):=by
 have hf:=hi.fresh;have hle:=Inj.le_upd l hf;refine ⟨fun i k h=>?_,?_,?_⟩
 ·by_cases e:i=H.next
  ·subst e; rw [Inj.upd_same] at h; cases h; simp [hl]
  ·rw [Inj.upd_other _ _ e] at h;have:=hi.dom i k h;simp only [AH.next_push,World.size_alloc]; omega
 ·intro i k h;by_cases e:i=H.next
  ·subst e; rw [AH.get_push_same] at h; cases h;exact ⟨l,Inj.upd_same _ _ _,hor⟩
  ·rw [AH.get_push_other _ _ e] at h;obtain ⟨l1,h1,h2⟩:=hi.obj i k h;refine ⟨l1,hle _ _ h1,(h2.mono hle).same ?_⟩;have:=(hi.dom i l1 h1).2;have hne:l1.blk≠w.heap.size:=by omega
   simp only [World.alloc,Array.getElem?_push];rw [if_neg hne]
 ·intro i j k k' l1 l2 h h' hne hr ha ha' hl1 hl2;by_cases e:i=H.next
  ·subst e;rw [AH.get_push_other _ _ (fun hh=>hne hh.symm)] at h';rw [Inj.upd_same] at hl1; cases hl1;rw [Inj.upd_other _ _ (fun hh=>hne hh.symm)] at hl2;have:=(hi.dom j l2 hl2).2;omega
  ·rw [AH.get_push_other _ _ e] at h;rw [Inj.upd_other _ _ e] at hl1;by_cases e':j=H.next
   ·subst e';rw [Inj.upd_same] at hl2; cases hl2;have:=(hi.dom i l1 hl1).2;omega
   ·rw [AH.get_push_other _ _ e'] at h';rw [Inj.upd_other _ _ e'] at hl2;exact hi.sep i j k k' l1 l2 h h' hne hr ha ha' hl1 hl2
theorem Step.push {φ:Inj} {H:AH} {w:World} {b:Blk} {l:Loc} {o:Obj} (hi:Inv φ H w) (hl:l.blk=w.heap.size) :
  Step m φ H w (φ.upd H.next l) (H.push b) (w.alloc o):=by
 refine ⟨by simp,Inj.le_upd l hi.fresh,?_,?_,by simp,?_,rfl,rfl,rfl⟩
 ·intro i k h h';by_cases e:i=H.next
  ·subst e; rw [Inj.upd_same] at h; cases h;exact ⟨Nat.le_refl _,.inl (Nat.le_of_eq hl.symm)⟩
  ·rw [Inj.upd_other _ _ e,h'] at h; cases h
 ·intro i h;by_cases e:i=H.next
  ·subst e; exact .inr hi.fresh
  ·rw [AH.get_push_other _ _ e] at h; exact .inl h
 ·intro c hc _;simp only [World.alloc,Array.getElem?_push];rw [if_neg (by omega)]
theorem Y8 {w:World} {a:Addr} {v:Value} {c:Array Value} {e:TypeId} {f:Nat×Nat} (h:w.heap[a.block]? = some (.cells c e f)) (hs:a.spot=none) :
  (w.setCell a v).heap[a.block]? = some (.cells (c.setIfInBounds a.off v) e f):=by
 simp [World.setCell,Array.getElem?_modify,h,hs]
theorem z1h {w:World} {a:Addr} {v:Value} {k:Nat} (h:k≠a.block):(w.setCell a v).heap[k]? = w.heap[k]? := by
 simp only [World.setCell,Array.getElem?_modify];rw [if_neg (fun e=>h e.symm)]
theorem zeh {H H':AH} {a:Addr} {v:Value} (h:H.setCell m a v=some H') :
  a.spot=none∧m≤a.block∧∃c e f opn esz,H.get a.block=some { obj:=.cells c e f,opn,esz,ro:=false }∧a.off<c.size ∧
   H'=H.put a.block { obj:=.cells (c.setIfInBounds a.off v) e f,opn,esz,ro:=false }:=by
 unfold AH.setCell at h;split at h
 ·rename_i c e f opn esz h1 h2;cases hb:(Nat.ble m a.block&&Nat.blt a.off c.size) with
  | false=>rw [hb] at h; cases h
  | true =>
   rw [hb] at h;simp only [Bool.and_eq_true] at hb;refine ⟨h2,Nat.le_of_ble_eq_true hb.1,c,e,f,opn,esz,h1,?_,(Option.some.inj h).symm⟩;have:=Nat.le_of_ble_eq_true hb.2; omega
 ·cases h
theorem one_eq {φ:Inj} {v v':Value} (h:VR φ v v'):one v'=one v:=by
 cases h with
 | complex _ _ _ _ hv=>rw [hv]; rfl
 | _=>rfl
theorem z6n (w:World) (a:Addr) (v u:Value) (md:Mode) (hv:one v=true) (hc:w.cell? a=some u) (hf:w.frozen? a=false) :
  (store a v md).run P w=.ok () (w.setCell a v):=by
 cases v <;> simp_all [store,Sem.run,one]
theorem z8u {φ:Inj} {H H':AH} {w:World} {a a':Addr} {v v':Value} (hi:Inv φ H w) (ha:AddrR φ a a') (hv:VR φ v v') (hone:one v=true) (hs:H.setCell m a v=some H') (md:Mode) :
  (store a' v' md).run P w=.ok () (w.setCell a' v')∧Inv φ H' (w.setCell a' v')∧Step m φ H w φ H' (w.setCell a' v'):=by
 obtain ⟨h1,h2,c,e,f,opn,esz,h3,h4,rfl⟩:=zeh hs;obtain ⟨l,c',f',h5,h6,h7⟩:=hi.cells h3 rfl;obtain ⟨_,l',h8,h9⟩:=ha;rw [h5] at h8; cases h8;have hf:=h7.own rfl;subst h9;obtain ⟨u,hu1,hu2⟩:=h7.cell a.off c[a.off] (by simp [h4]);have hcell:w.cell? ⟨l.blk,l.off+a.off,none⟩=some u:=by simp [World.cell?,h6,hu1]
 have hfz:w.frozen? ⟨l.blk,l.off+a.off,none⟩=false:=by
  have hlt:l.off+a.off<c'.size:=by
   rw [Array.getElem?_eq_some_iff] at hu1; exact hu1.1
  obtain ⟨p,q⟩:=f';simp only [World.frozen?,h6];simp only at hf;rw [Bool.eq_false_iff]; simp only [ne_eq,Bool.and_eq_true,decide_eq_true_eq]; omega
 have hoth:∀k,k≠l.blk→(w.setCell ⟨l.blk,l.off+a.off,none⟩ v').heap[k]? = w.heap[k]? := fun k hk=>z1h hk;have hsame:=Y8 (w:=w) (a:=⟨l.blk,l.off+a.off,none⟩) (v:=v') h6 rfl;refine ⟨z6n w _ v' u md ((one_eq hv).trans hone) hcell hfz,?_,?_⟩
 ·refine hi.put h3 rfl rfl h5 (by simp) hoth ?_;refine ⟨_,_,_,hsame,?_⟩;refine ⟨?_,by simpa using h7.fin,h7.esz,?_,fun _=>by simpa using hf,rfl⟩
  ·intro i x hx;by_cases ei:i=a.off
   ·subst ei;have hx':x=v:=by simpa [Array.getElem?_setIfInBounds,h4] using hx.symm
    subst hx';refine ⟨v',?_,hv⟩;have:l.off+a.off<c'.size:=by
     rw [Array.getElem?_eq_some_iff] at hu1; exact hu1.1
    simp [this]
   ·have hx':c[i]? = some x:=by
     rw [Array.getElem?_setIfInBounds,if_neg (fun e=>ei e.symm)] at hx; exact hx
    obtain ⟨y,hy1,hy2⟩:=h7.cell i x hx';refine ⟨y,?_,hy2⟩;rw [Array.getElem?_setIfInBounds,if_neg (by simp; omega)];exact hy1
  ·intro ho;have:=h7.exact_ ho
   simpa using this
 ·exact Step.put h2 h3 h5 (by simp) hoth rfl rfl rfl
theorem zic {φ:Inj} {a a':Addr} {v v':Value} {md:Mode} (ha:AddrR φ a a') (hv:VR φ v v'):Sim P m (EqR Unit) φ (store a v md) (store a' v' md):=by
 intro H w z H' hr hi;simp only [Go.store,arun] at hr;cases ho:one v with
 | false=>rw [ho] at hr; cases hr
 | true =>
  rw [ho] at hr;simp only [cond_true] at hr;cases hs:H.setCell m a v with
  | none=>rw [hs] at hr; cases hr
  | some H1 =>
   rw [hs] at hr;simp only [Option.some.injEq,Prod.mk.injEq] at hr;obtain ⟨_,rfl⟩:=hr;obtain ⟨r1,r2,r3⟩:=z8u (P:=P) hi ha hv ho hs md;exact ⟨φ,(),_,r1,r2,r3,rfl⟩
end Go.Abs
namespace Go.Abs
variable {P:Program} {m:Nat}
theorem AR.empty (φ:Inj):AR φ #[] #[]:=⟨rfl,fun i x y h=>by simp at h⟩
theorem AR.push {φ:Inj} {f f':Array Value} (h:AR φ f f') {v v':Value} (hv:VR φ v v'):AR φ (f.push v) (f'.push v'):=by
 refine ⟨by simp [h.1],fun i x y hx hy=>?_⟩;rw [Array.getElem?_push] at hx hy;rw [← h.1] at hy;split at hx
 ·rename_i e; rw [if_pos e] at hy; cases hx; cases hy; exact hv
 ·rename_i e; rw [if_neg e] at hy; exact h.2 i x y hx hy
theorem AR.extract {φ:Inj} {f f':Array Value} (h:AR φ f f') (a b:Nat):AR φ (f.extract a b) (f'.extract a b):=by
 refine ⟨by simp [h.1],fun i x y hx hy=>?_⟩;rw [Array.getElem?_extract] at hx hy;rw [← h.1] at hy;split at hx
 ·rename_i e; rw [if_pos e] at hy; exact h.2 _ x y hx hy
 ·cases hx
theorem AR.append {φ:Inj} {f f' g g':Array Value} (h:AR φ f f') (k:AR φ g g'):AR φ (f++g) (f'++g'):=by
 refine ⟨by simp [h.1,k.1],fun i x y hx hy=>?_⟩;rw [Array.getElem?_append] at hx hy;rw [← h.1] at hy;split at hx
 ·rename_i e; rw [if_pos e] at hy; exact h.2 _ x y hx hy
 ·rename_i e; rw [if_neg e] at hy; exact k.2 _ x y hx hy
theorem AR.set {φ:Inj} {f f':Array Value} (h:AR φ f f') (j:Nat) {v v':Value} (hv:VR φ v v'):AR φ (f.setIfInBounds j v) (f'.setIfInBounds j v'):=by
 refine ⟨by simp [h.1],fun i x y hx hy=>?_⟩;rw [Array.getElem?_setIfInBounds] at hx hy;rw [← h.1] at hy;split at hx
 ·rename_i e; rw [if_pos e] at hy;split at hx
  ·rename_i e2; rw [if_pos e2] at hy; cases hx; cases hy; exact hv
  ·cases hx
 ·rename_i e; rw [if_neg e] at hy; exact h.2 _ x y hx hy
theorem AR.single {φ:Inj} {v v':Value} (h:VR φ v v'):AR φ #[v] #[v']:=by simpa using (AR.empty φ).push h
theorem AR.map {φ:Inj} {α:Type} (f f':α→Value) (xs:Array α) (h:∀x∈xs,VR φ (f x) (f' x)):AR φ (xs.map f) (xs.map f'):=by
 refine ⟨by simp,fun i x y hx hy=>?_⟩;simp only [Array.getElem?_map,Option.map_eq_some_iff] at hx hy;obtain ⟨a,h1,rfl⟩:=hx;obtain ⟨b,h2,rfl⟩:=hy;rw [h1] at h2; cases h2;exact h a (Array.mem_of_getElem? h1)
theorem ze4 {v:Value} (h:one v=true):v.cells=#[v]:=by cases v <;> first | rfl | cases h
theorem VR.cells {φ:Inj} {v v':Value} (h:VR φ v v'):AR φ v.cells v'.cells:=by
 cases h with
 | agg f f' hf h1=>exact ⟨hf,h1⟩
 | bool b=>exact AR.single (.bool b)
 | int k n=>exact AR.single (.int k n)
 | float k n=>exact AR.single (.float k n)
 | complex k a b v hv=>rw [ze4 hv]; exact AR.single (.complex k a b _ hv)
 | string s=>exact AR.single (.string s)
 | ptrNil=>exact AR.single .ptrNil
 | ptr b o l h=>exact AR.single (.ptr b o l h)
 | sliceNil n c=>exact AR.single (.sliceNil n c)
 | slice b o n c l h hc=>exact AR.single (.slice b o n c l h hc)
 | sliceOpen b o n c l h hn hc=>exact AR.single (.sliceOpen b o n c l h hn hc)
 | sliceEnd b o l a h=>exact AR.single (.sliceEnd b o l a h)
 | sliceZero b o l a h=>exact AR.single (.sliceZero b o l a h)
 | mapNil=>exact AR.single .mapNil
 | map r l h=>exact AR.single (.map r l h)
 | chanNil=>exact AR.single .chanNil
 | func fn f g f' g' hf hg i1 i2=>exact AR.single (.func fn f g f' g' hf hg i1 i2)
 | nilFunc=>exact AR.single .nilFunc
 | iface t v v' h=>exact AR.single (.iface t v v' h)
 | nilIface=>exact AR.single .nilIface
 | tuple f f' hf h1=>exact AR.single (.tuple f f' hf h1)
theorem z8h:∀(n i:Nat) {φ:Inj} {a a':Addr} {acc acc':Array Value},AddrR φ a a'→AR φ acc acc' →
  Sim P m AR φ (loadCellsFrom a i n acc) (loadCellsFrom a' i n acc'):=by
 intro n;induction n with
 | zero=>intro i φ a a' acc acc' _ h; exact E1 h
 | succ n ih =>
  intro i φ a a' acc acc' ha h;unfold Go.loadCellsFrom;exact C1 (zdd (ha.add i)) fun φ' hle x y hxy=>ih (i+1) (ha.mono hle) ((h.mono hle).push hxy)
theorem z1y {φ:Inj} {a a':Addr} (n:Nat) (ha:AddrR φ a a'):Sim P m AR φ (loadCells a n) (loadCells a' n):=z8h n 0 ha (AR.empty φ)
theorem zf3 {φ:Inj} {a a':Addr} (t:TypeId) (ha:AddrR φ a a'):Sim P m VR φ (loadVar t a) (loadVar t a'):=by
 unfold Go.loadVar;refine C1 (zbj t) fun φ1 h1 x y e=>?_;cases e;cases x
 ·exact zdd (ha.mono h1)
 ·refine C1 (U4 t) fun φ2 h2 n n' e=>?_;cases e;refine C1 (z1y n ((ha.mono h1).mono h2)) fun φ3 h3 f f' hf=>?_;exact E1 (.agg f f' hf.1 hf.2)
theorem z5g:∀(l l':List Value) (i:Nat) {φ:Inj} {a a':Addr},AddrR φ a a'→LR φ l l'→Sim P m (EqR Unit) φ (storeCells a l i) (storeCells a' l' i):=by
 intro l;induction l with
 | nil=>intro l' i φ a a' _ h; cases h; exact E1 rfl
 | cons v l ih =>
  intro l' i φ a a' ha h;cases h with
  | cons hv ht =>
   unfold Go.storeCells;exact C1 (zic (ha.add i) hv) fun φ' hle _ _ _=>ih _ (i+1) (ha.mono hle) (LR.mono hle ht)
theorem zdn {φ:Inj} {a a':Addr} {v v':Value} (t:TypeId) (ha:AddrR φ a a') (hv:VR φ v v'):Sim P m (EqR Unit) φ (storeVar t a v) (storeVar t a' v'):=by
 unfold Go.storeVar;refine C1 (U4 t) fun φ1 h1 n n' e=>?_;cases e;have hc:=hv.cells;rw [← hc.1];split
 ·exact G1
 ·exact z5g _ _ 0 (ha.mono h1) (LR.mono h1 (AR_iff.1 hc))
theorem I6 (w:World) (o:Obj):(w.alloc o).heap[w.heap.size]? = some o:=by
 simp only [World.alloc,Array.getElem?_push_size]
theorem ze7 {φ:Inj} {c c':Array Value} (e:TypeId) (hc:AR φ c c'):Sim P m (fun φ r r'=>∃l,φ r=some l∧l.off=0∧r'=l.blk) φ (newObj (.cells c e)) (newObj (.cells c' e)):=by
 intro H w z H' hr hi;simp only [newObj,arun,blkOf] at hr;simp only [Option.some.injEq,Prod.mk.injEq] at hr;obtain ⟨rfl,rfl⟩:=hr
 let l:Loc:=⟨w.heap.size,0,c'.size,0⟩
 refine ⟨φ.upd H.next l,w.heap.size,w.alloc (.cells c' e),rfl,?_,Step.push hi rfl,l,Inj.upd_same _ _ _,rfl,rfl⟩;refine hi.push rfl ⟨c',e,(0,0),I6 _ _,?_⟩;refine ⟨fun i v hv=>?_,Nat.le_refl _,fun h=>(by cases h),fun _=>⟨rfl,hc.1.symm⟩,fun _=>.inl (Nat.le_refl _),rfl⟩;obtain ⟨v',h1,h2⟩:=hc.get hv;exact ⟨v',by simpa [l] using h1,h2.mono (Inj.le_upd l hi.fresh)⟩
theorem z6e {φ:Inj} {c c':Array Value} (e:TypeId) (hc:AR φ c c'):Sim P m AddrR φ (newRow e c) (newRow e c'):=by
 unfold Go.newRow;refine C1 (ze7 e hc) fun φ1 h1 x y h=>?_;obtain ⟨l,h2,h3,rfl⟩:=h;exact E1 ⟨rfl,l,h2,by simp [h3]⟩
theorem za2 {φ:Inj} {v v':Value} (t:TypeId) (hv:VR φ v v'):Sim P m AddrR φ (newVar t v) (newVar t v'):=z6e t hv.cells
theorem zao {φ:Inj} {o o':Obj} (ho:ObjR φ o o'):Sim P m (fun φ r r'=>∃l,φ r=some l∧l.off=0∧r'=l.blk) φ (newObj o) (newObj o'):=by
 intro H w z H' hr hi;have hle:=Inj.le_upd (⟨w.heap.size,0,0,0⟩:Loc) hi.fresh;have go:∀b:Blk,b.obj=o→alive b=true→blkOf o=some b→∃φ' y w',(newObj o').run P w=.ok y w'∧Inv φ' H' w'∧Step m φ H w φ' H' w'∧∃l,φ' z=some l∧l.off=0∧y=l.blk:=by
  intro b hb ha hk;simp only [newObj,arun,hk,Option.some.injEq,Prod.mk.injEq] at hr;obtain ⟨rfl,rfl⟩:=hr;refine ⟨φ.upd H.next ⟨w.heap.size,0,0,0⟩,w.heap.size,w.alloc o',rfl,?_,Step.push hi rfl,_,Inj.upd_same _ _ _,rfl,rfl⟩;refine hi.push rfl ?_;have hx:=I6 w o';unfold OR;rw [hb];have h2:=ho.mono hle;cases o <;> first | exact ⟨o',hx,h2,rfl⟩ | exact h2.elim
 cases o with
 | map es n=>exact go _ rfl rfl rfl
 | stringIter s p=>exact go _ rfl rfl rfl
 | mapIter a b c d=>exact go _ rfl rfl rfl
 | _=>exact ho.elim
theorem Inv.ref {φ:Inj} {H:AH} {w:World} (hi:Inv φ H w) {id:Nat} {b:Blk} (hb:H.get id=some b) (hr:isRef b.obj=true) :
  ∃l o',φ id=some l∧w.heap[l.blk]? = some o'∧ObjR φ b.obj o'∧l.off=0:=by
 obtain ⟨l,hl,h⟩:=hi.obj id b hb;unfold OR at h;unfold isRef at hr;split at h
 ·rename_i hq; rw [hq] at hr; cases hr
 ·rename_i hq; rw [hq] at hr; cases hr
 ·obtain ⟨o',h3,h4⟩:=h;exact ⟨l,o',hl,h3,h4⟩
theorem ObjR.notCells {φ:Inj} {o o':Obj} (h:ObjR φ o o'):∀c e f,o'≠.cells c e f:=by
 intro c e f he;subst he;unfold ObjR at h;split at h <;> first | exact h.elim | (rename_i hq; cases hq) | (rename_i hq _; cases hq)
theorem F8 {φ:Inj} {r:Nat} {l:Loc} (hl:φ r=some l):Sim P m ObjR φ (getObj r) (getObj l.blk):=by
 intro H w z H' hr hi;simp only [Go.getObj,arun] at hr;cases hb:H.get r with
 | none=>rw [hb] at hr; cases hr
 | some b =>
  rw [hb] at hr;simp only at hr;cases hq:isRef b.obj with
  | false=>rw [hq] at hr; cases hr
  | true =>
   rw [hq] at hr;simp only [cond_true,Option.some.injEq,Prod.mk.injEq] at hr;obtain ⟨rfl,rfl⟩:=hr;obtain ⟨l1,o',h1,h2,h3,_⟩:=hi.ref hb hq;rw [hl] at h1; cases h1;have hn:=h3.notCells;refine ⟨φ,o',w,?_,hi,Step.refl _ _ _ _,h3⟩;simp only [Go.getObj,Sem.run,h2]
theorem z2h {φ:Inj} {r:Nat} {l:Loc} {o o':Obj} (hl:φ r=some l) (ho:ObjR φ o o'):Sim P m (EqR Unit) φ (setObj r o) (setObj l.blk o'):=by
 intro H w z H' hr hi;simp only [Go.setObj,arun] at hr;cases hb:H.get r with
 | none=>rw [hb] at hr; cases hr
 | some b =>
  rw [hb] at hr;simp only at hr;cases hq:(Nat.ble m r&&isRef b.obj&&isRef o&&!b.ro) with
  | false=>rw [hq] at hr; cases hr
  | true =>
   rw [hq] at hr;simp only [cond_true,Option.some.injEq,Prod.mk.injEq] at hr;obtain ⟨_,rfl⟩:=hr;simp only [Bool.and_eq_true,Bool.not_eq_true'] at hq;obtain ⟨⟨⟨hm,hb1⟩,ho1⟩,hro⟩:=hq;obtain ⟨l1,o1,h1,h2,h3,h0⟩:=hi.ref hb hb1;rw [hl] at h1; cases h1;have hn:=h3.notCells;have hlt:l.blk<w.heap.size:=(hi.dom _ _ hl).2;have hoth:∀c,c≠l.blk→({ w with heap:=w.heap.setIfInBounds l.blk o' }:World).heap[c]? = w.heap[c]? := by
    intro c hc;simp only [Array.getElem?_setIfInBounds];rw [if_neg (fun e=>hc e.symm)]
   refine ⟨φ,(),{ w with heap:=w.heap.setIfInBounds l.blk o' },?_,?_,Step.put (Nat.le_of_ble_eq_true hm) hb hl (by simp) hoth rfl rfl rfl,rfl⟩
   ·simp only [Go.setObj,Sem.run,h2]
   ·have hal:alive b=true:=by unfold alive; unfold isRef at hb1; split <;> simp_all
    refine hi.put hb hro hal hl (by simp) hoth ?_;have hx:({ w with heap:=w.heap.setIfInBounds l.blk o' }:World).heap[l.blk]? = some o':=by simp [hlt]
    unfold OR;cases o <;> first | exact ⟨o',hx,ho,h0⟩ | exact ho.elim
end Go.Abs
namespace Go.Abs
variable {P:Program} {m:Nat}
def NextR (φ:Inj):Next→Next→Prop
 | .value v,.value v'=>VR φ v v'
 | .skip,.skip=>True
 | _,_=>False
theorem sim_v {φ:Inj} {s s':Sem Value} (h:Sim P m VR φ s s'):Sim P m NextR φ (do pure (.value (← s))) (do pure (.value (← s'))) :=
 C1 h fun φ' _ x y hxy=>E1 hxy
theorem sim_u {φ:Inj} {s s':Sem Unit} {R:Inj→Unit→Unit→Prop} (h:Sim P m R φ s s'):Sim P m NextR φ (do s; pure .skip) (do s'; pure .skip) :=
 C1 h fun φ' _ x y hxy=>E1 (R:=NextR) trivial
theorem o4 {α:Type} (e:RuntimeError) (H:AH):arun P m (runtimePanic e:Sem α) H=none:=by
 cases e <;> simp only [Go.runtimePanic,bind,I2,arun,program,goPanic,newVar,newRow,newObj,pure,elemOf,underlying] <;>
  (repeat' split) <;> simp_all [stuck]
theorem t7 {α β:Type} (s:Sem α) (k:α→Sem β) (h:∀a H,arun P m (k a) H=none) (H:AH):arun P m (s >>= k) H=none:=by
 change arun P m (s.bind k) H=none;rw [I2];split
 ·exact h _ _
 ·rfl
theorem z17 {α β:Type} (s:Sem α) (k:α→Sem β) (H:AH) (h:arun P m s H=none):arun P m (s >>= k) H=none:=by
 change arun P m (s.bind k) H=none;rw [I2,h]
theorem z66 {α β:Type} {R:Inj→α→β→Prop} {φ:Inj} {s:Sem α} {s':Sem β} (h:∀H,arun P m s H=none):Sim P m R φ s s':=by
 intro H w x H' hr;rw [h] at hr; cases hr
theorem zg5 {φ:Inj} (q:Question):Sim P m (EqR Nat) φ (choose q) (choose q):=by
 intro H w z H' hr hi;simp only [Go.choose,arun] at hr;cases hq:q.forced with
 | false=>rw [hq] at hr; cases hr
 | true =>
  rw [hq] at hr;simp only [cond_true,Option.some.injEq,Prod.mk.injEq] at hr;obtain ⟨rfl,rfl⟩:=hr;exact ⟨φ,0,w,by simp [Go.choose,Sem.run,hq],hi,Step.refl _ _ _ _,rfl⟩
theorem i8 {α β:Type} {R:Inj→α→β→Prop} {φ:Inj} (k:IntKind) (x y:Int) (c:BoundsCode) {s':Sem β}:Sim P m R φ (boundsPanic k x y c) s':=by
 refine z66 fun H=>?_;unfold Go.boundsPanic;show arun P m (if _ then _ else _) H=none;split
 ·exact t7 _ _ (fun a H=>o4 _ _) H
 ·exact t7 _ _ (fun a H=>o4 _ _) H
theorem zef {φ:Inj} (n:Nat):Sim P m (EqR Unit) φ (askRoom n) (askRoom n):=by
 intro H w z H' hr hi;unfold Go.askRoom at hr ⊢;split at hr <;> simp only [mark,arun,pure,Option.some.injEq,Prod.mk.injEq] at hr <;> obtain ⟨_,rfl⟩:=hr
 ·exact ⟨φ,(),w,by split <;> rfl,hi,Step.refl _ _ _ _,rfl⟩
 ·exact ⟨φ,(),w,by split <;> rfl,hi,Step.refl _ _ _ _,rfl⟩
theorem z3v {φ:Inj} {v v':Value} (h:VR φ v v'):Sim P m (EqR (IntKind×Int)) φ (asIntOf v) (asIntOf v'):=by
 cases h <;> first | exact E1 rfl | exact G1
theorem z7c {φ:Inj} {v v':Value} (h:VR φ v v'):Sim P m (EqR Int) φ (asInt v) (asInt v'):=by
 unfold Go.asInt;exact C1 (z3v h) fun φ' _ x y e=>by cases e; exact E1 rfl
theorem zi2 {φ:Inj} {v v':Value} (h:VR φ v v'):Sim P m AR φ (asAgg v) (asAgg v'):=by
 cases h <;> first | exact G1 | (rename_i hf h1; exact E1 ⟨hf,h1⟩)
theorem zm {φ:Inj} {v v':Value} (h:VR φ v v'):Sim P m AddrR φ (Instr.sureAddr v) (Instr.sureAddr v'):=by
 cases h <;> first | exact G1 | (rename_i h; exact E1 ⟨rfl,_,h,rfl⟩)
theorem D9 {φ:Inj} {t:TypeId} (hz:zflat P t=true):Sim P m (fun φ x y=>x=y∧flat depth x=true) φ (zeroValue t) (zeroValue t):=by
 intro H w z H' hr hi;unfold Go.zeroValue at hr ⊢;unfold Go.typeInfo at hr ⊢;simp only [bind,I2,program,arun] at hr;unfold zflat at hz;cases hp:P.info? t with
 | none=>rw [hp] at hr; simp [stuck,arun] at hr
 | some i =>
  rw [hp] at hr hz;simp only [pure,arun] at hr hz;cases hq:i.zero with
  | none=>rw [hq] at hr; simp [unsupported,arun] at hr
  | some q =>
   rw [hq] at hr hz;simp only [arun,Option.some.injEq,Prod.mk.injEq] at hr hz;obtain ⟨rfl,rfl⟩:=hr;refine ⟨φ,q,w,?_,hi,Step.refl _ _ _ _,rfl,hz⟩;simp [program,Sem.run,hp,hq]
theorem zgh {v:Value} (h:flat depth v=true):∀(i:Nat) (x:Value),v.cells[i]? = some x→flat depth x=true∨flat 7 x=true:=by
 intro i x hx;cases v with
 | agg cs =>
  simp only [Value.cells] at hx;simp only [depth,flat] at h;rw [Array.all_eq_true] at h;rw [Array.getElem?_eq_some_iff] at hx;obtain ⟨hi,rfl⟩:=hx;exact .inr (h i hi)
 | _ =>
  simp only [Value.cells] at hx;rw [Array.getElem?_eq_some_iff] at hx;obtain ⟨hi,rfl⟩:=hx;simp only [List.size_toArray,List.length_cons,List.length_nil,Nat.zero_add,Nat.lt_one_iff] at hi;subst hi;exact .inl h
theorem X7 {φ:Inj} {v:Value} (h:flat depth v=true):AR φ v.cells v.cells :=
 ⟨rfl,fun i x y hx hy=>by
  rw [hx] at hy; cases hy;rcases zgh h i x hx with h | h <;> exact N2 _ h⟩
theorem zi1 {φ:Inj} {t:TypeId} (hz:zflat P t=true) (b:Bool):Sim P m VR φ (Instr.alloc t true (.tuple #[])) (Instr.alloc t true (.tuple #[])):=by
 unfold Instr.alloc;refine C1 (D9 hz) fun φ1 h1 x y e=>?_;obtain ⟨rfl,hf⟩:=e;exact C1 (za2 t (N2 _ hf)) fun φ2 h2 a a' ha=>E1 ha.ptr
theorem zkm {φ:Inj} {v v':Value} (t:TypeId) (hv:VR φ v v'):Sim P m VR φ (Instr.box t v) (Instr.box t v'):=by
 unfold Instr.box;exact C1 (za2 t hv) fun φ2 h2 a a' ha=>E1 ha.ptr
theorem zfy {φ:Inj} {v v':Value} (t:TypeId) (hv:VR φ v v'):Sim P m VR φ (Instr.loadAt t v) (Instr.loadAt t v'):=by
 unfold Instr.loadAt;exact C1 (zm hv) fun φ2 h2 a a' ha=>zf3 t ha
theorem zei {φ:Inj} {v v' x x':Value} (t:TypeId) (hv:VR φ v v') (hx:VR φ x x'):Sim P m (EqR Unit) φ (Instr.storeAt t v x) (Instr.storeAt t v' x'):=by
 unfold Instr.storeAt;exact C1 (zm hv) fun φ2 h2 a a' ha=>zdn t ha (hx.mono h2)
theorem zdf {φ:Inj} {f f':Array Value} (t:TypeId) (off:Nat) (hf:AR φ f f'):Sim P m VR φ (part t f off) (part t f' off):=by
 unfold Go.part;refine C1 (zbj t) fun φ1 h1 x y e=>?_;cases e;cases x
 ·simp only [Bool.false_eq_true,if_false];cases hx:f[off]? with
  | none=>exact G1
  | some u =>
   obtain ⟨u',h2,h3⟩:=hf.get hx;rw [h2];exact E1 (h3.mono h1)
 ·simp only [if_true];refine C1 (U4 t) fun φ2 h2 n n' e=>?_;cases e;have:=((hf.mono h1).mono h2).extract off (off+n);exact E1 (.agg _ _ this.1 this.2)
theorem zhh {φ:Inj} {v v':Value} (t:TypeId) (k:Nat) (hv:VR φ v v'):Sim P m VR φ (Instr.field t v k) (Instr.field t v' k):=by
 unfold Instr.field;refine C1 (O2 t) fun φ1 h1 d d' e=>?_;cases e;cases d with
 | struct fields =>
  simp only;cases fields[k]? with
  | none=>exact G1
  | some f =>
   simp only;exact C1 (zi2 (hv.mono h1)) fun φ2 h2 f1 f2 hf=>zdf _ _ hf
 | _=>exact G1
theorem zax {φ:Inj} {a a':Addr} (f:Field) (ha:AddrR φ a a'):Sim P m AddrR φ (fieldPlace a f) (fieldPlace a' f):=by
 unfold Go.fieldPlace;refine C1 (U4 _) fun φ1 h1 n n' e=>?_;cases e;split
 ·intro H w x H' hr;exfalso;unfold partAt byteOf at hr;simp only [bind,I2,pure] at hr;obtain ⟨h1,_⟩:=ha;rw [h1] at hr;simp [arun,program,I2,noView,viewAt,shape,bind] at hr
 ·exact E1 ((ha.mono h1).add _)
theorem zed {φ:Inj} {v v':Value} (t:TypeId) (k:Nat) (hv:VR φ v v'):Sim P m VR φ (Instr.fieldAt t v k) (Instr.fieldAt t v' k):=by
 unfold Instr.fieldAt;refine C1 (O2 t) fun φ1 h1 d d' e=>?_;cases e;cases d with
 | struct fields =>
  simp only;cases fields[k]? with
  | none=>exact G1
  | some f =>
   simp only;refine C1 (zm (hv.mono h1)) fun φ2 h2 a a' ha=>?_;exact C1 (zax f ha) fun φ3 h3 b b' hb=>E1 hb.ptr
 | _=>exact G1
end Go.Abs
namespace Go.Abs
variable {P:Program} {m:Nat}
theorem zf2 {φ:Inj} {v v':Value} (k:Nat) (hv:VR φ v v'):Sim P m VR φ (Instr.extract v k) (Instr.extract v' k):=by
 cases hv with
 | tuple f f' hf h1 =>
  simp only [Instr.extract];cases hx:f[k]? with
  | none=>exact G1
  | some u =>
   obtain ⟨u',h2,h3⟩:=AR.get ⟨hf,h1⟩ hx;rw [h2];exact E1 h3
 | _=>exact G1
theorem z87 {φ:Inj} {v v':Value} (t:TypeId) (hv:VR φ v v'):Sim P m VR φ (Instr.makeInterface t v) (Instr.makeInterface t v'):=by
 unfold Instr.makeInterface;refine C1 (O2 t) fun φ1 h1 d d' e=>?_;cases e;split
 ·exact G1
 ·exact E1 (.iface t v v' (hv.mono h1))
theorem zd1 {φ:Inj} (fn:Fn) {f f' g g':Array Value} (hf:AR φ f f') (hg:AR φ g g'):Sim P m VR φ (Instr.makeFunc fn f g) (Instr.makeFunc fn f' g') :=
 E1 (.func fn f g f' g' hf.1 hg.1 hf.2 hg.2)
theorem zew {φ:Inj} (t:TypeId) {r r':Option Value} (hr:(r=none∧r'=none)∨∃v v',r=some v∧r'=some v'∧VR φ v v'):Sim P m VR φ (Instr.makeMap t r) (Instr.makeMap t r'):=by
 have go:∀φ1,φ.le φ1→Sim P m VR φ1 (do pure (.map (some (← newObj (.map #[] 0))))) (do pure (.map (some (← newObj (.map #[] 0))))):=by
  intro φ1 _;refine C1 (zao (o:=.map #[] 0) (o':=.map #[] 0) ⟨rfl,rfl,fun i x y h=>by simp at h⟩) fun φ2 h2 x y h=>?_;obtain ⟨l,h3,_,rfl⟩:=h;exact E1 (.map x l h3)
 rcases hr with ⟨rfl,rfl⟩ | ⟨v,v',rfl,rfl,hv⟩
 ·exact go φ (Inj.le_refl _)
 ·unfold Instr.makeMap;simp only;refine C1 (O2 t) fun φ1 h1 d d' e=>?_;cases e;cases d with
  | map a b =>
   simp only;exact C1 (z7c (hv.mono h1)) fun φ2 h2 x y e=>go φ2 (Inj.le_trans h1 h2)
  | _=>exact G1
theorem S6 {φ:Inj} (t:TypeId) (k:IntKind) (n:Int) (p q:Option Addr×Nat×TypeId) (e1:p.2=q.2)
  (e2:(p.1=none∧q.1=none)∨∃a a',p.1=some a∧q.1=some a'∧(p.2.1=0∨AddrR φ a a')):Sim P m VR φ
   (do
    let d ← underlying t
    match p.fst with
     | some a=>(if 0≤n∧n<↑p.2.fst then (sizeOf p.2.snd >>= fun z=>pure (Value.pointer (some (a.add (n.toNat*z))))) else (if (decide (p.2.fst≤1)&&(match d with | TypeDesc.array len elem=>true | x=>false))=true then unsupported (.noEntry "op/indexAddr.an index out of range at an array of length 0 or 1 (ledger 616)") else boundsPanic k n (↑p.2.fst) BoundsCode.index))
     | none=>boundsPanic k n 0 BoundsCode.index)
   (do
    let d ← underlying t
    match q.fst with
     | some a=>(if 0≤n∧n<↑q.2.fst then (sizeOf q.2.snd >>= fun z=>pure (Value.pointer (some (a.add (n.toNat*z))))) else (if (decide (q.2.fst≤1)&&(match d with | TypeDesc.array len elem=>true | x=>false))=true then unsupported (.noEntry "op/indexAddr.an index out of range at an array of length 0 or 1 (ledger 616)") else boundsPanic k n (↑q.2.fst) BoundsCode.index))
     | none=>boundsPanic k n 0 BoundsCode.index):=by
 obtain ⟨base,len,elem⟩:=p;obtain ⟨base',len',elem'⟩:=q;simp only [Prod.mk.injEq] at e1;obtain ⟨rfl,rfl⟩:=e1;simp only at e2 ⊢;refine C1 (O2 t) fun φ3 h3 d d' e=>?_;cases e;rcases e2 with ⟨rfl,rfl⟩ | ⟨a,a',rfl,rfl,ha⟩
 ·exact i8 _ _ _ _
 ·simp only;split
  ·rename_i hn;rcases ha with ha | ha
   ·subst ha; omega
   ·exact C1 (U4 elem) fun φ4 h4 z z' e=>by cases e; exact E1 (((ha.mono h3).mono h4).add _).ptr
  ·have both:∀b:Bool,Sim P m VR φ3 (if b=true then unsupported (.noEntry "op/indexAddr.an index out of range at an array of length 0 or 1 (ledger 616)") else boundsPanic k n (↑len) BoundsCode.index)
     (if b=true then unsupported (.noEntry "op/indexAddr.an index out of range at an array of length 0 or 1 (ledger 616)") else boundsPanic k n (↑len) BoundsCode.index):=by
    intro b; cases b
    ·exact i8 _ _ _ _
    ·exact G1
   exact both _
theorem zex {φ:Inj} {x x' i i':Value} (t:TypeId) (hx:VR φ x x') (hi:VR φ i i'):Sim P m VR φ (Instr.indexAt t x i) (Instr.indexAt t x' i'):=by
 unfold Instr.indexAt;refine C1 (z3v hi) fun φ1 h1 k k' e=>?_;cases e;obtain ⟨k,n⟩:=k;simp only;refine C1 (O2 t) fun φ2 h2 d d' e=>?_;cases e;have hx2:=(hx.mono h1).mono h2;cases d with
 | array len elem =>
  simp only;exact C1 (zm hx2) fun φ3 h3 a a' ha=>S6 t k n (some a,len,elem) (some a',len,elem) rfl (.inr ⟨a,a',rfl,rfl,.inr ha⟩)
 | slice elem =>
  cases hx2 with
  | sliceNil n' c=>exact S6 t k n (none,n',elem) (none,n',elem) rfl (.inl ⟨rfl,rfl⟩)
  | slice b o n' c l h hc=>exact S6 t k n (some _,n',elem) (some _,n',elem) rfl (.inr ⟨_,_,rfl,rfl,.inr ⟨rfl,l,h,rfl⟩⟩)
  | sliceOpen b o n' c l h hn hc=>exact S6 t k n (some _,n',elem) (some _,n',elem) rfl (.inr ⟨_,_,rfl,rfl,.inr ⟨rfl,l,h,rfl⟩⟩)
  | sliceEnd b o l a h=>exact S6 t k n (some _,0,elem) (some _,0,elem) rfl (.inr ⟨_,_,rfl,rfl,.inl rfl⟩)
  | sliceZero b o l a h=>exact S6 t k n (some _,0,elem) (some _,0,elem) rfl (.inr ⟨_,_,rfl,rfl,.inl rfl⟩)
  | _=>exact G1
 | _=>exact G1
theorem zhx {φ:Inj} {x x' i i':Value} (t:TypeId) (hx:VR φ x x') (hi:VR φ i i'):Sim P m VR φ (Instr.index t x i) (Instr.index t x' i'):=by
 unfold Instr.index;refine C1 (z3v hi) fun φ1 h1 k k' e=>?_;cases e;obtain ⟨k,n⟩:=k;simp only;refine C1 (O2 t) fun φ2 h2 d d' e=>?_;cases e;have hx2:=(hx.mono h1).mono h2;cases d with
 | array len elem =>
  cases hx2 with
  | agg f f' hf h =>
   simp only;split
   ·exact C1 (U4 elem) fun φ3 h3 z z' e=>by cases e; exact zdf _ _ (AR.mono h3 ⟨hf,h⟩)
   ·exact i8 _ _ _ _
  | _=>exact G1
 | string =>
  cases hx2 with
  | string s =>
   simp only;split
   ·exact E1 (.int _ _)
   ·exact i8 _ _ _ _
  | _=>exact G1
 | _=>exact G1
def PR (φ:Inj) (p q:Nat×Value):Prop:=p.1=q.1∧VR φ p.2 q.2
theorem zj8 {φ:Inj} (off:Nat):∀(l l':List (Value×Nat)) (cs cs':Array Value),F2 (fun p q=>VR φ p.1 q.1∧p.2=q.2) l l'→AR φ cs cs' →
  AR φ (l.foldl (fun cs (c,j)=>cs.setIfInBounds (off+j) c) cs) (l'.foldl (fun cs (c,j)=>cs.setIfInBounds (off+j) c) cs'):=by
 intro l;induction l with
 | nil=>intro l' cs cs' h hc; cases h; exact hc
 | cons a l ih =>
  intro l' cs cs' h hc;cases h with
  | cons hab ht =>
   rename_i b l';obtain ⟨x,j⟩:=a;obtain ⟨y,k⟩:=b;obtain ⟨h1,h2⟩:=hab;simp only at h1 h2;subst h2;simp only [List.foldl_cons];exact ih _ _ _ ht (hc.set _ h1)
theorem zb0 {φ:Inj} (place:Nat→Option (Nat×Nat)):∀(l l':List (Nat×Value)) (cs cs':Array Value),F2 (PR φ) l l'→AR φ cs cs' →
  (Instr.fill place cs l=none∧Instr.fill place cs' l'=none)∨∃o o',Instr.fill place cs l=some o∧Instr.fill place cs' l'=some o'∧AR φ o o':=by
 intro l;induction l with
 | nil=>intro l' cs cs' h hc; cases h; exact .inr ⟨cs,cs',rfl,rfl,hc⟩
 | cons a l ih =>
  intro l' cs cs' h hc;cases h with
  | cons hab ht =>
   rename_i b l';obtain ⟨i,v⟩:=a;obtain ⟨j,u⟩:=b;obtain ⟨h1,h2⟩:=hab;simp only at h1 h2;subst h1;have hcl:=h2.cells;simp only [Instr.fill];cases place i with
   | none=>exact .inl ⟨rfl,rfl⟩
   | some os =>
    obtain ⟨off,size⟩:=os;simp only;rw [← hcl.1,← hc.1];split
    ·exact .inl ⟨rfl,rfl⟩
    ·refine ih _ _ _ ht ?_;rw [← Array.foldl_toList,← Array.foldl_toList];refine zj8 off _ _ _ _ ?_ hc;refine I8 _ _ (by simp [hcl.1]) fun k x y hx hy=>?_;simp only [Array.toList_zipIdx,List.getElem?_zipIdx,Option.map_eq_some_iff] at hx hy;obtain ⟨p,hp,rfl⟩:=hx;obtain ⟨q,hq,rfl⟩:=hy;exact ⟨hcl.2 k p q (by simpa using hp) (by simpa using hq),rfl⟩
end Go.Abs
namespace Go.Abs
variable {P:Program} {m:Nat}
theorem F2.mono {α β:Type} {R R':α→β→Prop} (hr:∀x y,R x y→R' x y) {l:List α} {l':List β} (h:F2 R l l'):F2 R' l l':=by
 induction h with
 | nil=>exact .nil
 | cons a _ ih=>exact .cons (hr _ _ a) ih
theorem PR.mono {φ ψ:Inj} (hle:φ.le ψ) {l l':List (Nat×Value)} (h:F2 (PR φ) l l'):F2 (PR ψ) l l':=F2.mono (fun x y hxy=>⟨hxy.1,hxy.2.mono hle⟩) h
theorem zk8 {α:Type} (f:α→Sem (Nat×Nat)) (hf:∀x φ,Sim P m (EqR _) φ (f x) (f x)):∀(l:List α) (φ:Inj),Sim P m (EqR _) φ (l.mapM f) (l.mapM f):=by
 intro l;induction l with
 | nil=>intro φ; exact E1 rfl
 | cons a l ih =>
  intro φ;rw [List.mapM_cons];exact C1 (hf a φ) fun φ1 h1 x y e=>by
   cases e;exact C1 (ih φ1) fun φ2 h2 x y e=>by cases e; exact E1 rfl
theorem zia {φ:Inj} {t:TypeId} (hz:zflat P t=true) {ps ps':Array (Nat×Value)} (h:F2 (PR φ) ps.toList ps'.toList):Sim P m VR φ (Instr.build t ps) (Instr.build t ps'):=by
 unfold Instr.build;refine C1 (D9 hz) fun φ1 h1 z z' e=>?_;obtain ⟨rfl,hf⟩:=e;have hc:AR φ1 z.cells z.cells:=X7 hf;simp only;refine C1 (O2 t) fun φ2 h2 d d' e=>?_;cases e;have hps:=PR.mono (Inj.le_trans h1 h2) h;cases d with
 | struct fields =>
  simp only;refine C1 (R:=EqR (Array (Nat×Nat))) ?_ fun φ3 h3 pl pl' e=>?_
  ·rw [Array.mapM_eq_mapM_toList];refine C1 (zk8 _ (fun x φ=>?_) _ _) fun φ3 h3 a b e=>by cases e; exact E1 rfl
   exact C1 (U4 _) fun φ3 h3 a b e=>by cases e; exact E1 rfl
  ·cases e;rcases zb0 (φ:=φ3) (fun i=>pl[i]?) _ _ _ _ (PR.mono h3 hps) ((hc.mono h2).mono h3) with ⟨e1,e2⟩ | ⟨o,o',e1,e2,ho⟩
   ·rw [e1]; exact G1
   ·rw [e1,e2]; exact E1 (.agg o o' ho.1 ho.2)
 | array len elem =>
  simp only;refine C1 (U4 elem) fun φ3 h3 s s' e=>?_;cases e;rcases zb0 (φ:=φ3) (fun i=>some (i*s,s)) _ _ _ _ (PR.mono h3 hps) ((hc.mono h2).mono h3) with ⟨e1,e2⟩ | ⟨o,o',e1,e2,ho⟩
  ·rw [e1]; exact G1
  ·rw [e1,e2]; exact E1 (.agg o o' ho.1 ho.2)
 | _=>exact G1
theorem z9t {φ:Inj} {c:Array Value} (hc:AR φ c c) (n:Nat):AR φ ((Array.range n).map (c[· % c.size]!)) ((Array.range n).map (c[· % c.size]!)):=by
 refine AR.map _ _ _ fun x hx=>?_;by_cases h:x % c.size<c.size
 ·have:c[x % c.size]! = c[x % c.size]:=by simp [h]
  rw [this];exact hc.2 _ _ _ (Array.getElem?_eq_getElem h) (Array.getElem?_eq_getElem h)
 ·have:c[x % c.size]! = default:=getElem!_neg _ _ h;rw [this];exact N2 1 rfl
theorem zb2 {φ:Inj} {t:TypeId} (hz:zelem P t=true) (len:Nat) {ps ps':Array (Nat×Value)} (hlen:len≠OPEN) (h:F2 (PR φ) ps.toList ps'.toList) :
  Sim P m VR φ (Instr.buildSlice t len ps) (Instr.buildSlice t len ps'):=by
 unfold Instr.buildSlice;have hu:∀e,P.underlying t=some (.slice e)→zflat P e=true:=by
  intro e he; unfold zelem at hz; rw [he] at hz; exact hz
 refine C1 (R:=fun φ d d'=>d=d'∧P.underlying t=some d) ?_ fun φ1 h1 d d' e=>?_
 ·intro H w x H' hr hi;obtain ⟨φ',y,w',a1,a2,a3,a4⟩:=O2 (P:=P) (m:=m) (φ:=φ) t H w x H' hr hi;refine ⟨φ',y,w',a1,a2,a3,a4,?_⟩;unfold Go.underlying at hr;simp only [bind,I2,program,arun] at hr;cases hp:P.underlying t with
  | none=>rw [hp] at hr; simp [stuck,arun] at hr
  | some q=>rw [hp] at hr; simp only [pure,arun,Option.some.injEq,Prod.mk.injEq] at hr; rw [hr.1]
 ·obtain ⟨rfl,hd⟩:=e;cases d with
  | slice elem =>
   simp only;have hze:=hu elem hd;refine C1 (U4 elem) fun φ2 h2 s s' e=>?_;cases e;split
   ·exact G1
   ·have tail:∀φ3,φ2.le φ3→∀c c':Array Value,(c=c'∧AR φ3 c c)→Sim P m VR φ3
      (match Instr.fill (fun i=>some (i*s,s)) (Array.map (fun x=>c[x % c.size]!) (Array.range (len*s))) ps.toList with
       | some cells=>(newRow elem cells >>= fun r=>pure (Value.slice (some r) len len))
       | x=>stuck "buildSlice: a part of the wrong size")
      (match Instr.fill (fun i=>some (i*s,s)) (Array.map (fun x=>c'[x % c'.size]!) (Array.range (len*s))) ps'.toList with
       | some cells=>(newRow elem cells >>= fun r=>pure (Value.slice (some r) len len))
       | x=>stuck "buildSlice: a part of the wrong size"):=by
     intro φ3 h3 c c' e;obtain ⟨rfl,hc⟩:=e;rcases zb0 (φ:=φ3) (fun i=>some (i*s,s)) _ _ _ _ (PR.mono (Inj.le_trans (Inj.le_trans h1 h2) h3) h) (z9t hc (len*s)) with ⟨e1,e2⟩ | ⟨o,o',e1,e2,ho⟩
     ·rw [e1]; exact G1
     ·rw [e1,e2];refine C1 (z6e elem ho) fun φ4 h4 a a' ha=>?_;obtain ⟨ha1,l,ha2,rfl⟩:=ha;obtain ⟨b,off,sp⟩:=a;simp only at ha1 ha2; subst ha1;exact E1 (.slice b off len len l ha2 hlen)
    split
    ·exact C1 (R:=fun φ c c'=>c=c'∧AR φ c c) (E1 ⟨rfl,AR.empty _⟩) fun φ3 h3 c c' e=>tail φ3 h3 c c' e
    ·refine C1 (D9 hze) fun φ3 h3 z z' e=>?_;obtain ⟨rfl,hf⟩:=e;exact C1 (R:=fun φ c c'=>c=c'∧AR φ c c) (E1 ⟨rfl,X7 hf⟩) fun φ4 h4 c c' e=>tail φ4 (Inj.le_trans h3 h4) c c' e
  | _=>exact G1
theorem zck {φ:Inj} {t:TypeId} (hz:zelem P t=true) {x x' y y':Value} (hx:VR φ x x') (hy:VR φ y y') (hcap:∀k n,y=.int k n→(IntKind.i64.wrap n).toNat≠OPEN) :
  Sim P m VR φ (Instr.makeSlice t x y) (Instr.makeSlice t x' y'):=by
 unfold Instr.makeSlice;have hu:∀e,P.underlying t=some (.slice e)→zflat P e=true:=by
  intro e he; unfold zelem at hz; rw [he] at hz; exact hz
 refine C1 (R:=fun φ d d'=>d=d'∧P.underlying t=some d) ?_ fun φ1 h1 d d' e=>?_
 ·intro H w x H' hr hi;obtain ⟨φ',y,w',a1,a2,a3,a4⟩:=O2 (P:=P) (m:=m) (φ:=φ) t H w x H' hr hi;refine ⟨φ',y,w',a1,a2,a3,a4,?_⟩;unfold Go.underlying at hr;simp only [bind,I2,program,arun] at hr;cases hp:P.underlying t with
  | none=>rw [hp] at hr; simp [stuck,arun] at hr
  | some q=>rw [hp] at hr; simp only [pure,arun,Option.some.injEq,Prod.mk.injEq] at hr; rw [hr.1]
 ·obtain ⟨rfl,hd⟩:=e;cases d with
  | slice elem =>
   simp only;have hze:=hu elem hd;refine C1 (z7c (hx.mono h1)) fun φ2 h2 len len' e=>?_;cases e;refine C1 (R:=fun φ c c'=>c=c'∧(IntKind.i64.wrap c).toNat≠OPEN) ?_ fun φ3 h3 cap cap' e=>?_
   ·cases y with
    | int k n =>
     have:=(hy.mono h1).mono h2;cases this;exact E1 ⟨rfl,hcap k n rfl⟩
    | pointer a =>
     refine z66 fun H=>?_;cases a <;> rfl
    | _=>exact z66 fun H=>rfl
   ·obtain ⟨rfl,hc⟩:=e;refine C1 (z7t elem) fun φ4 h4 i i' e=>?_;cases e;split
    ·refine z66 fun H=>?_;split
     ·exact z17 _ _ H (o4 _ _)
     ·split
      ·exact z17 _ _ H (o4 _ _)
      ·exact t7 _ _ (fun a H=>z17 _ _ H (o4 _ _)) H
    ·refine C1 (zef _) fun φ5 h5 _ _ _=>?_;refine C1 (U4 elem) fun φ6 h6 s s' e=>?_;cases e;have tail:∀φ7,φ6.le φ7→∀c c':Array Value,(c=c'∧AR φ7 c c)→Sim P m VR φ7
       (newRow elem (Array.map (fun x=>c[x % c.size]!) (Array.range ((IntKind.i64.wrap cap).toNat*s))) >>= fun a=>pure (Value.slice (some a) (IntKind.i64.wrap len).toNat (IntKind.i64.wrap cap).toNat))
       (newRow elem (Array.map (fun x=>c'[x % c'.size]!) (Array.range ((IntKind.i64.wrap cap).toNat*s))) >>= fun a=>pure (Value.slice (some a) (IntKind.i64.wrap len).toNat (IntKind.i64.wrap cap).toNat)):=by
      intro φ7 h7 c c' e;obtain ⟨rfl,hcc⟩:=e;refine C1 (z6e elem (z9t hcc _)) fun φ8 h8 a a' ha=>?_;obtain ⟨ha1,l,ha2,rfl⟩:=ha;obtain ⟨b,off,sp⟩:=a;simp only at ha1 ha2; subst ha1;exact E1 (.slice b off _ _ l ha2 hc)
     split
     ·exact C1 (R:=fun φ c c'=>c=c'∧AR φ c c) (E1 ⟨rfl,AR.empty _⟩) fun φ3 h3 c c' e=>tail φ3 h3 c c' e
     ·refine C1 (D9 hze) fun φ3 h3 z z' e=>?_;obtain ⟨rfl,hf⟩:=e;exact C1 (R:=fun φ c c'=>c=c'∧AR φ c c) (E1 ⟨rfl,X7 hf⟩) fun φ4 h4 c c' e=>tail φ4 (Inj.le_trans h3 h4) c c' e
  | _=>exact G1
end Go.Abs
namespace Go.Abs
variable {P:Program} {m:Nat}
theorem F2.length {α β:Type} {R:α→β→Prop} {l:List α} {l':List β} (h:F2 R l l'):l.length=l'.length:=(J8 h).1
theorem F2.get {α β:Type} {R:α→β→Prop} {l:List α} {l':List β} (h:F2 R l l') (i:Nat):(l[i]? = none∧l'[i]? = none)∨∃x y,l[i]? = some x∧l'[i]? = some y∧R x y:=by
 induction h generalizing i with
 | nil=>exact .inl ⟨rfl,rfl⟩
 | cons a _ ih =>
  cases i with
  | zero=>exact .inr ⟨_,_,rfl,rfl,a⟩
  | succ i=>simpa using ih i
theorem F2.append {α β:Type} {R:α→β→Prop} {l k:List α} {l' k':List β} (h:F2 R l l') (g:F2 R k k'):F2 R (l++k) (l'++k'):=by
 induction h with
 | nil=>exact g
 | cons a _ ih=>exact .cons a ih
theorem F2.filter {α β:Type} {R:α→β→Prop} {l:List α} {l':List β} (p:α→Bool) (q:β→Bool) (hp:∀x y,R x y→p x=q y) (h:F2 R l l'):F2 R (l.filter p) (l'.filter q):=by
 induction h with
 | nil=>exact .nil
 | cons a _ ih =>
  simp only [List.filter_cons,hp _ _ a];split
  ·exact .cons a ih
  ·exact ih
theorem F2.all {α β:Type} {R:α→β→Prop} {l:List α} {l':List β} (p:α→Bool) (q:β→Bool) (hp:∀x y,R x y→p x=q y) (h:F2 R l l'):l.all p=l'.all q:=by
 induction h with
 | nil=>rfl
 | cons a _ ih=>simp only [List.all_cons,hp _ _ a,ih]
theorem F2.findIdx {α β:Type} {R:α→β→Prop} {l:List α} {l':List β} (p:α→Bool) (q:β→Bool) (hp:∀x y,R x y→p x=q y) (h:F2 R l l'):l.findIdx? p=l'.findIdx? q:=by
 induction h with
 | nil=>rfl
 | cons a _ ih=>simp only [List.findIdx?_cons,hp _ _ a,ih]
theorem F2.find {α β:Type} {R:α→β→Prop} {l:List α} {l':List β} (p:α→Bool) (q:β→Bool) (hp:∀x y,R x y→p x=q y) (h:F2 R l l') :
  (l.find? p=none∧l'.find? q=none)∨∃x y,l.find? p=some x∧l'.find? q=some y∧R x y:=by
 induction h with
 | nil=>exact .inl ⟨rfl,rfl⟩
 | @cons x y _ _ a _ ih =>
  simp only [List.find?_cons,hp _ _ a];cases q y
  ·exact ih
  ·exact .inr ⟨_,_,rfl,rfl,a⟩
theorem F2.map {α β γ δ:Type} {R:α→β→Prop} {S:γ→δ→Prop} (f:α→γ) (g:β→δ) (hf:∀x y,R x y→S (f x) (g y)) {l:List α} {l':List β} (h:F2 R l l'):F2 S (l.map f) (l'.map g):=by
 induction h with
 | nil=>exact .nil
 | cons a _ ih=>exact .cons (hf _ _ a) ih
theorem F2.isEmpty {α β:Type} {R:α→β→Prop} {l:List α} {l':List β} (h:F2 R l l'):l.isEmpty=l'.isEmpty:=by cases h <;> rfl
theorem MR_iff {φ:Inj} {es es':Array MapEntry}:MR φ es es'↔F2 (ER φ) es.toList es'.toList:=by
 constructor
 ·intro h;exact I8 _ _ (by simpa using h.1) fun i x y hx hy=>h.2 i x y (by simpa using hx) (by simpa using hy)
 ·intro h;have:=J8 h;exact ⟨by simpa using this.1,fun i x y hx hy=>this.2 i x y (by simpa using hx) (by simpa using hy)⟩
theorem MR.modify {φ:Inj} {es es':Array MapEntry} (h:MR φ es es') (i:Nat) (f g:MapEntry→MapEntry) (hf:∀x y,ER φ x y→ER φ (f x) (g y)):MR φ (es.modify i f) (es'.modify i g):=by
 refine ⟨by simp [h.1],fun j x y hx hy=>?_⟩;rw [Array.getElem?_modify] at hx hy;split at hx
 ·rename_i e;rw [if_pos e] at hy;simp only [Option.map_eq_some_iff] at hx hy;obtain ⟨a,h1,rfl⟩:=hx;obtain ⟨b,h2,rfl⟩:=hy;exact hf _ _ (h.2 j a b h1 h2)
 ·rename_i e;rw [if_neg e] at hy;exact h.2 j x y hx hy
theorem MR.push {φ:Inj} {es es':Array MapEntry} (h:MR φ es es') {e e':MapEntry} (he:ER φ e e'):MR φ (es.push e) (es'.push e'):=by
 refine ⟨by simp [h.1],fun i x y hx hy=>?_⟩;rw [Array.getElem?_push] at hx hy;rw [← h.1] at hy;split at hx
 ·rename_i e; rw [if_pos e] at hy; cases hx; cases hy; exact he
 ·rename_i e; rw [if_neg e] at hy; exact h.2 i x y hx hy
theorem zb1 {φ:Inj} (t:TypeId) {x x' s s' v v':Value} (hx:VR φ x x') (hs:VR φ s s') (hv:VR φ v v'):Sim P m (EqR Unit) φ (Instr.entryStore t x s v) (Instr.entryStore t x' s' v'):=by
 unfold Instr.entryStore;cases hx with
 | map r l h =>
  simp only;refine C1 (F8 h) fun φ1 h1 o o' ho=>?_;cases o with
  | map es n =>
   cases o' with
   | map es' n' =>
    obtain ⟨rfl,hm⟩:=ho;simp only;refine C1 (z7c (hs.mono h1)) fun φ2 h2 b b' e=>?_;cases e;have hi:=F2.findIdx (fun e:MapEntry=>(e.born:Int) == b) (fun e:MapEntry=>(e.born:Int) == b) (fun x y hxy=>by rw [hxy.2.2.1]) (MR_iff.1 hm);rw [← List.findIdx?_toArray,← List.findIdx?_toArray] at hi;rw [← hi];cases es.findIdx? (fun e:MapEntry=>(e.born:Int) == b) with
    | none=>exact G1
    | some i =>
     have hle:=Inj.le_trans h1 h2;refine z2h (hle _ _ h) ⟨rfl,(hm.mono h2).modify i _ _ fun x y hxy=>⟨hxy.1,hv.mono hle,hxy.2.2⟩⟩
   | _=>exact ho.elim
  | _=>exact G1
 | _=>exact G1
theorem zi9 {φ:Inj} (t:TypeId) {x x':Value} (hx:VR φ x x'):Sim P m VR φ (Instr.range t x) (Instr.range t x'):=by
 unfold Instr.range;refine C1 (O2 t) fun φ1 h1 d d' e=>?_;cases e;have tail:∀φ2 o o',ObjR φ2 o o'→Sim P m VR φ2 (newObj o >>= fun r=>pure (.pointer (some ⟨r,0,none⟩))) (newObj o' >>= fun r=>pure (.pointer (some ⟨r,0,none⟩))):=by
  intro φ2 o o' ho;refine C1 (zao ho) fun φ3 h3 x y h=>?_;obtain ⟨l,h3,h4,rfl⟩:=h;have:=VR.ptr (φ:=φ3) x 0 l h3;rw [h4] at this;exact E1 this
 have hx1:=hx.mono h1;cases d with
 | string =>
  cases hx1 with
  | string s=>exact C1 (R:=ObjR) (E1 ⟨rfl,rfl⟩) fun φ2 h2 o o' ho=>tail φ2 o o' ho
  | _=>exact G1
 | map a b =>
  cases hx1 with
  | mapNil=>exact C1 (R:=ObjR) (E1 ⟨.mapNil,rfl,rfl,rfl⟩) fun φ2 h2 o o' ho=>tail φ2 o o' ho
  | map r l h =>
   simp only;refine C1 (F8 h) fun φ2 h2 o o' ho=>?_;cases o with
   | map es n =>
    cases o' with
    | map es' n' =>
     obtain ⟨rfl,hm⟩:=ho;exact C1 (R:=ObjR) (E1 ⟨.map r l (h2 _ _ h),rfl,rfl,rfl⟩) fun φ2 h2 o o' ho=>tail φ2 o o' ho
    | _=>exact ho.elim
   | _=>exact G1
  | _=>exact G1
 | _=>cases hx1 <;> exact G1
def OptR {α β:Type} (R:α→β→Prop):Option α→Option β→Prop
 | none,none=>True
 | some x,some y=>R x y
 | _,_=>False
theorem z7b {φ:Inj} {a a' b b' c c':Value} (h1:VR φ a a') (h2:VR φ b b') (h3:VR φ c c'):VR φ (.tuple #[a,b,c]) (.tuple #[a',b',c']):=by
 have:=((AR.single h1).push h2).push h3;exact .tuple _ _ this.1 this.2
theorem w8 {φ:Inj} {a a' b b':Value} (h1:VR φ a a') (h2:VR φ b b'):VR φ (.tuple #[a,b]) (.tuple #[a',b']):=by
 have:=(AR.single h1).push h2;exact .tuple _ _ this.1 this.2
theorem z7i {φ:Inj} {a a':Value} (h1:VR φ a a'):VR φ (.tuple #[a]) (.tuple #[a']):=by
 have:=AR.single h1;exact .tuple _ _ this.1 this.2
theorem zc7 {α β:Type} {R:Inj→α→β→Prop} {φ:Inj} {r:Nat} {l:Loc} (hl:φ r=some l) {k:Obj→Sem α} {s':Sem β} (h:l.off=0→Sim P m R φ (getObj r >>= k) s'):Sim P m R φ (getObj r >>= k) s':=by
 intro H w x H' hr hi;have hr':=hr;change arun P m ((getObj r).bind k) H=_ at hr';rw [I2] at hr';simp only [Go.getObj,arun] at hr';cases hb:H.get r with
 | none=>rw [hb] at hr'; cases hr'
 | some b =>
  rw [hb] at hr';simp only at hr';cases hq:isRef b.obj with
  | false=>rw [hq] at hr'; cases hr'
  | true =>
   obtain ⟨l1,o',h1,h2,h3,h0⟩:=hi.ref hb hq;rw [hl] at h1; cases h1;exact h h0 H w x H' hr hi
theorem zeq {φ:Inj} {b r n since:Nat} {seen:Array Nat} {l lr:Loc} (h:φ b=some l) (hr:φ r=some lr) (cs cs':Array (Option MapEntry)) (hc:F2 (OptR (ER φ)) cs.toList cs'.toList):Sim P m VR φ
  (choose (.mapNext cs.size) >>= fun k=>match cs[k]? with
   | some (some e)=>(setObj b (.mapIter (some r) since (seen.push e.born) n) >>= fun _=>pure (.tuple #[.bool true,e.key,e.val]))
   | some none=>pure (.tuple #[.bool false])
   | none=>stuck "Next: no such candidate")
  (choose (.mapNext cs'.size) >>= fun k=>match cs'[k]? with
   | some (some e)=>(setObj l.blk (.mapIter (some lr.blk) since (seen.push e.born) n) >>= fun _=>pure (.tuple #[.bool true,e.key,e.val]))
   | some none=>pure (.tuple #[.bool false])
   | none=>stuck "Next: no such candidate"):=by
 have hs:cs.size=cs'.size:=by simpa using hc.length
 rw [← hs];refine C1 (zg5 _) fun φ3 h3 k k' e=>?_;cases e;rcases hc.get k with ⟨a1,a2⟩ | ⟨p,q,a1,a2,a3⟩
 ·rw [Array.getElem?_toList] at a1 a2;rw [a1]; exact G1
 ·rw [Array.getElem?_toList] at a1 a2;rw [a1,a2];cases p with
  | none=>cases q with
   | none=>exact E1 (z7i (.bool false))
   | some _=>exact a3.elim
  | some e=>cases q with
   | none=>exact a3.elim
   | some e' =>
    obtain ⟨k1,k2,k3,k4⟩:=a3;simp only;rw [← k3,← k1];refine C1 (z2h (h3 _ _ h) ⟨.map r lr (h3 _ _ hr),rfl,rfl,rfl⟩) fun φ4 h4 _ _ _=>?_;exact E1 (z7b (.bool true) (N2 _ k4) (k2.mono (Inj.le_trans h3 h4)))
theorem zjg {φ:Inj} (isS:Bool) (t:TypeId) {x x':Value} (hx:VR φ x x'):Sim P m VR φ (Instr.next x isS t) (Instr.next x' isS t):=by
 unfold Instr.next;cases hx with
 | ptr b o l h =>
  cases o with
  | succ k=>exact G1
  | zero =>
   refine zc7 h fun hl=>?_;simp only [hl,Nat.add_zero];refine C1 (F8 h) fun φ1 h1 q q' ho=>?_;have over:∀φ2,Sim P m VR φ2 (pure (.tuple #[.bool false])) (pure (.tuple #[.bool false])):=fun φ2=>E1 (z7i (.bool false));cases q with
   | stringIter s p =>
    cases q' with
    | stringIter s' p' =>
     obtain ⟨rfl,rfl⟩:=ho;cases isS
     ·exact G1
     ·simp only;split
      ·exact C1 (z2h (h1 _ _ h) ⟨rfl,rfl⟩) fun φ2 h2 _ _ _=>E1 (z7b (.bool _) (.int _ _) (.int _ _))
      ·exact over _
    | _=>exact ho.elim
   | mapIter mp since seen last =>
    cases q' with
    | mapIter mp' since' seen' last' =>
     obtain ⟨hm,rfl,rfl,rfl⟩:=ho;cases isS
     ·cases hm with
      | mapNil=>exact over _
      | map r lr hr =>
       simp only;refine C1 (F8 hr) fun φ2 h2 u u' hu=>?_;cases u with
       | map es n =>
        cases u' with
        | map es' n' =>
         obtain ⟨rfl,hes⟩:=hu;have hf:=MR_iff.1 hes;have e1:es.isEmpty=es'.isEmpty:=by simpa using hf.isEmpty
         have e2:(es.all fun e=>decide (e.born≥last))=(es'.all fun e=>decide (e.born≥last)):=by
          have:=F2.all (fun e:MapEntry=>decide (e.born≥last)) (fun e:MapEntry=>decide (e.born≥last)) (fun x y hxy=>by rw [hxy.2.2.1]) hf
          simpa using this
         have f1:=F2.filter (fun e:MapEntry=>!seen.contains e.born) (fun e:MapEntry=>!seen.contains e.born) (fun x y hxy=>by rw [hxy.2.2.1]) hf;have fo:=F2.filter (fun e:MapEntry=>decide (e.born<since)) (fun e:MapEntry=>decide (e.born<since)) (fun x y hxy=>by rw [hxy.2.2.1]) f1;have fn:=F2.filter (fun e:MapEntry=>decide (e.born≥since)) (fun e:MapEntry=>decide (e.born≥since)) (fun x y hxy=>by rw [hxy.2.2.1]) f1;simp only;rw [← e1,← e2];split
         ·exact G1
         ·refine zeq ((Inj.le_trans h1 h2) _ _ h) (h2 _ _ hr) _ _ ?_;have e3:(((es.filter fun e=>!seen.contains e.born).filter fun e=>decide (e.born<since)).isEmpty)=(((es'.filter fun e=>!seen.contains e.born).filter fun e=>decide (e.born<since)).isEmpty):=by
           have:=fo.isEmpty;rw [← Array.toList_filter,← Array.toList_filter,← Array.toList_filter,← Array.toList_filter,Array.isEmpty_toList,Array.isEmpty_toList] at this;exact this
          rw [← e3,Array.toList_append,Array.toList_append];refine F2.append ?_ ?_
          ·split
           ·exact .cons trivial .nil
           ·exact .nil
          ·rw [Array.toList_map,Array.toList_map];refine F2.map (R:=ER φ2) some some (fun x y hxy=>hxy) ?_;rw [Array.toList_append,Array.toList_append];refine F2.append ?_ ?_
           ·simpa only [Array.toList_filter] using fo
           ·simpa only [Array.toList_filter] using fn
        | _=>exact hu.elim
       | _=>exact G1
     ·cases hm <;> exact G1
    | _=>exact ho.elim
   | _=>exact G1
 | _=>exact G1
theorem zhq {φ:Inj} {x x':Value} (hx:VR φ x x'):Sim P m VR φ (Instr.entry x) (Instr.entry x'):=by
 unfold Instr.entry;cases hx with
 | ptr b o l h =>
  cases o with
  | succ k=>exact G1
  | zero =>
   refine zc7 h fun hl=>?_;simp only [hl,Nat.add_zero];refine C1 (F8 h) fun φ1 h1 q q' ho=>?_;cases q with
   | mapIter mp since seen last =>
    cases q' with
    | mapIter mp' since' seen' last' =>
     obtain ⟨hm,rfl,rfl,rfl⟩:=ho;cases hm with
     | mapNil=>exact G1
     | map r lr hr =>
      simp only;cases seen.back? with
      | none=>exact G1
      | some stamp =>
       simp only;refine C1 (F8 hr) fun φ2 h2 u u' hu=>?_;cases u with
       | map es n =>
        cases u' with
        | map es' n' =>
         obtain ⟨rfl,hes⟩:=hu;have hf:=MR_iff.1 hes;simp only;split
         ·exact G1
         ·rcases F2.find (fun e:MapEntry=>e.born == stamp) (fun e:MapEntry=>e.born == stamp) (fun x y hxy=>by rw [hxy.2.2.1]) hf with ⟨a1,a2⟩ | ⟨p,q,a1,a2,a3⟩
          ·rw [Array.find?_toList] at a1;show Sim P m VR φ2 (match es.find? (fun e:MapEntry=>e.born == stamp) with | some e=>_ | none=>_) _;rw [a1]; exact G1
          ·rw [Array.find?_toList] at a1 a2;show Sim P m VR φ2 (match es.find? (fun e:MapEntry=>e.born == stamp) with | some e=>_ | none=>_) (match es'.find? (fun e:MapEntry=>e.born == stamp) with | some e=>_ | none=>_);rw [a1,a2];obtain ⟨k1,k2,k3,k4⟩:=a3;simp only;rw [← k1];exact E1 (w8 (N2 _ k4) k2)
        | _=>exact hu.elim
       | _=>exact G1
    | _=>exact ho.elim
   | _=>exact G1
 | _=>exact G1
end Go.Abs
namespace Go.Abs
variable {P:Program} {m:Nat}
def OpOK (P:Program) (m:Nat) (φ:Inj) (H:AH) (w:World) (v:Value) (H':AH) (s:Sem Next):Prop :=
 ∃φ' w' nx,s.run P w=.ok nx w'∧Inv φ' H' w'∧Step m φ H w φ' H' w'∧((∃v',nx=.value v'∧VR φ' v v')∨(nx=.skip∧v=undef))
theorem Y1 {φ:Inj} {H H':AH} {w:World} {v:Value} {s s':Sem Next} (h:Sim P m NextR φ s s') (hi:Inv φ H w) (hr:asNext (arun P m s H)=some (v,H')):OpOK P m φ H w v H' s':=by
 cases ha:arun P m s H with
 | none=>rw [ha] at hr; cases hr
 | some p =>
  obtain ⟨nx,H1⟩:=p;obtain ⟨φ',nx',w',h1,h2,h3,h4⟩:=h H w nx H1 ha hi;rw [ha] at hr;cases nx with
  | value u =>
   simp only [asNext,Option.some.injEq,Prod.mk.injEq] at hr;obtain ⟨rfl,rfl⟩:=hr;cases nx' with
   | value u'=>exact ⟨φ',w',_,h1,h2,h3,.inl ⟨u',rfl,h4⟩⟩
   | _=>exact h4.elim
  | skip =>
   simp only [asNext,Option.some.injEq,Prod.mk.injEq] at hr;obtain ⟨rfl,rfl⟩:=hr;cases nx' with
   | skip=>exact ⟨φ',w',_,h1,h2,h3,.inr ⟨rfl,rfl⟩⟩
   | _=>exact h4.elim
  | _=>cases hr
theorem zf {φ:Inj} {H:AH} {w:World} {v v':Value} {s:Sem Next} (hi:Inv φ H w) (hs:s.run P w=.ok (.value v') w) (hv:VR φ v v'):OpOK P m φ H w v H s :=
 ⟨φ,w,_,hs,hi,Step.refl _ _ _ _,.inl ⟨v',rfl,hv⟩⟩
theorem W1 {φ:Inj} {H H':AH} {w w':World} {φ':Inj} {v v':Value} {s:Sem Value} (hs:s.run P w=.ok v' w') (hi:Inv φ' H' w') (hst:Step m φ H w φ' H' w') (hv:VR φ' v v') :
  OpOK P m φ H w v H' (do pure (.value (← s))) :=
 ⟨φ',w',.value v',by rw [Sem.run_bind,hs]; rfl,hi,hst,.inl ⟨v',rfl,hv⟩⟩
theorem zca {φ:Inj} {H H':AH} {w w':World} {φ':Inj} {s:Sem Unit} (hs:s.run P w=.ok () w') (hi:Inv φ' H' w') (hst:Step m φ H w φ' H' w') :
  OpOK P m φ H w undef H' (do s; pure .skip) :=
 ⟨φ',w',.skip,by rw [Sem.run_bind,hs]; rfl,hi,hst,.inr ⟨rfl,rfl⟩⟩
theorem L8 {y d n:Nat} {v:Option Value} (h:bnd y d v=some n):(v=none∧n=d)∨∃k,v=some (.int k (n:Int))∧n≤y:=by
 unfold bnd at h;split at h
 ·exact .inl ⟨rfl,(Option.some.inj h).symm⟩
 ·rename_i k j;cases hb:Nat.ble j y with
  | false=>rw [hb] at h; cases h
  | true=>rw [hb] at h; cases h; exact .inr ⟨k,rfl,Nat.le_of_ble_eq_true hb⟩
 ·cases h
theorem z62 {len cap cap':Nat} {lo hi mx:Option Value} {l h k:Nat} (he:abounds len cap lo hi mx=some (l,h,k)) (hc:cap≤cap') (w:World) :
  (Instr.sliceBounds true len cap' lo hi mx).run P w=.ok (l,h,if mx.isSome then k else cap') w∧l≤h∧(h≤k∨hi=none∧h=len)∧k≤cap∧(mx=none→k=cap):=by
 unfold abounds at he;cases hk:bnd cap cap mx with
 | none=>rw [hk] at he; cases he
 | some k1 =>
  rw [hk] at he;simp only at he;cases hb:(mx.isSome&&hi.isNone) with
  | true=>rw [hb] at he; cases he
  | false =>
   rw [hb] at he;simp only [cond_false] at he;cases hh:bnd k1 len hi with
   | none=>rw [hh] at he; cases he
   | some h1 =>
    rw [hh] at he;simp only at he;cases hl:bnd h1 0 lo with
    | none=>rw [hl] at he; cases he
    | some l1 =>
     rw [hl] at he;simp only [Option.some.injEq,Prod.mk.injEq] at he;obtain ⟨rfl,rfl,rfl⟩:=he;unfold Instr.sliceBounds;have hlo:l1≤h1∧∀(c:BoundsCode),(lo=none∧l1=0)∨∃kk,lo=some (.int kk (l1:Int))∧(Instr.sliceBound (.int kk (l1:Int)) h1 c).run P w=.ok l1 w:=by
      rcases L8 hl with ⟨rfl,rfl⟩ | ⟨kk,rfl,hle⟩
      ·exact ⟨Nat.zero_le _,fun _=>.inl ⟨rfl,rfl⟩⟩
      ·refine ⟨hle,fun c=>.inr ⟨kk,rfl,?_⟩⟩;rw [run_sliceBound w kk l1 h1 c (by omega) (by omega)]; simp
     rcases L8 hk with ⟨rfl,rfl⟩ | ⟨kk,rfl,hle⟩
     ·rcases L8 hh with ⟨rfl,rfl⟩ | ⟨k2,rfl,hle2⟩
      ·refine ⟨?_,hlo.1,.inr ⟨rfl,rfl⟩,Nat.le_refl _,fun _=>rfl⟩;rcases hlo.2 .sliceB with ⟨rfl,rfl⟩ | ⟨k3,rfl,hr⟩
       ·rfl
       ·simp [hr]
      ·refine ⟨?_,hlo.1,.inl hle2,Nat.le_refl _,fun _=>rfl⟩;have hr2:(Instr.sliceBound (.int k2 (h1:Int)) cap' .sliceAcap).run P w=.ok h1 w:=by
        rw [run_sliceBound w k2 h1 cap' _ (by omega) (by omega)]; simp
       rcases hlo.2 .sliceB with ⟨rfl,rfl⟩ | ⟨k3,rfl,hr⟩
       ·simp [hr2]
       ·simp [hr,hr2]
     ·rcases L8 hh with ⟨rfl,rfl⟩ | ⟨k2,rfl,hle2⟩
      ·simp at hb
      ·refine ⟨?_,hlo.1,.inl hle2,hle,fun h=>by cases h⟩;have hr1:(Instr.sliceBound (.int kk (k1:Int)) cap' .slice3Acap).run P w=.ok k1 w:=by
        rw [run_sliceBound w kk k1 cap' _ (by omega) (by omega)]; simp
       have hr2:(Instr.sliceBound (.int k2 (h1:Int)) k1 .slice3B).run P w=.ok h1 w:=by
        rw [run_sliceBound w k2 h1 k1 _ (by omega) (by omega)]; simp
       rcases hlo.2 .slice3C with ⟨rfl,rfl⟩ | ⟨k3,rfl,hr⟩
       ·simp [hr1,hr2]
       ·simp [hr,hr1,hr2]
def OptVR (φ:Inj):Option Value→Option Value→Prop
 | none,none=>True
 | some x,some y=>VR φ x y
 | _,_=>False
theorem z9n {φ:Inj} {y d n:Nat} {v v':Option Value} (h:bnd y d v=some n) (hv:OptVR φ v v'):v'=v:=by
 rcases L8 h with ⟨rfl,_⟩ | ⟨k,rfl,_⟩
 ·cases v' with
  | none=>rfl
  | some _=>exact hv.elim
 ·cases v' with
  | none=>exact hv.elim
  | some u=>have hv':VR φ _ u:=hv; cases hv'; rfl
theorem z2y {φ:Inj} {len cap:Nat} {lo hi mx lo' hi' mx':Option Value} {r:Nat×Nat×Nat} (he:abounds len cap lo hi mx=some r) (h1:OptVR φ lo lo') (h2:OptVR φ hi hi') (h3:OptVR φ mx mx') :
  lo'=lo∧hi'=hi∧mx'=mx:=by
 unfold abounds at he;cases hk:bnd cap cap mx with
 | none=>rw [hk] at he; cases he
 | some k1 =>
  rw [hk] at he;simp only at he;cases hb:(mx.isSome&&hi.isNone) with
  | true=>rw [hb] at he; cases he
  | false =>
   rw [hb] at he;simp only [cond_false] at he;cases hh:bnd k1 len hi with
   | none=>rw [hh] at he; cases he
   | some h4 =>
    rw [hh] at he;simp only at he;cases hl:bnd h4 0 lo with
    | none=>rw [hl] at he; cases he
    | some l1=>exact ⟨z9n hl h1,z9n hh h2,z9n hk h3⟩
theorem zk9 {t:TypeId} {i:TypeInfo} (h:P.info? t=some i) (w:World):(typeInfo t).run P w=.ok i w:=by
 simp [typeInfo,h]
theorem Z3 {t:TypeId} {i:TypeInfo} (h:P.info? t=some i) (w:World):(sizeOf t).run P w=.ok i.size w:=by
 simp [sizeOf,zk9 h]
theorem M1 {t:TypeId} {d:TypeDesc} (h:P.underlying t=some d) (w:World):(underlying t).run P w=.ok d w:=by
 simp [underlying,h]
theorem zht {φ:Inj} {H:AH} {w:World} {t:TypeId} {a:Addr} {len cap:Nat} {lo hi mx lo' hi' mx':Option Value} {x' v:Value} (hi0:Inv φ H w)
  (he:aSlice P t a len cap lo hi mx H=some v) (hx:VR φ (.slice (some a) len cap) x') (h1:OptVR φ lo lo') (h2:OptVR φ hi hi') (h3:OptVR φ mx mx') :
  OpOK P m φ H w v H (do pure (.value (← Instr.sliceAt t x' lo' hi' mx'))):=by
 unfold aSlice at he;cases ht:P.underlying t with
 | none=>rw [ht] at he; cases he
 | some d =>
  rw [ht] at he;cases d with
  | slice elem =>
   simp only at he;cases hii:P.info? elem with
   | none=>rw [hii] at he; cases he
   | some i =>
    rw [hii] at he;simp only at he;have key:∀(A':Option Addr) (c' l h k:Nat),x'=.slice A' len c'→(Instr.sliceBounds true len c' lo hi mx).run P w=.ok (l,h,k) w→lo'=lo→hi'=hi→mx'=mx →
      (Instr.sliceAt t x' lo' hi' mx').run P w=.ok (.slice (if k=l then A' else A'.map (·.add (l*i.size))) (h - l) (k - l)) w:=by
     intro A' c' l h k e1 e2 e3 e4 e5;subst e1 e3 e4 e5;simp only [Instr.sliceAt,Sem.run_bind,M1 ht,Result.andThen_ok];simp only [Instr.slice,Sem.run_bind,M1 ht,Result.andThen_ok,e2,Z3 hii];rfl
    cases hop:Nat.beq cap OPEN with
    | true =>
     rw [hop] at he;have hcap:cap=OPEN:=Nat.eq_of_beq_eq_true hop;subst hcap;simp only [cond_true] at he;cases hb:abounds len len lo hi mx with
     | none=>rw [hb] at he; cases he
     | some r =>
      obtain ⟨l,h,k⟩:=r;rw [hb] at he;simp only at he;obtain ⟨q1,q2,q3⟩:=z2y hb h1 h2 h3;cases hx with
      | slice b o n c lo1 hl hc=>exact absurd rfl hc
      | sliceOpen b o n c' l1 hl hn hc =>
       obtain ⟨r1,r2,r3,r4,r6⟩:=z62 (P:=P) hb hn w;have r5:=key _ _ _ _ _ rfl r1 q1 q2 q3;cases mx with
       | some vmx =>
        simp only at he;cases hk:Nat.blt k OPEN with
        | false=>rw [hk] at he; cases he
        | true =>
         rw [hk] at he;simp only [cond_true,Option.some.injEq] at he;subst he;refine W1 r5 hi0 (Step.refl _ _ _ _) ?_;have hlt:k<OPEN:=Nat.lt_of_lt_of_le (Nat.lt_succ_self k) (Nat.le_of_ble_eq_true hk);have hne:k - l≠OPEN:=by omega
         simp only [Option.isSome_some,if_true];by_cases hkl:k=l
         ·rw [if_pos hkl,if_pos hkl];exact .slice b o _ _ l1 hl hne
         ·rw [if_neg hkl,if_neg hkl];simp only [Option.map_some,Addr.add_lit,Nat.add_assoc];exact .slice b _ _ _ l1 hl hne
       | none =>
        simp only at he;cases hg:H.get b with
        | none=>rw [hg] at he; cases he
        | some blk =>
         rw [hg] at he;simp only at he;cases hck:(blk.opn&&Nat.beq blk.esz i.size&&isCells blk.obj) with
         | false=>rw [hck] at he; cases he
         | true =>
          rw [hck] at he;simp only [cond_true,Option.some.injEq] at he;subst he;simp only [Bool.and_eq_true] at hck;obtain ⟨⟨ho,hes⟩,hob⟩:=hck;have hes:=Nat.eq_of_beq_eq_true hes;have hesz:l1.esz=i.size:=by
           unfold isCells at hob;split at hob
           ·rename_i cc ee ff hobj;obtain ⟨l2,cc',ff',g1,g2,g3⟩:=hi0.cells hg hobj;rw [hl] at g1; cases g1;rw [g3.esz ho,hes]
           ·cases hob
          refine W1 r5 hi0 (Step.refl _ _ _ _) ?_;have hk:=r6 rfl;have hhl:h≤len:=by rcases r3 with r3 | ⟨_,r3⟩ <;> omega
          simp only [Option.isSome_none,Bool.false_eq_true,if_false];by_cases hkl:c'=l
          ·rw [if_pos hkl];have e1:h - l=0:=by omega
           have e2:c' - l=0:=by omega
           rw [e1,e2,Addr.add_lit];exact .sliceEnd b _ l1 _ hl
          ·rw [if_neg hkl];simp only [Option.map_some,Addr.add_lit];rw [show l1.off+o+l*i.size=l1.off+(o+l*i.size) from Nat.add_assoc _ _ _];refine .sliceOpen b _ _ _ l1 hl (by omega) ?_;rw [← hesz];have p1:l*l1.esz≤c'*l1.esz:=Nat.mul_le_mul_right _ (by omega);rw [Nat.sub_mul];omega
      | sliceEnd b o l1 a' hl =>
       obtain ⟨r1,r2,r3,r4,r6⟩:=z62 (P:=P) hb (Nat.le_refl 0) w;have r5:=key _ _ _ _ _ rfl r1 q1 q2 q3;have ek:k=0:=by omega
       have eh:h=0:=by rcases r3 with r3 | ⟨_,r3⟩ <;> omega
       have el:l=0:=by omega
       subst ek eh el;simp only [ite_self,if_true,Nat.sub_zero] at r5;cases mx with
       | some vmx =>
        simp only at he;cases hk:Nat.blt 0 OPEN with
        | false=>rw [hk] at he; cases he
        | true =>
         rw [hk] at he;simp only [cond_true,if_true,Nat.sub_zero,Option.some.injEq] at he;subst he;exact W1 r5 hi0 (Step.refl _ _ _ _) (.sliceZero b o l1 a' hl)
       | none =>
        simp only at he;cases hg:H.get b with
        | none=>rw [hg] at he; cases he
        | some blk =>
         rw [hg] at he;simp only at he;cases hck:(blk.opn&&Nat.beq blk.esz i.size&&isCells blk.obj) with
         | false=>rw [hck] at he; cases he
         | true =>
          rw [hck] at he;simp only [cond_true,Option.some.injEq] at he;subst he;refine W1 r5 hi0 (Step.refl _ _ _ _) ?_;rw [Addr.add_lit];exact .sliceEnd b _ l1 a' hl
    | false =>
     rw [hop] at he;have hcap:cap≠OPEN:=Nat.ne_of_beq_eq_false hop;simp only [cond_false] at he;cases hb:abounds len cap lo hi mx with
     | none=>rw [hb] at he; cases he
     | some r =>
      obtain ⟨l,h,k⟩:=r;rw [hb] at he;simp only at he;obtain ⟨q1,q2,q3⟩:=z2y hb h1 h2 h3;obtain ⟨r1,r2,r3,r4,r6⟩:=z62 (P:=P) hb (Nat.le_refl cap) w;have hke:(if mx.isSome then k else cap)=k:=by
       cases mx with
       | some _=>rfl
       | none=>exact (r6 rfl).symm
      rw [hke] at r1;cases hk:(Nat.blt k OPEN&&Nat.ble h k) with
      | false=>rw [hk] at he; cases he
      | true =>
       rw [hk] at he;simp only [cond_true,Option.some.injEq] at he;subst he;simp only [Bool.and_eq_true] at hk;have hlt:k<OPEN:=Nat.lt_of_lt_of_le (Nat.lt_succ_self k) (Nat.le_of_ble_eq_true hk.1);have hne:k - l≠OPEN:=by omega
       have hhk:=Nat.le_of_ble_eq_true hk.2;cases hx with
       | slice b o n c l1 hl hc =>
        refine W1 (key _ _ _ _ _ rfl r1 q1 q2 q3) hi0 (Step.refl _ _ _ _) ?_;by_cases hkl:k=l
        ·rw [if_pos hkl,if_pos hkl];exact .slice b o _ _ l1 hl hne
        ·rw [if_neg hkl,if_neg hkl];simp only [Option.map_some,Addr.add_lit,Nat.add_assoc];exact .slice b _ _ _ l1 hl hne
       | sliceOpen b o n c' l1 hl hn hc=>exact absurd rfl hcap
       | sliceEnd b o l1 a' hl=>exact absurd rfl hcap
       | sliceZero b o l1 a' hl =>
        have ek:k=0:=by omega
        have eh:h=0:=by omega
        have el:l=0:=by omega
        subst ek eh el;have r5:=key _ _ _ _ _ rfl r1 q1 q2 q3;simp only [if_true,Nat.sub_zero] at r5 ⊢;exact W1 r5 hi0 (Step.refl _ _ _ _) (.sliceZero b o l1 a' hl)
  | _=>cases he
theorem ze9 {len cap cap':Nat} {lo hi mx:Option Value} {l h k:Nat} (he:abounds len cap lo hi mx=some (l,h,k)) (hc:cap≤cap') (w:World) :
  (Instr.sliceBounds false len cap' lo hi mx).run P w=.ok (l,h,if mx.isSome then k else cap') w∧l≤h∧(h≤k∨hi=none∧h=len)∧k≤cap∧(mx=none→k=cap):=by
 unfold abounds at he;cases hk:bnd cap cap mx with
 | none=>rw [hk] at he; cases he
 | some k1 =>
  rw [hk] at he;simp only at he;cases hb:(mx.isSome&&hi.isNone) with
  | true=>rw [hb] at he; cases he
  | false =>
   rw [hb] at he;simp only [cond_false] at he;cases hh:bnd k1 len hi with
   | none=>rw [hh] at he; cases he
   | some h1 =>
    rw [hh] at he;simp only at he;cases hl:bnd h1 0 lo with
    | none=>rw [hl] at he; cases he
    | some l1 =>
     rw [hl] at he;simp only [Option.some.injEq,Prod.mk.injEq] at he;obtain ⟨rfl,rfl,rfl⟩:=he;unfold Instr.sliceBounds;have hlo:l1≤h1∧∀(c:BoundsCode),(lo=none∧l1=0)∨∃kk,lo=some (.int kk (l1:Int))∧(Instr.sliceBound (.int kk (l1:Int)) h1 c).run P w=.ok l1 w:=by
      rcases L8 hl with ⟨rfl,rfl⟩ | ⟨kk,rfl,hle⟩
      ·exact ⟨Nat.zero_le _,fun _=>.inl ⟨rfl,rfl⟩⟩
      ·refine ⟨hle,fun c=>.inr ⟨kk,rfl,?_⟩⟩;rw [run_sliceBound w kk l1 h1 c (by omega) (by omega)]; simp
     rcases L8 hk with ⟨rfl,rfl⟩ | ⟨kk,rfl,hle⟩
     ·rcases L8 hh with ⟨rfl,rfl⟩ | ⟨k2,rfl,hle2⟩
      ·refine ⟨?_,hlo.1,.inr ⟨rfl,rfl⟩,Nat.le_refl _,fun _=>rfl⟩;rcases hlo.2 .sliceB with ⟨rfl,rfl⟩ | ⟨k3,rfl,hr⟩
       ·rfl
       ·simp [hr]
      ·refine ⟨?_,hlo.1,.inl hle2,Nat.le_refl _,fun _=>rfl⟩;have hr2:(Instr.sliceBound (.int k2 (h1:Int)) cap' .sliceAlen).run P w=.ok h1 w:=by
        rw [run_sliceBound w k2 h1 cap' _ (by omega) (by omega)]; simp
       rcases hlo.2 .sliceB with ⟨rfl,rfl⟩ | ⟨k3,rfl,hr⟩
       ·simp [hr2]
       ·simp [hr,hr2]
     ·rcases L8 hh with ⟨rfl,rfl⟩ | ⟨k2,rfl,hle2⟩
      ·simp at hb
      ·refine ⟨?_,hlo.1,.inl hle2,hle,fun h=>by cases h⟩;have hr1:(Instr.sliceBound (.int kk (k1:Int)) cap' .slice3Alen).run P w=.ok k1 w:=by
        rw [run_sliceBound w kk k1 cap' _ (by omega) (by omega)]; simp
       have hr2:(Instr.sliceBound (.int k2 (h1:Int)) k1 .slice3B).run P w=.ok h1 w:=by
        rw [run_sliceBound w k2 h1 k1 _ (by omega) (by omega)]; simp
       rcases hlo.2 .slice3C with ⟨rfl,rfl⟩ | ⟨k3,rfl,hr⟩
       ·simp [hr1,hr2]
       ·simp [hr,hr1,hr2]
theorem zdg {φ:Inj} {H:AH} {w:World} {t:TypeId} {a:Addr} {lo hi mx lo' hi' mx':Option Value} {x' v:Value} (hi0:Inv φ H w)
  (he:aSliceArr P t a lo hi mx=some v) (hx:VR φ (.pointer (some a)) x') (h1:OptVR φ lo lo') (h2:OptVR φ hi hi') (h3:OptVR φ mx mx') :
  OpOK P m φ H w v H (do pure (.value (← Instr.sliceAt t x' lo' hi' mx'))):=by
 unfold aSliceArr at he;split at he
 ·rename_i n elem ht;cases hii:P.info? elem with
  | none=>rw [hii] at he; cases he
  | some i =>
   rw [hii] at he;simp only at he;cases hb:abounds n n lo hi mx with
   | none=>rw [hb] at he; cases he
   | some r =>
    obtain ⟨l,h,k⟩:=r;rw [hb] at he;simp only at he;cases hk:(Nat.blt n OPEN&&Nat.ble k n) with
    | false=>rw [hk] at he; cases he
    | true =>
     rw [hk] at he;simp only [cond_true,Option.some.injEq] at he;subst he;simp only [Bool.and_eq_true] at hk;have hn:n<OPEN:=Nat.lt_of_lt_of_le (Nat.lt_succ_self n) (Nat.le_of_ble_eq_true hk.1);have hkn:k≤n:=Nat.le_of_ble_eq_true hk.2;obtain ⟨q1,q2,q3⟩:=z2y hb h1 h2 h3;obtain ⟨r1,r2,r3,r4,r6⟩:=ze9 (P:=P) hb (Nat.le_refl n) w;have hkk:(if mx.isSome then k else n)=k:=by
      cases mx with
      | some _=>rfl
      | none=>exact (r6 rfl).symm
     rw [hkk] at r1;cases hx with
     | ptr b o lc hl =>
      have hrun:(Instr.sliceAt t (.pointer (some ⟨lc.blk,lc.off+o,none⟩)) lo' hi' mx').run P w=.ok (.slice (some (if k=l then ⟨lc.blk,lc.off+o,none⟩ else (⟨lc.blk,lc.off+o,none⟩:Addr).add (l*i.size))) (h - l) (k - l)) w:=by
       rw [q1,q2,q3];simp only [Instr.sliceAt,Sem.run_bind,M1 ht,Result.andThen_ok];simp only [Instr.sureAddr,Sem.run_pure,Result.andThen_ok,r1,Z3 hii]
      refine W1 hrun hi0 (Step.refl _ _ _ _) ?_;have hne:k - l≠OPEN:=by omega
      by_cases hkl:k=l
      ·rw [if_pos hkl,if_pos hkl];exact .slice b o _ _ lc hl hne
      ·rw [if_neg hkl,if_neg hkl];simp only [Addr.add_lit,Nat.add_assoc];exact .slice b _ _ _ lc hl hne
 ·cases he
end Go.Abs
namespace Go.Abs
variable {P:Program} {m:Nat}
theorem zlb (v:Value):v.oneCell'=one v:=by cases v <;> rfl
theorem zdu (a:Addr) (i j:Nat):(a.add i).add j=a.add (i+j):=by
 unfold Addr.add;by_cases hi:i=0
 ·subst hi; simp
 ·by_cases hj:j=0
  ·subst hj; simp
  ·simp [hi,hj,Nat.add_assoc]
theorem LR.length {φ:Inj} {l l':List Value} (h:LR φ l l'):l.length=l'.length:=F2.length h
theorem rd_run {φ:Inj} {H:AH} {w:World} (hi:Inv φ H w) {a a':Addr} (ha:AddrR φ a a'):∀(n i:Nat) (l:List Value),rdCells H a i n=some l →
  l.length=n∧∃l',LR φ l l'∧∀j v,l'[j]? = some v→w.cell? (a'.add (i+j))=some v:=by
 intro n;induction n with
 | zero=>intro i l h; simp only [rdCells,Option.some.injEq] at h; subst h; exact ⟨rfl,[],.nil,fun j v hv=>by simp at hv⟩
 | succ n ih =>
  intro i l h;simp only [rdCells] at h;split at h
  ·rename_i v l1 h1 h2;simp only [Option.some.injEq] at h;subst h;obtain ⟨hl,l',hr,hc⟩:=ih (i+1) l1 h2;obtain ⟨v',hv1,hv2⟩:=hi.cell h1 (ha.add i);refine ⟨by simp [hl],v' :: l',.cons hv2 hr,fun j u hu=>?_⟩;cases j with
   | zero=>simp only [List.getElem?_cons_zero,Option.some.injEq] at hu; subst hu; exact hv1
   | succ j =>
    have:=hc j u (by simpa using hu);rw [show i+(j+1)=i+1+j by omega]; exact this
  ·cases h
theorem lr_one {φ:Inj} {l l':List Value} (h:LR φ l l') (h1:l.all one=true):∀u∈l',u.oneCell'=true:=by
 induction h with
 | nil=>intro u hu; cases hu
 | cons hab _ ih =>
  simp only [List.all_cons,Bool.and_eq_true] at h1;intro u hu;rcases List.mem_cons.1 hu with rfl | hu
  ·rw [zlb,one_eq hab]; exact h1.1
  ·exact ih h1.2 u hu
theorem ze1 {φ:Inj} {l:List Value} (h:∀x∈l,VR φ x x):LR φ l l:=by
 induction l with
 | nil=>exact .nil
 | cons a l ih=>exact .cons (h a (by simp)) (ih fun x hx=>h x (by simp [hx]))
structure ZSrc (P:Program) (i:TypeInfo) (tx:TypeId) (x:Value) (n:Nat) (z:Value) (news:List Value):Prop where
 kind:∃k,P.underlying tx=some (.int k)
 val:∃k,x=.int k (n:Int)
 fits:n*i.bytes≤281474976710656
 bytes:1≤i.bytes
 zero:i.zero=some z
 cells:news=(Builtin.zeroCells z.cells n).toList
 size:z.cells.size=i.size
theorem ZSrc.wrap {i:TypeInfo} {tx:TypeId} {x z:Value} {n:Nat} {news:List Value} (h:ZSrc P i tx x n z news):IntKind.i64.wrap (n:Int)=(n:Int):=by
 have h1:n≤n*i.bytes:=Nat.le_mul_of_pos_right _ h.bytes;have h2:=h.fits;have:n≤281474976710656:=by omega
 unfold IntKind.wrap IntKind.bits IntKind.signed;simp only [Bool.true_and];rw [Int.emod_eq_of_lt (by omega) (by omega)];rw [if_neg (by simp; omega)]
inductive ASrc (P:Program) (i:TypeInfo) (tx:TypeId) (x:Value) (n:Nat) (news:List Value) (w:World):Prop
 | src (h:Src P i.size tx x n news w)
 | zer (z:Value) (h:ZSrc P i tx x n z news)
theorem z34 (z:Array Value) (n:Nat):(Builtin.zeroCells z n).toList.length=n*z.size:=by
 simp [Builtin.zeroCells]
theorem ASrc.len {i:TypeInfo} {tx:TypeId} {x:Value} {n:Nat} {news:List Value} {w:World} (h:ASrc P i tx x n news w):news.length=n*i.size:=by
 cases h with
 | src h=>exact h.newsLen
 | zer z h=>rw [h.cells,z34,h.size]
theorem zdt {n b:Nat} (h:n*b≤281474976710656):¬((281474976710656:Int)<(n:Int)*(b:Int)):=by
 rw [← Int.natCast_mul];generalize n*b=q at *;omega
theorem V6 (k:IntKind) (n:Int) (w:World):(asInt (.int k n)).run P w=.ok n w:=by simp [asInt,asIntOf]
theorem ze8 {t tx ty e:TypeId} {i:TypeInfo} (ht:P.underlying t=some (.slice e)) (hi:P.info? e=some i) (base:Option Addr) (sLen sCap:Nat) (hle:sLen≤sCap) {x:Value} {w:World} (hs:ASrc P i tx x 0 [] w) :
  (Builtin.append_ #[t,tx] ty #[.slice base sLen sCap,x]).run P w=.ok (.slice base sLen sCap) w:=by
 cases hs with
 | src h=>exact run_append_nothing w t tx ty e i ht hi base sLen sCap hle x h
 | zer z h =>
  obtain ⟨k,hk⟩:=h.kind;obtain ⟨k',rfl⟩:=h.val;have hw:IntKind.i64.wrap 0=0:=by decide
  cases base <;> simp [Builtin.append_,run_underlying ht,run_underlying hk,sizeOf,typeInfo,hi,hle,V6,hw,storeCells]
theorem z1j {t tx ty e:TypeId} {i:TypeInfo} (ht:P.underlying t=some (.slice e)) (hi:P.info? e=some i) (a:Addr) (sLen sCap:Nat) {x:Value} {n:Nat} {news:List Value} {w w':World} (hs:ASrc P i tx x n news w)
  (hn:n*i.size≠0) (hroom:sLen+n≤sCap) (hst:(storeCells (a.add (sLen*i.size)) news).run P w=.ok () w') :
  (Builtin.append_ #[t,tx] ty #[.slice (some a) sLen sCap,x]).run P w=.ok (.slice (some a) (sLen+n) sCap) w':=by
 cases hs with
 | src hs =>
  rcases hs.kind with ⟨e',hk⟩ | hk <;> simp [Builtin.append_,run_underlying ht,run_underlying hk,sizeOf,typeInfo,hi,hs.len,hroom,hs.cells,hst]
 | zer z h =>
  obtain ⟨k,hk⟩:=h.kind;obtain ⟨k',rfl⟩:=h.val;have hw:=h.wrap;have hf:=h.fits;have h0:¬((n:Int)<0):=by omega
  have h1:¬((281474976710656:Int)<(n:Int)*(i.bytes:Int)):=zdt hf;rw [h.cells] at hst;simp [Builtin.append_,run_underlying ht,run_underlying hk,sizeOf,typeInfo,zeroValue,hi,h.zero,V6,hw,h0,h1,hroom,hn,hst]
theorem zah {t tx ty e:TypeId} {i:TypeInfo} {z:Value} (ht:P.underlying t=some (.slice e)) (hi:P.info? e=some i) (hz:i.zero=some z) (base:Option Addr) (sLen sCap:Nat) (olds:List Value) {w:World}
  (hold:(Builtin.firstCells i.size sLen (.slice base sLen sCap)).run P w.drew=.ok olds.toArray w.drew) {x:Value} {n:Nat} {news:List Value} (hs:ASrc P i tx x n news w)
  (hn:n*i.size≠0) (hg:sCap<sLen+n) (h63:((sLen+n:Nat):Int)≤9223372036854775807) (hfit:Builtin.nextslicecap (sLen+n) sCap*i.bytes≤281474976710656) :
  (Builtin.append_ #[t,tx] ty #[.slice base sLen sCap,x]).run P w =
   .ok (.slice (some ⟨w.heap.size,0,none⟩) (sLen+n) (grownCap w (sLen+n) sCap e))
    (w.drew.alloc (.cells ((olds++news).toArray++Builtin.zeroCells z.cells (grownCap w (sLen+n) sCap e - (sLen+n))) e)):=by
 cases hs with
 | src hs=>exact run_append_grow_src w t tx ty e i z ht hi hz base sLen sCap olds hold x n news hs hg h63 hfit
 | zer z' h =>
  obtain ⟨k,hk⟩:=h.kind;obtain ⟨k',rfl⟩:=h.val;have hzz:=h.zero;rw [hz] at hzz; cases hzz;have hw:=h.wrap;have hf:=h.fits;have h0:¬((n:Int)<0):=by omega
  have h1:¬((281474976710656:Int)<(n:Int)*(i.bytes:Int)):=zdt hf;have hr:¬(sLen+n≤sCap):=by omega
  have h63':¬(9223372036854775807<((sLen:Int)+(n:Int))):=by omega
  have h48':¬(281474976710656<Builtin.nextslicecap (sLen+n) sCap*i.bytes):=by omega
  rw [h.cells];simp [Builtin.append_,run_underlying ht,run_underlying hk,sizeOf,typeInfo,zeroValue,hi,hz,V6,hw,h0,h1,hr,h63',h48',hn,Question.forced,hold,newRow,grownCap]
  congr 2
  apply Array.ext';simp [List.append_assoc]
theorem zl5 {φ:Inj} {H:AH} {w:World} {xt e:TypeId} {i:TypeInfo} {x x':Value} {k:Nat} {new:List Value} (hi0:Inv φ H w) (h:aSrc P xt e i x H=some (k,new)) (hx:VR φ x x') (he:P.info? e=some i) :
  ∃new',LR φ new new'∧ASrc P i xt x' k new' w:=by
 unfold aSrc at h;split at h
 ·rename_i d b n c hu;cases hr:rdCells H b 0 (n*i.size) with
  | none=>rw [hr] at h; cases h
  | some l =>
   rw [hr] at h;simp only at h;cases ha:l.all one with
   | false=>rw [ha] at h; cases h
   | true =>
    rw [ha] at h;simp only [cond_true,Option.some.injEq,Prod.mk.injEq] at h;obtain ⟨rfl,rfl⟩:=h;have go:∀a' c',AddrR φ b a'→x'=.slice (some a') n c'→∃new',LR φ l new'∧ASrc P i xt x' n new' w:=by
     intro a' c' haa hx';obtain ⟨hl,l',hr1,hr2⟩:=rd_run hi0 haa _ 0 l hr;refine ⟨l',hr1,?_⟩;rw [hx'];exact .src (Src.ofSlice w hu a' n c' l' (by rw [← LR.length hr1,hl]) (fun j u hu=>by have:=hr2 j u hu; rwa [Nat.zero_add] at this) (lr_one hr1 ha))
    have nul:∀a' c',n=0→x'=.slice (some a') 0 c'→∃new',LR φ l new'∧ASrc P i xt x' n new' w:=by
     intro a' c' hn hx';subst hn;simp only [Nat.zero_mul,rdCells,Option.some.injEq] at hr;subst hr;refine ⟨[],.nil,?_⟩;rw [hx'];exact .src (Src.ofSlice w hu a' 0 c' [] (by simp) (fun j u hu=>by simp at hu) (fun u hu=>by cases hu))
    cases hx with
    | slice b o n c l1 hl hc=>exact go _ c ⟨rfl,l1,hl,rfl⟩ rfl
    | sliceOpen b o n c l1 hl hn hc=>exact go _ c ⟨rfl,l1,hl,rfl⟩ rfl
    | sliceEnd b o l1 a hl=>exact nul a 0 rfl rfl
    | sliceZero b o l1 a hl=>exact nul a 0 rfl rfl
 ·rename_i d n c hu;cases hn:Nat.beq n 0 with
  | false=>rw [hn] at h; cases h
  | true =>
   have hn:=Nat.eq_of_beq_eq_true hn;subst hn;simp only [Nat.beq,cond_true,Option.some.injEq,Prod.mk.injEq] at h;obtain ⟨rfl,rfl⟩:=h;cases hx;exact ⟨[],.nil,.src (Src.ofNil w hu c)⟩
 ·rename_i s hu;cases hn:Nat.beq i.size 1 with
  | false=>rw [hn] at h; cases h
  | true =>
   rw [hn] at h;simp only [cond_true,Option.some.injEq,Prod.mk.injEq] at h;obtain ⟨rfl,rfl⟩:=h;have hs:=Nat.eq_of_beq_eq_true hn;cases hx;refine ⟨byteCells s,?_,.src (by rw [hs]; exact Src.ofString w hu s)⟩;exact ze1 fun x hx=>by
    obtain ⟨_,_,rfl⟩:=List.mem_map.1 hx;exact .int _ _
 ·rename_i k1 k2 n hu;cases hb:(Nat.ble (n*i.bytes) 281474976710656&&zflat P e&&Nat.ble 1 i.bytes) with
  | false=>rw [hb] at h; cases h
  | true =>
   rw [hb] at h;simp only [Bool.and_eq_true] at hb;obtain ⟨⟨hb1,hb2⟩,hb3⟩:=hb;simp only [cond_true] at h;cases hz:i.zero with
   | none=>rw [hz] at h; cases h
   | some z =>
    rw [hz] at h;simp only at h;cases hq:Nat.beq z.cells.size i.size with
    | false=>rw [hq] at h; cases h
    | true =>
     rw [hq] at h;simp only [cond_true,Option.some.injEq,Prod.mk.injEq] at h;obtain ⟨rfl,rfl⟩:=h;have hzf:flat depth z=true:=by unfold zflat at hb2; rw [he] at hb2; simp only [hz] at hb2; exact hb2
     cases hx;refine ⟨_,?_,.zer z ⟨⟨_,hu⟩,⟨_,rfl⟩,Nat.le_of_ble_eq_true hb1,Nat.le_of_ble_eq_true hb3,hz,rfl,Nat.eq_of_beq_eq_true hq⟩⟩;exact AR_iff.1 (z9t (X7 hzf) _)
 ·cases h
end Go.Abs
namespace Go.Abs
variable {P:Program} {m:Nat}
theorem Inv.drew {φ:Inj} {H:AH} {w:World} (h:Inv φ H w):Inv φ H w.drew:=⟨h.dom,h.obj,h.sep⟩
theorem Step.drew {φ:Inj} (H:AH) (w:World):Step m φ H w φ H w.drew:=⟨Nat.le_refl _,Inj.le_refl _,fun id l h h'=>(by rw [h] at h'; cases h'),fun _ h=>.inl h,Nat.le_refl _,fun _ _ _=>rfl,rfl,rfl,rfl⟩
theorem Inv.kill {φ:Inj} {H:AH} {w:World} {id:Nat} {b:Blk} {l:Loc} (hi:Inv φ H w) (hb:H.get id=some b) (hro:b.ro=false) (hal:alive b=true) (hl:φ id=some l):Inv φ (H.put id dead) w :=
 hi.put hb hro hal hl rfl (fun _ _=>rfl) trivial
theorem Step.kill {φ:Inj} {H:AH} {w:World} {id:Nat} {b:Blk} {l:Loc} (hm:m≤id) (hb:H.get id=some b) (hl:φ id=some l):Step m φ H w φ (H.put id dead) w :=
 Step.put hm hb hl rfl (fun _ _=>rfl) rfl rfl rfl
theorem Inv.reuse {φ:Inj} {H:AH} {w w':World} {id:Nat} {b nb:Blk} {l l':Loc} (hi:Inv φ H w) (hb:H.get id=some b) (hro:b.ro=false) (hal:alive b=true) (hl:φ id=some l) (hl':l'.blk=l.blk)
  (hsz:w'.heap.size=w.heap.size) (hoth:∀c,c≠l.blk→w'.heap[c]? = w.heap[c]?) (hor:OR (φ.upd H.next l') l' nb w'):Inv (φ.upd H.next l') ((H.put id dead).push nb) w':=by
 have hf:=hi.fresh;have hle:=Inj.le_upd l' hf;have hid:id≠H.next:=by have:=hi.get_lt hb; omega
 have hi1:Inv φ (H.put id dead) w':=hi.put hb hro hal hl hsz hoth trivial;refine ⟨fun i k h=>?_,?_,?_⟩
 ·by_cases e:i=H.next
  ·subst e; rw [Inj.upd_same] at h; cases h;have:=(hi.dom id l hl).2;simp only [AH.next_push,AH.next_put]; omega
  ·rw [Inj.upd_other _ _ e] at h;have:=hi1.dom i k h;simp only [AH.next_push,AH.next_put] at this ⊢; omega
 ·intro i k h;by_cases e:i=H.next
  ·subst e;have:((H.put id dead).push nb).get H.next=some nb:=AH.get_push_same (H.put id dead) nb;rw [this] at h; cases h;exact ⟨l',Inj.upd_same _ _ _,hor⟩
  ·rw [AH.get_push_other (H.put id dead) nb (j:=i) e] at h;obtain ⟨l1,h1,h2⟩:=hi1.obj i k h;exact ⟨l1,hle _ _ h1,h2.mono hle⟩
 ·intro i j k k' l1 l2 h h' hne hr ha ha' hl1 hl2;by_cases e:i=H.next
  ·subst e;rw [AH.get_push_other (H.put id dead) nb (j:=j) (fun hh=>hne hh.symm)] at h';rw [Inj.upd_same] at hl1; cases hl1;rw [Inj.upd_other _ _ (fun hh=>hne hh.symm)] at hl2;by_cases ej:j=id
   ·subst ej; rw [AH.get_put_same] at h'; cases h'; cases ha'
   ·rw [AH.get_put_other _ _ ej] at h';rw [hl'];exact hi.sep id j b k' l l2 hb h' (fun hh=>ej hh.symm) hro hal ha' hl hl2
  ·rw [AH.get_push_other (H.put id dead) nb (j:=i) e] at h;rw [Inj.upd_other _ _ e] at hl1;by_cases e':j=H.next
   ·subst e';rw [Inj.upd_same] at hl2; cases hl2;by_cases ei:i=id
    ·subst ei; rw [AH.get_put_same] at h; cases h; cases ha
    ·rw [AH.get_put_other _ _ ei] at h;rw [hl'];exact hi.sep i id k b l1 l h hb ei hr ha hal hl1 hl
   ·rw [AH.get_push_other (H.put id dead) nb (j:=j) e'] at h';rw [Inj.upd_other _ _ e'] at hl2;exact hi1.sep i j k k' l1 l2 h h' hne hr ha ha' hl1 hl2
theorem Step.reuse {φ:Inj} {H:AH} {w w':World} {id:Nat} {b nb:Blk} {l l':Loc} (hi:Inv φ H w) (hm:m≤id) (hb:H.get id=some b) (hl:φ id=some l) (hl':l'.blk=l.blk)
  (hsz:w'.heap.size=w.heap.size) (hoth:∀c,c≠l.blk→w'.heap[c]? = w.heap[c]?) (ho:w'.os=w.os) (ht:w'.tape=w.tape) (hp:w'.output=w.output) :
  Step m φ H w (φ.upd H.next l') ((H.put id dead).push nb) w':=by
 refine ⟨by simp,Inj.le_upd l' hi.fresh,?_,?_,Nat.le_of_eq hsz.symm,?_,ho,ht,hp⟩
 ·intro i k h h';by_cases e:i=H.next
  ·subst e; rw [Inj.upd_same] at h; cases h;exact ⟨Nat.le_refl _,.inr ⟨id,l,hm,by rw [hb]; rfl,hl,hl'.symm⟩⟩
  ·rw [Inj.upd_other _ _ e,h'] at h; cases h
 ·intro i h;by_cases e:i=H.next
  ·subst e; exact .inr hi.fresh
  ·rw [AH.get_push_other (H.put id dead) nb (j:=i) e] at h;by_cases ei:i=id
   ·subst ei; exact .inl (by rw [hb]; rfl)
   ·rw [AH.get_put_other _ _ ei] at h; exact .inl h
 ·intro c hc hno;exact hoth c fun e=>hno id l hm (by rw [hb]; rfl) hl e.symm
theorem z6q (b:Nat):∀(vs:List Value) (o:Nat) (w:World) (c:Array Value) (e:TypeId) (f:Nat×Nat),w.heap[b]? = some (.cells c e f) →
  ∃c2,(w.setCells b o vs).heap[b]? = some (.cells c2 e f)∧c2.size=c.size∧(∀i,(i<o∨o+vs.length≤i)→c2[i]? = c[i]?)∧∀j v,vs[j]? = some v→o+j<c.size→c2[o+j]? = some v:=by
 intro vs;induction vs with
 | nil=>intro o w c e f h; exact ⟨c,h,rfl,fun _ _=>rfl,fun j v hv=>by simp at hv⟩
 | cons v vs ih =>
  intro o w c e f h;have h1:=Y8 (w:=w) (a:=⟨b,o,none⟩) (v:=v) h rfl;obtain ⟨c2,g1,g2,g3,g4⟩:=ih (o+1) (w.setCell ⟨b,o,none⟩ v) _ e f h1;refine ⟨c2,g1,by simpa using g2,?_,?_⟩
  ·intro i hi;rw [g3 i (by simp only [List.length_cons] at hi; omega)];rw [Array.getElem?_setIfInBounds,if_neg (by simp only [List.length_cons] at hi; show ¬o=i; omega)]
  ·intro j u hu hj;cases j with
   | zero =>
    simp only [List.getElem?_cons_zero,Option.some.injEq] at hu;subst hu;rw [g3 (o+0) (by omega)];simp only [Nat.add_zero] at hj ⊢;rw [Array.getElem?_setIfInBounds,if_pos rfl,if_pos hj]
   | succ j =>
    have:=g4 j u (by simpa using hu) (by simp; omega);rw [show o+(j+1)=o+1+j by omega]; exact this
theorem z1a (b:Nat):∀(vs:List Value) (o:Nat) (w:World) (k:Nat),k≠b→(w.setCells b o vs).heap[k]? = w.heap[k]? := by
 intro vs;induction vs with
 | nil=>intro o w k h; rfl
 | cons v vs ih=>intro o w k h; rw [World.setCells,ih _ _ _ h]; exact z1h h
theorem z1w (b:Nat):∀(vs:List Value) (o:Nat) (w:World),(w.setCells b o vs).heap.size=w.heap.size:=by
 intro vs;induction vs with
 | nil=>intro o w; rfl
 | cons v vs ih=>intro o w; rw [World.setCells,ih]; simp
theorem z6h (b:Nat):∀(vs:List Value) (o:Nat) (w:World),(w.setCells b o vs).os=w.os∧(w.setCells b o vs).tape=w.tape∧(w.setCells b o vs).output=w.output:=by
 intro vs;induction vs with
 | nil=>intro o w; exact ⟨rfl,rfl,rfl⟩
 | cons v vs ih=>intro o w; exact ih (o+1) (w.setCell ⟨b,o,none⟩ v)
theorem wr_run {φ:Inj}:∀(l l':List Value) (i:Nat) {H H':AH} {w:World} {a a':Addr},Inv φ H w→AddrR φ a a'→LR φ l l'→wrCells m a i l H=some H' →
  ∃w',(storeCells a' l' i).run P w=.ok () w'∧Inv φ H' w'∧Step m φ H w φ H' w':=by
 intro l;induction l with
 | nil =>
  intro l' i H H' w a a' hi ha hl h;cases hl;simp only [wrCells,Option.some.injEq] at h;subst h;exact ⟨w,rfl,hi,Step.refl _ _ _ _⟩
 | cons v l ih =>
  intro l' i H H' w a a' hi ha hl h;cases hl with
  | cons hv ht =>
   simp only [wrCells] at h;cases ho:one v with
   | false=>rw [ho] at h; cases h
   | true =>
    rw [ho] at h;simp only [cond_true] at h;cases hs:H.setCell m (a.add i) v with
    | none=>rw [hs] at h; cases h
    | some H1 =>
     rw [hs] at h;simp only at h;obtain ⟨r1,r2,r3⟩:=z8u (P:=P) hi (ha.add i) hv ho hs .plain;obtain ⟨w2,s1,s2,s3⟩:=ih _ (i+1) r2 ha ht h;refine ⟨w2,?_,s2,r3.trans hi s3⟩;simp only [storeCells,Sem.run_bind];rw [r1]; exact s1
theorem z1n {φ:Inj} {H H0 H':AH} {w:World} {t tx ty e:TypeId} {i:TypeInfo} {z v:Value} (hi0:Inv φ H0 w) (hi1:Inv φ H w) (hst:Step m φ H0 w φ H w) (ht:P.underlying t=some (.slice e)) (hi:P.info? e=some i) (hz:i.zero=some z)
  (hzs:z.cells.size=i.size) (hs0:i.size≠0) (base':Option Addr) (n cap':Nat) (old old':List Value) (hold:LR φ old old')
  (hl:old.length=n*i.size) (hr:(Builtin.firstCells i.size n (.slice base' n cap')).run P w.drew=.ok old'.toArray w.drew) {x':Value} {k:Nat} {new new':List Value} (hs:ASrc P i tx x' k new' w) (hnew:LR φ new new')
  (hk:k≠0) (hg:cap'<n+k) (h:grown H e i.size i.bytes (n+k) (old++new)=some (v,H')) :
  OpOK P m φ H0 w v H' (do pure (.value (← Builtin.append_ #[t,tx] ty #[.slice base' n cap',x']))):=by
 unfold grown at h;cases hb:(Nat.ble ((2*(n+k)+1000)*i.bytes) 281474976710656&&Nat.ble (n+k) 281474976710656) with
 | false=>rw [hb] at h; cases h
 | true =>
  rw [hb] at h;simp only [cond_true,Option.some.injEq,Prod.mk.injEq] at h;obtain ⟨rfl,rfl⟩:=h;simp only [Bool.and_eq_true] at hb;have hb1:=Nat.le_of_ble_eq_true hb.1;have hb2:=Nat.le_of_ble_eq_true hb.2;have hks:k*i.size≠0:=Nat.mul_ne_zero hk hs0;have hfit:Builtin.nextslicecap (n+k) cap'*i.bytes≤281474976710656:=by
   have h1:Builtin.nextslicecap (n+k) cap'*i.bytes≤(2*(n+k)+1000)*i.bytes:=Nat.mul_le_mul_right _ (by have:=nextslicecap_le hg; omega);omega
  have hrun:=zah (ty:=ty) ht hi hz base' n cap' old' hr hs hks hg (by omega) hfit;generalize hcap:grownCap w (n+k) cap' e=nc at hrun;have hge:n+k≤nc:=by rw [← hcap]; exact grownCap_ge w _ _ _
  generalize harr:(old'++new').toArray++Builtin.zeroCells z.cells (nc - (n+k))=arr at hrun;have hlen:old'.length+new'.length=(n+k)*i.size:=by
   rw [← LR.length hold,hl,hs.len,Nat.add_mul]
  have hsize:arr.size=nc*i.size:=by
   have:=z34 z.cells (nc - (n+k));rw [Array.length_toList] at this;rw [← harr,Array.size_append,this,hzs];simp only [List.size_toArray,List.length_append];rw [hlen,← Nat.add_mul]
   congr 1; omega
  let l:Loc:=⟨w.heap.size,0,arr.size,i.size⟩
  have hi2:=hi1.drew;have hle:=Inj.le_upd l hi2.fresh;have hlr:LR φ (old++new) (old'++new'):=F2.append hold hnew;have hinv:Inv (φ.upd H.next l) (H.push { obj:=.cells (old++new).toArray e (0,0),opn:=true,esz:=i.size,ro:=false }) (w.drew.alloc (.cells arr e)):=by
   refine hi2.push rfl ⟨arr,e,(0,0),I6 _ _,?_⟩;refine ⟨fun j u hu=>?_,Nat.le_refl _,fun _=>rfl,fun h=>(by cases h),fun _=>.inl (Nat.le_refl _),rfl⟩;rw [List.getElem?_toArray] at hu;rcases hlr.get j with ⟨a1,_⟩ | ⟨p,q,a1,a2,a3⟩
   ·rw [a1] at hu; cases hu
   ·rw [a1] at hu; cases hu;refine ⟨q,?_,a3.mono hle⟩;show arr[0+j]? = some q;rw [Nat.zero_add,← harr,Array.getElem?_append,if_pos,List.getElem?_toArray,a2];rw [List.getElem?_eq_some_iff] at a2
    simpa using a2.1
  refine W1 hrun hinv (hst.trans hi0 ((Step.drew H w).trans hi1 (Step.push hi2 rfl))) ?_;have:=VR.sliceOpen (φ:=φ.upd H.next l) H.next 0 (n+k) nc l (Inj.upd_same _ _ _) hge (by show 0+0+nc*i.size≤arr.size; omega);exact this
theorem z2v {φ:Inj} {H:AH} {w:World} (hi:Inv φ H w) {a:Addr} {n size:Nat} {old:List Value} (h:rdCells H a 0 (n*size)=some old) {cap cap':Nat} {base':Option Addr}
  (hx:VR φ (.slice (some a) n cap) (.slice base' n cap')):∃old',LR φ old old'∧old.length=n*size∧(Builtin.firstCells size n (.slice base' n cap')).run P w=.ok old'.toArray w:=by
 have go:∀a',AddrR φ a a'→base'=some a'→∃old',LR φ old old'∧old.length=n*size∧(Builtin.firstCells size n (.slice base' n cap')).run P w=.ok old'.toArray w:=by
  intro a' ha hb;obtain ⟨hl,l',hr1,hr2⟩:=rd_run hi ha _ 0 old h;refine ⟨l',hr1,hl,?_⟩;rw [hb];exact run_firstCells_some w size n a' n cap' l' (by rw [← LR.length hr1,hl]) (fun j u hu=>by have:=hr2 j u hu; rwa [Nat.zero_add] at this)
 have nul:∀a',n=0→base'=some a'→∃old',LR φ old old'∧old.length=n*size∧(Builtin.firstCells size n (.slice base' n cap')).run P w=.ok old'.toArray w:=by
  intro a' hn hb;subst hn;simp only [Nat.zero_mul,rdCells,Option.some.injEq] at h;subst h;refine ⟨[],.nil,by simp,?_⟩;rw [hb];exact run_firstCells_some w size 0 a' 0 cap' [] (by simp) (fun j u hu=>by simp at hu)
 cases hx with
 | slice b o n c l1 hl hc=>exact go _ ⟨rfl,l1,hl,rfl⟩ rfl
 | sliceOpen b o n c l1 hl hn hc=>exact go _ ⟨rfl,l1,hl,rfl⟩ rfl
 | sliceEnd b o l1 a hl=>exact nul a rfl rfl
 | sliceZero b o l1 a hl=>exact nul a rfl rfl
theorem X9 {φ:Inj} {b:Option Addr} {n c:Nat} {x':Value} (h:VR φ (.slice b n c) x'):∃b' c',x'=.slice b' n c':=by
 cases h <;> exact ⟨_,_,rfl⟩
theorem zcz {φ:Inj} {H H':AH} {w:World} {t tx ty e:TypeId} {i:TypeInfo} {v:Value} (hi0:Inv φ H w) (ht:P.underlying t=some (.slice e)) (hi:P.info? e=some i) (hs0:i.size≠0)
  {b o n cap':Nat} {l:Loc} (hl:φ b=some l) (hn:n≤cap') (hc:l.off+o+cap'*l.esz≤l.fin) {c:Array Value} {f:Nat×Nat} (hg:H.get b=some { obj:=.cells c e f,opn:=true,esz:=i.size,ro:=false }) (hm:m≤b)
  {old:List Value} (hold:rdCells H ⟨b,o,none⟩ 0 (n*i.size)=some old) {x':Value} {k:Nat} {new new':List Value} (hs:ASrc P i tx x' k new' w) (hnew:LR φ new new') (hone:new.all one=true)
  (hk:k≠0) (hroom:n+k≤cap') (h:grown (H.put b dead) e i.size i.bytes (n+k) (old++new)=some (v,H')) :
  OpOK P m φ H w v H' (do pure (.value (← Builtin.append_ #[t,tx] ty #[.slice (some ⟨l.blk,l.off+o,none⟩) n cap',x']))):=by
 unfold grown at h;cases hb:(Nat.ble ((2*(n+k)+1000)*i.bytes) 281474976710656&&Nat.ble (n+k) 281474976710656) with
 | false=>rw [hb] at h; cases h
 | true =>
  rw [hb] at h;simp only [cond_true,Option.some.injEq,Prod.mk.injEq] at h;obtain ⟨rfl,rfl⟩:=h;have hks:k*i.size≠0:=Nat.mul_ne_zero hk hs0;obtain ⟨l1,c',f',g1,g2,g3⟩:=hi0.cells hg rfl;rw [hl] at g1; cases g1;have hesz:l.esz=i.size:=g3.esz rfl;have hfin:=g3.fin;have hown:=g3.own rfl;obtain ⟨hlen,old',hr1,hr2⟩:=rd_run hi0 (a:=⟨b,o,none⟩) (a':=⟨l.blk,l.off+o,none⟩) ⟨rfl,l,hl,rfl⟩ _ 0 old hold;have hnl:=hs.len;have hmul:(n+k)*i.size≤cap'*i.size:=Nat.mul_le_mul_right _ hroom;rw [Nat.add_mul] at hmul;rw [hesz] at hc;have hin:∀j,j<new'.length→l.off+o+n*i.size+j<c'.size:=by intro j hj; omega
  have hcell:∀j,j<new'.length→(w.cell? ⟨l.blk,l.off+o+n*i.size+j,none⟩).isSome=true:=by
   intro j hj;simp only [World.cell?,g2,Option.isSome_none,Bool.false_eq_true,if_false];rw [Array.getElem?_eq_getElem (hin j hj)]; rfl
  have hfz:∀j,j<new'.length→w.frozen? ⟨l.blk,l.off+o+n*i.size+j,none⟩=false:=by
   intro j hj;have:=hin j hj;obtain ⟨p,q⟩:=f';simp only [World.frozen?,g2];simp only at hown;rw [Bool.eq_false_iff]; simp only [ne_eq,Bool.and_eq_true,decide_eq_true_eq]; omega
  have hst:=run_storeCells_cells (P:=P) l.blk (l.off+o+n*i.size) new' 0 w (by simpa using hcell) (by simpa using hfz) (lr_one hnew hone);simp only [Nat.add_zero] at hst;have hrun:=z1j (ty:=ty) ht hi ⟨l.blk,l.off+o,none⟩ n cap' hs hks hroom (w':=w.setCells l.blk (l.off+o+n*i.size) new') (by rw [Addr.add_lit]; exact hst);obtain ⟨c2,q1,q2,q3,q4⟩:=z6q l.blk new' (l.off+o+n*i.size) w c' e f' g2
  let l':Loc:=⟨l.blk,l.off+o,l.fin,l.esz⟩
  have hle:=Inj.le_upd l' hi0.fresh;have hrest:=z6h l.blk new' (l.off+o+n*i.size) w;have hlr:LR φ (old++new) (old'++new'):=F2.append hr1 hnew;have hol:old'.length=n*i.size:=by rw [← LR.length hr1,hlen]
  have hinv:Inv (φ.upd H.next l') ((H.put b dead).push { obj:=.cells (old++new).toArray e (0,0),opn:=true,esz:=i.size,ro:=false }) (w.setCells l.blk (l.off+o+n*i.size) new'):=by
   refine hi0.reuse hg rfl rfl hl rfl (z1w _ _ _ _) (fun cc hcc=>z1a _ _ _ _ _ hcc) ⟨c2,e,f',q1,?_⟩;refine ⟨fun j u hu=>?_,by rw [q2]; exact hfin,fun _=>hesz,fun h=>(by cases h),fun _=>by rw [q2]; exact hown,rfl⟩;rw [List.getElem?_toArray] at hu;rcases hlr.get j with ⟨a1,_⟩ | ⟨p,q,a1,a2,a3⟩
   ·rw [a1] at hu; cases hu
   ·rw [a1] at hu; cases hu;refine ⟨q,?_,a3.mono hle⟩;show c2[l.off+o+j]? = some q;rw [List.getElem?_append] at a2;split at a2
    ·rename_i hj;rw [q3 _ (by omega)];have:=hr2 j q a2;rw [Nat.zero_add,Addr.add_lit] at this
     simpa [World.cell?,g2] using this
    ·rename_i hj;have hj2:j - old'.length<new'.length:=by
      rw [List.getElem?_eq_some_iff] at a2; exact a2.1
     have:=q4 (j - old'.length) q a2 (hin _ hj2);rw [show l.off+o+j=l.off+o+n*i.size+(j - old'.length) by omega];exact this
  refine W1 hrun hinv (Step.reuse hi0 hm hg hl rfl (z1w _ _ _ _) (fun cc hcc=>z1a _ _ _ _ _ hcc) hrest.1 hrest.2.1 hrest.2.2) ?_;have:=VR.sliceOpen (φ:=φ.upd H.next l') H.next 0 (n+k) cap' l' (Inj.upd_same _ _ _) hroom (by show l.off+o+0+cap'*l.esz≤l.fin; rw [hesz]; omega);exact this
theorem m7 {α:Type} {a:Array α} {x y:α} (h:a.toList=[x,y]):a=#[x,y]:=by
 apply Array.ext'; simpa using h
theorem zfu {φ:Inj} {H H':AH} {w:World} {ts:Array TypeId} {ty:TypeId} {args args':Array Value} {v:Value} (hi0:Inv φ H w) (h:aAppend P m ts args H=some (v,H')) (ha:AR φ args args') :
  OpOK P m φ H w v H' (do pure (.value (← Builtin.append_ ts ty args'))):=by
 unfold aAppend at h;split at h
 ·rename_i st xt base n cap x hts hargs;have e1:=m7 hts;have e2:=m7 hargs;subst e1 e2;have hlr:=AR_iff.1 ha;obtain ⟨s',x',rfl,hsv,hxv⟩:∃s' x',args'=#[s',x']∧VR φ (.slice base n cap) s'∧VR φ x x':=by
   generalize hq:args'.toList=q at hlr;cases hlr with
   | cons h1 t1=>cases t1 with
    | cons h2 t2=>cases t2; exact ⟨_,_,m7 hq,h1,h2⟩
  cases hst:P.underlying st with
  | none=>rw [hst] at h; cases h
  | some d =>
   rw [hst] at h;cases d with
   | slice e =>
    simp only at h;cases hii:P.info? e with
    | none=>rw [hii] at h; cases h
    | some i =>
     rw [hii] at h;simp only at h;cases hsr:aSrc P xt e i x H with
     | none=>rw [hsr] at h; cases h
     | some kn =>
      obtain ⟨k,new⟩:=kn;rw [hsr] at h;simp only at h;obtain ⟨new',hnew,hsrc⟩:=zl5 hi0 hsr hxv hii;cases hz0:(Nat.beq i.size 0||!zsize i) with
      | true=>rw [hz0] at h; cases h
      | false =>
       rw [hz0] at h;simp only [cond_false] at h;simp only [Bool.or_eq_false_iff,Bool.not_eq_false'] at hz0;have hs0:i.size≠0:=Nat.ne_of_beq_eq_false hz0.1;obtain ⟨z,hz,hzs⟩:∃z,i.zero=some z∧z.cells.size=i.size:=by
        have:=hz0.2;unfold zsize at this;cases hzz:i.zero with
        | none=>rw [hzz] at this; cases this
        | some z=>rw [hzz] at this; exact ⟨z,rfl,Nat.eq_of_beq_eq_true this⟩
       cases hk0:Nat.beq k 0 with
       | true =>
        rw [hk0] at h;have hk:=Nat.eq_of_beq_eq_true hk0;subst hk;simp only [cond_true] at h;cases hnc:Nat.ble n cap with
        | false=>rw [hnc] at h; cases h
        | true =>
         rw [hnc] at h;simp only [cond_true,Option.some.injEq,Prod.mk.injEq] at h;obtain ⟨rfl,rfl⟩:=h;have hnl:new'=[]:=by
          have:=hsrc.len;rw [Nat.zero_mul] at this;exact List.eq_nil_of_length_eq_zero this
         subst hnl;obtain ⟨b',c',rfl⟩:=X9 hsv;have hle:n≤c':=by
          cases hsv with
          | sliceNil n c=>exact Nat.le_of_ble_eq_true hnc
          | slice b o n c l1 hl hc=>exact Nat.le_of_ble_eq_true hnc
          | sliceOpen b o n c l1 hl hn hc=>exact hn
          | sliceEnd b o l1 a hl=>exact Nat.le_refl _
          | sliceZero b o l1 a hl=>exact Nat.le_refl _
         exact W1 (ze8 hst hii b' n c' hle hsrc) hi0 (Step.refl _ _ _ _) hsv
       | false =>
        rw [hk0] at h;have hk:k≠0:=Nat.ne_of_beq_eq_false hk0;simp only [cond_false] at h;cases base with
        | none =>
         simp only at h;cases hnc:(Nat.beq n 0&&Nat.beq cap 0) with
         | false=>rw [hnc] at h; cases h
         | true =>
          rw [hnc] at h;simp only [Bool.and_eq_true] at hnc;have hn0:=Nat.eq_of_beq_eq_true hnc.1;have hc0:=Nat.eq_of_beq_eq_true hnc.2;subst hn0 hc0;simp only [cond_true] at h;cases hsv;refine z1n (old:=[]) (old':=[]) hi0 hi0 (Step.refl _ _ _ _) hst hii hz hzs hs0 none 0 0 .nil (by simp) (run_firstCells_none _ _ _ _ _) hsrc hnew hk (by omega) ?_;rw [Nat.zero_add]; exact h
        | some a =>
         simp only at h;cases hrd:rdCells H a 0 (n*i.size) with
         | none=>rw [hrd] at h; cases h
         | some old =>
          rw [hrd] at h;simp only at h;obtain ⟨b',c',rfl⟩:=X9 hsv;cases hop:Nat.beq cap OPEN with
          | true =>
           rw [hop] at h;have hcap:=Nat.eq_of_beq_eq_true hop;subst hcap;simp only [cond_true] at h;split at h
           ·rename_i c e' f esz hg;cases hq:(Nat.ble m a.block&&Nat.beq esz i.size&&Nat.beq e e'&&new.all one) with
            | false=>rw [hq] at h; cases h
            | true =>
             rw [hq] at h;simp only [cond_true] at h;simp only [Bool.and_eq_true] at hq;obtain ⟨⟨⟨hm,hes⟩,hee⟩,hone⟩:=hq;have hm:=Nat.le_of_ble_eq_true hm;have hes:=Nat.eq_of_beq_eq_true hes;have hee:=Nat.eq_of_beq_eq_true hee;subst hes hee;obtain ⟨l,hl,_⟩:=hi0.obj _ _ hg;have hik:=hi0.kill hg rfl rfl hl;by_cases hroom:n+k≤c'
             ·cases hsv with
              | slice b o n c l1 hl hc=>exact absurd rfl hc
              | sliceOpen b o n c l1 hl1 hn hc=>exact zcz hi0 hst hii hs0 hl1 hn hc hg hm hrd hsrc hnew hone hk hroom h
              | sliceEnd b o l1 a hl=>omega
             ·obtain ⟨old',ho1,ho2,ho3⟩:=z2v (P:=P) hi0.drew hrd hsv;exact z1n hi0 hik (Step.kill hm hg hl) hst hii hz hzs hs0 b' n c' _ _ ho1 ho2 ho3 hsrc hnew hk (by omega) h
           ·cases h
          | false =>
           rw [hop] at h;have hcap:=Nat.ne_of_beq_eq_false hop;simp only [cond_false] at h;have hcc:c'=cap:=by
            cases hsv with
            | slice b o n c l1 hl hc=>rfl
            | sliceOpen b o n c l1 hl hn hc=>exact absurd rfl hcap
            | sliceEnd b o l1 a hl=>exact absurd rfl hcap
            | sliceZero b o l1 a hl=>rfl
           subst hcc;cases hnk:Nat.ble (n+k) c' with
           | true =>
            rw [hnk] at h;simp only [cond_true] at h;have hroom:=Nat.le_of_ble_eq_true hnk;cases hw:wrCells m (a.add (n*i.size)) 0 new H with
            | none=>rw [hw] at h; cases h
            | some H1 =>
             rw [hw] at h;simp only [Option.some.injEq,Prod.mk.injEq] at h;obtain ⟨rfl,rfl⟩:=h;cases hsv with
             | slice b o n c l1 hl hc =>
              obtain ⟨w',r1,r2,r3⟩:=wr_run (P:=P) new new' 0 hi0 ((AddrR.add (φ:=φ) (a:=⟨b,o,none⟩) (a':=⟨l1.blk,l1.off+o,none⟩) ⟨rfl,l1,hl,rfl⟩ (n*i.size))) hnew hw;have hrun:=z1j (ty:=ty) hst hii ⟨l1.blk,l1.off+o,none⟩ n c' hsrc (Nat.mul_ne_zero hk hs0) hroom r1;exact W1 hrun r2 r3 (.slice b o _ _ l1 (r3.ext _ _ hl) hc)
             | sliceOpen b o n c l1 hl hn hc=>exact absurd rfl hcap
             | sliceZero b o l1 a hl=>omega
           | false =>
            rw [hnk] at h;simp only [cond_false] at h;have hnr:¬n+k≤c':=fun hh=>by rw [Nat.ble_eq_true_of_le hh] at hnk; cases hnk
            cases hnn:Nat.ble n c' with
            | false=>rw [hnn] at h; cases h
            | true =>
             rw [hnn] at h;simp only [cond_true] at h;obtain ⟨old',ho1,ho2,ho3⟩:=z2v (P:=P) hi0.drew hrd hsv;exact z1n hi0 hi0 (Step.refl _ _ _ _) hst hii hz hzs hs0 b' n c' _ _ ho1 ho2 ho3 hsrc hnew hk (by omega) h
   | _=>cases h
 ·cases h
end Go.Abs
namespace Go.Abs
variable {P:Program} {m:Nat}
def FindR (φ:Inj):Option (Nat×Value)→Option (Nat×Value)→Prop
 | none,none=>True
 | some (i,v),some (j,u)=>i=j∧VR φ v u
 | _,_=>False
theorem z8r {φ:Inj} (d:TypeDesc) (k:Value) {es es':List MapEntry} (h:F2 (ER φ) es es'):∀n,(Instr.findNow d k es n=none∧Instr.findNow d k es' n=none) ∨
  ∃r r',Instr.findNow d k es n=some r∧Instr.findNow d k es' n=some r'∧FindR φ r r':=by
 induction h with
 | nil=>intro n; exact .inr ⟨none,none,rfl,rfl,trivial⟩
 | cons hab _ ih =>
  intro n;simp only [Instr.findNow];rw [← hab.1];cases Instr.sameNow d k _ with
  | none=>exact .inl ⟨rfl,rfl⟩
  | some b =>
   cases b
   ·exact ih (n+1)
   ·exact .inr ⟨_,_,rfl,rfl,rfl,hab.2.1⟩
theorem zjh {φ:Inj} (kt:TypeId) (k:Value) (w:World) {es es':List MapEntry} (h:F2 (ER φ) es es'):∀(n:Nat) (r:Option (Nat×Value)),aAsk P kt k es n=some r →
  ∃r',(Instr.findAsking kt k es' n).run P w=.ok r' w∧FindR φ r r':=by
 induction h with
 | nil=>intro n r hr; simp only [aAsk,Option.some.injEq] at hr; subst hr; exact ⟨none,rfl,trivial⟩
 | @cons a b _ _ hab _ ih =>
  intro n r hr;simp only [aAsk] at hr;cases hp:peval P (Op.equal kt k a.key) with
  | none=>rw [hp] at hr; cases hr
  | some q =>
   rw [hp] at hr;have hrun:=D4 P _ _ hp w;rw [hab.1] at hrun;cases q
   ·obtain ⟨r',h1,h2⟩:=ih (n+1) r hr;refine ⟨r',?_,h2⟩;simp only [Instr.findAsking,Sem.run_bind,hrun,Result.andThen_ok,Bool.false_eq_true,if_false];exact h1
   ·simp only [Option.some.injEq] at hr;subst hr;refine ⟨some (n,b.val),?_,rfl,hab.2.1⟩;simp only [Instr.findAsking,Sem.run_bind,hrun,Result.andThen_ok,if_true];rfl
theorem z3i {φ:Inj} {kt:TypeId} {k:Value} (w:World) {es es':List MapEntry} (h:F2 (ER φ) es es') {r:Option (Nat×Value)} (hr:aFind P kt k es=some r) :
  ∃r',(Instr.findKey kt k es').run P w=.ok r' w∧FindR φ r r':=by
 unfold aFind at hr;cases hu:P.underlying kt with
 | none=>rw [hu] at hr; cases hr
 | some d =>
  rw [hu] at hr;simp only at hr;rcases z8r d k h 0 with ⟨h1,h2⟩ | ⟨q,q',h1,h2,h3⟩
  ·rw [h1] at hr;obtain ⟨r',a1,a2⟩:=zjh kt k w h 0 r hr;refine ⟨r',?_,a2⟩;simp only [Instr.findKey,Sem.run_bind,M1 hu,Result.andThen_ok,h2];exact a1
  ·rw [h1] at hr;simp only [Option.some.injEq] at hr;subst hr;refine ⟨q',?_,h3⟩;simp only [Instr.findKey,Sem.run_bind,M1 hu,Result.andThen_ok,h2];rfl
theorem Inv.map {φ:Inj} {H:AH} {w:World} (hi:Inv φ H w) {r:Nat} {b:Blk} {es:Array MapEntry} {n:Nat} (hb:H.get r=some b) (ho:b.obj=.map es n) {l:Loc} (hl:φ r=some l) :
  ∃es',w.heap[l.blk]? = some (.map es' n)∧MR φ es es':=by
 obtain ⟨l1,o',h1,h2,h3,_⟩:=hi.ref hb (by rw [ho]; rfl);rw [hl] at h1; cases h1;rw [ho] at h3;cases o' with
 | map es' n'=>obtain ⟨rfl,h4⟩:=h3; exact ⟨es',h2,h4⟩
 | _=>exact h3.elim
theorem T3 {w:World} {r:Nat} {es:Array MapEntry} {n:Nat} (h:w.heap[r]? = some (.map es n)):(getObj r).run P w=.ok (.map es n) w:=by
 simp [getObj,Sem.run,h]
theorem M6 {w:World} {r:Nat} {es:Array MapEntry} {n:Nat} {o:Obj} (h:w.heap[r]? = some (.map es n)):(setObj r o).run P w=.ok () { w with heap:=w.heap.setIfInBounds r o }:=by
 simp [setObj,Sem.run,h]
theorem MR.empty (φ:Inj):MR φ #[] #[]:=⟨rfl,fun i x y h=>by simp at h⟩
theorem zdo {φ:Inj} {H:AH} {w:World} (hi:Inv φ H w) {x x':Value} {es:Array MapEntry} (h:aEntries H x=some es) (hx:VR φ x x') :
  ∃es',MR φ es es'∧((x'=.map none∧es'=#[])∨∃r n,x'=.map (some r)∧(getObj r).run P w=.ok (.map es' n) w):=by
 cases hx with
 | mapNil=>simp only [aEntries,Option.some.injEq] at h; subst h; exact ⟨#[],MR.empty _,.inl ⟨rfl,rfl⟩⟩
 | map r l hl =>
  simp only [aEntries] at h;split at h
  ·rename_i es1 n _ _ _ hg;simp only [Option.some.injEq] at h;subst h;obtain ⟨es',h1,h2⟩:=hi.map hg rfl hl;exact ⟨es',h2,.inr ⟨_,n,rfl,T3 h1⟩⟩
  ·cases h
 | _=>cases h
theorem z2n {t:TypeId} {z:Value} (h:(P.info? t).bind (·.zero)=some z) (w:World):(zeroValue t).run P w=.ok z w:=by
 cases hi:P.info? t with
 | none=>rw [hi] at h; cases h
 | some i =>
  rw [hi] at h;have hz:i.zero=some z:=h;simp [zeroValue,typeInfo,hi,hz]
theorem zfx {φ:Inj} {H:AH} {w:World} {t:TypeId} {x x' k v:Value} {ok:Bool} (hi:Inv φ H w) (h:aLookup P t x k ok H=some v) (hx:VR φ x x') :
  ∃v',(Instr.lookup t x' k ok).run P w=.ok v' w∧VR φ v v':=by
 unfold aLookup at h;cases ht:P.underlying t with
 | none=>rw [ht] at h; cases h
 | some d =>
  rw [ht] at h;cases d with
  | map kt e =>
   simp only at h;cases he:aEntries H x with
   | none=>rw [he] at h; cases h
   | some es =>
    rw [he] at h;simp only at h;obtain ⟨es',hm,hx2⟩:=zdo (P:=P) hi he hx;have hf:=MR_iff.1 hm;have hemp:es.isEmpty=es'.isEmpty:=by have:=hf.isEmpty; simpa using this
    cases hc:peval P (Instr.checkKey es.isEmpty 10000 kt k) with
    | none=>rw [hc] at h; cases h
    | some u =>
     rw [hc] at h;have hcr:=D4 P _ _ hc w;rw [hemp] at hcr;cases hfi:aFind P kt k es.toList with
     | none=>rw [hfi] at h; cases h
     | some r =>
      rw [hfi] at h;obtain ⟨r',hr1,hr2⟩:=z3i w hf hfi;have tail:∃v',(do
        Instr.checkKey es'.isEmpty 10000 kt k
        let (v,okb) ← match ← Instr.findKey kt k es'.toList with
         | some (_,v)=>pure (v,true)
         | none=>pure (← zeroValue e,false)
        pure (if ok then Value.tuple #[v,.bool okb] else v):Sem Value).run P w=.ok v' w∧VR φ v v':=by
       simp only [Sem.run_bind,hcr,Result.andThen_ok,hr1];cases r with
       | none =>
        cases r' with
        | some p=>exact hr2.elim
        | none =>
         simp only at h;cases hz:(P.info? e).bind (·.zero) with
         | none=>rw [hz] at h; cases h
         | some z =>
          rw [hz] at h;simp only at h;cases hfl:flat depth z with
          | false=>rw [hfl] at h; cases h
          | true =>
           rw [hfl] at h;simp only [cond_true,Option.some.injEq] at h;subst h;simp only [Sem.run_bind,z2n hz,Result.andThen_ok,Sem.run_pure];refine ⟨_,rfl,?_⟩;cases ok
           ·exact N2 _ hfl
           ·exact w8 (N2 _ hfl) (.bool false)
       | some p =>
        obtain ⟨i,u⟩:=p;cases r' with
        | none=>exact hr2.elim
        | some p' =>
         obtain ⟨i',u'⟩:=p';simp only at h;simp only [Option.some.injEq] at h;subst h;simp only [Sem.run_pure,Result.andThen_ok];refine ⟨_,rfl,?_⟩;cases ok
         ·exact hr2.2
         ·exact w8 hr2.2 (.bool true)
      obtain ⟨v',hv1,hv2⟩:=tail;refine ⟨v',?_,hv2⟩;rw [← hv1];rcases hx2 with ⟨rfl,rfl⟩ | ⟨rr,n,rfl,hg⟩
      ·simp only [Instr.lookup,Sem.run_bind,M1 ht,Result.andThen_ok,Sem.run_pure];rfl
      ·simp only [Instr.lookup,Sem.run_bind,M1 ht,Result.andThen_ok,Sem.run_pure,hg];rfl
  | _=>cases h
theorem z60 {H:AH} {x:Value} {r n:Nat} {b:Blk} {es:Array MapEntry} (h:aMapAt m H x=some (r,b,es,n)) :
  x=.map (some r)∧H.get r=some b∧m≤r∧b.obj=.map es n∧b.ro=false:=by
 unfold aMapAt at h;split at h
 ·rename_i r';split at h
  ·rename_i es1 n1 opn esz hg;cases hb:Nat.ble m r' with
   | false=>rw [hb] at h; cases h
   | true =>
    rw [hb] at h;simp only [cond_true,Option.some.injEq,Prod.mk.injEq] at h;obtain ⟨rfl,rfl,rfl,rfl⟩:=h;exact ⟨rfl,hg,Nat.le_of_ble_eq_true hb,rfl,rfl⟩
  ·cases h
 ·cases h
theorem z50 {φ:Inj} {H:AH} {w:World} (hi:Inv φ H w) {r n k:Nat} {b:Blk} {es es2 es' es2':Array MapEntry} {l:Loc} (hb:H.get r=some b) (hm:m≤r) (ho:b.obj=.map es n) (hro:b.ro=false) (hl:φ r=some l)
  (hw:w.heap[l.blk]? = some (.map es' n)) (hes:MR φ es2 es2') :
  Inv φ (H.put r { b with obj:=.map es2 k }) { w with heap:=w.heap.setIfInBounds l.blk (.map es2' k) } ∧
   Step m φ H w φ (H.put r { b with obj:=.map es2 k }) { w with heap:=w.heap.setIfInBounds l.blk (.map es2' k) }:=by
 have hlt:l.blk<w.heap.size:=(hi.dom _ _ hl).2;have hoth:∀c,c≠l.blk→({ w with heap:=w.heap.setIfInBounds l.blk (.map es2' k) }:World).heap[c]? = w.heap[c]? := by
  intro c hc;simp only [Array.getElem?_setIfInBounds];rw [if_neg (fun e=>hc e.symm)]
 obtain ⟨l1,o',h1,h2,h3,h0⟩:=hi.ref hb (by rw [ho]; rfl);rw [hl] at h1; cases h1;have hal:alive b=true:=by unfold alive; rw [ho]
 have hx:({ w with heap:=w.heap.setIfInBounds l.blk (.map es2' k) }:World).heap[l.blk]? = some (.map es2' k):=by simp [hlt]
 exact ⟨hi.put hb hro hal hl (by simp) hoth ⟨_,hx,⟨rfl,hes⟩,h0⟩,Step.put hm hb hl (by simp) hoth rfl rfl rfl⟩
theorem z4t (P:Program) {old k:Value} (h:Instr.sameBits 10000 old k=true) (w:World):(Instr.keyThatStays old k).run P w=.ok k w:=by
 simp [Instr.keyThatStays,h]
theorem oldKey {φ:Inj} {es es':Array MapEntry} (h:MR φ es es') (i:Nat) (k:Value):((es'[i]?).map (·.key)).getD k=((es[i]?).map (·.key)).getD k:=by
 rcases (MR_iff.1 h).get i with ⟨a,b⟩ | ⟨x,y,a,b,c⟩
 ·rw [Array.getElem?_toList] at a b; rw [a,b]
 ·rw [Array.getElem?_toList] at a b; rw [a,b]; exact c.1.symm
theorem oldBorn {φ:Inj} {es es':Array MapEntry} (h:MR φ es es') (i:Nat):((es'[i]?).map fun e=>(e.born:Int)).getD 0=((es[i]?).map fun e=>(e.born:Int)).getD 0:=by
 rcases (MR_iff.1 h).get i with ⟨a,b⟩ | ⟨x,y,a,b,c⟩
 ·rw [Array.getElem?_toList] at a b; rw [a,b]
 ·rw [Array.getElem?_toList] at a b; rw [a,b]; exact congrArg (fun n:Nat=>(n:Int)) c.2.2.1.symm
theorem za5 {φ:Inj} {H H':AH} {w:World} {t:TypeId} {x x' k v v' u:Value} (hi:Inv φ H w) (hfk:flat depth k=true) (h:aUpdate P m t x k v H=some (u,H')) (hx:VR φ x x') (hv:VR φ v v') :
  u=undef∧∃w',(Instr.mapUpdate t x' k v').run P w=.ok () w'∧Inv φ H' w'∧Step m φ H w φ H' w':=by
 unfold aUpdate at h;cases ht:P.underlying t with
 | none=>rw [ht] at h; cases h
 | some d =>
  rw [ht] at h;cases d with
  | map kt e =>
   simp only at h;cases hma:aMapAt m H x with
   | none=>rw [hma] at h; cases h
   | some q =>
    obtain ⟨r,b,es,n⟩:=q;rw [hma] at h;simp only at h;obtain ⟨rfl,hb,hm,ho,hro⟩:=z60 hma;cases hx with
    | map r l hl =>
     obtain ⟨es',hw,hes⟩:=hi.map hb ho hl;have hf:=MR_iff.1 hes;cases hc:peval P (Instr.checkKey false 10000 kt k) with
     | none=>rw [hc] at h; cases h
     | some u1 =>
      rw [hc] at h;have hcr:=D4 P _ _ hc w;cases hfi:aFind P kt k es.toList with
      | none=>rw [hfi] at h; cases h
      | some rr =>
       rw [hfi] at h;obtain ⟨r',hr1,hr2⟩:=z3i w hf hfi;cases rr with
       | some p =>
        obtain ⟨i,v0⟩:=p;cases r' with
        | none=>exact hr2.elim
        | some p' =>
         obtain ⟨i',v0'⟩:=p';obtain ⟨rfl,_⟩:=hr2;simp only at h;cases hsb:Instr.sameBits 10000 (((es[i]?).map (·.key)).getD k) k with
         | false=>rw [hsb] at h; cases h
         | true =>
          rw [hsb] at h;simp only [cond_true,Option.some.injEq,Prod.mk.injEq] at h;obtain ⟨rfl,rfl⟩:=h;refine ⟨rfl,?_⟩;have hst:=z4t P (old:=((es'[i]?).map (·.key)).getD k) (k:=k) (by rw [oldKey hes]; exact hsb) w;obtain ⟨g1,g2⟩:=z50 (k:=n) hi hb hm ho hro hl hw (hes.modify i (fun e=>{ e with key:=k,val:=v }) (fun e=>{ e with key:=k,val:=v' }) fun a b hab=>⟨rfl,hv,hab.2.2.1,hfk⟩);refine ⟨_,?_,g1,g2⟩;simp only [Instr.mapUpdate,Sem.run_bind,M1 ht,Result.andThen_ok,T3 hw,hcr,hr1,hst,M6 hw]
       | none =>
        cases r' with
        | some p'=>exact hr2.elim
        | none =>
         simp only [Option.some.injEq,Prod.mk.injEq] at h;obtain ⟨rfl,rfl⟩:=h;refine ⟨rfl,?_⟩;obtain ⟨g1,g2⟩:=z50 (k:=n+1) hi hb hm ho hro hl hw (hes.push (e:={ key:=k,val:=v,born:=n }) (e':={ key:=k,val:=v',born:=n }) ⟨rfl,hv,rfl,hfk⟩);refine ⟨_,?_,g1,g2⟩;simp only [Instr.mapUpdate,Sem.run_bind,M1 ht,Result.andThen_ok,T3 hw,hcr,hr1,M6 hw]
  | _=>cases h
theorem zi5 {φ:Inj} {H H':AH} {w:World} {t:TypeId} {x x' k u:Value} (hi:Inv φ H w) (hfk:flat depth k=true) (h:aEntry P m t x k H=some (u,H')) (hx:VR φ x x') :
  ∃u' w',(Instr.mapEntry t x' k).run P w=.ok u' w'∧Inv φ H' w'∧Step m φ H w φ H' w'∧VR φ u u':=by
 unfold aEntry at h;cases ht:P.underlying t with
 | none=>rw [ht] at h; cases h
 | some d =>
  rw [ht] at h;cases d with
  | map kt e =>
   simp only at h;cases hma:aMapAt m H x with
   | none=>rw [hma] at h; cases h
   | some q =>
    obtain ⟨r,b,es,n⟩:=q;rw [hma] at h;simp only at h;obtain ⟨rfl,hb,hm,ho,hro⟩:=z60 hma;cases hx with
    | map r l hl =>
     obtain ⟨es',hw,hes⟩:=hi.map hb ho hl;have hf:=MR_iff.1 hes;cases hc:peval P (Instr.checkKey false 10000 kt k) with
     | none=>rw [hc] at h; cases h
     | some u1 =>
      rw [hc] at h;have hcr:=D4 P _ _ hc w;cases hfi:aFind P kt k es.toList with
      | none=>rw [hfi] at h; cases h
      | some rr =>
       rw [hfi] at h;obtain ⟨r',hr1,hr2⟩:=z3i w hf hfi;cases rr with
       | some p =>
        obtain ⟨i,v0⟩:=p;cases r' with
        | none=>exact hr2.elim
        | some p' =>
         obtain ⟨i',v0'⟩:=p';obtain ⟨rfl,hv0⟩:=hr2;simp only at h;cases hsb:Instr.sameBits 10000 (((es[i]?).map (·.key)).getD k) k with
         | false=>rw [hsb] at h; cases h
         | true =>
          rw [hsb] at h;simp only [cond_true,Option.some.injEq,Prod.mk.injEq] at h;obtain ⟨rfl,rfl⟩:=h;have hst:=z4t P (old:=((es'[i]?).map (·.key)).getD k) (k:=k) (by rw [oldKey hes]; exact hsb) w;obtain ⟨g1,g2⟩:=z50 (k:=n) hi hb hm ho hro hl hw (hes.modify i (fun e=>{ e with key:=k }) (fun e=>{ e with key:=k }) fun a b hab=>⟨rfl,hab.2.1,hab.2.2.1,hfk⟩);refine ⟨.tuple #[v0',goInt (((es'[i]?).map (·.born)).getD 0)],_,?_,g1,g2,?_⟩
          ·simp only [Instr.mapEntry,Sem.run_bind,M1 ht,Result.andThen_ok,T3 hw,hcr,hr1,hst,M6 hw,Sem.run_pure]
          ·rw [oldBorn hes]; exact w8 hv0 (.int _ _)
       | none =>
        cases r' with
        | some p'=>exact hr2.elim
        | none =>
         simp only at h;cases hz:(P.info? e).bind (·.zero) with
         | none=>rw [hz] at h; cases h
         | some z =>
          rw [hz] at h;simp only at h;cases hfl:flat depth z with
          | false=>rw [hfl] at h; cases h
          | true =>
           rw [hfl] at h;simp only [cond_true,Option.some.injEq,Prod.mk.injEq] at h;obtain ⟨rfl,rfl⟩:=h;obtain ⟨g1,g2⟩:=z50 (k:=n+1) hi hb hm ho hro hl hw (hes.push (e:={ key:=k,val:=z,born:=n }) (e':={ key:=k,val:=z,born:=n }) ⟨rfl,N2 _ hfl,rfl,hfk⟩);refine ⟨_,_,?_,g1,g2,w8 (N2 _ hfl) (.int _ _)⟩;simp only [Instr.mapEntry,Sem.run_bind,M1 ht,Result.andThen_ok,T3 hw,hcr,hr1,M6 hw,z2n hz,Sem.run_pure];rfl
  | _=>cases h
theorem F2.eraseIdx {α β:Type} {R:α→β→Prop} {l:List α} {l':List β} (h:F2 R l l'):∀i,F2 R (l.eraseIdx i) (l'.eraseIdx i):=by
 induction h with
 | nil=>intro i; exact .nil
 | cons a t ih =>
  intro i;cases i with
  | zero=>exact t
  | succ i=>exact .cons a (ih i)
theorem MR.erase {φ:Inj} {es es':Array MapEntry} (h:MR φ es es') (i:Nat):MR φ (es.eraseIdxIfInBounds i) (es'.eraseIdxIfInBounds i):=by
 rw [MR_iff] at *;have:=h.eraseIdx i;have tl:∀a:Array MapEntry,(a.eraseIdxIfInBounds i).toList=a.toList.eraseIdx i:=by
  intro a;unfold Array.eraseIdxIfInBounds;split
  ·simp
  ·rename_i hi; rw [List.eraseIdx_of_length_le]; simpa using hi
 rw [tl,tl]; exact this
theorem zfp {φ:Inj} {H H':AH} {w:World} {ts:Array TypeId} {ty:TypeId} {x x' k u:Value} (hi:Inv φ H w) (h:aDelete P m ts [x,k] H=some (u,H')) (hx:VR φ x x') :
  ∃w',(Builtin.delete_ ts ty #[x',k]).run P w=.ok (.tuple #[]) w'∧Inv φ H' w'∧Step m φ H w φ H' w'∧u=.tuple #[]:=by
 unfold aDelete at h;cases ht0:ts[0]? with
 | none=>rw [ht0] at h; cases h
 | some t =>
  rw [ht0] at h;simp only at h;cases hfk:flat depth k with
  | false=>rw [hfk] at h; cases h
  | true =>
   rw [hfk] at h;simp only [cond_true] at h;cases ht:P.underlying t with
   | none=>rw [ht] at h; cases h
   | some d =>
    rw [ht] at h;cases d with
    | map kt e =>
     simp only at h;split at h
     ·cases hx;cases hc:peval P (Instr.checkKey true 10000 kt k) with
      | none=>rw [hc] at h; cases h
      | some u1 =>
       rw [hc] at h;simp only [Option.some.injEq,Prod.mk.injEq] at h;obtain ⟨rfl,rfl⟩:=h;refine ⟨w,?_,hi,Step.refl _ _ _ _,rfl⟩;have hcr:=D4 P _ _ hc w;simp [Builtin.delete_,ht0,M1 ht,hcr]
     ·cases hma:aMapAt m H x with
      | none=>rw [hma] at h; cases h
      | some q =>
       obtain ⟨r,b,es,n⟩:=q;rw [hma] at h;simp only at h;obtain ⟨rfl,hb,hm,ho,hro⟩:=z60 hma;cases hx with
       | map r l hl =>
        obtain ⟨es',hw,hes⟩:=hi.map hb ho hl;have hf:=MR_iff.1 hes;have hemp:es.isEmpty=es'.isEmpty:=by have:=hf.isEmpty; simpa using this
        cases hc:peval P (Instr.checkKey es.isEmpty 10000 kt k) with
        | none=>rw [hc] at h; cases h
        | some u1 =>
         rw [hc] at h;have hcr:=D4 P _ _ hc w;rw [hemp] at hcr;cases hfi:aFind P kt k es.toList with
         | none=>rw [hfi] at h; cases h
         | some rr =>
          rw [hfi] at h;obtain ⟨r',hr1,hr2⟩:=z3i w hf hfi;cases rr with
          | some p =>
           obtain ⟨i,v0⟩:=p;cases r' with
           | none=>exact hr2.elim
           | some p' =>
            obtain ⟨i',v0'⟩:=p';obtain ⟨rfl,_⟩:=hr2;simp only [Option.some.injEq,Prod.mk.injEq] at h;obtain ⟨rfl,rfl⟩:=h;obtain ⟨g1,g2⟩:=z50 (k:=n) hi hb hm ho hro hl hw (hes.erase i);refine ⟨_,?_,g1,g2,rfl⟩;have hs:=M6 (P:=P) (o:=.map (es'.eraseIdxIfInBounds i) n) hw;simp [Builtin.delete_,ht0,M1 ht,T3 hw,hcr,hr1,hs]
          | none =>
           cases r' with
           | some p'=>exact hr2.elim
           | none =>
            simp only [Option.some.injEq,Prod.mk.injEq] at h;obtain ⟨rfl,rfl⟩:=h;have hs:=M6 (P:=P) (o:=.map es' n) hw;have hsame:({ w with heap:=w.heap.setIfInBounds l.blk (.map es' n) }:World)=w:=by
             have:w.heap.setIfInBounds l.blk (.map es' n)=w.heap:=by
              apply Array.ext
              ·simp
              ·intro j h1 h2;rw [Array.getElem_setIfInBounds];split
               ·rename_i e; subst e;rw [Array.getElem?_eq_some_iff] at hw; exact hw.2.symm
               ·rfl
             rw [this]
            rw [hsame] at hs;refine ⟨w,?_,hi,Step.refl _ _ _ _,rfl⟩;simp [Builtin.delete_,ht0,M1 ht,T3 hw,hcr,hr1,hs]
    | _=>cases h
end Go.Abs
namespace Go.Abs
variable {P:Program} {m:Nat}
theorem zkw {φ:Inj} {t:TypeId} {x y x' y':Value} {b:Bool} (h:aEqV P t x y=some b) (hx:VR φ x x') (hy:VR φ y y') (w:World) (d:Nat):(Op.equalIn (d+1) t x' y').run P w=.ok b w:=by
 unfold aEqV at h;split at h
 ·rename_i e a hu;cases h; cases hx; cases hy;simp only [Op.equalIn,Sem.run_bind,M1 hu,Result.andThen_ok]; rfl
 ·rename_i e a hu;cases h; cases hx; cases hy;simp only [Op.equalIn,Sem.run_bind,M1 hu,Result.andThen_ok]; rfl
 ·rename_i e b1 o1 b2 o2 hu;cases hi:P.info? e with
  | none=>rw [hi] at h; cases h
  | some i =>
   rw [hi] at h;simp only at h;cases hq:(Nat.beq b1 b2&&!Nat.beq i.size 0) with
   | false=>rw [hq] at h; cases h
   | true =>
    rw [hq] at h;simp only [cond_true,Option.some.injEq] at h;simp only [Bool.and_eq_true,Bool.not_eq_true'] at hq;have e1:=Nat.eq_of_beq_eq_true hq.1;have e2:=Nat.ne_of_beq_eq_false hq.2;subst e1 h;cases hx with
    | ptr b o l hl=>cases hy with
     | ptr b' o' l' hl' =>
      rw [hl] at hl'; cases hl';simp only [Op.equalIn,Sem.run_bind,M1 hu,Result.andThen_ok,Z3 hi];rw [if_pos e2];simp only [sameAddr,beq_self_eq_true,if_true,Sem.run_pure]
      congr 1
      by_cases ho:o1=o2
      ·subst ho; simp
      ·have:Nat.beq o1 o2=false:=by
        cases hh:Nat.beq o1 o2 with
        | false=>rfl
        | true=>exact absurd (Nat.eq_of_beq_eq_true hh) ho
       rw [this];simp [ho]
 ·rename_i e n c a n' c' hu;cases h; cases hx;cases hy <;> (simp only [Op.equalIn,Sem.run_bind,M1 hu,Result.andThen_ok]; rfl)
 ·rename_i e n c a n' c' hu;cases h; cases hy;cases hx <;> (simp only [Op.equalIn,Sem.run_bind,M1 hu,Result.andThen_ok]; rfl)
 ·rename_i e n c hu;cases h; cases hx; cases hy;simp only [Op.equalIn,Sem.run_bind,M1 hu,Result.andThen_ok]; rfl
 ·rename_i e n c hu;cases h; cases hx; cases hy;simp only [Op.equalIn,Sem.run_bind,M1 hu,Result.andThen_ok]; rfl
 ·rename_i hu;cases h; cases hx; cases hy;simp only [Op.equalIn,Sem.run_bind,M1 hu,Result.andThen_ok]; rfl
 ·rename_i hu;cases h; cases hx; cases hy;simp only [Op.equalIn,Sem.run_bind,M1 hu,Result.andThen_ok]; rfl
 ·rename_i hu;cases h; cases hx; cases hy;simp only [Op.equalIn,Sem.run_bind,M1 hu,Result.andThen_ok]; rfl
 ·rename_i hu;cases h; cases hx; cases hy;simp only [Op.equalIn,Sem.run_bind,M1 hu,Result.andThen_ok]; rfl
 ·cases h
def plainly:Value→Value→Bool
 | .pointer _,.pointer _ | .slice ..,.slice .. | .map _,.map _ | .nilFunc,.func .. | .func ..,.nilFunc | .nilIface,.iface .. | .iface ..,.nilIface=>true
 | _,_=>false
theorem zgy {φ:Inj} {t:TypeId} {x y x' y':Value} {b:Bool} (h:aEqV P t x y=some b) (hx:VR φ x x') (hy:VR φ y y'):plainly x' y'=true:=by
 unfold aEqV at h;split at h <;> first | (cases h; done) | (cases hx <;> cases hy <;> rfl)
theorem zcm {x y:Value} (h:plainly x y=true) (op:BinOp) (t:TypeId) (ox oy:Operand) (w:World):(eqGuard op t ox oy x y).run P w=.ok () w:=by
 unfold plainly at h;split at h <;> first | (cases h; done) | (unfold eqGuard; cases op <;> rfl)
theorem zet {x y:Value} (h:plainly x y=true) (t:TypeId):binOp .eql t x y=(do pure (.bool (← Op.equal t x y))):=by
 unfold plainly at h;split at h <;> first | (cases h; done) | (unfold binOp; rfl)
theorem zeo {x y:Value} (h:plainly x y=true) (t:TypeId):binOp .neq t x y=(do pure (.bool (!(← Op.equal t x y)))):=by
 unfold plainly at h;split at h <;> first | (cases h; done) | (unfold binOp; rfl)
theorem zd3 {φ:Inj} {t:TypeId} {x y x' y':Value} {b:Bool} (h:aEqV P t x y=some b) (hx:VR φ x x') (hy:VR φ y y') (w:World) :
  (Op.equal t x' y').run P w=.ok b w∧(∀op (ox oy:Operand),(eqGuard op t ox oy x' y').run P w=.ok () w) ∧
   (binOp .eql t x' y'=do pure (.bool (← Op.equal t x' y')))∧(binOp .neq t x' y'=do pure (.bool (!(← Op.equal t x' y')))) :=
 have hp:=zgy h hx hy
 ⟨zkw h hx hy w 9999,fun op ox oy=>zcm hp op t ox oy w,zet hp t,zeo hp t⟩
theorem aEq_ok {φ:Inj} {H:AH} {w:World} {op:BinOp} {t:TypeId} {x y x' y' v:Value} (hi:Inv φ H w) (h:aEq P op t x y=some v) (hx:VR φ x x') (hy:VR φ y y') (ox oy:Operand) :
  OpOK P m φ H w v H (do pure (.value (← (do eqGuard op t ox oy x' y'; binOp op t x' y')))):=by
 unfold aEq at h;split at h
 ·cases hb:aEqV P t x y with
  | none=>rw [hb] at h; cases h
  | some b =>
   rw [hb] at h;simp only [Option.some.injEq] at h;subst h;obtain ⟨h1,h2,h3,h4⟩:=zd3 hb hx hy w;refine W1 (v':=.bool b) ?_ hi (Step.refl _ _ _ _) (.bool b);rw [Sem.run_bind,h2,Result.andThen_ok,h3,Sem.run_bind,h1]; rfl
 ·cases hb:aEqV P t x y with
  | none=>rw [hb] at h; cases h
  | some b =>
   rw [hb] at h;simp only [Option.some.injEq] at h;subst h;obtain ⟨h1,h2,h3,h4⟩:=zd3 hb hx hy w;refine W1 (v':=.bool !b) ?_ hi (Step.refl _ _ _ _) (.bool _);rw [Sem.run_bind,h2,Result.andThen_ok,h4,Sem.run_bind,h1]; rfl
 ·cases h
end Go.Abs
namespace Go.Abs
variable {P:Program} {m:Nat}
theorem rb_inv {φ:Inj} {H:AH} {w:World} (hi:Inv φ H w) {a a':Addr} (ha:AddrR φ a a'):∀(n i:Nat) (l:List UInt8),rdBytes H a i n=some l →
  ∃ns:List Int,l=ns.map (fun x=>x.toNat.toUInt8)∧ns.length=n∧∀j x,ns[j]? = some x→w.cell? (a'.add (i+j))=some (.int .u8 x):=by
 intro n;induction n with
 | zero=>intro i l h; simp only [rdBytes,Option.some.injEq] at h; subst h; exact ⟨[],rfl,rfl,fun j x hx=>by simp at hx⟩
 | succ n ih =>
  intro i l h;simp only [rdBytes] at h;split at h
  ·rename_i b l1 h1 h2;simp only [Option.some.injEq] at h;subst h;obtain ⟨ns,e1,e2,e3⟩:=ih (i+1) l1 h2;obtain ⟨v',hv1,hv2⟩:=hi.cell h1 (ha.add i);cases hv2;refine ⟨b :: ns,by rw [e1]; rfl,by simp [e2],fun j x hx=>?_⟩;cases j with
   | zero=>simp only [List.getElem?_cons_zero,Option.some.injEq] at hx; subst hx; exact hv1
   | succ j =>
    have:=e3 j x (by simpa using hx);rw [show i+(j+1)=i+1+j by omega]; exact this
  ·cases h
theorem zb3 {w:World}:∀(ns:List Int) (a:Addr) (acc:ByteArray),(∀j x,ns[j]? = some x→w.cell? (a.add j)=some (.int .u8 x)) →
  (loadBytes a acc ns.length).run P w=.ok ⟨acc.data++(ns.map fun x=>x.toNat.toUInt8).toArray⟩ w:=by
 intro ns;induction ns with
 | nil=>intro a acc h; simp [loadBytes]
 | cons x ns ih =>
  intro a acc h;have h0:w.cell? a=some (.int .u8 x):=by
   have:=h 0 x rfl
   simpa [Addr.add] using this
  have hr:=ih (a.add 1) (acc.push x.toNat.toUInt8) (fun j y hy=>by
   rw [zdu,Nat.add_comm];exact h (j+1) y (by simpa using hy))
  simp only [List.length_cons,loadBytes,Sem.run_bind,run_load,h0,Result.andThen_ok];rw [hr]
  congr 1
  apply ByteArray.ext;simp [ByteArray.push]
theorem zh6 (ns:List Int):∀acc:ByteArray,ns.foldl (fun r n=>r.push (UInt8.ofNat n.toNat)) acc=⟨acc.data++(ns.map fun x=>x.toNat.toUInt8).toArray⟩:=by
 induction ns with
 | nil=>intro acc; simp
 | cons x ns ih =>
  intro acc;rw [List.foldl_cons,ih];apply ByteArray.ext;simp [ByteArray.push]
theorem zav {φ:Inj} {H:AH} {w:World} (hi:Inv φ H w) {a:Addr} {n c:Nat} {x':Value} {l:List UInt8} (h:rdBytes H a 0 n=some l) (hx:VR φ (.slice (some a) n c) x') :
  (Conv.bytesToString x').run P w=.ok (.string ⟨l.toArray⟩) w:=by
 have go:∀a' c',(n=0∨AddrR φ a a')→x'=.slice (some a') n c'→(Conv.bytesToString x').run P w=.ok (.string ⟨l.toArray⟩) w:=by
  intro a' c' ha hx';subst hx';have:∃ns:List Int,l=ns.map (fun x=>x.toNat.toUInt8)∧(loadCells a' n).run P w=.ok (ns.map (Value.int .u8)).toArray w:=by
   rcases ha with rfl | ha
   ·simp only [rdBytes,Option.some.injEq] at h;subst h;exact ⟨[],rfl,by simp [loadCells,loadCellsFrom]⟩
   ·obtain ⟨ns,e1,e2,e3⟩:=rb_inv hi ha n 0 l h;refine ⟨ns,e1,?_⟩;have:=run_loadCells_list (P:=P) w a' (ns.map (Value.int .u8)) (fun j v hv=>by
     simp only [List.getElem?_map,Option.map_eq_some_iff] at hv;obtain ⟨x,hx1,rfl⟩:=hv;have:=e3 j x hx1
     rwa [Nat.zero_add] at this)
    rw [List.length_map,e2] at this;exact this
  obtain ⟨ns,e1,e2⟩:=this;rw [run_bytesToString w a' n c' ns e2,zh6,e1]
  congr 2
  apply ByteArray.ext;simp
 cases hx with
 | slice b o n c l1 hl hc=>exact go _ c (.inr ⟨rfl,l1,hl,rfl⟩) rfl
 | sliceOpen b o n c l1 hl hn hc=>exact go _ c (.inr ⟨rfl,l1,hl,rfl⟩) rfl
 | sliceEnd b o l1 a hl=>exact go a 0 (.inl rfl) rfl
 | sliceZero b o l1 a hl=>exact go a 0 (.inl rfl) rfl
theorem zbc {φ:Inj} {H:AH} {w:World} (hi:Inv φ H w) {e:TypeId} (s:ByteArray) :
  ∃v' w' φ',(Conv.stringToBytes e s).run P w=.ok v' w'∧Inv φ' (H.push { obj:=.cells (s.data.map fun b=>.int .u8 b.toNat) e (0,0),opn:=true,esz:=1,ro:=false }) w' ∧
   Step m φ H w φ' (H.push { obj:=.cells (s.data.map fun b=>.int .u8 b.toNat) e (0,0),opn:=true,esz:=1,ro:=false }) w'∧VR φ' (.slice (some ⟨H.next,0,none⟩) s.size OPEN) v':=by
 generalize hcap:(Question.appendCap s.size 0 e).cut (w.tape w.drawn (.appendCap s.size 0 e))=cap;have hge:s.size≤cap:=by rw [← hcap]; simp [Question.cut]
 generalize harr:(s.data.map fun b=>(Value.int .u8 b.toNat))++Array.replicate (cap - s.size) (.int .u8 0)=arr;have hsz:arr.size=cap:=by
  rw [← harr,Array.size_append,Array.size_map,Array.size_replicate];have:s.data.size=s.size:=rfl;omega
 let l:Loc:=⟨w.heap.size,0,arr.size,1⟩
 let w2:=(w.drew.alloc (.cells arr e)).freeze ⟨w.heap.size,arr.size,none⟩ 1
 have hh:w2.heap[w.heap.size]? = some (.cells arr e (arr.size,arr.size+1)):=by
  have:=I6 w.drew (.cells arr e);simp only [w2,World.freeze,Nat.one_ne_zero,if_false,Array.getElem?_modify];show Option.map _ ((w.drew.alloc (.cells arr e)).heap[w.drew.heap.size]?)=_;rw [this];rfl
 have hoth:∀c,c≠w.heap.size→w2.heap[c]? = (w.drew.alloc (.cells arr e)).heap[c]? := by
  intro c hc;simp only [w2,World.freeze,Nat.one_ne_zero,if_false,Array.getElem?_modify];rw [if_neg (fun e=>hc e.symm)]
 have hi2:=hi.drew;have hle:=Inj.le_upd l hi2.fresh;have hcells:∀f':Nat×Nat,(f'.2≤f'.1∨arr.size≤f'.1)→CellsR (φ.upd H.next l) l { obj:=.cells (s.data.map fun b=>.int .u8 b.toNat) e (0,0),opn:=true,esz:=1,ro:=false } (s.data.map fun b=>.int .u8 b.toNat) e arr e f':=by
  intro f' hf;refine ⟨fun j u hu=>?_,Nat.le_refl _,fun _=>rfl,fun h=>(by cases h),fun _=>hf,rfl⟩;refine ⟨u,?_,?_⟩
  ·show arr[0+j]? = some u;rw [Nat.zero_add,← harr,Array.getElem?_append,if_pos,hu];rw [Array.getElem?_eq_some_iff] at hu; exact hu.1
  ·simp only [Array.getElem?_map,Option.map_eq_some_iff] at hu;obtain ⟨b,_,rfl⟩:=hu;exact .int _ _
 have hpush:=hi2.push (b:={ obj:=.cells (s.data.map fun b=>.int .u8 b.toNat) e (0,0),opn:=true,esz:=1,ro:=false }) (l:=l) (o:=.cells arr e) rfl ⟨arr,e,(0,0),I6 _ _,hcells _ (.inl (Nat.le_refl _))⟩;have hsame:w2.heap.size=(w.drew.alloc (.cells arr e)).heap.size:=by simp [w2,World.freeze]
 have hinv:Inv (φ.upd H.next l) (H.push { obj:=.cells (s.data.map fun b=>.int .u8 b.toNat) e (0,0),opn:=true,esz:=1,ro:=false }) w2:=by
  refine ⟨fun i k h=>?_,fun i k h=>?_,hpush.sep⟩
  ·have:=hpush.dom i k h; rw [hsame]; exact this
  ·by_cases ei:i=H.next
   ·subst ei;rw [AH.get_push_same] at h; cases h;exact ⟨l,Inj.upd_same _ _ _,arr,e,_,hh,hcells _ (.inr (Nat.le_refl _))⟩
   ·obtain ⟨l1,g1,g2⟩:=hpush.obj i k h;refine ⟨l1,g1,g2.same (hoth _ ?_)⟩;rw [Inj.upd_other _ _ ei] at g1;have:=(hi.dom _ _ g1).2; omega
 refine ⟨.slice (some ⟨w.heap.size,0,none⟩) s.size cap,w2,φ.upd H.next l,?_,hinv,?_,?_⟩
 ·simp only [Conv.stringToBytes,Sem.run_bind,run_choose,Question.forced,Bool.false_eq_true,if_false,Result.andThen_ok,hcap,harr];simp only [newRow,Sem.run_bind,run_newObj,Result.andThen_ok,Sem.run_pure,markStringish,run_shape,World.drew_eq,World.alloc_eq,World.size_drew];have hs:(w.drew.alloc (.cells arr e)).shape? w.heap.size=some (e,arr.size):=by
   have:=I6 w.drew (.cells arr e);simp only [World.shape?];show (match (w.drew.alloc (.cells arr e)).heap[w.drew.heap.size]? with | some (.cells c elem _)=>some (elem,c.size) | _=>none)=_;rw [this]
  rw [hs];rfl
 ·have st:=(Step.drew (m:=m) H w).trans hi (Step.push (b:={ obj:=.cells (s.data.map fun b=>.int .u8 b.toNat) e (0,0),opn:=true,esz:=1,ro:=false }) (o:=.cells arr e) hi2 (l:=l) rfl);exact ⟨st.le,st.ext,st.new,st.alv,by rw [hsame]; exact st.size,fun c hc hno=>by rw [hoth c (by omega)]; exact st.keep c hc hno,st.os,st.tape,st.output⟩
 ·exact .sliceOpen H.next 0 s.size cap l (Inj.upd_same _ _ _) hge (by show 0+0+cap*1≤arr.size; omega)
end Go.Abs
namespace Go.Abs
variable {P:Program} {m:Nat}
theorem Inv.share {φ:Inj} {H:AH} {w w':World} {id:Nat} {b:Blk} {c:Array Value} {e:TypeId} {f:Nat×Nat} {l:Loc} {c':Array Value} {f1 f2:Nat×Nat} (hi:Inv φ H w) (hb:H.get id=some b) (ho:b.obj=.cells c e f) (hl:φ id=some l)
  (hw:w.heap[l.blk]? = some (.cells c' e f1)) (hw':w'.heap[l.blk]? = some (.cells c' e f2)) (hsz:w'.heap.size=w.heap.size) (hoth:∀k,k≠l.blk→w'.heap[k]? = w.heap[k]?) :
  Inv φ (H.put id { obj:=.cells c e f,opn:=b.opn,esz:=b.esz,ro:=true }) w':=by
 have hal:alive b=true:=by unfold alive; rw [ho]
 obtain ⟨l0,c0,f0,q1,q2,q3⟩:=hi.cells hb ho;rw [hl] at q1; cases q1;rw [hw] at q2; cases q2;refine ⟨fun i k h=>?_,?_,?_⟩
 ·have:=hi.dom i k h; rw [hsz]; exact this
 ·intro i k h;by_cases ei:i=id
  ·subst ei;rw [AH.get_put_same] at h; cases h;exact ⟨l,hl,c',e,f2,hw',q3.cell,q3.fin,q3.esz,q3.exact_,fun h=>(by cases h),rfl⟩
  ·rw [AH.get_put_other _ _ ei] at h;obtain ⟨l1,h1,h2⟩:=hi.obj i k h;refine ⟨l1,h1,?_⟩;by_cases hbl:l1.blk=l.blk
   ·by_cases hk:alive k=true
    ·have hro:k.ro=true:=by
      cases hkr:k.ro with
      | true=>rfl
      | false=>exact absurd hbl (hi.sep i id k b l1 l h hb ei hkr hk hal h1 hl)
     unfold OR at h2 ⊢;split at h2
     ·rename_i c1 e1 f3 hk1;obtain ⟨c2,e2,f4,g1,g2⟩:=h2;rw [hbl,hw] at g1;simp only [Option.some.injEq,Obj.cells.injEq] at g1;obtain ⟨rfl,rfl,rfl⟩:=g1;exact ⟨c',e,f2,by rw [hbl]; exact hw',g2.cell,g2.fin,g2.esz,g2.exact_,fun h=>(by rw [hro] at h; cases h),g2.elem⟩
     ·trivial
     ·obtain ⟨o',g1,g2,g3⟩:=h2;rw [hbl,hw] at g1;cases g1;exact absurd rfl (g2.notCells _ _ _)
    ·unfold alive at hk;unfold OR;split at hk
     ·rename_i hd; rw [hd]; trivial
     ·exact absurd rfl hk
   ·exact h2.same (hoth _ hbl)
 ·intro i j k k' l1 l2 h h' hne hr ha ha' hl1 hl2;by_cases ei:i=id
  ·subst ei;rw [AH.get_put_same] at h; cases h; cases hr
  ·rw [AH.get_put_other _ _ ei] at h;by_cases ej:j=id
   ·subst ej;exact hi.sep i j k b l1 l2 h hb hne hr ha hal hl1 hl2
   ·rw [AH.get_put_other _ _ ej] at h';exact hi.sep i j k k' l1 l2 h h' hne hr ha ha' hl1 hl2
theorem zg1 {t e:TypeId} (h:P.underlying t=some (.pointer e)) (w:World):(elemOf t).run P w=.ok e w:=by
 simp only [elemOf,Sem.run_bind,M1 h,Result.andThen_ok]; rfl
theorem zf0 {e:TypeId} {count off n d:Nat} (h1:P.cellsOf e=1) (hn:off+n≤count) (d2:Nat) (hd2:P.depth=d2+1):liesAt P (d+1) e count off e n=true:=by
 have hr:rowAt P (sameLayout P P.depth · e) P.depth e count off n=true:=by
  rw [hd2];unfold rowAt;simp only [h1,Nat.one_ne_zero,if_false,Nat.div_one,Nat.mod_one];have:sameLayout P (d2+1) e e=true:=by unfold sameLayout; simp
  simp [this,hn]
 unfold liesAt;simp [hr]
theorem zgb:∃d,P.depth=d+1:=⟨2*(P.types.size+Made.depth)+1,rfl⟩
theorem z3n {w:World} {b o n:Nat} {c:Array Value} {e u:TypeId} {f:Nat×Nat} (h:w.heap[b]? = some (.cells c e f)):(variablesAt ⟨b,o,none⟩ u n).run P w=.ok (liesAt P P.depth e (c.size / P.cellsOf e) o u n) w:=by
 simp only [variablesAt,Sem.run_bind,run_program,Result.andThen_ok,run_shape,World.shape?,h,Sem.run_pure]
theorem z9a {φ:Inj} {H H':AH} {w:World} {ts:Array TypeId} {ty:TypeId} {x y x' y' v:Value} (hi:Inv φ H w) (h:aUnsafeString P m ts [x,y] H=some (v,H')) (hx:VR φ x x') (hy:VR φ y y') :
  ∃w',(Builtin.unsafeString_ ts ty #[x',y']).run P w=.ok v w'∧Inv φ H' w'∧Step m φ H w φ H' w'∧∃s,v=.string s:=by
 unfold aUnsafeString at h;split at h
 ·rename_i k pt he hpt;simp only [List.cons.injEq,and_true] at he;obtain ⟨rfl,rfl⟩:=he;simp only [Option.some.injEq,Prod.mk.injEq] at h;obtain ⟨rfl,rfl⟩:=h;cases hx; cases hy;refine ⟨w,?_,hi,Step.refl _ _ _ _,_,rfl⟩;have:¬((0:Int) > IntKind.i64.max):=by decide
  delta Builtin.unsafeString_
  conv=>lhs; arg 2; whnf
  simp [V6,hpt,this]
 ·rename_i a k n pt he hpt;simp only [List.cons.injEq,and_true] at he;obtain ⟨rfl,rfl⟩:=he;cases hn:Nat.beq n 0 with
  | true =>
   rw [hn] at h;have:=Nat.eq_of_beq_eq_true hn;subst this;simp only [cond_true,Option.some.injEq,Prod.mk.injEq] at h;obtain ⟨rfl,rfl⟩:=h;cases hx; cases hy;refine ⟨w,?_,hi,Step.refl _ _ _ _,_,rfl⟩;have:¬((0:Int) > IntKind.i64.max):=by decide
   delta Builtin.unsafeString_
   conv=>lhs; arg 2; whnf
   simp [V6,hpt,this]
  | false =>
   rw [hn] at h;have hn0:=Nat.ne_of_beq_eq_false hn;simp only [cond_false] at h;split at h
   ·rename_i c e f opn esz ro u hg hsp hu;cases hq:(Nat.ble m a.block&&Nat.ble (a.off+n) c.size&&Nat.beq e u&&Nat.beq (P.cellsOf e) 1&&Nat.ble n 9223372036854775807) with
    | false=>rw [hq] at h; cases h
    | true =>
     rw [hq] at h;simp only [cond_true] at h;simp only [Bool.and_eq_true] at hq;obtain ⟨⟨⟨⟨hm,hbd⟩,heu⟩,hc1⟩,hnm⟩:=hq;have hm:=Nat.le_of_ble_eq_true hm;have hbd:=Nat.le_of_ble_eq_true hbd;have heu:=Nat.eq_of_beq_eq_true heu;have hc1:=Nat.eq_of_beq_eq_true hc1;have hnm:=Nat.le_of_ble_eq_true hnm;subst heu;cases hrd:rdBytes H a 0 n with
     | none=>rw [hrd] at h; cases h
     | some l =>
      rw [hrd] at h;simp only [Option.some.injEq,Prod.mk.injEq] at h;obtain ⟨rfl,rfl⟩:=h;obtain ⟨a',rfl,ha⟩:=hx.ptr_inv;cases hy;obtain ⟨l1,c',f',g1,g2,g3⟩:=hi.cells hg rfl;obtain ⟨_,l2,g4,g5⟩:=ha;rw [g1] at g4; cases g4;subst g5;have ha:AddrR φ a ⟨l1.blk,l1.off+a.off,none⟩:=⟨hsp,l1,g1,rfl⟩;obtain ⟨ns,e1,e2,e3⟩:=rb_inv hi ha n 0 l hrd;have hlast:l1.off+a.off+n≤c'.size:=by
       obtain ⟨v',q1,_⟩:=g3.cell (a.off+(n - 1)) c[a.off+(n - 1)] (Array.getElem?_eq_getElem (by omega));rw [Array.getElem?_eq_some_iff] at q1;have:=q1.1; omega
      obtain ⟨d,hd⟩:=zgb (P:=P);have hlies:liesAt P P.depth e (c'.size / P.cellsOf e) (l1.off+a.off) e n=true:=by
       rw [hd]; exact zf0 hc1 (by rw [hc1,Nat.div_one]; exact hlast) d hd
      have hlb:=zb3 (P:=P) ns ⟨l1.blk,l1.off+a.off,none⟩ .empty (w:=w) (fun j x hj=>by have:=e3 j x hj; rwa [Nat.zero_add] at this);rw [e2,← e1] at hlb;have hstr:(⟨ByteArray.empty.data++l.toArray⟩:ByteArray)=⟨l.toArray⟩:=by apply ByteArray.ext; simp
      rw [hstr] at hlb
      let w':=w.freeze ⟨l1.blk,l1.off+a.off,none⟩ n
      have hw':∃f2,w'.heap[l1.blk]? = some (.cells c' e f2):=by
       simp only [w',World.freeze,hn0,if_false,Array.getElem?_modify,g2];exact ⟨_,rfl⟩
      obtain ⟨f2,hw'⟩:=hw';have hoth:∀k,k≠l1.blk→w'.heap[k]? = w.heap[k]? := by
       intro k hk;simp only [w',World.freeze,hn0,if_false,Array.getElem?_modify];rw [if_neg (fun e=>hk e.symm)]
      have hsz:w'.heap.size=w.heap.size:=by simp [w',World.freeze,hn0]
      have hos:w'.os=w.os∧w'.tape=w.tape∧w'.output=w.output:=by simp [w',World.freeze,hn0]
      refine ⟨w',?_,hi.share hg rfl g1 g2 hw' hsz hoth,Step.put hm hg g1 hsz hoth hos.1 hos.2.1 hos.2.2,_,rfl⟩;have h1:¬((n:Int)<0):=by omega
      have h2:¬((n:Int) > IntKind.i64.max):=by
       have:IntKind.i64.max=9223372036854775807:=by decide
       rw [this]; omega
      delta Builtin.unsafeString_
      conv=>lhs; arg 2; whnf
      simp [V6,hpt,h1,h2,hn0,zg1 hu,z3n g2,hlies,hlb,w'];omega
   ·cases h
 ·cases h
theorem zej {φ:Inj} {H:AH} {w:World} {s t:TypeId} {x x' v:Value} (hi:Inv φ H w) (h:aConvPtr P s t x H=some v) (hx:VR φ x x') :
  (convert s t x').run P w=.ok x' w∧v=x:=by
 unfold aConvPtr at h;split at h
 ·rename_i b off;split at h
  ·rename_i c e f esz hg;obtain ⟨l1,c',f',g1,g2,g3⟩:=hi.cells hg rfl;have ⟨h0,hsz⟩:=g3.exact_ rfl;cases hx with
   | ptr b o l hl =>
    rw [g1] at hl; cases hl;have hsh:(w.shape? l1.blk)=some (e,c'.size):=by simp [World.shape?,g2]
    have hview:(viewAt l1.blk).run P w=.ok none w:=by simp [viewAt,hsh]
    have hseen:(Conv.seenAt ⟨l1.blk,l1.off+off,none⟩).run P w=.ok ⟨l1.blk,l1.off+off,none⟩ w:=by
     simp only [Conv.seenAt,Sem.run_bind,hview,Result.andThen_ok]; rfl
    split at h
    ·rename_i t1 hs ht;cases hi1:P.info? t1 with
     | none=>rw [hi1] at h; cases h
     | some i =>
      rw [hi1] at h;simp only at h;cases hq:(Nat.blt off c.size&&!Nat.beq i.size 0) with
      | false=>rw [hq] at h; cases h
      | true =>
       rw [hq] at h;simp only [cond_true,Option.some.injEq] at h;refine ⟨?_,h.symm⟩;simp only [Bool.and_eq_true,Bool.not_eq_true'] at hq;have hlt:off<c.size:=Nat.lt_of_lt_of_le (Nat.lt_succ_self _) (Nat.le_of_ble_eq_true hq.1);have hne:=Nat.ne_of_beq_eq_false hq.2;have hcells:(cellsIn l1.blk).run P w=.ok (some c'.size) w:=by simp [cellsIn,hsh]
       simp only [convert,Sem.run_bind,M1 hs,M1 ht,Result.andThen_ok,Conv.unsafePointer,hseen,hcells,Z3 hi1];have hb:(decide (i.size=0)||(decide (l1.off+off≥c'.size)&&true))=false:=by
        simp [hne]; omega
       have:¬(i.size=0∨l1.off+off≥c'.size):=by omega
       simp [hne];omega
    ·rename_i u hs ht;cases hi1:P.info? u with
     | none=>rw [hi1] at h; cases h
     | some i =>
      rw [hi1] at h;simp only at h;cases hq:(!Nat.beq i.size 0&&liesAt P P.depth e (c.size / P.cellsOf e) off u 1) with
      | false=>rw [hq] at h; cases h
      | true =>
       rw [hq] at h;simp only [cond_true,Option.some.injEq] at h;refine ⟨?_,h.symm⟩;simp only [Bool.and_eq_true,Bool.not_eq_true'] at hq;have hne:=Nat.ne_of_beq_eq_false hq.1;have hv:=z3n (P:=P) (o:=l1.off+off) (u:=u) (n:=1) g2;rw [hsz,h0,Nat.zero_add,hq.2] at hv;rw [h0,Nat.zero_add] at hseen ⊢;simp only [convert,Sem.run_bind,M1 hs,M1 ht,Result.andThen_ok,Conv.unsafePointer,hseen,Z3 hi1,hv];simp [hne]
    ·cases h
  ·cases h
 ·cases h
end Go.Abs
namespace Go.Abs
variable {P:Program} {m:Nat}
theorem zaj {φ:Inj} {H H':AH} {w:World} {o:Oper} {ρ ρ':Operand→Value} {v:Value} (hi:Inv φ H w) (hρ:∀x∈o.op.operands,VR φ (ρ x) (ρ' x)) (h:flatRun P o ρ H=some (v,H')) :
  OpOK P m φ H w v H' (execOp ρ' o):=by
 unfold flatRun at h;have main:(∀cs b,o.op≠.select cs b)→(bif o.op.operands.all (fun x=>flat depth (ρ x)) then asVal H (peval P (execOp ρ o)) else none)=some (v,H')→OpOK P m φ H w v H' (execOp ρ' o):=by
  intro hs h;cases ha:o.op.operands.all (fun x=>flat depth (ρ x)) with
  | false=>rw [ha] at h; cases h
  | true =>
   rw [ha] at h;simp only [cond_true] at h;rw [Array.all_eq_true_iff_forall_mem] at ha;have hc:execOp ρ o=execOp ρ' o:=execOp_congr o hs fun x hx=>K8 depth (ha x hx) (hρ x hx);cases hp:peval P (execOp ρ o) with
   | none=>rw [hp] at h; cases h
   | some nx =>
    rw [hp] at h;have hr:=D4 P _ _ hp w;rw [hc] at hr;cases nx with
    | value u =>
     simp only [asVal] at h;cases hf:flat depth u with
     | false=>rw [hf] at h; cases h
     | true =>
      rw [hf] at h;simp only [cond_true,Option.some.injEq,Prod.mk.injEq] at h;obtain ⟨rfl,rfl⟩:=h;exact ⟨φ,w,_,hr,hi,Step.refl _ _ _ _,.inl ⟨u,rfl,N2 _ hf⟩⟩
    | skip =>
     simp only [asVal,Option.some.injEq,Prod.mk.injEq] at h;obtain ⟨rfl,rfl⟩:=h;exact ⟨φ,w,_,hr,hi,Step.refl _ _ _ _,.inr ⟨rfl,rfl⟩⟩
    | _=>cases h
 split at h
 ·cases h
 ·rename_i hns;exact main (fun cs b e=>hns cs b e) h
theorem zle (n:Int):(IntKind.i64.wrap n).toNat<OPEN:=by
 unfold IntKind.wrap IntKind.bits IntKind.signed OPEN;simp only [Bool.true_and];have h1:=Int.emod_lt_of_pos n (show (0:Int)<2 ^ 64 by decide);split
 ·rename_i h;have:((n % 2 ^ 64:Int) - 2 ^ 64)<0:=by omega
  have e:((n % 2 ^ 64:Int) - 2 ^ 64).toNat=0:=by omega
  rw [e]; decide
 ·rename_i h;simp only [decide_eq_true_eq,ge_iff_le,Int.not_le] at h;have h2:(2:Int) ^ (64 - 1)=9223372036854775808:=by decide
  rw [h2] at h;omega
theorem zcc {φ:Inj} {ρ ρ':Operand→Value} (ps:Array (Nat×Operand)) (h:∀x∈(ps.toList.map (·.2)).toArray,VR φ (ρ x) (ρ' x)) :
  F2 (PR φ) (ps.map fun (i,x)=>(i,ρ x)).toList (ps.map fun (i,x)=>(i,ρ' x)).toList:=by
 rw [Array.toList_map,Array.toList_map];have hh:∀l:List (Nat×Operand),(∀x∈l.map (·.2),VR φ (ρ x) (ρ' x))→F2 (PR φ) (l.map fun (i,x)=>(i,ρ x)) (l.map fun (i,x)=>(i,ρ' x)):=by
  intro l;induction l with
  | nil=>intro _; exact .nil
  | cons a l ih=>intro hl; exact .cons ⟨rfl,hl a.2 (by simp)⟩ (ih fun x hx=>hl x (by simp at hx ⊢; exact .inr hx))
 exact hh _ fun x hx=>h x (by simpa using hx)
theorem O9 {φ:Inj} {ρ ρ':Operand→Value} {x:Option Operand} (h:∀y∈x.toArray,VR φ (ρ y) (ρ' y)):OptVR φ (x.map ρ) (x.map ρ'):=by
 cases x with
 | none=>trivial
 | some y=>exact h y (by simp)
theorem zh0 {t asserted:TypeId} {v':Value} {ok:Bool} {xt:TypeId} {d:TypeDesc} (hu:P.underlying asserted=some d) (hni:∀ms,d≠.interface ms) (w:World):(Instr.typeAssert (.iface t v') xt asserted ok).run P w =
  (if t=asserted then (pure (if ok then .tuple #[v',.bool true] else v'):Sem Value) else (if ok then (do pure (.tuple #[← zeroValue asserted,.bool false])) else runtimePanic (.typeAssertion (some xt) (some t) asserted ""))).run P w:=by
 simp only [Instr.typeAssert,Sem.run_bind,M1 hu,Result.andThen_ok];try (cases d with
  | interface ms=>exact absurd rfl (hni ms)
  | _=>rfl)
theorem zhb {φ:Inj} {w:World} {t asserted:TypeId} {v x' u:Value} {ok:Bool} (h:aAssert P t v asserted ok=some u) (hx:VR φ (.iface t v) x') (xt:TypeId):∃u',(Instr.typeAssert x' xt asserted ok).run P w=.ok u' w∧VR φ u u':=by
 cases hx with
 | iface t v v' hv =>
  unfold aAssert at h;split at h
  ·cases h
  ·rename_i d hni hu;rw [zh0 hu (fun ms e=>hni ms e)];cases hb:Nat.beq t asserted with
   | true =>
    rw [hb] at h;have e:=Nat.eq_of_beq_eq_true hb;simp only [cond_true,Option.some.injEq] at h;subst h;rw [if_pos e];cases ok with
    | true =>
     refine ⟨_,rfl,?_⟩;have hall:LR φ (#[v,Value.bool true]:Array Value).toList (#[v',Value.bool true]:Array Value).toList:=F2.cons hv (F2.cons (.bool true) .nil);have:=AR_iff.2 hall;exact .tuple _ _ this.1 this.2
    | false=>exact ⟨_,rfl,hv⟩
   | false =>
    rw [hb] at h;have e:=Nat.ne_of_beq_eq_false hb;rw [if_neg e];cases ok with
    | false=>cases h
    | true =>
     simp only [cond_false,cond_true] at h;cases hz:(P.info? asserted).bind (·.zero) with
     | none=>rw [hz] at h; cases h
     | some z =>
      rw [hz] at h;simp only at h;cases hf:flat depth z with
      | false=>rw [hf] at h; cases h
      | true =>
       rw [hf] at h;simp only [cond_true,Option.some.injEq] at h;subst h;refine ⟨.tuple #[z,.bool false],?_,?_⟩
       ·simp only [if_true,Sem.run_bind,z2n hz]; rfl
       ·have hall:LR φ (#[z,Value.bool false]:Array Value).toList (#[z,Value.bool false]:Array Value).toList:=F2.cons (N2 _ hf) (F2.cons (.bool false) .nil);have:=AR_iff.2 hall;exact .tuple _ _ this.1 this.2
  ·cases h
theorem aOp_ok {φ:Inj} {H H':AH} {w:World} {o:Oper} {ρ ρ':Operand→Value} {v:Value} (hi:Inv φ H w) (hρ:∀x∈o.op.operands,VR φ (ρ x) (ρ' x)) (h:aOp P m o ρ H=some (v,H')) :
  OpOK P m φ H w v H' (execOp ρ' o):=by
 have fl:=fun hh=>zaj (P:=P) (m:=m) (H':=H') (v:=v) hi hρ hh;obtain ⟨dst,op,ty,pos,after,guard⟩:=o;unfold aOp at h;simp only at h hρ;cases op with
 | move x =>
  simp only [Option.some.injEq,Prod.mk.injEq] at h;obtain ⟨rfl,rfl⟩:=h;exact zf hi rfl (hρ x (by simp [Op.operands]))
 | assign x =>
  simp only [Option.some.injEq,Prod.mk.injEq] at h;obtain ⟨rfl,rfl⟩:=h;exact zf hi rfl (hρ x (by simp [Op.operands]))
 | pick c a b =>
  simp only at h;have h1:=hρ c (by simp [Op.operands]);split at h
  ·rename_i t hc;rw [hc] at h1;simp only [Option.some.injEq,Prod.mk.injEq] at h;obtain ⟨rfl,rfl⟩:=h;generalize hq:ρ' c=q at h1;cases h1;refine zf (v':=if t then ρ' a else ρ' b) hi ?_ ?_
   ·simp [execOp,asBool,hq]
   ·cases t
    ·exact hρ b (by simp [Op.operands])
    ·exact hρ a (by simp [Op.operands])
  ·cases h
 | slice t x lo hi' mx =>
  simp only at h;have hx:=hρ x (by simp [Op.operands]);split at h
  ·rename_i a len cap hxe;rw [hxe] at hx;cases hs:aSlice P t a len cap (lo.map ρ) (hi'.map ρ) (mx.map ρ) H with
   | none=>rw [hs] at h; cases h
   | some u =>
    rw [hs] at h;simp only [Option.some.injEq,Prod.mk.injEq] at h;obtain ⟨rfl,rfl⟩:=h;exact zht hi hs hx (O9 fun y hy=>hρ y (by simp only [Op.operands,Array.mem_append]; exact .inl (.inl (.inr hy))))
     (O9 fun y hy=>hρ y (by simp only [Op.operands,Array.mem_append]; exact .inl (.inr hy)))
     (O9 fun y hy=>hρ y (by simp only [Op.operands,Array.mem_append]; exact .inr hy))
  ·rename_i a hxe;rw [hxe] at hx;cases hs:aSliceArr P t a (lo.map ρ) (hi'.map ρ) (mx.map ρ) with
   | none=>rw [hs] at h; cases h
   | some u =>
    rw [hs] at h;simp only [Option.some.injEq,Prod.mk.injEq] at h;obtain ⟨rfl,rfl⟩:=h;exact zdg hi hs hx (O9 fun y hy=>hρ y (by simp only [Op.operands,Array.mem_append]; exact .inl (.inl (.inr hy))))
     (O9 fun y hy=>hρ y (by simp only [Op.operands,Array.mem_append]; exact .inl (.inr hy)))
     (O9 fun y hy=>hρ y (by simp only [Op.operands,Array.mem_append]; exact .inr hy))
  ·exact fl h
 | binOp op t x y yt =>
  simp only at h;cases he:aEq P op t (ρ x) (ρ y) with
  | none=>rw [he] at h; exact fl h
  | some u =>
   rw [he] at h;simp only [Option.some.injEq,Prod.mk.injEq] at h;obtain ⟨rfl,rfl⟩:=h;exact aEq_ok hi he (hρ x (by simp [Op.operands])) (hρ y (by simp [Op.operands])) x y
 | typeAssert x xt asserted ok =>
  simp only at h;have h1:=hρ x (by simp [Op.operands]);split at h
  ·rename_i t v hx;cases he:aAssert P t v asserted ok with
   | none=>rw [he] at h; exact fl h
   | some u =>
    rw [he] at h;simp only [Option.some.injEq,Prod.mk.injEq] at h;obtain ⟨rfl,rfl⟩:=h;rw [hx] at h1;obtain ⟨u',h2,h3⟩:=zhb (P:=P) (w:=w) he h1 xt;exact W1 (s:=Instr.typeAssert (ρ' x) xt asserted ok) h2 hi (Step.refl _ _ _ _) h3
  ·exact fl h
 | convert s t x =>
  simp only at h;have hx:=hρ x (by simp [Op.operands]);split at h
  ·rename_i a hxe;cases hc:aConvPtr P s t (ρ x) H with
   | none=>rw [hc] at h; cases h
   | some u =>
    rw [hc] at h;simp only [Option.some.injEq,Prod.mk.injEq] at h;obtain ⟨rfl,rfl⟩:=h;obtain ⟨h1,rfl⟩:=zej hi hc hx;exact W1 h1 hi (Step.refl _ _ _ _) hx
  ·rename_i a n c hxe;rw [hxe] at hx;split at h
   ·rename_i e hs ht;split at h
    ·rename_i l hu hr;simp only [Option.some.injEq,Prod.mk.injEq] at h;obtain ⟨rfl,rfl⟩:=h;have hb:=zav (P:=P) hi hr hx;refine W1 (s:=convert s t (ρ' x)) ?_ hi (Step.refl _ _ _ _) (.string _);obtain ⟨b',c',hx'⟩:=X9 hx;rw [← hb];show (convert s t (ρ' x)).run P w=_;rw [hx'];simp only [convert,Sem.run_bind,M1 hs,M1 ht,M1 hu,Result.andThen_ok]
    ·cases h
   ·cases h
  ·rename_i str hxe;rw [hxe] at hx;split at h
   ·rename_i e hs ht;split at h
    ·rename_i i hu hii;cases hsz:Nat.beq i.size 1 with
     | false=>rw [hsz] at h; cases h
     | true =>
      rw [hsz] at h;simp only [cond_true,Option.some.injEq,Prod.mk.injEq] at h;obtain ⟨rfl,rfl⟩:=h;obtain ⟨v',w',φ',q1,q2,q3,q4⟩:=zbc (P:=P) (m:=m) hi (e:=e) str;refine W1 (s:=convert s t (ρ' x)) ?_ q2 q3 q4;generalize hq:ρ' x=q at hx;cases hx;rw [← q1];simp only [convert,Sem.run_bind,M1 hs,M1 ht,M1 hu,Result.andThen_ok]
    ·cases h
   ·exact fl h
  ·exact fl h
 | alloc e =>
  simp only at h;cases hz:zflat P e with
  | false=>rw [hz] at h; cases h
  | true=>rw [hz] at h; exact Y1 (sim_v (zi1 hz true)) hi h
 | build t ps =>
  simp only at h;cases hz:zflat P t with
  | false=>rw [hz] at h; cases h
  | true=>rw [hz] at h; exact Y1 (sim_v (zia hz (zcc ps hρ))) hi h
 | buildSlice t n ps =>
  simp only at h;cases hz:(zelem P t&&Nat.blt n OPEN) with
  | false=>rw [hz] at h; cases h
  | true =>
   rw [hz] at h;simp only [Bool.and_eq_true] at hz;have:n<OPEN:=Nat.lt_of_lt_of_le (Nat.lt_succ_self _) (Nat.le_of_ble_eq_true hz.2);exact Y1 (sim_v (zb2 hz.1 n (by omega) (zcc ps hρ))) hi h
 | makeSlice t x y =>
  simp only at h;cases hz:zelem P t with
  | false=>rw [hz] at h; cases h
  | true =>
   rw [hz] at h;exact Y1 (sim_v (zck hz (hρ x (by simp [Op.operands])) (hρ y (by simp [Op.operands])) fun k n _=>by have:=zle n; omega)) hi h
 | lookup t x k ok =>
  simp only at h;cases hf:flat depth (ρ k) with
  | false=>rw [hf] at h; cases h
  | true =>
   rw [hf] at h;simp only [cond_true] at h;cases hl:aLookup P t (ρ x) (ρ k) ok H with
   | none=>rw [hl] at h; cases h
   | some u =>
    rw [hl] at h;simp only [Option.some.injEq,Prod.mk.injEq] at h;obtain ⟨rfl,rfl⟩:=h;obtain ⟨v',h1,h2⟩:=zfx hi hl (hρ x (by simp [Op.operands]));have hk:=K8 depth hf (hρ k (by simp [Op.operands]));rw [hk] at h1;exact W1 h1 hi (Step.refl _ _ _ _) h2
 | mapUpdate t x k u =>
  simp only at h;cases hf:flat depth (ρ k) with
  | false=>rw [hf] at h; cases h
  | true =>
   rw [hf] at h;simp only [cond_true] at h;obtain ⟨rfl,w',h1,h2,h3⟩:=za5 hi hf h (hρ x (by simp [Op.operands])) (hρ u (by simp [Op.operands]));rw [K8 depth hf (hρ k (by simp [Op.operands]))] at h1;exact zca h1 h2 h3
 | insert t x k u =>
  simp only at h;cases hf:flat depth (ρ k) with
  | false=>rw [hf] at h; cases h
  | true =>
   rw [hf] at h;simp only [cond_true] at h;obtain ⟨rfl,w',h1,h2,h3⟩:=za5 hi hf h (hρ x (by simp [Op.operands])) (hρ u (by simp [Op.operands]));rw [K8 depth hf (hρ k (by simp [Op.operands]))] at h1;exact zca h1 h2 h3
 | mapEntry t x k =>
  simp only at h;cases hf:flat depth (ρ k) with
  | false=>rw [hf] at h; cases h
  | true =>
   rw [hf] at h;simp only [cond_true] at h;obtain ⟨u',w',h1,h2,h3,h4⟩:=zi5 hi hf h (hρ x (by simp [Op.operands]));rw [K8 depth hf (hρ k (by simp [Op.operands]))] at h1;exact W1 h1 h2 h3 h4
 | nilCheck x =>
  simp only at h;have hx:=hρ x (by simp [Op.operands]);split at h
  ·rename_i a hxe;rw [hxe] at hx;simp only [Option.some.injEq,Prod.mk.injEq] at h;obtain ⟨rfl,rfl⟩:=h;obtain ⟨a',hx',ha⟩:=hx.ptr_inv;rw [hx'] at hx;refine zf hi ?_ (by rw [hxe]; exact hx);simp only [execOp,hx']; rfl
  ·rename_i f fi ca hxe;rw [hxe] at hx;simp only [Option.some.injEq,Prod.mk.injEq] at h;obtain ⟨rfl,rfl⟩:=h;generalize hq:ρ' x=q at hx;have hx2:=hx;cases hx;refine zf hi ?_ (by rw [hxe]; exact hx2);simp only [execOp,hq]; rfl
  ·cases h
 | box e x=>exact Y1 (sim_v (zkm e (hρ x (by simp [Op.operands])))) hi h
 | load t x=>exact Y1 (sim_v (zfy t (hρ x (by simp [Op.operands])))) hi h
 | store t a x=>exact Y1 (sim_u (zei t (hρ a (by simp [Op.operands])) (hρ x (by simp [Op.operands])))) hi h
 | makeInterface t x=>exact Y1 (sim_v (z87 t (hρ x (by simp [Op.operands])))) hi h
 | makeFunc fn first captured =>
  exact Y1 (sim_v (zd1 fn (AR.map _ _ _ fun x hx=>hρ x (by simp [Op.operands,hx])) (AR.map _ _ _ fun x hx=>hρ x (by simp [Op.operands,hx])))) hi h
 | makeMap t r =>
  refine Y1 (sim_v (zew t ?_)) hi h;cases r with
  | none=>exact .inl ⟨rfl,rfl⟩
  | some x=>exact .inr ⟨_,_,rfl,rfl,hρ x (by simp [Op.operands])⟩
 | fieldAddr t x f=>exact Y1 (sim_v (zed t f (hρ x (by simp [Op.operands])))) hi h
 | field t x f=>exact Y1 (sim_v (zhh t f (hρ x (by simp [Op.operands])))) hi h
 | indexAddr t x i=>exact Y1 (sim_v (zex t (hρ x (by simp [Op.operands])) (hρ i (by simp [Op.operands])))) hi h
 | index t x i=>exact Y1 (sim_v (zhx t (hρ x (by simp [Op.operands])) (hρ i (by simp [Op.operands])))) hi h
 | entryStore t a s x=>exact Y1 (sim_u (zb1 t (hρ a (by simp [Op.operands])) (hρ s (by simp [Op.operands])) (hρ x (by simp [Op.operands])))) hi h
 | range t x=>exact Y1 (sim_v (zi9 t (hρ x (by simp [Op.operands])))) hi h
 | next x b=>exact Y1 (sim_v (zjg b ty (hρ x (by simp [Op.operands])))) hi h
 | entry x=>exact Y1 (sim_v (zhq (hρ x (by simp [Op.operands])))) hi h
 | extract x i=>exact Y1 (sim_v (zf2 i (hρ x (by simp [Op.operands])))) hi h
 | _=>exact fl h
end Go.Abs
namespace Go.Abs
variable {P:Program} {m:Nat}
def Glob (P:Program) (φ:Inj):Prop:=∀g,g<P.globals.size→∃l,φ g=some l∧l.blk=g∧l.off=0
theorem Glob.mono {φ ψ:Inj} (h:Glob P φ) (hle:φ.le ψ):Glob P ψ:=fun g hg=>let ⟨l,a,b,c⟩:=h g hg; ⟨l,hle _ _ a,b,c⟩
inductive DR (φ:Inj):List (FuncId×Array Value)→List Deferred→Prop where
 | nil:DR φ [] []
 | cons {f:FuncId} {args a1 cap:Array Value} {ds:List (FuncId×Array Value)} {l:List Deferred} (h:AR φ args (a1++cap)) (ht:DR φ ds l):DR φ ((f,args) :: ds) ({ target:=.fn (.func f) cap,args:=a1 } :: l)
theorem DR.mono {φ ψ:Inj} (hle:φ.le ψ):∀{ds:List (FuncId×Array Value)} {l:List Deferred},DR φ ds l→DR ψ ds l:=by
 intro ds l h;induction h with
 | nil=>exact .nil
 | cons h _ ih=>exact .cons ⟨h.1,fun i x y hx hy=>(h.2 i x y hx hy).mono hle⟩ ih
structure SR (φ:Inj) (ss:Sl) (n:Fr) (a:Act):Prop where
 slot:∀t,VR φ ((ss.get t).getD undef) (a.tmps.getD t undef)
 size:n.n≤a.tmps.size
 defers:DR φ n.ds a.defers
theorem SR.mono {φ ψ:Inj} (hle:φ.le ψ) {ss:Sl} {n:Fr} {a:Act} (h:SR φ ss n a):SR ψ ss n a:=⟨fun t=>(h.slot t).mono hle,h.size,h.defers.mono hle⟩
theorem t8 (φ:Inj):VR φ undef undef:=.tuple #[] #[] rfl fun i x y hx=>by simp at hx
theorem SR.put {φ:Inj} {ss ss':Sl} {n:Fr} {a:Act} {d:Option Tmp} {v v':Value} (h:SR φ ss n a) (hp:putA n ss d v=some ss') (hv:VR φ v v'):SR φ ss' n (a.put d v'):=by
 unfold putA at hp;split at hp
 ·rename_i d;cases hb:Nat.blt d n.n with
  | false=>rw [hb] at hp; cases hp
  | true =>
   rw [hb] at hp;simp only [cond_true,Option.some.injEq] at hp;subst hp;have hlt:d<n.n:=Nat.lt_of_lt_of_le (Nat.lt_succ_self _) (Nat.le_of_ble_eq_true hb);have hd:d<a.tmps.size:=Nat.lt_of_lt_of_le hlt h.size;refine ⟨fun t=>?_,by simpa [Act.put] using h.size,h.defers⟩;by_cases e:t=d
   ·subst e;rw [Tr.get_set_same _ _ _ _ (by omega)];simp only [Act.put,Option.getD_some];rw [Array.getD_eq_getD_getElem?,Array.getElem?_setIfInBounds,if_pos rfl,if_pos hd];exact hv
   ·rw [Tr.get_set_other _ _ _ _ _ (by omega) e];simp only [Act.put];rw [Array.getD_eq_getD_getElem?,Array.getElem?_setIfInBounds,if_neg (fun hh=>e hh.symm),← Array.getD_eq_getD_getElem?];exact h.slot t
 ·cases hp;exact h
theorem SR.eval {φ:Inj} {ss:Sl} {n:Fr} {a:Act} (h:SR φ ss n a) (hg:Glob P φ) {x:Operand} (hx:okx P x=true):VR φ (evalA ss x) (a.eval x):=by
 cases x with
 | tmp t=>exact h.slot t
 | const v=>exact N2 depth hx
 | global g =>
  have hlt:g<P.globals.size:=Nat.lt_of_lt_of_le (Nat.lt_succ_self _) (Nat.le_of_ble_eq_true hx);obtain ⟨l,h1,h2,h3⟩:=hg g hlt;have:=VR.ptr (φ:=φ) g 0 l h1;rw [h2,h3] at this;exact this
 | func f=>exact .func (.func f) #[] #[] #[] #[] rfl rfl (fun i x y hx=>by simp at hx) (fun i x y hx=>by simp at hx)
def CallOK (P:Program) (m:Nat) (φ:Inj) (H:AH) (w:World) (v:Value) (H':AH) (f:FuncId) (args:Array Value):Prop :=
 Calls P f args w fun e w'=>∃φ' v',e=.returned v'∧VR φ' v v'∧Inv φ' H' w'∧Step m φ H w φ' H' w'
structure Sane (P:Program) (ne:NE):Prop where
 mixed:P.follows .mixedOrders=true
 noNum:∀(f:Nat) (fn:Func),P.funcs[f]? = some fn→fn.body.isSome=true→(fn.name == "runtime.NumGoroutine")=false
 esc:(P.funcs[ne.esc]?).isSome=true→∀x w,(callFunc ne.esc #[x]).run P w=.ok (.value x) w
 orc:∀m f args H v H',ne.orc m f args H=some (v,H')→(∃fn c,P.funcs[f]? = some fn∧fn.body=some c)∧∀φ w args',Glob P φ→AR φ args args'→Inv φ H w→CallOK P m φ H w v H' f args'
def toExit:AExit→Exit
 | .normal=>.normal
 | .exit id=>.exit id
 | .goto l=>.goto l
 | .ret=>.ret
def CodePost (P:Program) (m:Nat) (φ:Inj) (H:AH) (w:World) (e:AExit) (st':ASt):Exit→Act→World→Prop :=
 fun e' a' w'=>∃φ',e'=toExit e∧SR φ' st'.ss st'.n a'∧Inv φ' st'.H w'∧Step m φ H w φ' st'.H w'
def Good (P:Program) (ih:Ex):Prop:=∀(m:Nat) (c:Code) (st:ASt) (e:AExit) (st':ASt),ih m c st=some (e,st') →
 ∀(φ:Inj) (a:Act) (w:World),Glob P φ→SR φ st.ss st.n a→Inv φ st.H w→c.wp P (CodePost P m φ st.H w e st') a w
theorem zbl {φ:Inj} {H:AH} {w:World} {t:TypeId} {q q':Addr} {v:Value} (hi:Inv φ H w) (h:aLoad P t q H=some v) (hq:AddrR φ q q'):∃v',(loadVar t q').run P w=.ok v' w∧VR φ v v':=by
 unfold aLoad at h;split at h
 ·rename_i d i hu hii;have hagg:(isAgg t).run P w=.ok (isAggD d) w:=by
   simp only [isAgg,Sem.run_bind,M1 hu,Result.andThen_ok];cases d <;> rfl
  cases hd:isAggD d with
  | true =>
   rw [hd] at h hagg;simp only [cond_true] at h;cases hr:rdCells H q 0 i.size with
   | none=>rw [hr] at h; cases h
   | some l =>
    rw [hr] at h;simp only [Option.some.injEq] at h;subst h;obtain ⟨hl,l',h1,h2⟩:=rd_run hi hq _ 0 l hr;have hrun:=run_loadCells_list (P:=P) w q' l' (fun j u hu=>by have:=h2 j u hu; rwa [Nat.zero_add] at this);rw [← LR.length h1,hl] at hrun;refine ⟨.agg l'.toArray,?_,?_⟩
    ·simp only [loadVar,Sem.run_bind,hagg,Result.andThen_ok,if_true,Z3 hii,hrun,Sem.run_pure]
    ·have:=AR_iff.2 (show LR φ l.toArray.toList l'.toArray.toList by simpa using h1);exact .agg _ _ this.1 this.2
  | false =>
   rw [hd] at h hagg;simp only [cond_false] at h;obtain ⟨v',h1,h2⟩:=hi.cell h hq;refine ⟨v',?_,h2⟩;simp only [loadVar,Sem.run_bind,hagg,Result.andThen_ok,Bool.false_eq_true,if_false];simp [h1]
 ·cases h
def resV (tmps:Array Value):ResultVar→Sem Value
 | .tmp t=>pure (tmps.getD t undef)
 | .cell a t=>do loadVar t (← asAddr (tmps.getD a undef))
theorem za7 (fn:Func) (tmps:Array Value):results fn tmps=(fn.results.mapM (resV tmps) >>= fun vs=>pure (if h:vs.size=1 then vs[0] else .tuple vs)):=rfl
theorem ze2 {φ:Inj} {w:World} {st:ASt} {a:Act} (hs:SR φ st.ss st.n a) (hi:Inv φ st.H w):∀(l:List ResultVar) (vs:List Value),resultsA P st l=some vs →
  ∃vs',(l.mapM (resV a.tmps)).run P w=.ok vs' w∧LR φ vs vs':=by
 intro l;induction l with
 | nil=>intro vs h; simp only [resultsA,Option.some.injEq] at h; subst h; exact ⟨[],rfl,.nil⟩
 | cons x l ih =>
  intro vs h;cases x with
  | tmp t =>
   simp only [resultsA] at h;cases hr:resultsA P st l with
   | none=>rw [hr] at h; cases h
   | some us =>
    rw [hr] at h;simp only [Option.some.injEq] at h;subst h;obtain ⟨us',h1,h2⟩:=ih us hr;refine ⟨a.tmps.getD t undef :: us',?_,.cons (hs.slot t) h2⟩;rw [List.mapM_cons];have hA:(resV a.tmps (.tmp t)).run P w=.ok (a.tmps.getD t undef) w:=rfl;simp only [Sem.run_bind,hA,Sem.run_pure,Result.andThen_ok,h1]
  | cell p t =>
   simp only [resultsA] at h;split at h
   ·rename_i q us hq hr;cases hl:aLoad P t q st.H with
    | none=>rw [hl] at h; cases h
    | some v =>
     rw [hl] at h;simp only [Option.some.injEq] at h;subst h;obtain ⟨us',h1,h2⟩:=ih us hr;have hp:=hs.slot p;have hq':(st.ss.get p).getD undef=.pointer (some q):=hq;rw [hq'] at hp;obtain ⟨q',hq2,hqa⟩:=hp.ptr_inv;obtain ⟨v',h3,h4⟩:=zbl hi hl hqa;refine ⟨v' :: us',?_,.cons h4 h2⟩;rw [List.mapM_cons];have hA:(resV a.tmps (.cell p t)).run P w=.ok v' w:=by
      simp only [resV,Sem.run_bind,hq2];exact h3
     simp only [Sem.run_bind,hA,Sem.run_pure,Result.andThen_ok,h1]
   ·cases h
theorem z8q {φ:Inj} {w:World} {st:ASt} {a:Act} {fn:Func} {v:Value} {H':AH} (hs:SR φ st.ss st.n a) (hi:Inv φ st.H w) (h:resultA P fn st=some (v,H')) :
  H'=st.H∧∃v',(results fn a.tmps).run P w=.ok v' w∧VR φ v v':=by
 unfold resultA at h;cases hr:resultsA P st fn.results.toList with
 | none=>rw [hr] at h; cases h
 | some vs =>
  rw [hr] at h;obtain ⟨vs',h1,h2⟩:=ze2 hs hi _ _ hr;have h3:(fn.results.mapM (resV a.tmps)).run P w=.ok vs'.toArray w:=by
   rw [Array.mapM_eq_mapM_toList];show Sem.run P (List.toArray <$> _) w=_;rw [Sem.run_map,h1]; rfl
  have h4:∀r:Value,(if h:vs'.toArray.size=1 then vs'.toArray[0] else .tuple vs'.toArray)=r→(results fn a.tmps).run P w=.ok r w:=by
   intro r hr;rw [za7,Sem.run_bind,h3,Result.andThen_ok,hr]; rfl
  cases h2 with
  | nil =>
   simp only [Option.some.injEq,Prod.mk.injEq] at h;obtain ⟨rfl,rfl⟩:=h;exact ⟨rfl,_,h4 _ rfl,.tuple _ _ rfl fun i x y hx=>by simp at hx⟩
  | cons hv ht =>
   cases ht with
   | nil =>
    simp only [Option.some.injEq,Prod.mk.injEq] at h;obtain ⟨rfl,rfl⟩:=h;exact ⟨rfl,_,h4 _ rfl,hv⟩
   | cons hv2 ht2 =>
    simp only [Option.some.injEq,Prod.mk.injEq] at h;obtain ⟨rfl,rfl⟩:=h;refine ⟨rfl,_,h4 _ rfl,?_⟩;rw [dif_neg (by simp)];have hall:LR φ _ _:=F2.cons hv (F2.cons hv2 ht2);have:=AR_iff.2 (show LR φ (List.toArray _).toList (List.toArray _).toList by simpa using hall);exact .tuple _ _ this.1 this.2
theorem zfv:∀(l:List Value) (i:Nat) (t:Sl) (j:Nat),(∀k,i≤k→t.get k=none)→(ofArgs i l t).get j=if j<i then t.get j else l[j - i]? := by
 intro l;induction l with
 | nil =>
  intro i t j h;simp only [ofArgs];split
  ·rfl
  ·rename_i hj; rw [h j (by omega)]; simp
 | cons v l ih =>
  intro i t j h;simp only [ofArgs];rw [ih (i+1) _ j (fun k hk=>by rw [Tr.get_set_other _ _ _ _ _ (by omega) (by omega)]; exact h k (by omega))];by_cases hj:j<i
  ·rw [if_pos (by omega),if_pos hj,Tr.get_set_other _ _ _ _ _ (by omega) (by omega)]
  ·rw [if_neg hj];by_cases hji:j=i
   ·subst hji;rw [if_pos (by omega),Tr.get_set_same _ _ _ _ (by omega)];simp
   ·rw [if_neg (by omega)];rw [show j - i=(j - (i+1))+1 by omega];simp
theorem SR.enter {φ:Inj} {args args':Array Value} (ha:AR φ args args') (n:Nat):SR φ (ofArgs 0 args.toList .nil) ⟨n,[]⟩ { tmps:=args'++Array.replicate (n - args'.size) undef,defers:=[] }:=by
 refine ⟨fun t=>?_,by simp; omega,.nil⟩;rw [zfv _ _ _ _ (fun k _=>rfl)];simp only [Nat.not_lt_zero,if_false,Nat.sub_zero];rw [Array.getElem?_toList];rw [Array.getD_eq_getD_getElem?,Array.getElem?_append];cases hx:args[t]? with
 | none =>
  have hge:args.size≤t:=by rwa [Array.getElem?_eq_none_iff] at hx
  rw [if_neg (by have:=ha.1; omega)];rw [Array.getElem?_replicate];split <;> exact t8 φ
 | some x =>
  obtain ⟨y,hy,hv⟩:=ha.get hx;have hlt:t<args'.size:=by rw [Array.getElem?_eq_some_iff] at hy; exact hy.1
  rw [if_pos hlt,hy];exact hv
theorem l6 {ne:NE} (hS:Sane P ne) {f:Nat} {fn:Func} {c:Code} (hf:P.funcs[f]? = some fn) (hb:fn.body=some c) (args:Array Value) (w:World):(callFunc f args).run P w=.ok (.enter f args) w:=by
 have hn:=hS.noNum f fn hf (by rw [hb]; rfl);rw [beq_eq_false_iff_ne] at hn;simp [callFunc,hf,hb,hn]
theorem zkh {φ:Inj} {w:World} {ops:Array Oper} {cs:List Frame} {Q:Exit→Act→List Frame→World→Prop} (hg:Glob P φ) (hcs:recoverD cs=none):∀(l:List Oper) (k:Nat) {st st':ASt} {a:Act},(∀j,l[j]? = ops[k+j]?) →
  dOps P l st=some st'→SR φ st.ss st.n a→(∀a',SR φ st'.ss st'.n a'→Q .normal a' cs w)→st'.H=st.H∧wpOpsS P ops Q (List.range' k l.length) a cs w:=by
 intro l;induction l with
 | nil =>
  intro k st st' a _ h hs hn;simp only [dOps,Option.some.injEq] at h;subst h;exact ⟨rfl,hn a hs⟩
 | cons o l ih =>
  intro k st st' a hl h hs hn;have hoi:ops[k]? = some o:=by have:=hl 0; simpa using this.symm
  have hl':∀j,l[j]? = ops[k+1+j]? := fun j=>by
   have:=hl (j+1);rw [show k+1+j=k+(j+1) by omega,← this];simp
  rw [List.length_cons,List.range'_succ];simp only [dOps] at h;cases hgd:o.guard with
  | some jw=>rw [hgd] at h; cases h
  | none =>
   rw [hgd] at h;simp only at h;have hwt:Region.wanted o (yielded ops a.tmps)=true:=by unfold Region.wanted; rw [hgd]
   simp only [wpOpsS,hoi,hwt,if_true];cases hr:recoverOp o with
   | true =>
    rw [hr] at h;simp only [cond_true] at h;cases hp:putA st.n st.ss o.dst .nilIface with
    | none=>rw [hp] at h; cases h
    | some ss1 =>
     rw [hp] at h;simp only at h;have hrun:(execOp a.eval o).run P w=.ok .recover w:=by
      obtain ⟨dst,op,ty,pos,after,guard⟩:=o;unfold recoverOp at hr;simp only at hr;split at hr
      ·rfl
      ·cases hr
     rw [hrun];simp only [hcs];exact ih (k+1) (st:=⟨ss1,st.n,st.H⟩) hl' h (hs.put hp .nilIface) hn
   | false =>
    rw [hr] at h;simp only [cond_false] at h;have key:∀x,(o.op=.move x∨o.op=.assign x)→(match (bif okx P x then some (evalA st.ss x) else none) with
      | some v=>match putA st.n st.ss o.dst v with
       | some ss=>dOps P l ⟨ss,st.n,st.H⟩
       | none=>none
      | none=>none)=some st'→st'.H=st.H∧(match (execOp a.eval o).run P w with
       | .ok .recover w' =>
        match recoverD cs with
        | some (v,cs')=>wpOpsS P ops Q (List.range' (k+1) l.length) (a.put o.dst v) cs' w'
        | none=>wpOpsS P ops Q (List.range' (k+1) l.length) (a.put o.dst .nilIface) cs w'
       | r=>o.upon P a (fun a' w'=>wpOpsS P ops Q (List.range' (k+1) l.length) a' cs w') (fun e a' w'=>Q e a' cs w') r):=by
     intro x hx h;cases hk:okx P x with
     | false=>rw [hk] at h; cases h
     | true =>
      rw [hk] at h;simp only [cond_true] at h;cases hp:putA st.n st.ss o.dst (evalA st.ss x) with
      | none=>rw [hp] at h; cases h
      | some ss1 =>
       rw [hp] at h;simp only at h;have hrun:(execOp a.eval o).run P w=.ok (.value (a.eval x)) w:=by
        rcases hx with hx | hx <;> (unfold execOp; rw [hx]; rfl)
       rw [hrun];exact ih (k+1) (st:=⟨ss1,st.n,st.H⟩) hl' h (hs.put hp (hs.eval hg hk)) hn
    split at h
    ·rename_i v hv;split at hv
     ·rename_i x hx; exact key x (.inl hx) (by rw [hv]; exact h)
     ·rename_i x hx; exact key x (.inr hx) (by rw [hv]; exact h)
     ·cases hv
    ·cases h
theorem zfa {φ φ1:Inj} {H H1:AH} {w w1:World} {fn:Func} {e:AExit} {st:ASt} {a1:Act} (h:dFin P fn (some (e,st))=some H1) (hs:SR φ1 st.ss st.n a1) (hi:Inv φ1 st.H w1) (hst:Step m φ H w φ1 st.H w1) :
  (e=.normal∨e=.ret)∧st.H=H1∧a1.defers=[]∧∃v,(results fn a1.tmps).run P w1=.ok v w1:=by
 have key:(match st.n.ds,resultA P fn st with
  | [],some (_,H)=>some H
  | _,_=>none)=some H1→st.H=H1∧a1.defers=[]∧∃v,(results fn a1.tmps).run P w1=.ok v w1:=by
  intro h;split at h
  ·rename_i v H2 hd hr;simp only [Option.some.injEq] at h;subst h;obtain ⟨e1,v',h1,h2⟩:=z8q hs hi hr;have hd1:=hs.defers;rw [hd] at hd1;cases hq:a1.defers with
   | nil=>exact ⟨e1.symm,rfl,v',h1⟩
   | cons x y=>rw [hq] at hd1; cases hd1
  ·cases h
 cases e with
 | normal=>exact ⟨.inl rfl,key h⟩
 | ret=>exact ⟨.inr rfl,key h⟩
 | _=>cases h
theorem zjt {ih:Ex} (hG:Good P ih) {f:Nat} {args args':Array Value} {H H1:AH} (h:callD P ih m f args H=some H1) {φ:Inj} {w:World} (hg:Glob P φ) (ha:AR φ args args') (hi:Inv φ H w) :
  ∃fn c,P.funcs[f]? = some fn∧fn.body=some c∧CallsD P f args' .returning w fun e u' w'=>∃v φ1,e=.returned v∧u'=.returning∧Inv φ1 H1 w'∧Step m φ H w φ1 H1 w':=by
 unfold callD at h;cases hf:P.funcs[f]? with
 | none=>rw [hf] at h; cases h
 | some fn =>
  rw [hf] at h;simp only at h;cases hb:fn.body with
  | none=>rw [hb] at h; cases h
  | some c =>
   rw [hb] at h;simp only at h;refine ⟨fn,c,rfl,hb,?_⟩;have plain:dFin P fn (ih m c ⟨ofArgs 0 args.toList .nil,⟨fn.ntmps,[]⟩,H⟩)=some H1→CallsD P f args' .returning w fun e u' w'=>∃v φ1,e=.returned v∧u'=.returning∧Inv φ1 H1 w'∧Step m φ H w φ1 H1 w':=by
    intro h;cases he:ih m c ⟨ofArgs 0 args.toList .nil,⟨fn.ntmps,[]⟩,H⟩ with
    | none=>rw [he] at h; cases h
    | some r =>
     obtain ⟨e,st⟩:=r;rw [he] at h;have hw:=hG m c _ e st he φ _ w hg (SR.enter ha fn.ntmps) hi;refine (callsD_of_wp (u:=.returning) hf hb (R:=fun e w'=>∃v φ1,e=.returned v∧Inv φ1 H1 w'∧Step m φ H w φ1 H1 w') (wp_mono hw fun e' a' w' hpost=>?_)).mono fun e u' w' hh=>?_
     ·obtain ⟨φ',rfl,hs,hi',hst⟩:=hpost;obtain ⟨h1,h2,h3,v,h4⟩:=zfa h hs hi' hst;subst h2;rcases h1 with rfl | rfl
      ·exact ⟨h3,v,h4,v,φ',rfl,hi',hst⟩
      ·exact ⟨h3,v,h4,v,φ',rfl,hi',hst⟩
     ·obtain ⟨rfl,v,φ1,h1,h2,h3⟩:=hh;exact ⟨v,φ1,h1,rfl,h2,h3⟩
   split at h
   ·rename_i id ops b;cases hrec:ops.toList.any recoverOp with
    | false=>rw [hrec] at h; exact plain h
    | true =>
     rw [hrec] at h;simp only [cond_true] at h;cases hd:dOps P ops.toList ⟨ofArgs 0 args.toList .nil,⟨fn.ntmps,[]⟩,H⟩ with
     | none=>rw [hd] at h; cases h
     | some st1 =>
      rw [hd] at h;simp only at h;refine callsD_of_wpS hf hb fun c₀ cs hu=>?_;refine wpS_seq (wpS_region ?_);have hcs:recoverD (c₀ :: cs)=none:=by simp [recoverD,hu]
      have:=zkh (P:=P) (w:=w) (ops:=ops) (cs:=c₀ :: cs) (Q:=Exit.thenS (b.wpS P (bodyPostS P fn c₀ cs fun e u' w'=>∃v φ1,e=.returned v∧u'=.returning∧Inv φ1 H1 w'∧Step m φ H w φ1 H1 w')) (bodyPostS P fn c₀ cs fun e u' w'=>∃v φ1,e=.returned v∧u'=.returning∧Inv φ1 H1 w'∧Step m φ H w φ1 H1 w')) hg hcs ops.toList 0 (fun j=>by rw [Nat.zero_add]; simp) hd (SR.enter ha fn.ntmps);have hst1:st1.H=H:=by
       have hd':∀(l:List Oper) (st st':ASt),dOps P l st=some st'→st'.H=st.H:=by
        intro l;induction l with
        | nil=>intro st st' h; simp only [dOps,Option.some.injEq] at h; subst h; rfl
        | cons o l ih =>
         intro st st' h;simp only [dOps] at h;split at h
         ·cases h
         ·split at h
          ·split at h
           ·rename_i ss1 _; exact ih ⟨ss1,st.n,st.H⟩ _ h
           ·cases h
          ·cases h
       exact hd' _ _ _ hd
      have fin:=(this fun a' hs'=>?_).2
      ·rw [List.range_eq_range']
       simpa using fin
      ·show b.wpS P _ a' (c₀ :: cs) w;cases he:ih m b st1 with
       | none=>rw [he] at h; cases h
       | some r =>
        obtain ⟨e,st⟩:=r;rw [he] at h;have hw:=hG m b _ e st he φ a' w hg hs' (by rw [hst1]; exact hi);refine wpS_of_wp (wp_mono hw fun e' a2 w2 hpost=>?_);obtain ⟨φ',rfl,hs2,hi2,hst2⟩:=hpost;rw [hst1] at hst2;obtain ⟨h1,h2,h3,v,h4⟩:=zfa h hs2 hi2 hst2;subst h2;have hc:({ c₀ with mode:=.returning }:Frame)=c₀:=by cases c₀; simp only at hu; subst hu; rfl
        rcases h1 with rfl | rfl
        ·exact ⟨h3,.returning,by rw [hc],v,h4,v,φ',rfl,rfl,hi2,hst2⟩
        ·exact ⟨h3,.returning,by rw [hc],v,h4,v,φ',rfl,rfl,hi2,hst2⟩
   ·exact plain h
theorem zcv {ne:NE} (hS:Sane P ne) {ih:Ex} (hG:Good P ih) {fn:Func} {R:Ending→World→Prop} {v:Value} {H':AH} {a:Act}:∀(ds:List (FuncId×Array Value)) {l:List Deferred} {st:ASt} {φ:Inj} {w:World},leaveA P ih m fn ds st=some (v,H') →
  DR φ ds l→Glob P φ→SR φ st.ss st.n a→Inv φ st.H w→(∀φ' v' w',VR φ' v v'→Inv φ' H' w'→Step m φ st.H w φ' H' w'→R (.returned v') w')→Leaves P fn a.tmps R l .returning w:=by
 intro ds;induction ds with
 | nil =>
  intro l st φ w h hd hg hs hi hR;cases hd;obtain ⟨rfl,v',h1,h2⟩:=z8q hs hi h;exact ⟨v',h1,hR φ v' w h2 hi (Step.refl _ _ _ _)⟩
 | cons x ds ihd =>
  intro l st φ w h hd hg hs hi hR;cases hd with
  | cons hx ht =>
   rename_i f args a1 cap l';simp only [leaveA] at h;cases hc:callD P ih m f args st.H with
   | none=>rw [hc] at h; cases h
   | some H1 =>
    rw [hc] at h;simp only at h;obtain ⟨fn',c',hf',hb',hcd⟩:=zjt hG hc hg hx hi;refine leaves_cons (by intro hh; cases hh) (f:=f) (args:=a1++cap) (l6 hS hf' hb' _ w) (hcd.mono fun e u' w' hh=>?_);obtain ⟨v0,φ1,rfl,rfl,hi1,hst1⟩:=hh;exact ihd h (ht.mono hst1.ext) (hg.mono hst1.ext) (hs.mono hst1.ext) hi1 fun φ' v' w2 g1 g2 g3=>hR φ' v' w2 g1 g2 (hst1.trans hi g3)
theorem zdy {ne:NE} (hS:Sane P ne) {ih:Ex} (hG:Good P ih) {f:Nat} {fn:Func} {c:Code} (hf:P.funcs[f]? = some fn) (hb:fn.body=some c) {args args':Array Value} {H H':AH} {v:Value}
  (h:acallFn P ne ih m f args H=some (v,H')) {φ:Inj} {w:World} (hg:Glob P φ) (ha:AR φ args args') (hi:Inv φ H w):CallOK P m φ H w v H' f args':=by
 unfold acallFn at h;cases hor:ne.orc m f args H with
 | some r =>
  rw [hor] at h;simp only [Option.some.injEq] at h;subst h;exact (hS.orc m f args H v H' hor).2 φ w args' hg ha hi
 | none =>
 rw [hor,hf] at h;simp only [hb] at h;cases he:ih m c ⟨ofArgs 0 args.toList .nil,⟨fn.ntmps,[]⟩,H⟩ with
 | none=>rw [he] at h; cases h
 | some r =>
  obtain ⟨e,st⟩:=r;rw [he] at h;have hw:=hG m c _ e st he φ _ w hg (SR.enter ha fn.ntmps) hi;refine calls_of_wp_defers hf hb (wp_mono hw fun e' a' w' hpost=>?_);obtain ⟨φ',rfl,hs,hi',hst⟩:=hpost;cases e with
  | normal=>exact zcv hS hG _ h hs.defers (hg.mono hst.ext) hs hi' fun φ2 v2 w2 g1 g2 g3=>⟨φ2,v2,rfl,g1,g2,hst.trans hi g3⟩
  | ret=>exact zcv hS hG _ h hs.defers (hg.mono hst.ext) hs hi' fun φ2 v2 w2 g1 g2 g3=>⟨φ2,v2,rfl,g1,g2,hst.trans hi g3⟩
  | _=>cases h
end Go.Abs
namespace Go.Abs
variable {P:Program} {m:Nat}
theorem Q5 {φ:Inj} {H H':AH} {w:World} {v:Value} {o:Oper} {a:Act} {next:Act→World→Prop} {Q:Exit→Act→World→Prop} (h:OpOK P m φ H w v H' (execOp a.eval o))
  (hn:∀φ' v' w',VR φ' v v'→Inv φ' H' w'→Step m φ H w φ' H' w'→next (a.put o.dst v') w'):o.wp P a w next Q:=by
 obtain ⟨φ',w',nx,h1,h2,h3,h4⟩:=h;unfold Oper.wp;rw [h1];rcases h4 with ⟨v',rfl,h5⟩ | ⟨rfl,rfl⟩
 ·exact hn φ' v' w' h5 h2 h3
 ·exact hn φ' undef w' (t8 _) h2 h3
theorem zi8 {φ:Inj} {v v':Value} (h:VR φ v v'):Sim P m (fun _ p q=>p=q∧p≤(match v with | .slice _ k _=>k | _=>p)) φ (Builtin.lenOf v) (Builtin.lenOf v'):=by
 cases h <;> first | exact E1 ⟨rfl,Nat.le_refl _⟩ | exact G1
theorem z9y {φ:Inj} (size:Nat) {v v':Value} (h:VR φ v v'):Sim P m (fun _ c c'=>c=#[]∧c'=#[]) φ (Builtin.firstCells size 0 v) (Builtin.firstCells size 0 v'):=by
 have nul:∀b a:Addr,Sim P m (fun _ c c'=>c=#[]∧c'=#[]) φ (loadCells b (0*size)) (loadCells a (0*size)):=by
  intro b a; rw [Nat.zero_mul]; exact E1 ⟨rfl,rfl⟩
 cases h with
 | slice b o n c l1 hl hc=>exact nul _ _
 | sliceOpen b o n c l1 hl hn hc=>exact nul _ _
 | sliceEnd b o l1 a hl=>exact nul _ _
 | sliceZero b o l1 a hl=>exact nul _ _
 | sliceNil n c=>exact E1 ⟨rfl,rfl⟩
 | string s=>exact E1 ⟨by apply Array.ext'; simp,by apply Array.ext'; simp⟩
 | _=>exact G1
theorem z5j {φ:Inj} (size n:Nat) {v v':Value} (h:VR φ v v') (hn:n≤(match v with | .slice _ k _=>k | _=>n)):Sim P m AR φ (Builtin.firstCells size n v) (Builtin.firstCells size n v'):=by
 have nul:∀b a:Addr,n=0→Sim P m AR φ (loadCells b (n*size)) (loadCells a (n*size)):=by
  intro b a e; subst e; rw [Nat.zero_mul]; exact E1 (AR.empty _)
 cases h with
 | slice b o n c l1 hl hc=>exact z1y _ ⟨rfl,l1,hl,rfl⟩
 | sliceOpen b o n c l1 hl hn hc=>exact z1y _ ⟨rfl,l1,hl,rfl⟩
 | sliceEnd b o l1 a hl=>exact nul _ _ (Nat.le_zero.1 hn)
 | sliceZero b o l1 a hl=>exact nul _ _ (Nat.le_zero.1 hn)
 | sliceNil n c=>exact E1 (AR.empty _)
 | string s=>exact E1 (AR.map _ _ _ fun x hx=>.int _ _)
 | _=>exact G1
theorem zjx {φ:Inj} (ts:Array TypeId) (ty:TypeId) {x y x' y':Value} (hx:VR φ x x') (hy:VR φ y y'):Sim P m VR φ (Builtin.copy_ ts ty #[x,y]) (Builtin.copy_ ts ty #[x',y']):=by
 unfold Builtin.copy_;cases hts:ts[0]? with
 | none=>exact G1
 | some t =>
  simp only [List.getElem?_toArray,List.getElem?_cons_zero,List.getElem?_cons_succ];refine C1 (O2 t) fun φ1 h1 d d' e=>?_;cases e;cases d with
  | slice elem =>
   simp only;have hx1:=hx.mono h1;have tail:∀(b b':Option Addr) (n:Nat),((b=none∧b'=none)∨∃a a',b=some a∧b'=some a'∧(n=0∨AddrR φ1 a a'))→Sim P m VR φ1
     (do
      let __do_lift ← Builtin.lenOf y
      let size ← sizeOf elem
      let cells ← Builtin.firstCells size (Nat.min __do_lift n) y
      match b with
       | some a=>do
        storeCells a cells.toList
        pure (goInt ↑(Nat.min __do_lift n))
       | x=>pure (goInt ↑(Nat.min __do_lift n)))
     (do
      let __do_lift ← Builtin.lenOf y'
      let size ← sizeOf elem
      let cells ← Builtin.firstCells size (Nat.min __do_lift n) y'
      match b' with
       | some a=>do
        storeCells a cells.toList
        pure (goInt ↑(Nat.min __do_lift n))
       | x=>pure (goInt ↑(Nat.min __do_lift n))):=by
    intro b b' n hb;have hy1:=hy.mono h1;refine C1 (zi8 hy1) fun φ2 h2 p q e=>?_;obtain ⟨rfl,hp⟩:=e;refine C1 (U4 elem) fun φ3 h3 s s' e=>?_;cases e;have hy3:=(hy1.mono h2).mono h3;rcases hb with ⟨rfl,rfl⟩ | ⟨a,a',rfl,rfl,ha⟩
    ·refine C1 (z5j s (Nat.min p n) hy3 ?_) fun φ4 h4 c c' hc=>E1 (.int _ _);cases y <;> simp only [Nat.le_refl]
     exact Nat.le_trans (Nat.min_le_left _ _) hp
    ·rcases ha with rfl | ha
     ·have e0:Nat.min p 0=0:=Nat.min_zero p;rw [e0];refine C1 (z9y s hy3) fun φ4 h4 c c' hc=>?_;obtain ⟨rfl,rfl⟩:=hc;exact C1 (R:=EqR Unit) (E1 rfl) fun φ5 h5 _ _ _=>E1 (.int _ _)
     ·refine C1 (z5j s (Nat.min p n) hy3 ?_) fun φ4 h4 c c' hc=>?_
      ·cases y <;> simp only [Nat.le_refl]
       exact Nat.le_trans (Nat.min_le_left _ _) hp
      ·exact C1 (z5g _ _ 0 (((ha.mono h2).mono h3).mono h4) (AR_iff.1 hc)) fun φ5 h5 _ _ _=>E1 (.int _ _)
   cases hx1 with
   | sliceNil n c=>exact tail none none n (.inl ⟨rfl,rfl⟩)
   | slice b o n c l1 hl hc=>exact tail _ _ n (.inr ⟨_,_,rfl,rfl,.inr ⟨rfl,l1,hl,rfl⟩⟩)
   | sliceOpen b o n c l1 hl hn hc=>exact tail _ _ n (.inr ⟨_,_,rfl,rfl,.inr ⟨rfl,l1,hl,rfl⟩⟩)
   | sliceEnd b o l1 a hl=>exact tail _ _ 0 (.inr ⟨_,_,rfl,rfl,.inl rfl⟩)
   | sliceZero b o l1 a hl=>exact tail _ _ 0 (.inr ⟨_,_,rfl,rfl,.inl rfl⟩)
   | _=>exact G1
  | _=>exact G1
theorem N8 {φ:Inj} {H H':AH} {w:World} {v:Value} {f:Nat} {args:Array Value} {dst:Option Tmp} {a:Act} {next:Act→World→Prop} {Q:Exit→Act→World→Prop} (h:CallOK P m φ H w v H' f args)
  (hn:∀φ' v' w',VR φ' v v'→Inv φ' H' w'→Step m φ H w φ' H' w'→next (a.put dst v') w') :
  Calls P f args w fun
   | .returned v,w''=>next (a.put dst v) w''
   | .panicked chain,w''=>Q (.panic chain) a w''
   | .outgrown,_=>LetsOut Q:=by
 refine h.mono fun e w' hh=>?_;obtain ⟨φ',v',rfl,h1,h2,h3⟩:=hh;exact hn φ' v' w' h1 h2 h3
theorem zj2 {φ:Inj} {args args':Array Value} (h:args.all (flat depth)=true) (ha:AR φ args args'):args=args':=by
 refine Array.ext ha.1 fun i h1 h2=>?_;rw [Array.all_eq_true] at h;exact K8 depth (h i h1) (ha.2 i _ _ (Array.getElem?_eq_getElem h1) (Array.getElem?_eq_getElem h2))
theorem zhp {ne:NE} (hS:Sane P ne) {ih:Ex} (hG:Good P ih) {f:Nat} {args args':Array Value} {H H':AH} {v:Value} (h:acallFn P ne ih m f args H=some (v,H')) {φ:Inj} {w:World} (hg:Glob P φ) (ha:AR φ args args') (hi:Inv φ H w)
  {o:Oper} {a:Act} {next:Act→World→Prop} {Q:Exit→Act→World→Prop} (hn:∀φ' v' w',VR φ' v v'→Inv φ' H' w'→Step m φ H w φ' H' w'→next (a.put o.dst v') w') :
  o.upon P a next Q ((callFunc f args').run P w):=by
 have h0:=h;unfold acallFn at h;cases hor:ne.orc m f args H with
 | some r =>
  rw [hor] at h;simp only [Option.some.injEq] at h;subst h;obtain ⟨⟨fn,c,hf,hb⟩,hc⟩:=hS.orc m f args H v H' hor;rw [l6 hS hf hb];exact N8 (hc φ w args' hg ha hi) hn
 | none =>
 rw [hor] at h;simp only at h;cases hf:P.funcs[f]? with
 | none=>rw [hf] at h; cases h
 | some fn =>
  rw [hf] at h;simp only at h;cases hb:fn.body with
  | some c =>
   rw [l6 hS hf hb];exact N8 (zdy hS hG hf hb h0 hg ha hi) hn
  | none =>
   rw [hb] at h;simp only at h;cases hfl:args.all (flat depth) with
   | true =>
    rw [hfl] at h;simp only [cond_true] at h;have he:=zj2 hfl ha;subst he;cases hp:peval P (callFunc f args) with
    | none=>rw [hp] at h; cases h
    | some nx =>
     rw [hp] at h;rw [D4 P _ _ hp w];cases nx with
     | value u =>
      simp only [asVal] at h;cases hf2:flat depth u with
      | false=>rw [hf2] at h; cases h
      | true =>
       rw [hf2] at h;simp only [cond_true,Option.some.injEq,Prod.mk.injEq] at h;obtain ⟨rfl,rfl⟩:=h;exact hn φ u w (N2 _ hf2) hi (Step.refl _ _ _ _)
     | skip =>
      simp only [asVal,Option.some.injEq,Prod.mk.injEq] at h;obtain ⟨rfl,rfl⟩:=h;exact hn φ undef w (t8 _) hi (Step.refl _ _ _ _)
     | _=>cases h
   | false =>
    rw [hfl] at h;simp only [cond_false] at h;split at h
    ·rename_i x hx;cases hfe:Nat.beq f ne.esc with
     | false=>rw [hfe] at h; cases h
     | true =>
      rw [hfe] at h;have:=Nat.eq_of_beq_eq_true hfe;subst this;simp only [cond_true,Option.some.injEq,Prod.mk.injEq] at h;obtain ⟨rfl,rfl⟩:=h;have hlr:=AR_iff.1 ha;rw [hx] at hlr;obtain ⟨x',hx',hv⟩:∃x',args'=#[x']∧VR φ x x':=by
       generalize hq:args'.toList=q at hlr;cases hlr with
       | cons h1 t1=>cases t1; exact ⟨_,by apply Array.ext'; simpa using hq,h1⟩
      rw [hx',hS.esc (by rw [hf]; rfl)];exact hn φ x' w hv hi (Step.refl _ _ _ _)
    ·cases h
theorem ar_map {φ:Inj} {ρ ρ':Operand→Value} (xs:Array Operand) (h:∀x∈xs,VR φ (ρ x) (ρ' x)):AR φ (xs.map ρ) (xs.map ρ'):=AR.map ρ ρ' xs h
theorem ar_one {φ:Inj} {args args':Array Value} {x:Value} (ha:AR φ args args') (h:args.toList=[x]):args=#[x]∧∃x',args'=#[x']∧VR φ x x':=by
 have hlr:=AR_iff.1 ha;rw [h] at hlr;refine ⟨by apply Array.ext'; simpa using h,?_⟩;generalize hq:args'.toList=q at hlr;cases hlr with
 | cons h1 t1=>cases t1; exact ⟨_,by apply Array.ext'; simpa using hq,h1⟩
theorem ar_two {φ:Inj} {args args':Array Value} {x y:Value} (ha:AR φ args args') (h:args.toList=[x,y]):args=#[x,y]∧∃x' y',args'=#[x',y']∧VR φ x x'∧VR φ y y':=by
 have hlr:=AR_iff.1 ha;rw [h] at hlr;refine ⟨m7 h,?_⟩;generalize hq:args'.toList=q at hlr;cases hlr with
 | cons h1 t1=>cases t1 with
  | cons h2 t2=>cases t2; exact ⟨_,_,m7 hq,h1,h2⟩
theorem z80 (ts:Array TypeId) (ty:TypeId) (a:Addr) (n c:Nat) (hc:c≠0):Builtin.unsafeSliceData_ ts ty #[.slice (some a) n c]=pure (.pointer (some a)):=by
 show (if c≠0 then _ else _)=_;rw [if_pos hc]
theorem zdm {ne:NE} (hS:Sane P ne) {ih:Ex} (hG:Good P ih) {o:Oper} {ρ:Operand→Value} {H H':AH} {v:Value} (h:runOp P ne ih m o ρ H=some (v,H')) {φ:Inj} {w:World} {a:Act} (hg:Glob P φ) (hρ:∀x∈o.op.operands,VR φ (ρ x) (a.eval x)) (hi:Inv φ H w)
  {next:Act→World→Prop} {Q:Exit→Act→World→Prop} (hn:∀φ' v' w',VR φ' v v'→Inv φ' H' w'→Step m φ H w φ' H' w'→next (a.put o.dst v') w'):o.wp P a w next Q:=by
 have fl:=fun hh=>Q5 (a:=a) (next:=next) (Q:=Q) (zaj (P:=P) (m:=m) (H':=H') (v:=v) hi hρ hh) hn;have ao:=fun hh=>Q5 (a:=a) (next:=next) (Q:=Q) (aOp_ok (P:=P) (m:=m) (H':=H') (v:=v) hi hρ hh) hn;obtain ⟨dst,op,ty,pos,after,guard⟩:=o;unfold runOp at h;simp only at h hρ hn;cases op with
 | call c =>
  obtain ⟨callee,args,ts⟩:=c;cases callee with
  | value g =>
   simp only at h;have hgv:=hρ g (by simp [Op.operands,Call.operands]);have hargs:AR φ (args.map ρ) (args.map a.eval):=ar_map args fun x hx=>hρ x (by simp [Op.operands,Call.operands,hx]);split at h
   ·rename_i f first captured hge
    rw [hge] at hgv;generalize hq:a.eval g=q at hgv;cases hgv with
    | func fn f1 g1 f1' g1' hf1 hg1 i1 i2 =>
     have hall:AR φ (first++args.map ρ++captured) (f1'++args.map a.eval++g1'):=((AR.append ⟨hf1,i1⟩ hargs).append ⟨hg1,i2⟩);show Oper.upon P _ a next Q _
     have hex:execOp a.eval { dst:=dst,op:=.call { callee:=.value g,args:=args,argTypes:=ts },type:=ty,pos:=pos,after:=after,guard:=guard }=callFunc f (f1'++args.map a.eval++g1'):=by
      simp only [execOp,resolve,hq]; rfl
     rw [hex];exact zhp hS hG h hg hall hi hn
   ·cases h
  | invoke r nm=>cases h
  | builtin b =>
   have hargs:AR φ (args.map ρ) (args.map a.eval):=ar_map args fun x hx=>hρ x (by simp [Op.operands,Call.operands,hx]);simp only at h;cases b with
   | append=>exact Q5 (zfu (ty:=ty) hi h hargs) hn
   | len =>
    simp only at h;split at h
    ·rename_i e b n c hu hl;simp only [Option.some.injEq,Prod.mk.injEq] at h;obtain ⟨rfl,rfl⟩:=h;obtain ⟨_,x',hx',hv⟩:=ar_one hargs hl;obtain ⟨b',c',rfl⟩:=X9 hv;cases ht:ts[0]? with
     | none=>rw [ht] at hu; cases hu
     | some t =>
      rw [ht] at hu;have hu:P.underlying t=some (.slice e):=hu;have hrun:(Builtin.len_ ts ty (args.map a.eval)).run P w=.ok (goInt n) w:=by
       rw [hx'];simp [Builtin.len_,ht,M1 hu]
      exact Q5 (W1 (s:=Builtin.len_ ts ty (args.map a.eval)) hrun hi (Step.refl _ _ _ _) (.int _ _)) hn
    ·rename_i k e r hu hl;split at h
     ·rename_i es n opn esz ro hgr;simp only [Option.some.injEq,Prod.mk.injEq] at h;obtain ⟨rfl,rfl⟩:=h;obtain ⟨_,x',hx',hv⟩:=ar_one hargs hl;cases hv with
      | map r l hlr =>
       obtain ⟨es',g1,g2⟩:=hi.map hgr rfl hlr;cases ht:ts[0]? with
       | none=>rw [ht] at hu; cases hu
       | some t =>
        rw [ht] at hu;have hu:P.underlying t=some (.map k e):=hu;have hrun:(Builtin.len_ ts ty (args.map a.eval)).run P w=.ok (goInt es'.size) w:=by
         rw [hx'];simp [Builtin.len_,ht,M1 hu,T3 g1]
        rw [g2.1] at hn;exact Q5 (W1 (s:=Builtin.len_ ts ty (args.map a.eval)) hrun hi (Step.refl _ _ _ _) (.int _ _)) hn
     ·cases h
    ·exact fl h
   | copy =>
    simp only at h;split at h
    ·rename_i x y hl;obtain ⟨e1,x',y',e2,hx,hy⟩:=ar_two hargs hl;have h':asNext (arun P m (do pure (.value (← Builtin.copy_ ts ty (args.map ρ)))) H)=some (v,H'):=h;rw [e1] at h';refine Q5 (H':=H') (v:=v) ?_ hn;show OpOK P m φ H w v H' (do pure (.value (← Builtin.copy_ ts ty (args.map a.eval))));rw [e2];exact Y1 (sim_v (zjx ts ty hx hy)) hi h'
    ·cases h
   | delete =>
    simp only at h;have:∃x k,(args.map ρ).toList=[x,k]:=by
     unfold aDelete at h;split at h
     ·rename_i t x k h1 h2; exact ⟨x,k,h2⟩
     ·cases h
    obtain ⟨x,k,hl⟩:=this;obtain ⟨e1,x',k',e2,hx,hk⟩:=ar_two hargs hl;rw [hl] at h;have hfk:flat depth k=true:=by
     unfold aDelete at h;split at h
     ·rename_i t x2 k2 h1 h2;simp only [List.cons.injEq,and_true] at h2;obtain ⟨rfl,rfl⟩:=h2;cases hf:flat depth k with
      | true=>rfl
      | false=>rw [hf] at h; cases h
     ·cases h
    obtain ⟨w',r1,r2,r3,rfl⟩:=zfp (ty:=ty) hi h hx;have:=K8 depth hfk hk;subst this;rw [← e2] at r1;exact Q5 (W1 (s:=Builtin.delete_ ts ty (args.map a.eval)) r1 r2 r3 (.tuple #[] #[] rfl fun i x y hx=>by simp at hx)) hn
   | unsafeSliceData =>
    simp only at h;split at h
    ·rename_i p n c hl;cases hq:(Nat.beq n 0||Nat.beq c 0) with
     | true=>rw [hq] at h; cases h
     | false =>
      rw [hq] at h;simp only [cond_false,Option.some.injEq,Prod.mk.injEq] at h;obtain ⟨rfl,rfl⟩:=h;simp only [Bool.or_eq_false_iff] at hq;have hn0:=Nat.ne_of_beq_eq_false hq.1;have hc0:=Nat.ne_of_beq_eq_false hq.2;obtain ⟨_,x',hx',hv⟩:=ar_one hargs hl;have key:∃p' c',x'=.slice (some p') n c'∧c'≠0∧VR φ (.pointer (some p)) (.pointer (some p')):=by
       cases hv with
       | slice b o n c l1 hl1 hc=>exact ⟨_,_,rfl,hc0,.ptr b o l1 hl1⟩
       | sliceOpen b o n c l1 hl1 hn1 hc=>exact ⟨_,_,rfl,by omega,.ptr b o l1 hl1⟩
       | sliceEnd b o l1 a hl=>exact absurd rfl hn0
       | sliceZero b o l1 a hl=>exact absurd rfl hn0
      obtain ⟨p',c',rfl,hc',hvp⟩:=key;have hrun:(Builtin.unsafeSliceData_ ts ty (args.map a.eval)).run P w=.ok (.pointer (some p')) w:=by
       rw [hx',z80 ts ty p' n c' hc']; rfl
      exact Q5 (W1 (s:=Builtin.unsafeSliceData_ ts ty (args.map a.eval)) hrun hi (Step.refl _ _ _ _) hvp) hn
    ·exact fl h
   | unsafeString =>
    simp only at h;have:∃x k,(args.map ρ).toList=[x,k]:=by
     unfold aUnsafeString at h;split at h
     ·rename_i h1 _; exact ⟨_,_,h1⟩
     ·rename_i h1 _; exact ⟨_,_,h1⟩
     ·cases h
    obtain ⟨x,k,hl⟩:=this;obtain ⟨e1,x',k',e2,hx,hk⟩:=ar_two hargs hl;rw [hl] at h;obtain ⟨w',r1,r2,r3,s,rfl⟩:=z9a (ty:=ty) hi h hx hk;rw [← e2] at r1;exact Q5 (W1 (s:=Builtin.unsafeString_ ts ty (args.map a.eval)) r1 r2 r3 (.string s)) hn
   | _=>exact fl h
 | _=>exact ao h
end Go.Abs
namespace Go.Abs
variable {P:Program} {m:Nat}
theorem zhr {φ:Inj} {a:Act} {d:Nat} {b:Bool} (h:VR φ (.bool b) (a.tmps.getD d undef)):a.tmps[d]? = some (.bool b):=by
 rw [Array.getD_eq_getD_getElem?] at h;cases hx:a.tmps[d]? with
 | none=>rw [hx] at h; cases h
 | some v=>rw [hx] at h; simp only [Option.getD_some] at h; cases h; rfl
end Go.Abs
namespace Go.Abs
variable {P:Program} {m:Nat}
structure InvG (φ:Inj) (g:Nat→Option Blk) (n:Nat) (w:World):Prop where
 dom:∀id l,φ id=some l→id<n∧l.blk<w.heap.size
 obj:∀id b,g id=some b→∃l,φ id=some l∧OR φ l b w
 sep:∀id id' b b' l l',g id=some b→g id'=some b'→id≠id'→b.ro=false→alive b=true→alive b'=true →
  φ id=some l→φ id'=some l'→l.blk≠l'.blk
structure StepG (m lo:Nat) (φ:Inj) (g:Nat→Option Blk) (w:World) (φ':Inj) (g':Nat→Option Blk) (w':World):Prop where
 ext:φ.le φ'
 new:∀id l,φ' id=some l→φ id=none→lo≤id∧(w.heap.size≤l.blk∨∃id0 l0,m≤id0∧(g id0).isSome=true∧φ id0=some l0∧l0.blk=l.blk)
 alv:∀id,(g' id).isSome=true→(g id).isSome=true∨φ id=none
 size:w.heap.size≤w'.heap.size
 keep:∀c,c<w.heap.size→(∀id l,m≤id→(g id).isSome=true→φ id=some l→l.blk≠c)→w'.heap[c]? = w.heap[c]?
 os:w'.os=w.os
 tape:w'.tape=w.tape
 output:w'.output=w.output
def restr (φ:Inj) (n:Nat):Inj:=fun id=>if id<n then φ id else none
def joined (φ φ':Inj) (nx:Nat):Inj:=fun id=>if id<nx then φ' id else φ id
def joinedG (g:Nat→Option Blk) (Hin H':AH):Nat→Option Blk:=fun id=>if (Hin.get id).isSome=true∨(Hin.next≤id∧id<H'.next) then H'.get id else g id
structure FrameRes (m lo:Nat) (φ:Inj) (g:Nat→Option Blk) (w:World) (Hin:AH) (φ':Inj) (H':AH) (w':World) (n':Nat):Prop where
 le:φ.le (joined φ φ' H'.next)
 le':φ'.le (joined φ φ' H'.next)
 inv:InvG (joined φ φ' H'.next) (joinedG g Hin H') n' w'
 step:StepG m lo φ g w (joined φ φ' H'.next) (joinedG g Hin H') w'
 none_:∀id,(H'.get id).isSome=true→(Hin.get id).isSome=true∨(Hin.next≤id∧id<H'.next)
 excl:∀id id' l l',(g id).isSome=true→Hin.get id=none→id<Hin.next∨H'.next≤id→id≠id'→(joinedG g Hin H' id').isSome=true→joined φ φ' H'.next id=some l→joined φ φ' H'.next id'=some l' →
  (∀id2 l2,id2≠id→(g id2).isSome=true→φ id2=some l2→∀l1,φ id=some l1→l2.blk≠l1.blk)→l'.blk≠l.blk
end Go.Abs
namespace Go.Abs
variable {P:Program} {m:Nat} {α β:Type}
def HK (P:Program) (m:Nat) (s:Sem α):Prop:=∀H x H',arun P m s H=some (x,H')→H'=H
theorem S1 {s:Sem α} {k:α→Sem β} (h:HK P m s) (hk:∀a,HK P m (k a)):HK P m (s >>= k):=by
 intro H x H' hr;change arun P m (s.bind k) H=_ at hr;rw [I2] at hr;cases hs:arun P m s H with
 | none=>rw [hs] at hr; cases hr
 | some p =>
  obtain ⟨a,H1⟩:=p;rw [hs] at hr;have e1:=h H a H1 hs;subst e1;exact hk a _ x H' hr
theorem U2 (a:α):HK P m (Pure.pure a:Sem α):=by
 intro H x H' hr;have:some (a,H)=some (x,H'):=hr;simp only [Option.some.injEq,Prod.mk.injEq] at this;exact this.2.symm
theorem E3 (h:Halt):HK P m (Sem.halt h:Sem α):=by intro H x H' hr; simp [arun] at hr
theorem zkk {s:Sem α} (h:∀H,arun P m s H=none):HK P m s:=by intro H x H' hr; rw [h] at hr; cases hr
theorem za9:HK P m program:=by
 intro H x H' hr;have:some (P,H)=some (x,H'):=hr;simp only [Option.some.injEq,Prod.mk.injEq] at this;exact this.2.symm
theorem zfn (a:Addr) (md:Mode):HK P m (load a md):=by
 intro H x H' hr;simp only [load,arun] at hr;split at hr
 ·simp only [Option.some.injEq,Prod.mk.injEq] at hr; exact hr.2.symm
 ·cases hr
theorem B5 (t:TypeId):HK P m (underlying t):=S1 za9 fun p=>by cases p.underlying t <;> first | exact U2 _ | exact E3 _
theorem z8y (t:TypeId):HK P m (typeInfo t):=S1 za9 fun p=>by cases p.info? t <;> first | exact U2 _ | exact E3 _
theorem C8 (t:TypeId):HK P m (sizeOf t):=S1 (z8y t) fun i=>U2 _
theorem zcw (t:TypeId):HK P m (isAgg t):=S1 (B5 t) fun d=>by cases d <;> exact U2 _
theorem zku (t:TypeId):HK P m (zeroValue t):=S1 (z8y t) fun i=>by cases i.zero <;> first | exact U2 _ | exact E3 _
theorem zac (v:Value):HK P m (asIntOf v):=by
 cases v with
 | pointer a=>cases a <;> exact E3 _
 | int k n=>exact U2 _
 | _=>exact E3 _
theorem z43 (v:Value):HK P m (Instr.sureAddr v):=by
 cases v with
 | pointer a=>cases a <;> first | exact U2 _ | exact E3 _
 | _=>exact E3 _
theorem P8 (k:IntKind) (x y:Int) (c:BoundsCode):HK P m (boundsPanic k x y c:Sem α):=by
 refine zkk fun H=>?_;unfold Go.boundsPanic;show arun P m (if _ then _ else _) H=none;split
 ·exact t7 _ _ (fun a H=>o4 _ _) H
 ·exact t7 _ _ (fun a H=>o4 _ _) H
theorem z96 (a:Addr):∀(n i:Nat) (acc:Array Value),HK P m (loadCellsFrom a i n acc):=by
 intro n;induction n with
 | zero=>intro i acc; exact U2 _
 | succ n ih=>intro i acc; exact S1 (zfn _ _) fun v=>ih _ _
theorem zgp (t:TypeId) (a:Addr):HK P m (loadVar t a):=by
 refine S1 (zcw t) fun b=>?_;cases b
 ·exact zfn _ _
 ·exact S1 (C8 t) fun n=>S1 (z96 a n 0 #[]) fun cs=>U2 _
theorem zfj (t:TypeId) (cs:Array Value) (off:Nat):HK P m (part t cs off):=by
 refine S1 (zcw t) fun b=>?_;cases b
 ·show HK P m (match cs[off]? with | some v=>pure v | none=>stuck "part: no such cell");cases cs[off]? with
  | none=>exact E3 _
  | some v=>exact U2 _
 ·exact S1 (C8 t) fun n=>U2 _
theorem zis (t:TypeId) (v:Value):HK P m (Instr.loadAt t v):=S1 (z43 v) fun a=>zgp t a
theorem zct (a:Addr) (f:Field):HK P m (fieldPlace a f):=by
 refine S1 (C8 _) fun n=>?_;split
 ·intro H x H' hr;exfalso;unfold partAt byteOf at hr;simp only [bind,I2,pure] at hr;split at hr
  ·rename_i u H1 hq
   revert hq
   cases hs:a.spot with
   | none=>simp [arun,program,I2,noView,viewAt,shape,bind]
   | some s =>
    simp only [arun,Option.some.injEq,Prod.mk.injEq];intro hq;obtain ⟨rfl,rfl⟩:=hq;simp [arun,program,I2,noView,viewAt,shape,bind] at hr
  ·cases hr
 ·exact U2 _
theorem zh3 (t:TypeId) (v:Value) (k:Nat):HK P m (Instr.fieldAt t v k):=by
 refine S1 (B5 t) fun d=>?_;cases d with
 | struct fs =>
  simp only;cases fs[k]? with
  | none=>exact E3 _
  | some f=>exact S1 (z43 v) fun a=>S1 (zct a f) fun b=>U2 _
 | _=>exact E3 _
theorem zk1 (v:Value):HK P m (asAgg v):=by cases v <;> first | exact U2 _ | exact E3 _
theorem ziy (t:TypeId) (v:Value) (k:Nat):HK P m (Instr.field t v k):=by
 refine S1 (B5 t) fun d=>?_;cases d with
 | struct fs =>
  simp only;cases fs[k]? with
  | none=>exact E3 _
  | some f=>exact S1 (zk1 v) fun a=>zfj _ _ _
 | _=>exact E3 _
theorem z9d (t:TypeId) (v:Value):HK P m (Instr.makeInterface t v):=S1 (B5 t) fun d=>by cases d <;> first | exact E3 _ | exact U2 _
theorem zfw (v:Value) (k:Nat):HK P m (Instr.extract v k):=by
 cases v with
 | tuple vs=>simp only [Instr.extract]; cases vs[k]? <;> first | exact E3 _ | exact U2 _
 | _=>exact E3 _
theorem zjl (t:TypeId) (x i:Value):HK P m (Instr.index t x i):=by
 refine S1 (zac i) fun k=>?_;obtain ⟨k,n⟩:=k;refine S1 (B5 t) fun d=>?_;split
 ·split
  ·exact S1 (C8 _) fun z=>zfj _ _ _
  ·exact P8 _ _ _ _
 ·split
  ·exact U2 _
  ·exact P8 _ _ _ _
 ·exact E3 _
theorem zgv (t:TypeId) (x i:Value):HK P m (Instr.indexAt t x i):=by
 refine S1 (zac i) fun k=>?_;obtain ⟨k,n⟩:=k;have tail:∀p:Option Addr×Nat×TypeId,HK P m (do
    let d ← underlying t
    match p.fst with
     | some a=>(if 0≤n∧n<↑p.2.fst then (sizeOf p.2.snd >>= fun z=>pure (Value.pointer (some (a.add (n.toNat*z))))) else (if (decide (p.2.fst≤1)&&(match d with | TypeDesc.array len elem=>true | x=>false))=true then unsupported (.noEntry "op/indexAddr.an index out of range at an array of length 0 or 1 (ledger 616)") else boundsPanic k n (↑p.2.fst) BoundsCode.index))
     | none=>boundsPanic k n 0 BoundsCode.index):=by
  intro p;refine S1 (B5 t) fun d=>?_;cases p.fst with
  | none=>exact P8 _ _ _ _
  | some a =>
   simp only;split
   ·exact S1 (C8 _) fun z=>U2 _
   ·have both:∀b:Bool,HK P m (if b=true then unsupported (.noEntry "op/indexAddr.an index out of range at an array of length 0 or 1 (ledger 616)") else boundsPanic k n (↑p.2.fst) BoundsCode.index:Sem Value):=by
     intro b; cases b
     ·exact P8 _ _ _ _
     ·exact E3 _
    exact both _
 refine S1 (B5 t) fun d=>?_;cases d with
 | array len elem=>exact S1 (z43 x) fun a=>tail (some a,len,elem)
 | slice elem =>
  cases x with
  | slice b l c=>exact tail (b,l,elem)
  | _=>exact E3 _
 | _=>exact E3 _
theorem zl7 (f:α→Sem (Nat×Nat)) (hf:∀x,HK P m (f x)):∀l:List α,HK P m (l.mapM f):=by
 intro l;induction l with
 | nil=>exact U2 _
 | cons a l ih=>rw [List.mapM_cons]; exact S1 (hf a) fun x=>S1 ih fun y=>U2 _
theorem zjj (t:TypeId) (ps:Array (Nat×Value)):HK P m (Instr.build t ps):=by
 refine S1 (zku t) fun z=>?_;refine S1 (B5 t) fun d=>?_;cases d with
 | struct fields =>
  refine S1 ?_ fun pl=>?_
  ·rw [Array.mapM_eq_mapM_toList];exact S1 (zl7 _ (fun x=>S1 (C8 _) fun n=>U2 _) _) fun a=>U2 _
  ·split
   ·exact U2 _
   ·exact E3 _
 | array len elem =>
  refine S1 (C8 elem) fun s=>?_;split
  ·exact U2 _
  ·exact E3 _
 | _=>exact E3 _
theorem hk_v {s:Sem Value} (h:HK P m s):HK P m (do pure (.value (← s)):Sem Next):=S1 h fun v=>U2 _
theorem P5 {s:Sem Next} (h:HK P m s) {H H':AH} {v:Value} (hr:asNext (arun P m s H)=some (v,H')):H'=H:=by
 cases ha:arun P m s H with
 | none=>rw [ha] at hr; cases hr
 | some p =>
  obtain ⟨nx,H1⟩:=p;have:=h H nx H1 ha;subst this;rw [ha] at hr;cases nx <;> simp only [asNext] at hr <;> first | (cases hr; done) | (simp only [Option.some.injEq,Prod.mk.injEq] at hr; exact hr.2.symm)
theorem zdj {o:Oper} {ρ:Operand→Value} {H H':AH} {v:Value} (h:flatRun P o ρ H=some (v,H')):H'=H:=by
 have go:∀x:Option Next,asVal H x=some (v,H')→H'=H:=by
  intro x hx;unfold asVal at hx;split at hx
  ·rename_i u;cases hf:flat depth u with
   | false=>rw [hf] at hx; cases hx
   | true=>rw [hf] at hx; simp only [cond_true,Option.some.injEq,Prod.mk.injEq] at hx; exact hx.2.symm
  ·simp only [Option.some.injEq,Prod.mk.injEq] at hx; exact hx.2.symm
  ·cases hx
 unfold flatRun at h;split at h
 ·cases h
 ·cases ha:o.op.operands.all (fun x=>flat depth (ρ x)) with
  | false=>rw [ha] at h; cases h
  | true=>rw [ha] at h; exact go _ h
theorem zha {ne:NE} {ih:Ex} {o:Oper} {ρ:Operand→Value} {H H':AH} {v:Value} (hq:quiet P o=true) (h:runOp P ne ih m o ρ H=some (v,H')):H'=H:=by
 have fl:=fun hh=>zdj (P:=P) (o:=o) (ρ:=ρ) (H:=H) (H':=H') (v:=v) hh;obtain ⟨dst,op,ty,pos,after,guard⟩:=o;unfold quiet at hq;unfold runOp at h;simp only at h hq;cases op with
 | call c =>
  obtain ⟨callee,args,ts⟩:=c;cases callee with
  | builtin b =>
   cases b <;> simp only at hq <;> first | (cases hq; done) | skip
   ·exact fl h
   ·simp only at h;split at h
    ·simp only [Option.some.injEq,Prod.mk.injEq] at h; exact h.2.symm
    ·split at h
     ·simp only [Option.some.injEq,Prod.mk.injEq] at h; exact h.2.symm
     ·cases h
    ·exact fl h
   ·exact fl h
   ·exact fl h
   ·simp only at h;split at h
    ·rename_i a n c _;cases hb:(Nat.beq n 0||Nat.beq c 0) with
     | true=>rw [hb] at h; cases h
     | false=>rw [hb] at h; simp only [cond_false,Option.some.injEq,Prod.mk.injEq] at h; exact h.2.symm
    ·exact fl h
  | _=>cases hq
 | move x=>simp only [aOp,Option.some.injEq,Prod.mk.injEq] at h; exact h.2.symm
 | assign x=>simp only [aOp,Option.some.injEq,Prod.mk.injEq] at h; exact h.2.symm
 | pick c a b =>
  simp only [aOp] at h;split at h
  ·simp only [Option.some.injEq,Prod.mk.injEq] at h; exact h.2.symm
  ·cases h
 | slice t x lo hi mx =>
  simp only [aOp] at h;split at h
  ·split at h
   ·simp only [Option.some.injEq,Prod.mk.injEq] at h; exact h.2.symm
   ·cases h
  ·split at h
   ·simp only [Option.some.injEq,Prod.mk.injEq] at h; exact h.2.symm
   ·cases h
  ·exact fl h
 | binOp op t x y yt =>
  simp only [aOp] at h;split at h
  ·simp only [Option.some.injEq,Prod.mk.injEq] at h; exact h.2.symm
  ·exact fl h
 | unOp op t x=>exact fl h
 | typeAssert x a b c =>
  simp only [aOp] at h;split at h
  ·split at h
   ·simp only [Option.some.injEq,Prod.mk.injEq] at h; exact h.2.symm
   ·exact fl h
  ·exact fl h
 | build t ps =>
  simp only [aOp] at h;cases hz:zflat P t with
  | false=>rw [hz] at h; cases h
  | true=>rw [hz] at h; exact P5 (hk_v (zjj _ _)) h
 | nilCheck x =>
  simp only [aOp] at h;split at h
  ·simp only [Option.some.injEq,Prod.mk.injEq] at h; exact h.2.symm
  ·simp only [Option.some.injEq,Prod.mk.injEq] at h; exact h.2.symm
  ·cases h
 | makeInterface t x=>exact P5 (hk_v (z9d _ _)) h
 | makeFunc fn f c=>exact P5 (P:=P) (m:=m) (hk_v (U2 _)) h
 | fieldAddr t x f=>exact P5 (hk_v (zh3 _ _ _)) h
 | field t x f=>exact P5 (hk_v (ziy _ _ _)) h
 | indexAddr t x i=>exact P5 (hk_v (zgv _ _ _)) h
 | index t x i=>exact P5 (hk_v (zjl _ _ _)) h
 | load t x=>exact P5 (hk_v (zis _ _)) h
 | lookup t x k ok =>
  simp only [aOp] at h;cases hf:flat depth (ρ k) with
  | false=>rw [hf] at h; cases h
  | true =>
   rw [hf] at h;simp only [cond_true] at h;split at h
   ·simp only [Option.some.injEq,Prod.mk.injEq] at h; exact h.2.symm
   ·cases h
 | extract x i=>exact P5 (hk_v (zfw _ _)) h
 | convert s d x =>
  simp only at hq;simp only [aOp] at h;split at h
  ·split at h
   ·simp only [Option.some.injEq,Prod.mk.injEq] at h; exact h.2.symm
   ·cases h
  ·split at h
   ·rename_i h1 h2;rw [h1,h2] at hq;cases hq
   ·cases h
  ·split at h
   ·rename_i h1 h2;rw [h1,h2] at hq;cases hq
   ·exact fl h
  ·exact fl h
 | _=>cases hq
end Go.Abs
namespace Go.Abs
variable {P:Program} {m:Nat}
theorem zgg {α:Type} {l:List α} {f:α×Nat→Bool} (h:l.zipIdx.all f=true) {i:Nat} {x:α} (hi:l[i]? = some x):f (x,i)=true:=by
 rw [List.all_eq_true] at h;refine h (x,i) ?_;rw [List.mem_iff_getElem?];exact ⟨i,by simp [List.getElem?_zipIdx,hi]⟩
theorem zcs {ops:List Oper} {bs:List Nat} (h:closedOk ops bs=true) {i j:Nat} {o:Oper} (hi:ops[i]? = some o) (hj:j<i) (hp:pre bs i j=true):∃e∈o.after,Region.binds .any e=true∧(e.on=j∨(j<e.on∧pre bs e.on j=true)):=by
 have:=zgg h hi;simp only [List.all_eq_true,List.mem_range] at this;have:=this j hj;rw [hp] at this;simp only [Bool.not_true,Bool.false_or,Array.any_eq_true'] at this;obtain ⟨e,he,hh⟩:=this;simp only [Bool.and_eq_true,Bool.or_eq_true] at hh;refine ⟨e,he,hh.1,hh.2.imp (fun h=>Nat.eq_of_beq_eq_true h) (fun h=>⟨Nat.lt_of_lt_of_le (Nat.lt_succ_self _) (Nat.le_of_ble_eq_true h.1),h.2⟩)⟩
section plan
variable {ne:NE} {ih:Ex} {n:Fr} {ops:Array Oper} {bs:List Nat}
inductive PCase (P:Program) (ne:NE) (ih:Ex) (m:Nat) (n:Fr) (ops:Array Oper) (bs:List Nat) (i:Nat) (o:Oper) (d d':DSt):Prop
 | pass (hw:wantedA ops o d.ss=some false) (hp:putA n d.ss o.dst undef=some d'.ss) (hc:d'.cnt=d.cnt) (hG:d'.G=d.G) (hpe:d'.pend=d.pend) (ha:d'.acts=d.acts) (hgs:d'.gs=d.gs)
   (hpl:d'.pls=⟨.pass,d.ss,d.cnt,undef,d.cnt⟩ :: d.pls)
 | quiet (v:Value) (hw:wantedA ops o d.ss=some true) (hx:o.op.operands.all (okx P)=true) (hq:quiet P o=true) (hp:putA n d.ss o.dst v=some d'.ss) (hc:d'.cnt=d.cnt) (hG:d'.G=d.G) (hpe:d'.pend=d.pend) (ha:d'.acts=d.acts) (hgs:d'.gs=d.gs)
   (hpl:d'.pls=⟨.quiet,d.ss,d.cnt,v,d.cnt⟩ :: d.pls)
 | new (v:Value) (H:AH) (b:Blk) (hw:wantedA ops o d.ss=some true) (hx:o.op.operands.all (okx P)=true) (hr:aOp P m o (evalA d.ss) ⟨d.cnt,.nil⟩=some (v,H)) (hb:H.get d.cnt=some b) (hn:H.next=d.cnt+1)
   (hm:makes o=true) (hp:putA n d.ss o.dst v=some d'.ss) (hc:d'.cnt=d.cnt+1) (hG:d'.G=d.G) (hpe:d'.pend=(i,d.cnt,b) :: d.pend) (ha:d'.acts=d.acts) (hgs:d'.gs=d.gs)
   (hpl:d'.pls=⟨.new b,d.ss,d.cnt,v,d.cnt+1⟩ :: d.pls)
 | act (v:Value) (hw:wantedA ops o d.ss=some true) (hx:o.op.operands.all (okx P)=true) (hch:d.acts.all (pre bs i)=true)
   (hr:runOp P ne ih m o (evalA d.ss) (putAll (d.pend.filter fun p=>pre bs i p.1) { d.G with next:=d.cnt })=some (v,d'.G)) (hle:d.cnt≤d'.G.next)
   (hp:putA n d.ss o.dst v=some d'.ss) (hc:d'.cnt=d'.G.next) (hpe:d'.pend=d.pend.filter fun p=>!pre bs i p.1) (ha:d'.acts=i :: d.acts) (hgs:d'.gs=d'.G :: d.gs)
   (hpl:d'.pls=⟨.act,d.ss,d.cnt,v,d'.G.next⟩ :: d.pls)
end plan
end Go.Abs
namespace Go.Abs
variable {P:Program} {m:Nat}
theorem blt_lt {a b:Nat} (h:Nat.blt a b=true):a<b:=Nat.lt_of_lt_of_le (Nat.lt_succ_self _) (Nat.le_of_ble_eq_true h)
def UnderB (n:Nat) (b:Blk):Prop:=∀φ l w,OR φ l b w→OR (restr φ n) l b w
end Go.Abs
namespace Go.Abs
variable {P:Program} {m:Nat}
def pl (D:Nat→DSt) (i:Nat):Pl:=(D (i+1)).pls.headD ⟨.pass,.nil,0,undef,0⟩
def IsAct (ops:Array Oper) (D:Nat→DSt) (i:Nat):Prop:=i<ops.size∧(pl D i).kind=.act
def IsNew (ops:Array Oper) (D:Nat→DSt) (i:Nat) (b:Blk):Prop:=i<ops.size∧(pl D i).kind=.new b
structure Plan (P:Program) (ne:NE) (ih:Ex) (m:Nat) (n:Fr) (ops:Array Oper) (bs:List Nat) (D:Nat→DSt) (ss0:Sl) (H0:AH):Prop where
 slots:slotsOk ops bs=true
 edges:edgesOk ops.toList=true
 closed:closedOk ops.toList bs=true
 start:D 0=⟨ss0,H0.next,H0,[],[H0],[],[]⟩
 seq:∀i o,ops.toList[i]? = some o→PCase P ne ih m n ops bs i o (D i) (D (i+1))
 steady:∀i o,ops.toList[i]? = some o→steady P ne ih m bs (D ops.size).gs.reverse (D ops.size).acts.reverse i o (pl D i)=true
section
variable {ne:NE} {ih:Ex} {n:Fr} {ops:Array Oper} {bs:List Nat} {D:Nat→DSt} {ss0:Sl} {H0:AH}
theorem op_at {i:Nat} (h:i<ops.size):∃o,ops.toList[i]? = some o∧ops[i]? = some o:=⟨ops[i],by simp [h],by simp [h]⟩
end
end Go.Abs
namespace Go.Abs
variable {P:Program} {m:Nat}
def LL (la:Array Bool) (i:Nat):Prop:=la.getD i false=true
theorem LL_set {la:Array Bool} {i:Nat} (hi:i<la.size) (j:Nat):LL (la.setIfInBounds i true) j↔j=i∨LL la j:=by
 unfold LL;rw [Array.getD_eq_getD_getElem?,Array.getD_eq_getD_getElem?,Array.getElem?_setIfInBounds];by_cases e:i=j
 ·subst e; simp [hi]
 ·rw [if_neg e];constructor
  ·exact .inr
  ·rintro (h | h)
   ·exact absurd h.symm e
   ·exact h
structure JC (ops:Array Oper) (bs:List Nat) (la:Array Bool):Prop where
 size:la.size=ops.size
 closed:∀i j,LL la i→j<i→pre bs i j=true→LL la j
structure Rdy (ops:Array Oper) (bs:List Nat) (la:Array Bool) (i:Nat):Prop where
 lt:i<ops.size
 no:¬LL la i
 all:∀j,j<i→pre bs i j=true→LL la j
theorem rdy_of {ops:Array Oper} {bs:List Nat} {la:Array Bool} (hc:closedOk ops.toList bs=true) (hj:JC ops bs la) {i:Nat} (h:i∈Region.ready .any ops la):Rdy ops bs la i:=by
 unfold Region.ready at h;rw [List.mem_filter,List.mem_range] at h;obtain ⟨hlt,h2⟩:=h;obtain ⟨o,ho,ho'⟩:=op_at hlt;rw [ho'] at h2;simp only [Option.map_some,Option.getD_some,Bool.and_eq_true,Bool.not_eq_true',Array.all_eq_true_iff_forall_mem] at h2;refine ⟨hlt,fun hh=>?_,fun j hji hp=>?_⟩
 ·unfold LL at hh;have h3:=h2.1;rw [Array.getD_eq_getD_getElem?] at h3 hh;have:i<la.size:=by rw [hj.size]; exact hlt
  rw [Array.getElem?_eq_getElem this] at h3 hh;simp only [Option.getD_some] at h3 hh;rw [h3] at hh; cases hh
 ·obtain ⟨e,he,hb,hcase⟩:=zcs hc ho hji hp;have:=h2.2 e he;rw [hb] at this;simp only [Bool.not_true,Bool.false_or] at this;rcases hcase with h | ⟨h,h'⟩
  ·subst h; exact this
  ·exact hj.closed e.on j this h h'
theorem JC.next {ops:Array Oper} {bs:List Nat} {la:Array Bool} (hj:JC ops bs la) {i:Nat} (r:Rdy ops bs la i):JC ops bs (la.setIfInBounds i true):=by
 have hlt:i<la.size:=by rw [hj.size]; exact r.lt
 refine ⟨by simpa using hj.size,fun k j hk hjk hp=>?_⟩;rw [LL_set hlt] at hk ⊢;rcases hk with rfl | hk
 ·exact .inr (r.all j hjk hp)
 ·exact .inr (hj.closed k j hk hjk hp)
section
variable {ne:NE} {ih:Ex} {n:Fr} {ops:Array Oper} {bs:List Nat} {D:Nat→DSt} {ss0:Sl} {H0:AH}
structure JS (ops:Array Oper) (D:Nat→DSt) (n:Fr) (la:Array Bool) (φ:Inj) (a:Act):Prop where
 slot:∀t,∃e,e≤ops.size∧(∀j o,ops.toList[j]? = some o→LL la j→o.dst=some t→j<e)∧(e=0∨∃j o,e=j+1∧ops.toList[j]? = some o∧LL la j∧o.dst=some t) ∧
  VR (restr φ (D e).cnt) (((D e).ss.get t).getD undef) (a.tmps.getD t undef)
 size:n.n≤a.tmps.size
 defers:DR φ n.ds a.defers
end
end Go.Abs
namespace Go.Abs
variable {P:Program} {m:Nat}
def NP (ops:Array Oper) (D:Nat→DSt) (bs:List Nat) (i p:Nat):Prop:=∀a,IsAct ops D a→i<a→a<p→pre bs a i=false
structure JH (m:Nat) (ops:Array Oper) (bs:List Nat) (D:Nat→DSt) (φ0:Inj) (H0:AH) (w0:World) (la:Array Bool) (φ:Inj) (g:Nat→Option Blk) (p:Nat) (w:World):Prop where
 ini:InvG φ0 H0.get H0.next w0
 ple:p≤ops.size
 cut:∀i,IsAct ops D i→(LL la i↔i<p)
 dom:∀id l,φ id=some l→id<H0.next∨∃i,i<ops.size∧LL la i∧(D i).cnt≤id∧id<(D (i+1)).cnt
 inv:InvG φ g (D ops.size).cnt w
 step:StepG m H0.next φ0 H0.get w0 φ g w
 pnd:∀i b,IsNew ops D i b→LL la i→NP ops D bs i p→g (D i).cnt=some b
 rest:∀id,(∀i b,IsNew ops D i b→LL la i→NP ops D bs i p→id≠(D i).cnt)→g id=(D p).G.get id
 fresh:∀i b,IsNew ops D i b→NP ops D bs i p→(D p).G.get (D i).cnt=none
 gids:∀id b,(D p).G.get id=some b→id<(D p).G.next
 undG:∀id b,(D p).G.get id=some b→UnderB (D p).G.next b
 undP:∀i b,IsNew ops D i b→LL la i→UnderB ((D i).cnt+1) b
 excl:∀i b,IsNew ops D i b→LL la i→NP ops D bs i p→∀id2 l l2,id2≠(D i).cnt→(g id2).isSome=true→φ (D i).cnt=some l→φ id2=some l2→l2.blk≠l.blk
section
variable {ne:NE} {ih:Ex} {n:Fr} {ops:Array Oper} {bs:List Nat} {D:Nat→DSt} {ss0:Sl} {H0:AH} {φ0:Inj} {w0:World}
end
end Go.Abs
namespace Go.Abs
variable {P:Program} {m:Nat}
section
variable {ne:NE} {ih:Ex} {n:Fr} {ops:Array Oper} {bs:List Nat} {D:Nat→DSt} {ss0:Sl} {H0:AH} {φ0:Inj} {w0:World}
def Hact (bs:List Nat) (D:Nat→DSt) (i:Nat):AH:=putAll ((D i).pend.filter fun p=>pre bs i p.1) { (D i).G with next:=(D i).cnt }
structure ActIn (ops:Array Oper) (bs:List Nat) (D:Nat→DSt) (la:Array Bool) (p i:Nat):Prop where
 pi:p≤i
 no:∀a,p≤a→a<i→¬IsAct ops D a
 G:(D i).G=(D p).G
 next:(Hact bs D i).next=(D i).cnt
 put:∀j b,IsNew ops D j b→j<i→NP ops D bs j i→pre bs i j=true→(Hact bs D i).get (D j).cnt=some b
 get:∀id,(Hact bs D i).get id=(D p).G.get id∨∃j b,IsNew ops D j b∧j<i∧LL la j∧NP ops D bs j p∧NP ops D bs j i∧pre bs i j=true∧id=(D j).cnt∧(Hact bs D i).get id=some b
end
end Go.Abs
namespace Go.Abs
variable {P:Program} {m:Nat}
theorem zc9 {φ:Inj} {o:Oper} {ρ ρ':Operand→Value} {v:Value} (hρ:∀x∈o.op.operands,VR φ (ρ x) (ρ' x)) (h:tPure P o ρ=some v):∃v',VR φ v v'∧∀w,(execOp ρ' o).run P w=.ok (.value v') w:=by
 obtain ⟨dst,op,ty,pos,after,guard⟩:=o;unfold tPure at h;simp only at h hρ;split at h
 ·rename_i x;cases h;exact ⟨ρ' x,hρ x (by simp [Op.operands]),fun w=>rfl⟩
 ·rename_i x;cases h;exact ⟨ρ' x,hρ x (by simp [Op.operands]),fun w=>rfl⟩
 ·rename_i x;have hx:=hρ x (by simp [Op.operands]);split at h
  ·rename_i a ha;cases h;rw [ha] at hx;refine ⟨ρ' x,hx,fun w=>?_⟩;generalize hq:ρ' x=q at hx;cases hx with
   | ptr b o l hl=>simp only [execOp,hq]; rfl
  ·cases h
 ·rename_i s x f;have hx:=hρ x (by simp [Op.operands]);split at h
  ·rename_i fs a hu ha;rw [ha] at hx;cases hf:fs[f]? with
   | none=>rw [hf] at h; cases h
   | some fd =>
    rw [hf] at h;simp only at h;cases hi:P.info? fd.type with
    | none=>rw [hi] at h; cases h
    | some i =>
     rw [hi] at h;simp only at h;cases hz:Nat.beq i.size 0 with
     | true=>rw [hz] at h; cases h
     | false =>
      rw [hz] at h;simp only [cond_false,Option.some.injEq] at h;subst h;have hne:=Nat.ne_of_beq_eq_false hz;generalize hq:ρ' x=q at hx;cases hx with
      | ptr b o l hl =>
       refine ⟨.pointer (some ⟨l.blk,l.off+(o+fd.offset),none⟩),by rw [Addr.add_lit]; exact .ptr b (o+fd.offset) l hl,fun w=>?_⟩;have hrun:(Instr.fieldAt s (.pointer (some ⟨l.blk,l.off+o,none⟩)) f).run P w=.ok (.pointer (some ⟨l.blk,l.off+(o+fd.offset),none⟩)) w:=by
        simp only [Instr.fieldAt,Sem.run_bind,M1 hu,Result.andThen_ok,hf,Instr.sureAddr,Sem.run_pure,fieldPlace,Z3 hi];rw [if_neg hne];simp only [Sem.run_pure,Result.andThen_ok,Addr.add_lit,Nat.add_assoc]
       simp only [execOp,hq,Sem.run_bind,hrun,Result.andThen_ok];rfl
  ·cases h
 ·rename_i t x y;have hx:=hρ x (by simp [Op.operands]);have hy:=hρ y (by simp [Op.operands]);split at h
  ·rename_i e a n c k i hu ha hk;rw [ha] at hx;rw [hk] at hy;cases hi:P.info? e with
   | none=>rw [hi] at h; cases h
   | some inf =>
    rw [hi] at h;simp only at h;cases hb:Nat.blt i n with
    | false=>rw [hb] at h; cases h
    | true =>
     rw [hb] at h;simp only [cond_true,Option.some.injEq] at h;subst h;have hlt:=blt_lt hb;generalize hq:ρ' x=q at hx;generalize hr:ρ' y=r at hy;cases hy;have key:∀(b o:Nat) (l:Loc) (c':Nat),φ b=some l→a=⟨b,o,none⟩→q=.slice (some ⟨l.blk,l.off+o,none⟩) n c'→∃v',VR φ (.pointer (some (a.add (i*inf.size)))) v'∧∀w,(execOp ρ' { dst:=dst,op:=.indexAddr t x y,type:=ty,pos:=pos,after:=after,guard:=guard }).run P w=.ok (.value v') w:=by
      intro b o l c' hl e1 e2;subst e1 e2;refine ⟨.pointer (some ⟨l.blk,l.off+(o+i*inf.size),none⟩),by rw [Addr.add_lit]; exact .ptr b (o+i*inf.size) l hl,fun w=>?_⟩;have hrun:(Instr.indexAt t (.slice (some ⟨l.blk,l.off+o,none⟩) n c') (.int k (Int.ofNat i))).run P w=.ok (.pointer (some ⟨l.blk,l.off+(o+i*inf.size),none⟩)) w:=by
       simp only [Instr.indexAt,asIntOf,Sem.run_bind,M1 hu,Result.andThen_ok,Sem.run_pure];rw [if_pos ⟨Int.natCast_nonneg i,Int.ofNat_lt.2 hlt⟩];simp only [Sem.run_bind,Z3 hi,Result.andThen_ok,Sem.run_pure,Addr.add_lit,Nat.add_assoc];rfl
      simp only [execOp,hq,hr,Sem.run_bind,hrun,Result.andThen_ok];rfl
     cases hx with
     | slice b o n c l1 hl hc=>exact key b o l1 _ hl rfl rfl
     | sliceOpen b o n c' l1 hl hn hc=>exact key b o l1 _ hl rfl rfl
     | sliceEnd b o l1 a hl=>omega
     | sliceZero b o l1 a hl=>omega
  ·cases h
 ·cases h
theorem zai (a:Addr):∀(l:List Value) (i:Nat) (H:AH),arun P m (Go.storeCells a l i) H=(wrCells m a i l H).map fun H'=>((),H'):=by
 intro l;induction l with
 | nil=>intro i H; rfl
 | cons v l ih =>
  intro i H;unfold Go.storeCells;simp only [bind,Go.store,Sem.bind,arun,wrCells];cases one v with
  | false=>rfl
  | true =>
   simp only [cond_true];cases H.setCell m (a.add i) v with
   | none=>rfl
   | some H1=>exact ih (i+1) H1
theorem zbq {ne:NE} {ih:Ex} {ρ:Operand→Value} {o:Oper} {H H':AH} {t:TypeId} {x y:Operand} {a:Addr} {v:Value} (hop:o.op=.store t x y) (hu:(P.info? t).map (·.size)=some v.cells.size) (hx:ρ x=.pointer (some a)) (hy:ρ y=v) (h:wrCells m a 0 v.cells.toList H=some H') :
  runOp P ne ih m o ρ H=some (undef,H'):=by
 obtain ⟨dst,op,ty,pos,after,guard⟩:=o;simp only at hop;subst hop;cases hi:P.info? t with
 | none=>rw [hi] at hu; cases hu
 | some inf =>
  rw [hi] at hu;simp only [Option.map_some,Option.some.injEq] at hu;simp only [runOp,aOp,execOp,hx,hy,bind];have hS:arun P m (Instr.storeAt t (.pointer (some a)) v) H=some ((),H'):=by
   unfold Instr.storeAt Go.storeVar;simp only [Instr.sureAddr,Go.sizeOf,Go.typeInfo,Go.program,bind,Pure.pure,Sem.bind,arun,hi];rw [if_neg (by rw [hu]; simp),zai,h];rfl
  rw [I2,hS];rfl
theorem zh {ops:Array Oper} {la:Array Bool} {l:List Nat} (h:readyIs ops la l=true):Region.ready .any ops la=l:=by
 unfold readyIs at h;exact eq_of_beq h
end Go.Abs
namespace Go.Abs
variable {P:Program} {m:Nat}
def φg (P:Program):Inj:=fun g=>if g<P.globals.size then some ⟨g,0,0,0⟩ else none
theorem zl1:Glob P (φg P):=fun g hg=>⟨⟨g,0,0,0⟩,by simp [φg,hg],rfl,rfl⟩
theorem ziu {W:World} (h:P.globals.size≤W.heap.size):Inv (φg P) ⟨P.globals.size,.nil⟩ W:=by
 refine ⟨fun id l hl=>?_,fun id b hb=>(by cases hb),fun id id' b b' l l' hb=>(by cases hb)⟩;unfold φg at hl;split at hl
 ·rename_i hlt;cases hl;exact ⟨hlt,Nat.lt_of_lt_of_le hlt h⟩
 ·cases hl
def globalsB (P:Program):Bool:=(List.range P.globals.size).all fun g=>(((begin P (fun _ _=>0) default).world.heap[g]?).bind Obj.row?).isSome
theorem zcr (hB:globalsB P=true) {W:World} (h:W.ShapedOpen P):P.globals.size≤W.heap.size:=by
 unfold globalsB at hB;rw [List.all_eq_true] at hB;apply Classical.byContradiction;intro hlt;have hlt:W.heap.size<P.globals.size:=by omega
 have:=hB W.heap.size (List.mem_range.2 hlt);obtain ⟨⟨z,t⟩,hz⟩:=Option.isSome_iff_exists.1 this;obtain ⟨cs,h1,_⟩:=h.1 W.heap.size z t hlt hz;rw [Array.getElem?_eq_none (Nat.le_refl _)] at h1;cases h1
open Go.ChangeShapes in
theorem zcn {H:Type} {enc:TypeId×Value→H} (hl:laidOutB P=true) {W W':World} (hb:RowKit.Below W.heap.size W W'):∀(ts:List TypeId) (vs:List Value) (ds:List (DataW H)) (ps:List MemPlace),
  (∀t∈ts,P.readableRec t=true∧t<P.types.size)→DataW.TrodAll enc P W 0 (fun _=>true) true ts vs ds ps→(∀x∈ps,x.block<W.heap.size)→DataW.TrodAll enc P W' 0 (fun b=>decide (b<W.heap.size)) true ts vs ds ps:=by
 intro ts;induction ts with
 | nil =>
  intro vs ds ps _ h _;obtain ⟨rfl,rfl,rfl⟩:=trodAll_nil h;exact trodAll_mk0
 | cons t ts ih =>
  intro vs ds ps ht h hlt;obtain ⟨v,vs',d,ds',p,q,rfl,rfl,rfl,h1,h2⟩:=trodAll_cons h;obtain ⟨hr,hs⟩:=ht t (by simp);exact ⟨p,q,RowKit.Below.trod hl hr hs h1 hb (fun x hx=>hlt x (by simp [hx])),ih vs' ds' q (fun t h=>ht t (by simp [h])) h2 (fun x hx=>hlt x (by simp [hx])),rfl⟩
open Go.ChangeShapes in
theorem zjw {H:Type} {enc:TypeId×Value→H} {fn:Func} {s:ChangeSpec} {apart fresh handsOn:Bool} (hl:laidOutB P=true) (hts:∀t∈fn.params.toList,P.readableRec t=true∧t<P.types.size) (hv:s.vars=[])
  {tb:TypeId} (hres:fn.resultTypes=#[tb]) (hbool:P.underlying tb=some .bool) {W W':World} {args:Array Value} {ds gs:List (DataW H)} {before:List MemPlace}
  (hW:DataW.Whole enc P fn.params.toList s.vars apart W args.toList ds gs before) (hs:(s.fn H ds).results=[.lit (.bool true)]∧(s.fn H ds).args=ds∧(s.fn H ds).vars=[]) (hb:RowKit.Below W.heap.size W W') :
  s.post enc P fn apart fresh handsOn false W args (.bool true) W':=by
 have hW':=hW;obtain ⟨p,q,hA,hV,hps,hfz,hnd⟩:=hW;rw [hv] at hV;obtain ⟨rfl,rfl⟩:=trodVars_none hV;have hlt:∀x∈before,x.block<W.heap.size:=fun x hx=>hW'.lt x hx;rw [List.append_nil] at hps;subst hps;refine ⟨ds,[],before,[],before,[],hW',?_,?_,?_,hb.frame _,fun h=>by cases h⟩
 ·rw [List.append_nil,hs.1,hres];exact trodAll_mk1 ⟨1,by simp [DataW.trod,hbool,Value.cells]⟩
 ·rw [List.append_nil,hs.2.1];exact zcn hl hb _ _ _ _ hts hA hlt
 ·rw [List.append_nil,hs.2.2,hv];rfl
end Go.Abs
