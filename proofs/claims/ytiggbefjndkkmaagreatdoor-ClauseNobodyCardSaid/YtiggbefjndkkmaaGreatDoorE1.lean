/- The engine, part 1 of 35: an abstract interpreter of the loaded program. No condition. -/
import GoSem.Dispatch
import GoSem.Machine.Return
import Derived.Control
namespace Go.Abs

/-- A block of the abstract heap: what it holds; whether there may be more room behind it; its elements' size; whether it is read only. -/
structure Blk where
  obj : Obj
  opn : Bool
  esz : Nat
  ro : Bool

inductive Tr (α : Type) where
  | nil
  | node (v : Option α) (l r : Tr α)

def Tr.get {α : Type} : Tr α → Nat → Option α
  | .nil, _ => none
  | .node v l r, i => bif Nat.beq i 0 then v else bif Nat.beq (i % 2) 1 then l.get (i / 2) else r.get (i / 2 - 1)

def Tr.set {α : Type} : Nat → Tr α → Nat → α → Tr α
  | 0, t, _, _ => t
  | n + 1, .nil, i, b =>
    bif Nat.beq i 0 then .node (some b) .nil .nil
    else bif Nat.beq (i % 2) 1 then .node none (Tr.set n .nil (i / 2) b) .nil
    else .node none .nil (Tr.set n .nil (i / 2 - 1) b)
  | n + 1, .node v l r, i, b =>
    bif Nat.beq i 0 then .node (some b) l r
    else bif Nat.beq (i % 2) 1 then .node v (Tr.set n l (i / 2) b) r
    else .node v l (Tr.set n r (i / 2 - 1) b)

structure AH where
  next : Nat
  mem : Tr Blk

def AH.get (H : AH) (i : Nat) : Option Blk := H.mem.get i
def AH.put (H : AH) (i : Nat) (b : Blk) : AH := { H with mem := H.mem.set (i + 1) i b }
def AH.push (H : AH) (b : Blk) : AH := { next := H.next + 1, mem := H.mem.set (H.next + 1) H.next b }

def AH.cell (H : AH) (a : Addr) : Option Value :=
  match H.get a.block, a.spot with
  | some { obj := .cells c _ _, .. }, none => c[a.off]?
  | _, _ => none

def AH.setCell (m : Nat) (H : AH) (a : Addr) (v : Value) : Option AH :=
  match H.get a.block, a.spot with
  | some { obj := .cells c e f, opn, esz, ro := false }, none =>
    bif Nat.ble m a.block && Nat.blt a.off c.size then some (H.put a.block { obj := .cells (c.setIfInBounds a.off v) e f, opn, esz, ro := false }) else none
  | _, _ => none

def one : Value → Bool
  | .agg _ | .tuple _ => false
  | _ => true

/-- Which new objects there are. -/
def blkOf : Obj → Option Blk
  | .cells c e (0, 0) => some { obj := .cells c e (0, 0), opn := false, esz := 0, ro := false }
  | .map es n => some { obj := .map es n, opn := false, esz := 0, ro := false }
  | .stringIter s n => some { obj := .stringIter s n, opn := false, esz := 0, ro := false }
  | .mapIter a b c d => some { obj := .mapIter a b c d, opn := false, esz := 0, ro := false }
  | _ => none

def isRef : Obj → Bool
  | .map .. | .stringIter .. | .mapIter .. => true
  | _ => false

/-- The model's own text over the abstract heap. -/
def arun {α : Type} (P : Program) (m : Nat) : Sem α → AH → Option (α × AH)
  | .pure a, H => some (a, H)
  | .load _ a k, H => match H.cell a with
    | some v => arun P m (k v) H
    | none => none
  | .store _ a v k, H => bif one v then (match H.setCell m a v with | some H' => arun P m k H' | none => none) else none
  | .new o k, H => match blkOf o with
    | some b => arun P m (k H.next) (H.push b)
    | none => none
  | .getObj r k, H => match H.get r with
    | some b => bif isRef b.obj then arun P m (k b.obj) H else none
    | none => none
  | .setObj r o k, H => match H.get r with
    | some b => bif Nat.ble m r && isRef b.obj && isRef o && !b.ro then arun P m k (H.put r { b with obj := o }) else none
    | none => none
  | .program k, H => arun P m (k P) H
  | .mark _ k, H => arun P m k H
  | .choose q k, H => bif q.forced then arun P m (k 0) H else none
  | _, _ => none

/-- What touches no memory. -/
def peval {α : Type} (P : Program) : Sem α → Option α
  | .pure a => some a
  | .program k => peval P (k P)
  | .mark _ k => peval P k
  | _ => none

/-- No address in it. -/
def flat : Nat → Value → Bool
  | _, .complex .. => false      -- it stands for any value
  | _, .bool _ | _, .int .. | _, .float .. | _, .string _ | _, .nilFunc | _, .nilIface => true
  | _, .pointer a => a.isNone
  | _, .slice a _ _ => a.isNone
  | _, .map r => r.isNone
  | _, .chan r => r.isNone
  | n + 1, .func _ f c => f.all (flat n) && c.all (flat n)
  | n + 1, .iface _ v => flat n v
  | n + 1, .agg cs => cs.all (flat n)
  | n + 1, .tuple cs => cs.all (flat n)
  | 0, _ => false

def depth : Nat := 8

def OPEN : Nat := 9223372036854775808

def asVal (H : AH) : Option Next → Option (Value × AH)
  | some (.value v) => bif flat depth v then some (v, H) else none
  | some .skip => some (undef, H)
  | _ => none

def asNext : Option (Next × AH) → Option (Value × AH)
  | some (.value v, H) => some (v, H)
  | some (.skip, H) => some (undef, H)
  | _ => none

/-- A bound: an int from 0 to y. -/
def bnd (y dflt : Nat) : Option Value → Option Nat
  | none => some dflt
  | some (.int _ (.ofNat n)) => bif Nat.ble n y then some n else none
  | _ => none

def abounds (len cap : Nat) (lo hi mx : Option Value) : Option (Nat × Nat × Nat) :=
  match bnd cap cap mx with
  | some k => bif mx.isSome && hi.isNone then none else match bnd k len hi with
    | some h => match bnd h 0 lo with
      | some l => some (l, h, k)
      | none => none
    | none => none
  | none => none

def isCells : Obj → Bool
  | .cells .. => true
  | _ => false

/-- A cut of a slice that has an address. -/
def aSlice (P : Program) (t : TypeId) (a : Addr) (len cap : Nat) (lo hi mx : Option Value) (H : AH) : Option Value :=
  match P.underlying t with
  | some (.slice elem) => match P.info? elem with
    | some i =>
      bif Nat.beq cap OPEN then
        match abounds len len lo hi mx with
        | some (l, h, k) =>
          match mx with
          | some _ => bif Nat.blt k OPEN then some (.slice (if k = l then some a else some (a.add (l * i.size))) (h - l) (k - l)) else none
          | none => match H.get a.block with
            | some b => bif b.opn && Nat.beq b.esz i.size && isCells b.obj then some (.slice (some (a.add (l * i.size))) (h - l) OPEN) else none
            | none => none
        | none => none
      else
        match abounds len cap lo hi mx with
        | some (l, h, k) => bif Nat.blt k OPEN && Nat.ble h k then some (.slice (if k = l then some a else some (a.add (l * i.size))) (h - l) (k - l)) else none
        | none => none
    | none => none
  | _ => none

def rdCells (H : AH) (a : Addr) : Nat → Nat → Option (List Value)
  | _, 0 => some []
  | i, n + 1 => match H.cell (a.add i), rdCells H a (i + 1) n with
    | some v, some l => some (v :: l)
    | _, _ => none

def wrCells (m : Nat) (a : Addr) : Nat → List Value → AH → Option AH
  | _, [], H => some H
  | i, v :: l, H => bif one v then (match H.setCell m (a.add i) v with | some H' => wrCells m a (i + 1) l H' | none => none) else none

def grown (H : AH) (e size bytes need : Nat) (cs : List Value) : Option (Value × AH) :=
  bif Nat.ble ((2 * need + 1000) * bytes) 281474976710656 && Nat.ble need 281474976710656 then
    some (.slice (some ⟨H.next, 0, none⟩) need OPEN, H.push { obj := .cells cs.toArray e (0, 0), opn := true, esz := size, ro := false })
  else none

def dead : Blk := { obj := .deferred none, opn := false, esz := 0, ro := true }

def isInt : TypeDesc → Bool
  | .int _ => true
  | _ => false

def zflat (P : Program) (t : TypeId) : Bool :=
  match P.info? t with
  | some i => match i.zero with
    | some z => flat depth z
    | none => true
  | none => true

def zelem (P : Program) (t : TypeId) : Bool :=
  match P.underlying t with
  | some (.slice e) => zflat P e
  | some (.map _ e) => zflat P e
  | _ => true

def zsize (i : TypeInfo) : Bool :=
  match i.zero with
  | some z => Nat.beq z.cells.size i.size
  | none => false

/-- The elements that are appended: how many, and their cells. -/
def aSrc (P : Program) (xt e : TypeId) (i : TypeInfo) (x : Value) (H : AH) : Option (Nat × List Value) :=
  match P.underlying xt, x with
  | some (.slice _), .slice (some b) n _ => match rdCells H b 0 (n * i.size) with
    | some l => bif l.all one then some (n, l) else none
    | none => none
  | some (.slice _), .slice none n _ => bif Nat.beq n 0 then some (0, []) else none
  | some .string, .string s => bif Nat.beq i.size 1 then some (s.size, s.data.toList.map fun b => .int .u8 b.toNat) else none
  | some (.int _), .int _ (.ofNat n) => bif Nat.ble (n * i.bytes) 281474976710656 && zflat P e && Nat.ble 1 i.bytes then
      match i.zero with
      | some z => bif Nat.beq z.cells.size i.size then some (n, (Builtin.zeroCells z.cells n).toList) else none
      | none => none
    else none
  | _, _ => none

def aAppend (P : Program) (m : Nat) (ts : Array TypeId) (args : Array Value) (H : AH) : Option (Value × AH) :=
  match ts.toList, args.toList with
  | [st, xt], [.slice base n cap, x] =>
    match P.underlying st with
    | some (.slice e) => match P.info? e with
      | some i => match aSrc P xt e i x H with
        | some (k, new) =>
          bif Nat.beq i.size 0 || !zsize i then none else
          bif Nat.beq k 0 then (bif Nat.ble n cap then some (.slice base n cap, H) else none) else
          match base with
          | none => bif Nat.beq n 0 && Nat.beq cap 0 then grown H e i.size i.bytes k new else none
          | some a => match rdCells H a 0 (n * i.size) with
            | none => none
            | some old =>
              bif Nat.beq cap OPEN then
                match H.get a.block with
                | some { obj := .cells _ e' _, opn := true, esz, ro := false } =>
                  bif Nat.ble m a.block && Nat.beq esz i.size && Nat.beq e e' && new.all one then
                    grown (H.put a.block dead) e i.size i.bytes (n + k) (old ++ new)
                  else none
                | _ => none
              else bif Nat.ble (n + k) cap then
                match wrCells m (a.add (n * i.size)) 0 new H with
                | some H' => some (.slice base (n + k) cap, H')
                | none => none
              else bif Nat.ble n cap then grown H e i.size i.bytes (n + k) (old ++ new) else none
        | none => none
      | none => none
    | _ => none
  | _, _ => none

/-! Maps: keys without addresses. -/

def aEntries (H : AH) : Value → Option (Array MapEntry)
  | .map none => some #[]
  | .map (some r) => match H.get r with
    | some { obj := .map es _, .. } => some es
    | _ => none
  | _ => none

def aAsk (P : Program) (kt : TypeId) (k : Value) : List MapEntry → Nat → Option (Option (Nat × Value))
  | [], _ => some none
  | e :: es, i => match peval P (Op.equal kt k e.key) with
    | some true => some (some (i, e.val))
    | some false => aAsk P kt k es (i + 1)
    | none => none

def aFind (P : Program) (kt : TypeId) (k : Value) (es : List MapEntry) : Option (Option (Nat × Value)) :=
  match P.underlying kt with
  | some d => match Instr.findNow d k es 0 with
    | some r => some r
    | none => aAsk P kt k es 0
  | none => none

def aLookup (P : Program) (t : TypeId) (x k : Value) (ok : Bool) (H : AH) : Option Value :=
  match P.underlying t with
  | some (.map kt e) => match aEntries H x with
    | some es => match peval P (Instr.checkKey es.isEmpty 10000 kt k), aFind P kt k es.toList with
      | some _, some (some (_, v)) => some (bif ok then .tuple #[v, .bool true] else v)
      | some _, some none => match (P.info? e).bind (·.zero) with
        | some z => bif flat depth z then some (bif ok then .tuple #[z, .bool false] else z) else none
        | none => none
      | _, _ => none
    | none => none
  | _ => none

/-- The map's own block, to be written. -/
def aMapAt (m : Nat) (H : AH) : Value → Option (Nat × Blk × Array MapEntry × Nat)
  | .map (some r) => match H.get r with
    | some { obj := .map es n, opn, esz, ro := false } => bif Nat.ble m r then some (r, { obj := .map es n, opn, esz, ro := false }, es, n) else none
    | _ => none
  | _ => none

def aUpdate (P : Program) (m : Nat) (t : TypeId) (x k v : Value) (H : AH) : Option (Value × AH) :=
  match P.underlying t with
  | some (.map kt _) => match aMapAt m H x with
    | some (r, b, es, n) => match peval P (Instr.checkKey false 10000 kt k), aFind P kt k es.toList with
      | some _, some (some (i, _)) =>
        bif Instr.sameBits 10000 (((es[i]?).map (·.key)).getD k) k then
          some (undef, H.put r { b with obj := .map (es.modify i fun e => { e with key := k, val := v }) n })
        else none
      | some _, some none => some (undef, H.put r { b with obj := .map (es.push { key := k, val := v, born := n }) (n + 1) })
      | _, _ => none
    | none => none
  | _ => none

def aEntry (P : Program) (m : Nat) (t : TypeId) (x k : Value) (H : AH) : Option (Value × AH) :=
  match P.underlying t with
  | some (.map kt e) => match aMapAt m H x with
    | some (r, b, es, n) => match peval P (Instr.checkKey false 10000 kt k), aFind P kt k es.toList with
      | some _, some (some (i, v)) =>
        bif Instr.sameBits 10000 (((es[i]?).map (·.key)).getD k) k then
          some (.tuple #[v, goInt (((es[i]?).map (·.born)).getD 0)], H.put r { b with obj := .map (es.modify i fun e => { e with key := k }) n })
        else none
      | some _, some none => match (P.info? e).bind (·.zero) with
        | some z => bif flat depth z then some (.tuple #[z, goInt n], H.put r { b with obj := .map (es.push { key := k, val := z, born := n }) (n + 1) }) else none
        | none => none
      | _, _ => none
    | none => none
  | _ => none

def aDelete (P : Program) (m : Nat) (ts : Array TypeId) (args : List Value) (H : AH) : Option (Value × AH) :=
  match ts[0]?, args with
  | some t, [x, k] => bif flat depth k then
    match P.underlying t with
    | some (.map kt _) => match x with
      | .map none => match peval P (Instr.checkKey true 10000 kt k) with
        | some _ => some (.tuple #[], H)
        | none => none
      | _ => match aMapAt m H x with
        | some (r, b, es, n) => match peval P (Instr.checkKey es.isEmpty 10000 kt k), aFind P kt k es.toList with
          | some _, some (some (i, _)) => some (.tuple #[], H.put r { b with obj := .map (es.eraseIdxIfInBounds i) n })
          | some _, some none => some (.tuple #[], H)
          | _, _ => none
        | none => none
    | _ => none
    else none
  | _, _ => none

def flatRun (P : Program) (o : Oper) (ρ : Operand → Value) (H : AH) : Option (Value × AH) :=
  match o.op with
  | .select .. => none
  | _ => bif o.op.operands.all (fun x => flat depth (ρ x)) then asVal H (peval P (execOp ρ o)) else none

/-- '==' where an address stands. -/
def aEqV (P : Program) (t : TypeId) (x y : Value) : Option Bool :=
  match P.underlying t, x, y with
  | some (.pointer _), .pointer none, .pointer (some _) => some false
  | some (.pointer _), .pointer (some _), .pointer none => some false
  | some (.pointer e), .pointer (some ⟨b, o, none⟩), .pointer (some ⟨b', o', none⟩) => match P.info? e with
    | some i => bif Nat.beq b b' && !Nat.beq i.size 0 then some (Nat.beq o o') else none
    | none => none
  | some (.slice _), .slice none _ _, .slice (some _) _ _ => some false
  | some (.slice _), .slice (some _) _ _, .slice none _ _ => some false
  | some (.map ..), .map none, .map (some _) => some false
  | some (.map ..), .map (some _), .map none => some false
  | some (.func ..), .nilFunc, .func .. => some false
  | some (.func ..), .func .., .nilFunc => some false
  | some (.interface _), .nilIface, .iface .. => some false
  | some (.interface _), .iface .., .nilIface => some false
  | _, _, _ => none

def aEq (P : Program) (op : BinOp) (t : TypeId) (x y : Value) : Option Value :=
  match op with
  | .eql => match aEqV P t x y with
    | some b => some (.bool b)
    | none => none
  | .neq => match aEqV P t x y with
    | some b => some (.bool !b)
    | none => none
  | _ => none

/-- A pointer made an unsafe one, and back. -/
def aConvPtr (P : Program) (src dst : TypeId) (x : Value) (H : AH) : Option Value :=
  match x with
  | .pointer (some ⟨b, off, none⟩) => match H.get b with
    | some { obj := .cells c e _, opn := false, ro := false, .. } =>
      match P.underlying src, P.underlying dst with
      | some (.pointer t), some .unsafePointer => match P.info? t with
        | some i => bif Nat.blt off c.size && !Nat.beq i.size 0 then some x else none
        | none => none
      | some .unsafePointer, some (.pointer u) => match P.info? u with
        | some i => bif !Nat.beq i.size 0 && liesAt P P.depth e (c.size / P.cellsOf e) off u 1 then some x else none
        | none => none
      | _, _ => none
    | _ => none
  | _ => none

def rdBytes (H : AH) (a : Addr) : Nat → Nat → Option (List UInt8)
  | _, 0 => some []
  | i, n + 1 => match H.cell (a.add i), rdBytes H a (i + 1) n with
    | some (.int .u8 b), some l => some (b.toNat.toUInt8 :: l)
    | _, _ => none

def aUnsafeString (P : Program) (m : Nat) (ts : Array TypeId) (args : List Value) (H : AH) : Option (Value × AH) :=
  match args, ts[0]? with
  | [.pointer none, .int _ (.ofNat 0)], some _ => some (.string .empty, H)
  | [.pointer (some a), .int _ (.ofNat n)], some pt =>
    bif Nat.beq n 0 then some (.string .empty, H) else
    match H.get a.block, a.spot, P.underlying pt with
    | some { obj := .cells c e f, opn, esz, ro := _ }, none, some (.pointer u) =>
      bif Nat.ble m a.block && Nat.ble (a.off + n) c.size && Nat.beq e u && Nat.beq (P.cellsOf e) 1 && Nat.ble n 9223372036854775807 then
        match rdBytes H a 0 n with
        | some l => some (.string ⟨l.toArray⟩, H.put a.block { obj := .cells c e f, opn, esz, ro := true })
        | none => none
      else none
    | _, _, _ => none
  | _, _ => none

/-- An operation that enters no function. -/
def aOp (P : Program) (m : Nat) (o : Oper) (ρ : Operand → Value) (H : AH) : Option (Value × AH) :=
  match o.op with
  | .move x | .assign x => some (ρ x, H)
  | .pick c a b => match ρ c with
    | .bool t => some (bif t then ρ a else ρ b, H)
    | _ => none
  | .slice t x lo hi mx => match ρ x with
    | .slice (some a) len cap => match aSlice P t a len cap (lo.map ρ) (hi.map ρ) (mx.map ρ) H with
      | some v => some (v, H)
      | none => none
    | _ => flatRun P o ρ H
  | .binOp op t x y _ => match aEq P op t (ρ x) (ρ y) with
    | some v => some (v, H)
    | none => flatRun P o ρ H
  | .convert src dst x => match ρ x with
    | .pointer (some _) => match aConvPtr P src dst (ρ x) H with
      | some v => some (v, H)
      | none => none
    | .slice (some a) n _ => match P.underlying src, P.underlying dst with
      | some (.slice e), some .string => match P.underlying e, rdBytes H a 0 n with
        | some (.int .u8), some l => some (.string ⟨l.toArray⟩, H)
        | _, _ => none
      | _, _ => none
    | .string s => match P.underlying src, P.underlying dst with
      | some .string, some (.slice e) => match P.underlying e, P.info? e with
        | some (.int .u8), some i => bif Nat.beq i.size 1 then
            some (.slice (some ⟨H.next, 0, none⟩) s.size OPEN, H.push { obj := .cells (s.data.map fun b => .int .u8 b.toNat) e (0, 0), opn := true, esz := 1, ro := false })
          else none
        | _, _ => none
      | _, _ => flatRun P o ρ H
    | _ => flatRun P o ρ H
  | .alloc e => bif zflat P e then asNext (arun P m (execOp ρ o) H) else none
  | .build t _ => bif zflat P t then asNext (arun P m (execOp ρ o) H) else none
  | .buildSlice t n _ => bif zelem P t && Nat.blt n OPEN then asNext (arun P m (execOp ρ o) H) else none
  | .makeSlice t _ _ => bif zelem P t then asNext (arun P m (execOp ρ o) H) else none
  | .lookup t x k ok => bif flat depth (ρ k) then (match aLookup P t (ρ x) (ρ k) ok H with | some v => some (v, H) | none => none) else none
  | .mapUpdate t x k v | .insert t x k v => bif flat depth (ρ k) then aUpdate P m t (ρ x) (ρ k) (ρ v) H else none
  | .mapEntry t x k => bif flat depth (ρ k) then aEntry P m t (ρ x) (ρ k) H else none
  | .nilCheck x => match ρ x with
    | .pointer (some _) | .func (.func _) .. => some (ρ x, H)
    | _ => none
  | .box .. | .load .. | .store .. | .makeInterface .. | .makeFunc .. | .makeMap ..
  | .fieldAddr .. | .field .. | .indexAddr .. | .index .. | .entryStore .. | .range .. | .next .. | .entry .. | .extract .. => asNext (arun P m (execOp ρ o) H)
  | _ => flatRun P o ρ H

/-- A frame's slots. -/
abbrev Sl := Tr Value

def ofArgs : Nat → List Value → Sl → Sl
  | _, [], t => t
  | i, v :: l, t => ofArgs (i + 1) l (t.set (i + 1) i v)

def evalA (ss : Sl) : Operand → Value
  | .tmp t => (ss.get t).getD undef
  | .const v => v
  | .global g => .pointer (some ⟨g, 0, none⟩)
  | .func f => .func (.func f) #[] #[]

def putA (n : Nat) (ss : Sl) (d : Option Tmp) (v : Value) : Option Sl :=
  match d with
  | some d => bif Nat.blt d n then some (ss.set (d + 1) d v) else none
  | none => some ss

inductive AExit where
  | normal
  | exit (id : Nat)
  | goto (l : Nat)
  | ret

structure ASt where
  ss : Sl
  n : Nat
  H : AH

abbrev Ex := Nat → Code → ASt → Option (AExit × ASt)

def isAggD : TypeDesc → Bool
  | .struct _ | .array .. => true
  | _ => false

/-- A variable's value, read. -/
def aLoad (P : Program) (t : TypeId) (q : Addr) (H : AH) : Option Value :=
  match P.underlying t, P.info? t with
  | some d, some i => bif isAggD d then (match rdCells H q 0 i.size with | some l => some (.agg l.toArray) | none => none) else H.cell q
  | _, _ => none

def resultsA (P : Program) (st : ASt) : List ResultVar → Option (List Value)
  | [] => some []
  | .tmp t :: l => match resultsA P st l with
    | some vs => some (evalA st.ss (.tmp t) :: vs)
    | none => none
  | .cell a t :: l => match evalA st.ss (.tmp a), resultsA P st l with
    | .pointer (some p), some vs => match aLoad P t p st.H with
      | some v => some (v :: vs)
      | none => none
    | _, _ => none

def resultA (P : Program) (fn : Func) (st : ASt) : Option (Value × AH) :=
  match resultsA P st fn.results.toList with
  | some [v] => some (v, st.H)
  | some l => some (.tuple l.toArray, st.H)
  | none => none

def acallFn (P : Program) (ne : Nat) (ih : Ex) (m : Nat) (f : FuncId) (args : Array Value) (H : AH) : Option (Value × AH) :=
  match P.funcs[f]? with
  | some fn => match fn.body with
    | some c => match ih m c ⟨ofArgs 0 args.toList .nil, fn.ntmps, H⟩ with
      | some (.normal, st) => resultA P fn st
      | some (.ret, st) => resultA P fn st
      | _ => none
    | none => bif args.all (flat depth) then asVal H (peval P (callFunc f args)) else
        match args.toList with
        | [x] => bif Nat.beq f ne then some (x, H) else none
        | _ => none
  | none => none

def runOp (P : Program) (ne : Nat) (ih : Ex) (m : Nat) (o : Oper) (ρ : Operand → Value) (H : AH) : Option (Value × AH) :=
  match o.op with
  | .call { callee := .value g, args, .. } => match ρ g with
    | .func (.func f) first captured => acallFn P ne ih m f (first ++ args.map ρ ++ captured) H
    | _ => none
  | .call { callee := .builtin b, args, argTypes } => match b with
    | .append => aAppend P m argTypes (args.map ρ) H
    | .len => match (argTypes[0]?).bind P.underlying, (args.map ρ).toList with
      | some (.slice _), [.slice _ n _] => some (goInt n, H)
      | some (.map ..), [.map (some r)] => match H.get r with
        | some { obj := .map es _, .. } => some (goInt es.size, H)
        | _ => none
      | _, _ => flatRun P o ρ H
    | .copy => match (args.map ρ).toList with
      | [_, _] => asNext (arun P m (execOp ρ o) H)
      | _ => none
    | .delete => aDelete P m argTypes (args.map ρ).toList H
    | .unsafeSliceData => match (args.map ρ).toList with
      | [.slice (some a) n c] => bif Nat.beq n 0 || Nat.beq c 0 then none else some (.pointer (some a), H)
      | _ => flatRun P o ρ H
    | .unsafeString => aUnsafeString P m argTypes (args.map ρ).toList H
    | _ => flatRun P o ρ H
  | .call _ => none
  | _ => aOp P m o ρ H

def wantedA (ops : Array Oper) (o : Oper) (ss : Sl) : Option Bool :=
  match o.guard with
  | none => some true
  | some (j, want) => match (ops[j]?).bind (·.dst) with
    | some d => match ss.get d with
      | some (.bool b) => some (b == want)
      | some (.tuple _) => some false
      | _ => none
    | none => none

def okx (P : Program) : Operand → Bool
  | .const v => flat depth v
  | .global g => Nat.blt g P.globals.size
  | _ => true

/-- One operation of a region, run or passed over. -/
def stepOp (P : Program) (ne : Nat) (ih : Ex) (m : Nat) (ops : Array Oper) (o : Oper) (st : ASt) : Option ASt :=
  match wantedA ops o st.ss with
  | some true =>
    match (bif o.op.operands.all (okx P) then runOp P ne ih m o (evalA st.ss) st.H else none) with
    | some (v, H) => match putA st.n st.ss o.dst v with
      | some ss => some ⟨ss, st.n, H⟩
      | none => none
    | none => none
  | some false => match putA st.n st.ss o.dst undef with
    | some ss => some ⟨ss, st.n, st.H⟩
    | none => none
  | none => none

def runOps (P : Program) (ne : Nat) (ih : Ex) (m : Nat) (ops : Array Oper) : List Oper → ASt → Option ASt
  | [], st => some st
  | o :: rest, st => match stepOp P ne ih m ops o st with
    | some st => runOps P ne ih m ops rest st
    | none => none

/-! ### A region whose order is drawn -/

/-- Which operations must have run ahead of which: one number each, a bit an operation. -/
def befores (ops : List Oper) : List Nat := (Region.before ops.toArray).toList

def pre (bs : List Nat) (i j : Nat) : Bool := (bs.getD i 0).testBit j

def tmpsOf (o : Oper) : List Nat := o.op.operands.toList.filterMap fun | .tmp t => some t | _ => none

def namesOf (ops : Array Oper) (o : Oper) : List Nat :=
  o.dst.toList ++ tmpsOf o ++ (match o.guard with | some (j, _) => ((ops[j]?).bind (·.dst)).toList | none => [])

/-- Two operations that name one slot that one of them writes run in the text's order. -/
def slotsOk (ops : Array Oper) (bs : List Nat) : Bool :=
  (ops.toList.zipIdx).all fun (o, j) => (ops.toList.zipIdx).all fun (p, i) =>
    !(Nat.blt i j) || pre bs j i || !((p.dst.toList.any fun t => (namesOf ops o).contains t) || (o.dst.toList.any fun t => (namesOf ops p).contains t))

def edgesOk (ops : List Oper) : Bool :=
  (ops.zipIdx).all fun (o, i) => o.after.all fun e => !Region.binds .any e || Nat.blt e.on i

/-- What must have run ahead stands so in the edges. -/
def closedOk (ops : List Oper) (bs : List Nat) : Bool :=
  (ops.zipIdx).all fun (o, i) => (List.range i).all fun j => !pre bs i j || o.after.any fun e => Region.binds .any e && (Nat.beq e.on j || (Nat.blt j e.on && pre bs e.on j))

/-- Operations that change no memory. -/
def quiet (o : Oper) : Bool :=
  match o.op with
  | .move _ | .assign _ | .pick .. | .slice .. | .binOp .. | .unOp .. | .build .. | .nilCheck _ | .makeInterface .. | .makeFunc .. | .fieldAddr .. | .field .. | .indexAddr .. | .index ..
  | .load .. | .lookup .. | .extract .. | .typeAssert .. => true
  | .call { callee := .builtin b, .. } => match b with
    | .len | .cap | .min | .max | .unsafeSliceData => true
    | _ => false
  | _ => false

/-- Operations that make one new block of what they are given. -/
def makes (o : Oper) : Bool :=
  match o.op with
  | .alloc _ | .box .. | .buildSlice .. | .makeSlice .. | .makeMap .. => true
  | _ => false

inductive Kind where
  | quiet
  | new (b : Blk)
  | act
  | pass

/-- What an operation of a drawn region does, in the text's order. -/
structure Pl where
  kind : Kind
  ss : Sl
  cnt : Nat
  val : Value
  nxt : Nat

def putAll : List (Nat × Nat × Blk) → AH → AH
  | [], H => H
  | (_, id, b) :: l, H => putAll l (H.put id b)

structure DSt where
  ss : Sl
  cnt : Nat
  G : AH
  pend : List (Nat × Nat × Blk)
  gs : List AH       -- the heaps so far, the newest first (G among them)
  acts : List Nat    -- the operations that acted, the newest first
  pls : List Pl      -- the newest first

def planOp (P : Program) (ne : Nat) (ih : Ex) (m n : Nat) (ops : Array Oper) (bs : List Nat) (i : Nat) (o : Oper) (d : DSt) : Option DSt :=
  match wantedA ops o d.ss with
  | some false => match putA n d.ss o.dst undef with
    | some ss => some { d with ss, pls := ⟨.pass, d.ss, d.cnt, undef, d.cnt⟩ :: d.pls }
    | none => none
  | some true =>
    bif o.op.operands.all (okx P) then
      bif quiet o then
        match runOp P ne ih m o (evalA d.ss) { d.G with next := d.cnt } with
        | some (v, _) => match putA n d.ss o.dst v with
          | some ss => some { d with ss, pls := ⟨.quiet, d.ss, d.cnt, v, d.cnt⟩ :: d.pls }
          | none => none
        | none => none
      else bif makes o then
        match aOp P m o (evalA d.ss) ⟨d.cnt, .nil⟩ with
        | some (v, H) => match H.get d.cnt with
          | some b => bif Nat.beq H.next (d.cnt + 1) then
              match putA n d.ss o.dst v with
              | some ss => some { d with ss, cnt := d.cnt + 1, pend := (i, d.cnt, b) :: d.pend, pls := ⟨.new b, d.ss, d.cnt, v, d.cnt + 1⟩ :: d.pls }
              | none => none
            else none
          | none => none
        | none => none
      else bif d.acts.all (pre bs i) then
        match runOp P ne ih m o (evalA d.ss) (putAll (d.pend.filter fun p => pre bs i p.1) { d.G with next := d.cnt }) with
        | some (v, G) => bif Nat.ble d.cnt G.next then
            match putA n d.ss o.dst v with
            | some ss => some { ss, cnt := G.next, G, pend := d.pend.filter fun p => !pre bs i p.1, gs := G :: d.gs, acts := i :: d.acts, pls := ⟨.act, d.ss, d.cnt, v, G.next⟩ :: d.pls }
            | none => none
          else none
        | none => none
      else none
    else none
  | none => none

def planOps (P : Program) (ne : Nat) (ih : Ex) (m n : Nat) (ops : Array Oper) (bs : List Nat) : Nat → List Oper → DSt → Option DSt
  | _, [], d => some d
  | i, o :: l, d => match planOp P ne ih m n ops bs i o d with
    | some d => planOps P ne ih m n ops bs (i + 1) l d
    | none => none

def veq : Nat → Value → Value → Bool
  | _, .bool a, .bool b => a == b
  | _, .int j a, .int k b => j == k && a == b
  | _, .string a, .string b => a.data.toList == b.data.toList
  | _, .complex j a b, .complex k c d => j == k && Nat.beq a c && Nat.beq b d
  | _, .pointer a, .pointer b => a == b
  | _, .slice a n c, .slice b n' c' => a == b && Nat.beq n n' && Nat.beq c c'
  | _, .map a, .map b => a == b
  | _, .nilFunc, .nilFunc => true
  | _, .nilIface, .nilIface => true
  | n + 1, .iface t v, .iface u w => Nat.beq t u && veq n v w
  | n + 1, .agg a, .agg b => Nat.beq a.size b.size && (a.toList.zip b.toList).all fun (x, y) => veq n x y
  | n + 1, .tuple a, .tuple b => Nat.beq a.size b.size && (a.toList.zip b.toList).all fun (x, y) => veq n x y
  | n + 1, .func f a c, .func g b d => f == g && Nat.beq a.size b.size && ((a.toList.zip b.toList).all fun (x, y) => veq n x y) && Nat.beq c.size d.size && (c.toList.zip d.toList).all fun (x, y) => veq n x y
  | _, _, _ => false

/-- It points below c alone. -/
def unders (c : Nat) : Nat → Value → Bool
  | _, .bool _ | _, .int .. | _, .float .. | _, .complex .. | _, .string _ | _, .nilFunc | _, .nilIface => true
  | _, .pointer a => match a with | some a => Nat.blt a.block c | none => true
  | _, .slice a _ _ => match a with | some a => Nat.blt a.block c | none => true
  | _, .map r => match r with | some r => Nat.blt r c | none => true
  | _, .chan r => r.isNone
  | n + 1, .func _ f g => f.all (unders c n) && g.all (unders c n)
  | n + 1, .iface _ v => unders c n v
  | n + 1, .agg cs => cs.all (unders c n)
  | n + 1, .tuple cs => cs.all (unders c n)
  | 0, _ => false

/-- May this operation run when just the first j of the acting ones have run? -/
def fits (bs : List Nat) (acts : List Nat) (i j : Nat) : Bool :=
  (acts.take j).all (fun a => !(Nat.blt i a && pre bs a i)) && (acts.drop j).all (fun a => !(Nat.blt a i && pre bs i a))

/-- What reads, reads the same whenever it may run. -/
def steady (P : Program) (ne : Nat) (ih : Ex) (m : Nat) (bs : List Nat) (gs : List AH) (acts : List Nat) (i : Nat) (o : Oper) (pl : Pl) : Bool :=
  match pl.kind with
  | .quiet => unders pl.cnt depth pl.val && (gs.zipIdx).all fun (G, j) => !fits bs acts i j ||
      (match runOp P ne ih m o (evalA pl.ss) { G with next := max pl.cnt G.next } with
       | some (v, _) => veq depth v pl.val
       | none => false)
  | _ => true

def steadyAll (P : Program) (ne : Nat) (ih : Ex) (m : Nat) (bs : List Nat) (gs : List AH) (acts : List Nat) : Nat → List Oper → List Pl → Bool
  | _, [], [] => true
  | i, o :: l, p :: k => steady P ne ih m bs gs acts i o p && steadyAll P ne ih m bs gs acts (i + 1) l k
  | _, _, _ => false

def drawnA (P : Program) (ne : Nat) (ih : Ex) (m : Nat) (ops : Array Oper) (st : ASt) : Option ASt :=
  let bs := befores ops.toList
  bif slotsOk ops bs && edgesOk ops.toList && closedOk ops.toList bs then
    match planOps P ne ih m st.n ops bs 0 ops.toList ⟨st.ss, st.H.next, st.H, [], [st.H], [], []⟩ with
    | some d =>
      bif steadyAll P ne ih m bs d.gs.reverse d.acts.reverse 0 ops.toList d.pls.reverse then
        some ⟨d.ss, st.n, putAll d.pend { d.G with next := d.cnt }⟩
      else none
    | none => none
  else none

/-- A scope's body, from some place in it on: a jump to one of its labels goes on there. -/
def inScopeA (ih : Ex) (m : Nat) (body : Code) : Nat → Code → ASt → Option (AExit × ASt)
  | 0, _, _ => none
  | k + 1, now, st => match ih m now st with
    | some (.goto l, st) => match findLabel body l with
      | some rest => inScopeA ih m body k rest st
      | none => some (.goto l, st)
    | r => r

def execStep (P : Program) (ne : Nat) (ih : Ex) : Ex := fun m c st =>
  match c with
  | .skip | .label _ => some (.normal, st)
  | .ret => some (.ret, st)
  | .exit id => some (.exit id, st)
  | .seq a b => match ih m a st with
    | some (.normal, st) => ih m b st
    | r => r
  | .cond c x y => match evalA st.ss c with
    | .bool t => ih m (bif t then x else y) st
    | _ => none
  | .block id body => match ih m body st with
    | some (.exit j, st) => bif Nat.beq j id then some (.normal, st) else some (.exit j, st)
    | r => r
  | .loop body => match ih m body st with
    | some (.normal, st) => ih m (.loop body) st
    | r => r
  | .scope body => inScopeA ih m body 1000000 body st
  | .goto l => some (.goto l, st)
  | .region _ ops d => match (bif d then drawnA P ne ih m ops st else runOps P ne ih m ops ops.toList st) with
    | some st => some (.normal, st)
    | none => none
  | _ => none

def exec (P : Program) (ne : Nat) (n : Nat) : Ex := Nat.rec (fun _ _ _ => none) (fun _ ih => execStep P ne ih) n

def acall (P : Program) (ne n m : Nat) (f : FuncId) (args : Array Value) (H : AH) : Option (Value × AH) := acallFn P ne (exec P ne n) m f args H

end Go.Abs
