/- Parts of the proof: an abstract interpreter of the loaded program and its soundness, printed functions, the law's own texts; part 4. No condition. -/
import Derived.Test.YtgkhbmoidenjaaaDoorOr3
import Derived.Test.YtgkhbmoidenjaaaDoorChecked
import Derived.Test.YtgkhbmoidenjaaaDoorRows
import Derived.Test.YtgkhbmoidenjaaaDoorCards
import Derived.Test.YtgkhbmoidenjaaaDoorTie
import Derived.Deep.DeepWitnessRowRef
import Derived.ChangeMaps5
namespace Go.Abs.Eg
structure NOK (N:List Nd):Prop where
 nd:N.Nodup
 va:∀y∈N,y.value=true→y.args=[]
theorem NOK.nil:NOK []:=⟨by simp,fun y h=>by cases h⟩
theorem NOK.put {N:List Nd} (h:NOK N) {y:Nd} (hy:y.value=true→y.args=[]):NOK (putP N y).2.2:=by
 unfold putP
 cases hf:N.findIdx? fun z=>decide (z=y) with
 | some i=>exact h
 | none =>
  simp only
  split
  ·exact h
  ·have hn:y ∉ N:=fun hm=>by
    have:=(List.findIdx?_eq_none_iff.1 hf) y hm
    simp at this
   refine ⟨List.nodup_append.2 ⟨h.nd,by simp,fun a ha b hb e=>?_⟩,fun z hz=>?_⟩
   ·rw [List.mem_singleton] at hb
    subst hb; subst e
    exact hn ha
   ·rcases List.mem_append.1 hz with hz | hz
    ·exact h.va z hz
    ·rw [List.mem_singleton] at hz
     subst hz
     exact hy
theorem NOK.val {N:List Nd} (h:NOK N) (s:Int):NOK (valP N s).2.2:=h.put fun _=>rfl
theorem NOK.add {N:List Nd} (h:NOK N) (s:Int) (ays:List Int):NOK (addP N s ays).2.2:=by
 unfold addP
 split
 ·exact h
 ·split
  ·exact h.put fun hv=>by cases hv
  ·exact h
theorem zie (N:List Nd) (y:Nd):totN (putP N y).2.2≤totN N+y.args.length:=by
 unfold putP
 split
 ·show totN N≤_; omega
 ·split
  ·show totN N≤_; omega
  ·show totN (N++[y])≤_
   rw [zev]; exact Nat.le_refl _
theorem znv (N:List Nd) (s:Int):totN (valP N s).2.2≤totN N:=by
 have:=zie N ⟨true,s,[]⟩
 simpa [valP] using this
theorem znh (N:List Nd) (s:Int) (ays:List Int):totN (addP N s ays).2.2≤totN N+ays.length:=by
 unfold addP
 split
 ·show totN N≤_; omega
 ·split
  ·have:=zie N ⟨false,s,ays.map Int.toNat⟩
   simpa using this
  ·show totN N≤_; omega
theorem zih (N:List Nd) (sd:List Sd) (s:Sd):(sayP N sd s).2.length≤sd.length+1:=by
 unfold sayP
 split <;> simp
theorem zet {N:List Nd} (h:NOK N) {i:Nat} (hi:i<N.length) (hN:N.length≤1048576):putP (N.take i) N[i]=((i:Int),0,N.take (i+1)):=by
 have hf:(N.take i).findIdx? (fun z=>decide (z=N[i]))=none:=by
  rw [List.findIdx?_eq_none_iff]
  intro z hz
  obtain ⟨j,hj,rfl⟩:=List.mem_iff_getElem.1 hz
  have hji:j<i:=by simp at hj; omega
  rw [List.getElem_take]
  have hne:N[j]≠N[i]:=fun e=>by
   have hp:=List.pairwise_iff_getElem.1 h.nd j i (by omega) hi hji
   exact hp e
  simpa using hne
 unfold putP
 rw [hf]
 simp only [List.length_take]
 rw [if_neg (by omega),Nat.min_eq_left (by omega),List.take_succ_eq_append_getElem hi]
theorem zkt {N:List Nd} (h:NOK N) {i:Nat} (hi:i<N.length) (hN:N.length≤1048576) (hv:N[i].value=true):valP (N.take i) N[i].sym=((i:Int),0,N.take (i+1)):=by
 have:(⟨true,N[i].sym,[]⟩:Nd)=N[i]:=by
  have ha:=h.va _ (List.getElem_mem hi) hv
  generalize N[i]=z at hv ha
  cases z
  simp only at hv ha
  subst hv; subst ha
  rfl
 unfold valP
 rw [this]
 exact zet h hi hN
theorem zlo {N:List Nd} (h:NOK N) {i:Nat} (hi:i<N.length) (hN:N.length≤1048576) (hv:N[i].value=false) (ha:∀a∈N[i].args,a<i) (hl:N[i].args.length≤64):addP (N.take i) N[i].sym (N[i].args.map Int.ofNat)=((i:Int),0,N.take (i+1)):=by
 have hall:(N[i].args.map Int.ofNat).all (okA (N.take i))=true:=by
  rw [List.all_eq_true]
  intro a hm
  obtain ⟨n,hn,rfl⟩:=List.mem_map.1 hm
  exact z3r.2 ⟨n,rfl,by have:=ha n hn; simp; omega⟩
 have hm:(N[i].args.map Int.ofNat).map Int.toNat=N[i].args:=by
  rw [List.map_map]
  have:(Int.toNat ∘ Int.ofNat:Nat→Nat)=id:=by funext n; rfl
  rw [this,List.map_id]
 unfold addP
 rw [if_neg (by rw [List.length_map]; omega),hall,if_pos rfl,hm]
 have:(⟨false,N[i].sym,N[i].args⟩:Nd)=N[i]:=by
  generalize N[i]=z at hv
  cases z
  simp only at hv
  subst hv
  rfl
 rw [this]
 exact zet h hi hN
theorem zlb (N:List Nd) {i:Nat} (hi:i<N.length):totN (N.take i)+N[i].args.length≤totN N:=by
 have h1:totN (N.take (i+1))=totN (N.take i)+N[i].args.length:=by rw [List.take_succ_eq_append_getElem hi,zev]
 have h2:totN (N.take (i+1))≤totN N:=by
  unfold totN
  rw [List.map_take]
  generalize N.map (fun y=>y.args.length)=l
  have:l.sum=(l.take (i+1)).sum+(l.drop (i+1)).sum:=by rw [← List.sum_append,List.take_append_drop]
  omega
 omega
def back (sd:List Sd) (j:Nat):List Sd:=((sd.drop j).reverse).map swap
theorem zmt (sd:List Sd):back sd sd.length=[]:=by simp [back]
theorem zkh (sd:List Sd) {j:Nat} (hj:j<sd.length):back sd j=back sd (j+1)++[swap sd[j]]:=by
 unfold back
 rw [List.drop_eq_getElem_cons hj,List.reverse_cons,List.map_append]
 rfl
theorem zlv {sd:List Sd} {s:Sd} (h:s∈sd):swap s∈back sd 0:=by
 unfold back
 simp only [List.drop_zero,List.map_reverse,List.mem_reverse]
 exact List.mem_map.2 ⟨s,h,rfl⟩
theorem zl4 {sd:List Sd} {s:Sd} (h:s∈back sd 0):swap s∈sd:=by
 unfold back at h
 simp only [List.drop_zero,List.map_reverse,List.mem_reverse] at h
 obtain ⟨s',h',rfl⟩:=List.mem_map.1 h
 exact h'
theorem zh5 {sd sd':List Sd} (h:∀s∈sd,swap s∈sd') (i j:Nat) (hm:(i,j)∈Mof sd):(j,i)∈Mof sd':=by
 unfold Mof at hm ⊢
 obtain ⟨s,hs,he⟩:=List.mem_filterMap.1 hm
 refine List.mem_filterMap.2 ⟨swap s,h s hs,?_⟩
 show (if s.2.2.2=true then none else some (s.2.1.toNat,s.1.toNat))=_
 split at he
 ·cases he
 ·rename_i hc
  rw [if_neg hc]
  simp only [Option.some.injEq,Prod.mk.injEq] at he ⊢
  exact ⟨he.2,he.1⟩
structure OpD where
 kd:Int
 sy:Int
 aa:List Int
 a:Int
 b:Int
 tg:Int
structure OpAt (H:AH) (p:Addr) (o:OpD):Prop where
 kd:Cel H (p.add 0) (.int .i64 o.kd)
 sy:Cel H (p.add 1) (.int .i64 o.sy)
 aa:∃s:Sl3,Cel H (p.add 2) s.v∧∀H',Ext H H'→AR H' s o.aa
 a:Cel H (p.add 3) (.int .i64 o.a)
 b:Cel H (p.add 4) (.int .i64 o.b)
 tg:Cel H (p.add 5) (.int .i64 o.tg)
 ok:-9223372036854775808≤o.sy∧o.sy<9223372036854775808
theorem OpAt.ext {H H':AH} {p:Addr} {o:OpD} (h:OpAt H p o) (hf:Ext H H'):OpAt H' p o :=
 ⟨h.kd.ext hf,h.sy.ext hf,let ⟨s,h1,h2⟩:=h.aa; ⟨s,h1.ext hf,fun H2 hx=>h2 H2 (hf.trans hx)⟩,h.a.ext hf,h.b.ext hf,h.tg.ext hf,h.ok⟩
structure OpsR (H:AH) (s:Sl3) (ops:List OpD):Prop where
 n:s.n=ops.length
 at_:∀(i:Nat) (hi:i<ops.length),∃p,idxA 6 s (i:Int)=some p∧OpAt H p ops[i]
def bulkO (ops:List OpD):Nat:=ops.length+(ops.map fun o=>o.aa.length).sum
theorem zl1 (ops:List OpD) {i:Nat} (hi:i<ops.length):((ops.take i).map fun o=>o.aa.length).sum+ops[i].aa.length=((ops.take (i+1)).map fun o=>o.aa.length).sum∧((ops.take (i+1)).map fun o=>o.aa.length).sum≤(ops.map fun o=>o.aa.length).sum:=by
 constructor
 ·rw [List.take_succ_eq_append_getElem hi,List.map_append,List.sum_append]
  simp
 ·rw [List.map_take]
  generalize ops.map (fun o=>o.aa.length)=l
  have:l.sum=(l.take (i+1)).sum+(l.drop (i+1)).sum:=by rw [← List.sum_append,List.take_append_drop]
  omega
end Go.Abs.Eg
namespace Go.Abs.Eg
def nd (n:Nat):Nat:=if h:n<10 then 1 else nd (n / 10)+1
termination_by n
decreasing_by exact Nat.div_lt_self (by omega) (by omega)
theorem z5g {n:Nat} (h:n<10):nd n=1:=by rw [nd]; simp [h]
theorem nd_big {n:Nat} (h:¬n<10):nd n=nd (n / 10)+1:=by rw [nd]; simp [h]
theorem nd_pos (n:Nat):1≤nd n:=by
 by_cases h:n<10
 ·rw [z5g h]; exact Nat.le_refl _
 ·rw [nd_big h]; omega
theorem nd_lt:∀(n:Nat),n<10 ^ nd n:=by
 intro n
 induction n using Nat.strongRecOn with
 | ind n ih =>
  by_cases h:n<10
  ·rw [z5g h]; omega
  ·rw [nd_big h,Nat.pow_succ]
   have:=ih (n / 10) (Nat.div_lt_self (by omega) (by omega))
   omega
theorem zi8:∀(d n:Nat),n<10 ^ (d+1)→(d=0∨10 ^ d≤n)→nd n=d+1:=by
 intro d
 induction d with
 | zero=>intro n h _; exact z5g (by simpa using h)
 | succ d ih =>
  intro n h1 h2
  have h2:10 ^ (d+1)≤n:=h2.resolve_left (by omega)
  have h3:10≤n:=by
   have:10 ^ 1≤10 ^ (d+1):=Nat.pow_le_pow_right (by omega) (by omega)
   omega
  rw [nd_big (by omega),ih (n / 10) (by rw [Nat.pow_succ] at h1; omega) (by
   by_cases e:d=0
   ·exact .inl e
   ·refine .inr ?_
    rw [Nat.pow_succ] at h2
    omega)]
theorem nd_le:∀(d n:Nat),n<10 ^ (d+1)→nd n≤d+1:=by
 intro d
 induction d with
 | zero=>intro n h; rw [z5g (by simpa using h)]; exact Nat.le_refl _
 | succ d ih =>
  intro n h
  by_cases h':n<10
  ·rw [z5g h']; omega
  ·rw [nd_big h']
   have:=ih (n / 10) (by rw [Nat.pow_succ] at h; omega)
   omega
def decD:Nat→Nat→List Nat
 | 0,_=>[]
 | d+1,n=>decD d (n / 10)++[48+n % 10]
theorem z3g:∀(d n:Nat),(decD d n).length=d
 | 0,_=>rfl
 | d+1,n=>by simp [decD,z3g d]
theorem zgf:∀(d n j:Nat),j<d→(decD d n)[j]? = some (48+n / 10 ^ (d - 1 - j) % 10)
 | 0,_,j,h=>absurd h (Nat.not_lt_zero j)
 | d+1,n,j,h=>by
  unfold decD
  by_cases e:j<d
  ·rw [List.getElem?_append_left (by rw [z3g]; exact e),zgf d (n / 10) j e,Nat.div_div_eq_div_mul]
   have:10*10 ^ (d - 1 - j)=10 ^ (d+1 - 1 - j):=by
    rw [Nat.mul_comm,← Nat.pow_succ]
    congr 1
    omega
   rw [this]
  ·have:j=d:=by omega
   subst this
   rw [List.getElem?_append_right (by rw [z3g]; exact Nat.le_refl _),z3g]
   simp
def valD (l:List Nat):Nat:=l.foldl (fun a b=>a*10+(b - 48)) 0
theorem zct:∀(d n:Nat),n<10 ^ d→valD (decD d n)=n
 | 0,n,h=>by simp at h; subst h; rfl
 | d+1,n,h=>by
  unfold decD valD
  rw [List.foldl_append]
  have:=zct d (n / 10) (by rw [Nat.pow_succ] at h; omega)
  unfold valD at this
  rw [this]
  simp only [List.foldl_cons,List.foldl_nil]
  omega
theorem zcr:∀(d n:Nat) (b:Nat),b∈decD d n→48≤b∧b≤57
 | 0,_,b,h=>by cases h
 | d+1,n,b,h=>by
  unfold decD at h
  rcases List.mem_append.1 h with h | h
  ·exact zcr d _ b h
  ·rw [List.mem_singleton] at h; omega
def itoaL (a:Int):List Nat:=(if a<0 then [45] else [])++decD (nd a.natAbs) a.natAbs
theorem zb9 (a:Int) (b:Nat) (h:b∈itoaL a):b=45∨48≤b∧b≤57:=by
 unfold itoaL at h
 rcases List.mem_append.1 h with h | h
 ·split at h
  ·rw [List.mem_singleton] at h; exact .inl h
  ·cases h
 ·exact .inr (zcr _ _ _ h)
theorem zgi {n n':Nat} (h:decD (nd n) n=decD (nd n') n'):n=n':=by
 rw [← zct _ _ (nd_lt n),h,zct _ _ (nd_lt n')]
theorem zeu (n:Nat):∃b l,decD (nd n) n=b :: l∧48≤b:=by
 cases h:decD (nd n) n with
 | nil =>
  have:=congrArg List.length h
  rw [z3g] at this
  have:=nd_pos n
  simp at *
  omega
 | cons b l=>exact ⟨b,l,rfl,(zcr (nd n) n b (by rw [h]; simp)).1⟩
theorem zf3 {a b:Int} (h:itoaL a=itoaL b):a=b:=by
 unfold itoaL at h
 obtain ⟨x,l,hx,hx48⟩:=zeu a.natAbs
 obtain ⟨y,l',hy,hy48⟩:=zeu b.natAbs
 by_cases ha:a<0 <;> by_cases hb:b<0
 ·rw [if_pos ha,if_pos hb] at h
  have:=zgi (List.append_cancel_left h)
  omega
 ·rw [if_pos ha,if_neg hb,hy] at h
  simp at h
  omega
 ·rw [if_neg ha,if_pos hb,hx] at h
  simp at h
  omega
 ·rw [if_neg ha,if_neg hb] at h
  have:=zgi (List.append_cancel_left h)
  omega
theorem ze4:∀{l1 l2 r1 r2:List Nat},(∀b∈l1,b≠32)→(∀b∈l2,b≠32)→(r1=[]∨∃t,r1=32 :: t)→(r2=[]∨∃t,r2=32 :: t)→l1++r1=l2++r2→l1=l2∧r1=r2
 | [],[],r1,r2,_,_,_,_,h=>⟨rfl,by simpa using h⟩
 | [],b :: l2,r1,r2,_,h2,h3,_,h=>by
  exfalso
  rcases h3 with rfl | ⟨t,rfl⟩
  ·simp at h
  ·simp at h
   exact h2 b (by simp) h.1.symm
 | a :: l1,[],r1,r2,h1,_,_,h4,h=>by
  exfalso
  rcases h4 with rfl | ⟨t,rfl⟩
  ·simp at h
  ·simp at h
   exact h1 a (by simp) h.1
 | a :: l1,b :: l2,r1,r2,h1,h2,h3,h4,h=>by
  simp only [List.cons_append,List.cons.injEq] at h
  obtain ⟨e1,e2⟩:=ze4 (fun c hc=>h1 c (List.mem_cons_of_mem _ hc)) (fun c hc=>h2 c (List.mem_cons_of_mem _ hc)) h3 h4 h.2
  exact ⟨by rw [h.1,e1],e2⟩
def argsL (l:List Nat):List Nat:=l.flatMap fun (a:Nat)=>32 :: itoaL (a:Int)
theorem z7d (l:List Nat):argsL l=[]∨∃t,argsL l=32 :: t:=by
 cases l with
 | nil=>exact .inl rfl
 | cons a l=>exact .inr ⟨_,rfl⟩
theorem zbv (a:Int):∀b∈itoaL a,b≠32:=fun b hb=>by
 have:=zb9 a b hb
 omega
theorem zep:∀{l l':List Nat},argsL l=argsL l'→l=l'
 | [],[],_=>rfl
 | [],a :: l,h=>by simp [argsL] at h
 | a :: l,[],h=>by simp [argsL] at h
 | a :: l,b :: l',h=>by
  have h:32 :: (itoaL (a:Int)++argsL l)=32 :: (itoaL (b:Int)++argsL l'):=h
  simp only [List.cons.injEq,true_and] at h
  obtain ⟨e1,e2⟩:=ze4 (zbv _) (zbv _) (z7d l) (z7d l') h
  have e1:=zf3 e1
  have e1:a=b:=by omega
  rw [e1,zep e2]
def txL (k:Key):List Nat:=(if k.1 then 118 else 115) :: (itoaL k.2.1++argsL k.2.2)
theorem znp {k k':Key} (h:txL k=txL k'):k=k':=by
 obtain ⟨v,s,l⟩:=k
 obtain ⟨v',s',l'⟩:=k'
 unfold txL at h
 simp only [List.cons.injEq] at h
 obtain ⟨h1,h2⟩:=h
 have ev:v=v':=by cases v <;> cases v' <;> simp at h1 <;> rfl
 obtain ⟨e1,e2⟩:=ze4 (zbv _) (zbv _) (z7d l) (z7d l') h2
 rw [ev,zf3 e1,zep e2]
def bytesL (l:List Nat):ByteArray:=⟨(l.map Nat.toUInt8).toArray⟩
theorem zdb:∀{l l':List Nat},(∀b∈l,b<256)→(∀b∈l',b<256)→l.map Nat.toUInt8=l'.map Nat.toUInt8→l=l'
 | [],[],_,_,_=>rfl
 | [],b :: l',_,_,h=>by simp at h
 | a :: l,[],_,_,h=>by simp at h
 | a :: l,b :: l',h1,h2,h=>by
  simp only [List.map_cons,List.cons.injEq] at h
  have ha:=h1 a (by simp)
  have hb:=h2 b (by simp)
  have:a=b:=by
   have:=congrArg UInt8.toNat h.1
   simpa [Nat.toUInt8,Nat.mod_eq_of_lt ha,Nat.mod_eq_of_lt hb] using this
  rw [this,zdb (fun c hc=>h1 c (List.mem_cons_of_mem _ hc)) (fun c hc=>h2 c (List.mem_cons_of_mem _ hc)) h.2]
theorem zjr {l l':List Nat} (h1:∀b∈l,b<256) (h2:∀b∈l',b<256) (h:bytesL l=bytesL l'):l=l':=by
 unfold bytesL at h
 simp only [ByteArray.mk.injEq] at h
 exact zdb h1 h2 (by simpa using h)
theorem txL_lt (k:Key):∀b∈txL k,b<256:=by
 intro b hb
 unfold txL at hb
 rcases List.mem_cons.1 hb with h | h
 ·rw [h]; split <;> omega
 ·rcases List.mem_append.1 h with h | h
  ·have:=zb9 _ _ h; omega
  ·unfold argsL at h
   obtain ⟨a,_,ha⟩:=List.mem_flatMap.1 h
   rcases List.mem_cons.1 ha with h | h
   ·omega
   ·have:=zb9 _ _ h; omega
def txK (k:Key):ByteArray:=bytesL (txL k)
theorem znl (k k':Key) (h:txK k=txK k'):k=k':=znp (zjr (txL_lt k) (txL_lt k') h)
theorem zfg (l l':List Nat):bytesL (l++l')=bytesL l++bytesL l':=by
 unfold bytesL
 rw [List.map_append]
 apply ByteArray.ext
 simp [ByteArray.data_append]
theorem zcj (l:List Nat):(bytesL l).size=l.length:=by
 show ((l.map Nat.toUInt8).toArray).size=_
 simp
end Go.Abs.Eg
namespace Go.Abs.Eg
variable {e:TypeId} {m:Nat} {H H':AH} {id:Nat} {f:Nat→Nat}
def AB (e:TypeId) (m:Nat) (H:AH) (id:Nat) (f:Nat→Nat):Prop:=ArrV e m H id ((List.range 24).map fun j=>Value.int .u8 ((f j:Nat):Int))
def upd (f:Nat→Nat) (j b:Nat):Nat→Nat:=fun i=>if i=j then b else f i
theorem znm (N:Nat) (f:Nat→Nat) {j:Nat} (b:Nat):((List.range N).map fun j=>Value.int .u8 ((f j:Nat):Int)).set j (.int .u8 ((b:Nat):Int))=(List.range N).map fun i=>Value.int .u8 ((upd f j b i:Nat):Int):=by
 refine List.ext_getElem? fun i=>?_
 by_cases hi:i<N
 ·by_cases e:j=i
  ·subst e
   rw [List.getElem?_set_self (by simp; exact hi),List.getElem?_map,List.getElem?_range hi]
   simp [upd]
  ·rw [List.getElem?_set_ne e,List.getElem?_map,List.getElem?_map,List.getElem?_range hi]
   simp [upd,Ne.symm e]
 ·rw [List.getElem?_eq_none (by simp; omega),List.getElem?_eq_none (by simp; omega)]
theorem AB.put (h:AB e m H id f) {j:Nat} (hj:j<24) (b:Nat):∃H',H.setCell m ((⟨id,0,none⟩:Addr).add j) (.int .u8 ((b:Nat):Int))=some H'∧AB e m H' id (upd f j b)∧Fm (fun i=>i=id) H H'∧H'.next=H.next:=by
 obtain ⟨H',a1,a2,a3,a4⟩:=ArrV.put h (j:=j) (by simp; exact hj) (.int .u8 ((b:Nat):Int))
 rw [znm] at a2
 exact ⟨H',a1,a2,a3,a4⟩
theorem AB.cell (h:AB e m H id f) {j:Nat} (hj:j<24):H.cell ((⟨id,0,none⟩:Addr).add j)=some (.int .u8 ((f j:Nat):Int)):=by
 have hv:((List.range 24).map fun j=>Value.int .u8 ((f j:Nat):Int))[j]? = some (.int .u8 ((f j:Nat):Int)):=by
  rw [List.getElem?_map,List.getElem?_range hj]; rfl
 have:=(ArrV.cel h hv).1
 rw [Nat.mul_one] at this
 exact this
theorem AB.new {z:List Value} (hz:z=(List.range 24).map fun _=>Value.int .u8 ((0:Nat):Int)) (hm:m≤H.next):AB e m (H.push (pubB e z)) H.next fun _=>0:=by
 subst hz
 exact ArrV.new hm
theorem rdBytesQ {H:AH} {a:Addr}:∀(cs:List Nat) (j:Nat),(∀(i:Nat) (h:i<cs.length),H.cell (a.add (j+i))=some (.int .u8 ((cs[i]:Nat):Int)))→rdBytes H a j cs.length=some (cs.map Nat.toUInt8):=by
 intro cs
 induction cs with
 | nil=>intro j _; rfl
 | cons v l ih =>
  intro j h
  have h0:=h 0 (by simp)
  simp only [Nat.add_zero,List.getElem_cons_zero] at h0
  have h1:=ih (j+1) fun i hi=>by
   have:=h (i+1) (by simpa using hi)
   rw [show j+1+i=j+(i+1) by omega,this]
   simp
  simp only [List.length_cons,rdBytes,h0,h1,List.map_cons,Int.toNat_natCast]
structure Dg (n d:Nat) (f:Nat→Nat) (v i:Nat):Prop where
 le:i≤d
 v:v=n / 10 ^ (d - i)
 at_:∀j,i≤j→j<d→f (1+j)=48+n / 10 ^ (d - 1 - j) % 10
theorem Dg.start (n d:Nat) (f:Nat→Nat):Dg n d f n d:=⟨Nat.le_refl _,by simp,fun j h1 h2=>absurd h2 (by omega)⟩
theorem Dg.one {n d:Nat} {f:Nat→Nat} {v i b:Nat} (h:Dg n d f v (i+1)) (hb:b=48+v % 10):Dg n d (upd f (1+i) b) (v / 10) i:=by
 have hle:=h.le
 refine ⟨by omega,?_,fun j h1 h2=>?_⟩
 ·rw [h.v,Nat.div_div_eq_div_mul,← Nat.pow_succ]
  congr 2
  omega
 ·unfold upd
  by_cases e:j=i
  ·subst e
   rw [if_pos rfl,hb,h.v,show d - (j+1)=d - 1 - j by omega]
  ·rw [if_neg (by omega)]
   exact h.at_ j (by omega) h2
theorem Dg.pair {n d:Nat} {f:Nat→Nat} {v i b1 b2:Nat} (h:Dg n d f v (i+2)) (h1:b1=48+v % 10) (h2:b2=48+v / 10 % 10):Dg n d (upd (upd f (1+(i+1)) b1) (1+i) b2) (v / 10 / 10) i:=Dg.one (Dg.one h h1) h2
theorem Dg.done {n d:Nat} {f:Nat→Nat} {v:Nat} (h:Dg n d f v 0) {j:Nat} (hj:j<d):some (f (1+j))=(decD d n)[j]? := by
 rw [zgf d n j hj,h.at_ j (Nat.zero_le _) hj]
theorem zna:(List.range 65).all (fun l=>l == 0||(Nat.blt (2 ^ l - 1) (10 ^ (l*78913 / 262144+1))&&(l*78913 / 262144 == 0||Nat.ble (10 ^ (l*78913 / 262144 - 1)) (2 ^ (l - 1)))&&Nat.ble (l*78913 / 262144) 19))=true:=by decide
theorem nd_log {n l:Nat} (hn:1≤n) (h0:1≤l) (hl:l≤64) (h1:2 ^ (l - 1)≤n) (h2:n<2 ^ l):l*78913 / 262144≤19∧nd n=l*78913 / 262144+if 10 ^ (l*78913 / 262144)≤n then 1 else 0:=by
 have:=List.all_eq_true.1 zna l (by simp; omega)
 simp only [Bool.or_eq_true,beq_iff_eq,Bool.and_eq_true,Nat.blt_eq,Nat.ble_eq] at this
 rcases this with e | ⟨⟨e1,e2⟩,e3⟩
 ·omega
 ·refine ⟨e3,?_⟩
  generalize l*78913 / 262144=t at e1 e2 e3
  split
  ·rename_i h
   exact zi8 t n (by omega) (.inr h)
  ·rename_i h
   cases t with
   | zero=>simp at h; omega
   | succ t =>
    have e2:=e2.resolve_left (by omega)
    rw [Nat.add_sub_cancel] at e2
    rw [zi8 t n (by omega) (by
     by_cases e:t=0
     ·exact .inl e
     ·exact .inr (by omega))]
end Go.Abs.Eg
namespace Go.Proofs.YtgkhbmoidenjaaaDoor
open Go Go.Abs
set_option maxRecDepth 100000
def tabs:List Tab:=[(0,155,((zsOf Rows.laid_internal_strconv_uint64pow10).map fun z=>Value.int .u64 z).toArray)]
theorem zia:tabsB Tryd.prog tabs=true:=by kernel_rfl
theorem globalsN:Tryd.prog.globals.size=3:=by kernel_rfl
theorem z7v:0<Tryd.prog.globals.size:=by rw [globalsN]; omega
def HasT (H:AH):Prop:=∀x∈tabs,H.get x.1=some (tabBlk x)∧x.1<H.next
theorem HasT.ext {H H':AH} (h:HasT H) (hf:Ext H H'):HasT H':=fun x hx=>⟨hf.2 _ _ (h x hx).2 (fun h=>h) (h x hx).1,Nat.lt_of_lt_of_le (h x hx).2 hf.1⟩
noncomputable def H0:AH:=startH Tryd.prog tabs
set_option maxHeartbeats 0 in
theorem zkg:(acall Tryd.prog ⟨1000,orN⟩ 100000 3 13 #[] H0).map (·.1)=some (.bool true):=by kernel_rfl
open Classical in
noncomputable def z56 (_L:LC) (H:AH):Option Bool:=if HasT H then some true else none
def zdw:Bool→Value
 | r0=>(Value.bool r0)
def zea (H:AH):Bool→AH:=fun _=>H
theorem ze9 {L:LC} {m:Nat} {H:AH} {r:Bool} (h:z56 L H=some r):CallS Tryd.prog (NE.plain 1000) m 13 #[] H (zdw r) (zea H r):=by
 unfold z56 at h
 split at h
 ·rename_i hT
  cases h
  have hrun:=zkg
  cases hq:acall Tryd.prog ⟨1000,orN⟩ 100000 3 13 #[] H0 with
  | none=>rw [hq] at hrun; cases hrun
  | some q =>
   rw [hq] at hrun
   obtain ⟨b,H'⟩:=q
   simp only [Option.map_some,Option.some.injEq] at hrun
   subst hrun
   have hc:=CallS.ofRun (ne:=NE.plain 1000) (c:=(Tryd.f13.body).getD .skip) orN_ok (show Tryd.prog.funcs[13]? = some Tryd.f13 from Tryd.func13) (by kernel_rfl) hq
   refine CallS.under (tabs:=tabs) z7v zia (H1:=H') ?_ (by simp) (by rfl) fun x hx=>(hT x hx).1
   rw [globalsN]
   exact hc
 ·cases h
theorem zkx (L:LC) {H:AH} (h:HasT H):z56 L H=some true:=by
 unfold z56
 rw [if_pos h]
end Go.Proofs.YtgkhbmoidenjaaaDoor
namespace Go.Proofs.YtgkhbmoidenjaaaDoor
open Go Go.Abs Go.ChangeShapes Go.WideShapes
set_option maxRecDepth 100000
theorem own:ownKnob Tryd.prog.godebug=none:=by kernel_rfl
theorem laidOut:laidOutB Tryd.prog=true:=by kernel_rfl
theorem zjb:globalsB Tryd.prog=true:=by kernel_rfl
theorem sane:Sane Tryd.prog (NE.plain 1000):=znr (fun _ _ _ _=>rfl) (by kernel_rfl) (by kernel_rfl) (by kernel_rfl)
theorem zmh (os:Os) (args:Array Value):laidMet Tryd.prog Rows.egraphOrderUptoRow.laid ((laidW2 Tryd.prog Rows.egraphOrderUptoRow.laid os).forCall (fun _ _=>0) ⟨#[],args,[]⟩).memory :=
 laidMet_of_run3 8 (by kernel_rfl) (by kernel_rfl) (by kernel_rfl)
theorem zn0 (W:World) (hL:laidMet Tryd.prog Rows.egraphOrderUptoRow.laid W) (hsh:W.ShapedOpen Tryd.prog):∀x∈tabs,∃fr,W.heap[x.1]? = some (.cells x.2.2 x.2.1 fr):=by
 intro x hx
 simp only [tabs,List.mem_cons,List.not_mem_nil,or_false] at hx
 subst hx
 exact zo1 (name := "internal/strconv.uint64pow10") (te:=138) (n:=20) (t:=155) hL (by kernel_rfl) (by kernel_rfl) (by kernel_rfl) (by kernel_rfl) (by kernel_rfl) (by kernel_rfl) (by kernel_rfl) (of_decide_eq_true (by kernel_rfl)) (by kernel_rfl) hsh
theorem zj5:HasT H0:=by
 intro x hx
 simp only [tabs,List.mem_cons,List.not_mem_nil,or_false] at hx
 subst hx; exact ⟨by kernel_rfl,by rw [show H0.next=Tryd.prog.globals.size from zc8 tabs,globalsN]; decide⟩
theorem zmz {W:World} (hg:Tryd.prog.globals.size≤W.heap.size) (hL:laidMet Tryd.prog Rows.egraphOrderUptoRow.laid W) (hsh:W.ShapedOpen Tryd.prog):Imp Tryd.prog (φg Tryd.prog) H0 W :=
 Imp.startT hg zia (zn0 W hL hsh)
namespace bulks
theorem one_le {H:Type} (d:DataW H):1≤Rows.uptoBulk d:=by
 cases d with
 | lit l=>cases l <;> simp [Rows.uptoBulk]
 | nil=>simp [Rows.uptoBulk]
 | ptr d=>simp [Rows.uptoBulk]
 | slice elems spare=>simp [Rows.uptoBulk]
 | agg parts=>simp [Rows.uptoBulk]
 | iface t d=>simp [Rows.uptoBulk]
 | map entries=>simp [Rows.uptoBulk]
 | held h=>simp [Rows.uptoBulk]
theorem bound {H:Type} {l:List (DataW H)} (hk:Rows.uptoSmall H l=true):Rows.uptoBulkAll l≤1048576:=of_decide_eq_true hk
end bulks
section
variable {H:Type} {enc:TypeId×Value→H} {W:World} {φ:Inj}
theorem ar1 {a a':Value} (h:VR φ a a'):AR φ #[a] #[a']:=by
 refine ⟨rfl,fun i x y hx hy=>?_⟩
 match i,hx,hy with
 | 0,hx,hy=>simp at hx hy; subst hx hy; exact h
 | i+1,hx,_=>simp at hx
theorem wf_i64 {n:Int} (h:(Lit.int .i64 n).wf=true):-9223372036854775808≤n∧n<9223372036854775808:=by
 have e1:IntKind.i64.min=-9223372036854775808:=by decide
 have e2:IntKind.i64.max=9223372036854775807:=by decide
 simp only [Lit.wf,Bool.and_eq_true,decide_eq_true_eq,e1,e2] at h
 omega
end
end Go.Proofs.YtgkhbmoidenjaaaDoor
namespace Go.Proofs.YtgkhbmoidenjaaaDoor
open Go Go.Abs Go.Abs.Eg Go.ChangeShapes Go.WideShapes
set_option maxRecDepth 100000
theorem cells55:Tryd.prog.cellsOf 55=6:=by kernel_rfl
theorem cells3:Tryd.prog.cellsOf 3=1:=by kernel_rfl
theorem cells27:Tryd.prog.cellsOf 27=1:=by kernel_rfl
section
variable {H:Type} {enc:TypeId×Value→H} {W:World}
theorem z96 {P:Program} {e:TypeId}:∀{l:List (DataW H)} {d:DataW H},d∈l→∀n∈d.weights P e,n∈DataW.weightsAll P e l
 | x :: l,d,hd,n,hn=>by
  simp only [DataW.weightsAll,List.mem_append]
  rcases List.mem_cons.1 hd with rfl | hd
  ·exact .inl hn
  ·exact .inr (z96 hd n hn)
theorem lr1 {φ:Inj} {a a':Value} (h:VR φ a a'):LR φ [a] [a']:=.cons h .nil
theorem zf5 {β:Type} {w:β→Nat}:∀(bs:List β) (es:List (DataW H)),bs.length=es.length→(∀(i:Nat) b y,bs[i]? = some b→es[i]? = some y→w b≤Rows.uptoBulk y)→(bs.map w).sum≤Rows.uptoBulkAll es
 | [],[],_,_=>Nat.le_refl _
 | [],_ :: _,h,_=>by cases h
 | _ :: _,[],h,_=>by cases h
 | b :: bs,y :: es,h,hw=>by
  have h1:=zf5 bs es (by simpa using h) fun i b' y' hb hy=>hw (i+1) b' y' (by simpa using hb) (by simpa using hy)
  have h2:=hw 0 b y rfl rfl
  simp only [List.map_cons,List.sum_cons,Rows.uptoBulkAll]
  omega
theorem zas {t e:TypeId} {sz:Nat} (ht:Tryd.prog.underlying t=some (.slice e)) (hc:Tryd.prog.cellsOf e=sz) (hsz:0<sz) {β:Type} {R:AH→List Value→β→Prop} {w:β→Nat} (hR:∀H H' cs b,Ext H H'→R H cs b→R H' cs b)
  {fuel:Nat} {cs:List Value} {x:DataW H×List MemPlace} (elem:∀n,n<fuel→∀cs y,DataW.trod enc Tryd.prog W 0 (fun _=>true) true n e cs=some y→(y.1.weights Tryd.prog e).all (·≤reachBytes)=true→ElemK Tryd.prog W sz R (fun b=>w b≤Rows.uptoBulk y.1) cs)
  (hx:DataW.trod enc Tryd.prog W 0 (fun _=>true) true fuel t cs=some x) (hw:(x.1.weights Tryd.prog t).all (·≤reachBytes)=true) {φ:Inj} {H0:AH} (h:Imp Tryd.prog φ H0 W) :
  ∃v φ' H' s bs,cs=[v]∧Imp Tryd.prog φ' H' W∧φ.le φ'∧Ext H0 H'∧VR φ' (Sl3.v s) v∧SlL (Stands sz R) sz H' s (bs:List β)∧(bs.map w).sum≤Rows.uptoBulk x.1:=by
 rcases DataW.trod_slice ht hx with ⟨rfl,rfl⟩ | ⟨a,len,cap,elems,rest,n,rfl,rfl,rfl,hb,hl,hm,hlen,hel,hsp,_⟩
 ·obtain ⟨φ',H',s,bs,h1,h2,h3,h4,h5,h6,_,_⟩:=Imp.sliceK (n:=0) (c:=0) (A:=none) (K:=fun _ _=>True) hsz hR h z7v (Nat.le_refl _) (Nat.zero_le _) (fun _=>rfl) (C:=fun _=>[]) (fun i hi=>absurd hi (Nat.not_lt_zero _)) (fun a ha=>by cases ha) (fun a ha=>by cases ha)
  have:bs=[]:=List.length_eq_zero_iff.1 h6
  subst this
  exact ⟨_,φ',H',s,[],rfl,h1,h2,h3,h4,h5,Nat.zero_le _⟩
 ·have get:∀i (hi:i<len),∃cs',W.cells? 0 (a.add (i*sz)) sz=some cs'∧DataW.trod enc Tryd.prog W 0 (fun _=>true) true n e cs'=some (elems[i]'(by omega)):=by
   intro i hi
   have:=hel i hi
   rw [hc,List.getElem?_eq_getElem (by omega)] at this
   obtain ⟨cs',h1,h2⟩:=Option.bind_eq_some_iff.1 this
   exact ⟨cs',h1,h2⟩
  have hww:∀y∈elems,(y.1.weights Tryd.prog e).all (·≤reachBytes)=true:=by
   intro y hy
   rw [List.all_eq_true]
   intro w' hw'
   rw [List.all_eq_true] at hw
   refine hw w' ?_
   simp only [DataW.weights,ht,List.mem_cons,List.mem_append]
   exact .inr (.inl (z96 (List.mem_map.2 ⟨y,hy,rfl⟩) w' hw'))
  obtain ⟨φ',H',s,bs,h1,h2,h3,h4,h5,h6,_,h8⟩:=Imp.sliceK (n:=len) (c:=cap) (A:=some a) (K:=fun i b=>∀y,(elems.map (·.1))[i]? = some y→w b≤Rows.uptoBulk y) hsz hR h z7v hl hm (fun h=>by cases h) (C:=fun i=>(W.cells? 0 (a.add (i*sz)) sz).getD []) (fun i hi=>by
    obtain ⟨cs',g1,g2⟩:=get i hi
    simp only [g1,Option.getD_some]
    intro φ0 H0 hi0
    obtain ⟨φ',H',cs2,b,q1,q2,q3,q4,q5,q6,q7,q8⟩:=elem n (Nat.lt_succ_self n) cs' _ g2 (hww _ (List.getElem_mem _)) φ0 H0 hi0
    refine ⟨φ',H',cs2,b,q1,q2,q3,q4,q5,q6,q7,fun y hy=>?_⟩
    rw [List.getElem?_map,List.getElem?_eq_getElem (by omega),Option.map_some] at hy
    cases hy
    exact q8) (fun a' ha' hpos=>by
    cases ha'
    by_cases h0:0<len
    ·obtain ⟨cs',g1,g2⟩:=get 0 h0
     obtain ⟨_,k2,k3⟩:=World.cells?_some g1
     have:=k3 0 hsz
     rw [Nat.zero_mul,add_zero,add_zero] at this
     exact ⟨_,this.trans (List.getElem?_eq_getElem (by omega))⟩
    ·obtain rfl:len=0:=by omega
     obtain ⟨q1,q2⟩:=hsp rfl
     have:=q2 0 (by omega)
     rw [hc,List.getElem?_eq_getElem (by omega)] at this
     obtain ⟨cs',g1,g2⟩:=Option.bind_eq_some_iff.1 this
     obtain ⟨_,k2,k3⟩:=World.cells?_some g1
     have:=k3 0 hsz
     rw [Nat.zero_add,Nat.zero_mul,add_zero,add_zero] at this
     exact ⟨_,this.trans (List.getElem?_eq_getElem (by omega))⟩) (fun a' ha' i hi j hj=>by
    cases ha'
    obtain ⟨cs',g1,g2⟩:=get i hi
    obtain ⟨_,k2,k3⟩:=World.cells?_some g1
    have:=k3 j hj
    simp only [g1,Option.getD_some]
    rw [← this]
    have hsp:a.spot=none:=by
     obtain ⟨cs0,g1,g2⟩:=get 0 (by omega)
     obtain ⟨_,k2,k3⟩:=World.cells?_some g1
     have k0:=k3 0 hsz
     rw [Nat.zero_mul,add_zero,add_zero] at k0
     obtain ⟨_,_,_,_,hs,_⟩:=z7j (k0.trans (List.getElem?_eq_getElem (by omega)))
     exact hs
    rw [zbu hsp])
  refine ⟨_,φ',H',s,bs,rfl,h1,h2,h3,h4,h5,?_⟩
  have:=zf5 bs (elems.map (·.1)) (by rw [List.length_map]; omega) fun i b y hb hy=>h8 i b hb y hy
  simp only [Rows.uptoBulk]
  omega
structure ZV (H:AH) (cs:List Value) (b:Int):Prop where
 ex:cs=[.int .i64 b]
theorem ZV.ext (H H':AH) (cs:List Value) (b:Int) (hf:Ext H H') (h:ZV H cs b):ZV H' cs b:=⟨h.ex⟩
theorem fl_EZ:∀l:List Int,l.flatMap EZ.enc=l.map fun n=>Value.int .i64 n
 | []=>rfl
 | x :: l=>by rw [List.flatMap_cons,List.map_cons,fl_EZ l]; rfl
theorem ar_of {H:AH} {s:Sl3} {l:List Int} (h:SlL (Stands 1 ZV) 1 H s l):AR H s l:=by
 have cell:∀(i:Nat) (hi:i<l.length),∃a,s.p=some a∧Cel H (a.add i) (.int .i64 l[i]):=fun i hi=>by
  obtain ⟨a,h1,cs,h2,h3,h4⟩:=h.at_.get i hi
  obtain rfl:=h4.ex
  have:=h3 0 _ rfl
  rw [add_zero,Nat.mul_one,Nat.zero_add] at this
  exact ⟨a,h1,this⟩
 have fl:=fl_EZ l
 refine ⟨h.n,⟨h.n,fun hp=>?_,fun a ha=>?_,?_⟩,fun i hi=>?_⟩
 ·cases l with
  | nil=>exact ⟨rfl,rfl⟩
  | cons x l=>obtain ⟨a,h1,_⟩:=cell 0 (by simp); rw [hp] at h1; cases h1
 ·rw [fl,Nat.mul_one]
  have:=z7g (H:=H) (a:=a) (l.map fun n=>Value.int .i64 n) 0 fun i hi=>by
   rw [List.length_map] at hi
   obtain ⟨a',h1,h2⟩:=cell i hi
   rw [ha] at h1
   cases h1
   rw [Nat.zero_add,List.getElem_map]
   exact h2.1
  rw [List.length_map] at this
  exact this
 ·rw [fl,List.all_eq_true]
  intro v hv
  obtain ⟨n,_,rfl⟩:=List.mem_map.1 hv
  rfl
 ·obtain ⟨a,h1,h2⟩:=cell i hi
  refine ⟨a.add (i*1),?_,?_⟩
  ·unfold idxA
   rw [h1]
   simp only [h.n,if_pos (show (0:Int)≤(i:Int)∧(i:Int)<((l.length:Nat):Int) by omega),Int.toNat_natCast]
  ·rw [Nat.mul_one,h2.rd]; rfl
structure OpV (H:AH) (cs:List Value) (o:OpD):Prop where
 ex:∃s:Sl3,cs=[.int .i64 o.kd,.int .i64 o.sy,s.v,.int .i64 o.a,.int .i64 o.b,.int .i64 o.tg]∧∀H',Ext H H'→AR H' s o.aa
 ok:-9223372036854775808≤o.sy∧o.sy<9223372036854775808
theorem OpV.ext (H H':AH) (cs:List Value) (o:OpD) (hf:Ext H H') (h:OpV H cs o):OpV H' cs o:=⟨let ⟨s,h1,h2⟩:=h.ex; ⟨s,h1,fun H2 hx=>h2 H2 (hf.trans hx)⟩,h.ok⟩
theorem SlZ.ext {H H':AH} {s:Sl3} {l:List Int} (h:SlL (Stands 1 ZV) 1 H s l) (hf:Ext H H'):SlL (Stands 1 ZV) 1 H' s l :=
 ⟨h.n,h.cap,h.top,fun a ha=>⟨Nat.lt_of_lt_of_le (h.low a ha).1 hf.1,(h.low a ha).2⟩,h.at_.imp fun a x hx=>let ⟨cs,h1,h2,h3⟩:=hx; ⟨cs,h1,fun j v hj=>(h2 j v hj).ext hf,⟨h3.ex⟩⟩⟩
theorem zln (fuel:Nat) (cs:List Value) (x:DataW H×List MemPlace) (hx:DataW.trod enc Tryd.prog W 0 (fun _=>true) true fuel 55 cs=some x) (hw:(x.1.weights Tryd.prog 55).all (·≤reachBytes)=true):ElemK Tryd.prog W 6 OpV (fun o=>o.aa.length+1≤Rows.uptoBulk x.1) cs:=by
 intro φ H0 h
 obtain ⟨xs,n,rfl,rfl,hl,hlen,hf⟩:=DataW.trod_struct Tryd.underlying55 hx
 rw [cells55] at hl
 match xs,hlen with
 | [y0,y1,y2,y3,y4,y5],_ =>
  match cs,hl with
  | [c0,c1,c2,c3,c4,c5],_ =>
   have f0:DataW.trod enc Tryd.prog W 0 (fun _=>true) true n 3 (([c0,c1,c2,c3,c4,c5].drop 0).take (Tryd.prog.cellsOf 3))=some y0:=hf 0 _ rfl
   rw [cells3] at f0
   change DataW.trod enc Tryd.prog W 0 (fun _=>true) true n 3 [c0]=some y0 at f0
   have f1:DataW.trod enc Tryd.prog W 0 (fun _=>true) true n 3 (([c0,c1,c2,c3,c4,c5].drop 1).take (Tryd.prog.cellsOf 3))=some y1:=hf 1 _ rfl
   rw [cells3] at f1
   change DataW.trod enc Tryd.prog W 0 (fun _=>true) true n 3 [c1]=some y1 at f1
   have f2:DataW.trod enc Tryd.prog W 0 (fun _=>true) true n 27 (([c0,c1,c2,c3,c4,c5].drop 2).take (Tryd.prog.cellsOf 27))=some y2:=hf 2 _ rfl
   rw [cells27] at f2
   change DataW.trod enc Tryd.prog W 0 (fun _=>true) true n 27 [c2]=some y2 at f2
   have f3:DataW.trod enc Tryd.prog W 0 (fun _=>true) true n 3 (([c0,c1,c2,c3,c4,c5].drop 3).take (Tryd.prog.cellsOf 3))=some y3:=hf 3 _ rfl
   rw [cells3] at f3
   change DataW.trod enc Tryd.prog W 0 (fun _=>true) true n 3 [c3]=some y3 at f3
   have f4:DataW.trod enc Tryd.prog W 0 (fun _=>true) true n 3 (([c0,c1,c2,c3,c4,c5].drop 4).take (Tryd.prog.cellsOf 3))=some y4:=hf 4 _ rfl
   rw [cells3] at f4
   change DataW.trod enc Tryd.prog W 0 (fun _=>true) true n 3 [c4]=some y4 at f4
   have f5:DataW.trod enc Tryd.prog W 0 (fun _=>true) true n 3 (([c0,c1,c2,c3,c4,c5].drop 5).take (Tryd.prog.cellsOf 3))=some y5:=hf 5 _ rfl
   rw [cells3] at f5
   change DataW.trod enc Tryd.prog W 0 (fun _=>true) true n 3 [c5]=some y5 at f5
   simp only [DataW.weights,Tryd.underlying55,List.map_cons,List.map_nil,DataW.weightsEach,List.append_nil,List.all_append,Bool.and_eq_true] at hw
   obtain ⟨n0,e0,d0,w0⟩:=DataW.trod_int Tryd.underlying3 f0
   obtain ⟨n1,e1,d1,w1⟩:=DataW.trod_int Tryd.underlying3 f1
   obtain ⟨n3,e3,d3,w3⟩:=DataW.trod_int Tryd.underlying3 f3
   obtain ⟨n4,e4,d4,w4⟩:=DataW.trod_int Tryd.underlying3 f4
   obtain ⟨n5,e5,d5,w5⟩:=DataW.trod_int Tryd.underlying3 f5
   obtain ⟨v,φ',H',s,bs,e2,g1,g2,g3,g4,g5,g7⟩:=zas (enc:=enc) (w:=fun _:Int=>1) Tryd.underlying27 cells3 (by omega) ZV.ext (fun m hm cs x q1 q2=>fun φ0 H1 h1=>by
    obtain ⟨z,rfl,_,_⟩:=DataW.trod_int Tryd.underlying3 q1
    exact ⟨φ0,H1,[.int .i64 z],z,h1,Inj.le_refl _,Fm.refl _ _,rfl,rfl,lr1 (.int _ _),⟨rfl⟩,bulks.one_le _⟩) f2 hw.2.2.1 h
   have g8:(bs.map fun _:Int=>1).sum=bs.length:=by clear g7 g5; induction bs with
    | nil=>rfl
    | cons b bs ih=>rw [List.map_cons,List.sum_cons,ih,List.length_cons]; omega
   simp only [List.cons.injEq,and_true] at e0 e1 e2 e3 e4 e5
   subst e0 e1 e2 e3 e4 e5
   refine ⟨φ',H',[.int .i64 n0,.int .i64 n1,Sl3.v s,.int .i64 n3,.int .i64 n4,.int .i64 n5],⟨n0,n1,bs,n3,n4,n5⟩,g1,g2,g3,rfl,rfl,.cons (.int _ _) (.cons (.int _ _) (.cons g4 (.cons (.int _ _) (.cons (.int _ _) (.cons (.int _ _) .nil))))),⟨⟨s,rfl,fun H2 hx=>ar_of (SlZ.ext g5 hx)⟩,?_⟩,?_⟩
   ·exact wf_i64 w1
   ·simp only [Rows.uptoBulk,Rows.uptoBulkAll,List.map_cons]
    show bs.length+1≤_
    omega
theorem ops_of {H:AH} {s:Sl3} {l:List OpD} (h:SlL (Stands 6 OpV) 6 H s l):OpsR H s l:=by
 refine ⟨h.n,fun i hi=>?_⟩
 obtain ⟨a,h1,cs,h2,h3,h4⟩:=h.at_.get i hi
 obtain ⟨sl,rfl,h5⟩:=h4.ex
 rw [Nat.zero_add] at h3
 refine ⟨a.add (i*6),?_,⟨h3 0 _ rfl,h3 1 _ rfl,⟨sl,h3 2 _ rfl,h5⟩,h3 3 _ rfl,h3 4 _ rfl,h3 5 _ rfl,h4.ok⟩⟩
 unfold idxA
 rw [h1]
 simp only [h.n,if_pos (show (0:Int)≤(i:Int)∧(i:Int)<((l.length:Nat):Int) by omega),Int.toNat_natCast]
theorem zic:∀ops:List OpD,bulkO ops=(ops.map fun o=>o.aa.length+1).sum
 | []=>rfl
 | o :: ops=>by
  have:=zic ops
  unfold bulkO at this ⊢
  simp only [List.length_cons,List.map_cons,List.sum_cons]
  omega
theorem zk1 {φ:Inj} {H0:AH} (h:Imp Tryd.prog φ H0 W) {v:Value} {d:DataW H} {ps:List MemPlace} (hd:DataW.Trod enc Tryd.prog W 0 (fun _=>true) true 22 v d ps) {base:Nat} (hv:Value.okWide Tryd.prog W .any base 22 v) (hw:(d.weights Tryd.prog 22).all (·≤reachBytes)=true) :
  ∃φ' H' s ops,Imp Tryd.prog φ' H' W∧φ.le φ'∧Ext H0 H'∧VR φ' (Sl3.v s) v∧OpsR H' s ops∧bulkO ops≤Rows.uptoBulk d:=by
 obtain ⟨A,Ln,C,rfl⟩:=okWide_slice Tryd.underlying22 hv
 obtain ⟨fuel,hf⟩:=hd
 change DataW.trod enc Tryd.prog W 0 (fun _=>true) true fuel 22 [.slice A Ln C]=some (d,ps) at hf
 obtain ⟨v',φ',H',s,bs,e,h1,h2,h3,h4,h5,h6⟩:=zas (enc:=enc) (w:=fun o:OpD=>o.aa.length+1) Tryd.underlying22 cells55 (by omega) OpV.ext (fun m hm cs x q1 q2=>zln m cs x q1 q2) hf hw h
 simp only [List.cons.injEq,and_true] at e
 subst e
 exact ⟨φ',H',s,bs,h1,h2,h3,h4,ops_of h5,Nat.le_trans (Nat.le_of_eq (zic bs)) h6⟩
end
end Go.Proofs.YtgkhbmoidenjaaaDoor
namespace Go.Proofs.YtgkhbmoidenjaaaDoor
open Go Go.Abs
set_option maxRecDepth 100000
def z90:Bool→Value
 | r0=>(Value.bool r0)
def zac (H:AH):Bool→AH:=fun _=>H
noncomputable def B38:Code:=(Tryd.f38.body).getD .skip
noncomputable def z1f (_L:LC) (H:AH) (a0:Option Addr):Option Bool :=
 match a0 with
 | none =>
  some false
 | some q1 =>
  Option.bind (rd deM H (Addr.add q1 1)) fun x2 =>
  match x2 with
  | none =>
   some false
  | some _ =>
   some true
theorem z1z {L:LC} {m:Nat} {H:AH} {a0:Option Addr} {r:Bool} (h:z1f L H a0=some r) :
  CallS Tryd.prog (NE.plain 1000) m 38 #[(Value.pointer a0)] H (z90 r) (zac H r):=by
 refine CallS.mk (args:=[(Value.pointer a0)]) Tryd.func38 (B:=B38) (by kernel_rfl) (fun E _=>?_)
 unfold z1f at h
 refine WS.sq (WS.rg (RS.mS 1 [kB 2 false] (RS.dn (WS.nxt (WS.sq (WS.rg (RS.mS 1 [(3,.val (Value.pointer a0))] ?_)))))))
 rcases a0 with _ | q1
 ·try dsimp only at h
  refine RS.mS 9 [kB 2 false,kB 11 false,kU 10,kU 9,kU 8,kU 7,kU 6,kB 5 false,kB 4 false] (RS.dn (WS.nxt (WS.rt ?_)))
  cases h
  exact fun a w hs=>rtR (rS hs)
 ·try dsimp only at h
  refine RS.mS 5 [(8,.val (Value.pointer (some (Addr.add q1 1)))),kP 7 q1,kP 6 q1,kB 5 true,kB 4 true] ?_
  obtain ⟨x2,hx,h⟩:=bind_some h
  refine RS.ld 9 58 (.tmp 8) (z0 hx z4m) ?_
  rcases x2 with _ | q3
  ·try dsimp only at h
   refine RS.mS 3 [kB 2 false,kB 11 false,kB 10 false] (RS.dn (WS.nxt (WS.rt ?_)))
   cases h
   exact fun a w hs=>rtR (rS hs)
  ·try dsimp only at h
   refine RS.mS 3 [kB 2 true,kB 11 true,kB 10 true] (RS.dn (WS.nxt (WS.rt ?_)))
   cases h
   exact fun a w hs=>rtR (rS hs)
def za9:Bool→Value
 | r0=>(Value.bool r0)
def zax (H:AH):Bool→AH:=fun _=>H
noncomputable def B31:Code:=(Tryd.f31.body).getD .skip
noncomputable def z1k (L:LC) (H:AH) (a0:Option Addr) (a1:Int):Option Bool :=
 Option.bind (z1f L H a0) fun x1 =>
 if x1=true then
  if a1≥0 then
   Option.bind a0 fun q2 =>
   Option.bind (rd deSl H (Addr.add q2 0)) fun x3 =>
   some (decide (a1<(x3.n:Int)))
  else
   some false
 else
  some false
theorem z29 {L:LC} {m:Nat} {H:AH} {a0:Option Addr} {a1:Int} {r:Bool} (h:z1k L H a0 a1=some r) :
  CallS Tryd.prog (NE.plain 1000) m 31 #[(Value.pointer a0),(Value.int .i64 a1)] H (za9 r) (zax H r):=by
 refine CallS.mk (args:=[(Value.pointer a0),(Value.int .i64 a1)]) Tryd.func31 (B:=B31) (by kernel_rfl) (fun E _=>?_)
 unfold z1k at h
 refine WS.sq (WS.rg (RS.mS 1 [kB 4 false] (RS.dn (WS.nxt (WS.sq (WS.rg (RS.mS 1 [(5,.val (Value.pointer a0))] ?_)))))))
 obtain ⟨x1,hx,h⟩:=bind_some h
 refine RS.cl (some 6) (v:=(Value.bool x1)) 38 #[(Value.pointer a0)] (z1z hx) (RS.mS 1 [kB 7 x1] ?_)
 rcases z9 h with ⟨hp,h⟩ | ⟨hp,h⟩
 ·refine RS.fx 7 true hp (RS.mS 4 [kB 11 (decide (a1≥0)),kB 10 (decide (a1≥0)),kB 9 (decide (a1≥0)),kI 8 a1] ?_)
  rcases z9 h with ⟨hp,h⟩ | ⟨hp,h⟩
  ·refine RS.fx 11 true (decide_eq_true hp) (RS.mS 2 [(13,.val (Value.pointer a0)),kI 12 a1] ?_)
   obtain ⟨q2,hx,hq2⟩:=bind_some h
   subst hx
   have h:=hq2
   refine RS.mS 2 [(15,.val (Value.pointer (some (Addr.add q2 0)))),kP 14 q2] ?_
   obtain ⟨x3,hx,h⟩:=bind_some h
   refine RS.ld 16 57 (.tmp 15) (z0 hx zb) (RS.mS 4 [kB 4 (decide (a1<(x3.n:Int))),kB 19 (decide (a1<(x3.n:Int))),kB 18 (decide (a1<(x3.n:Int))),kI 17 (x3.n:Int)] (RS.dn (WS.nxt (WS.rt ?_))))
   cases h
   exact fun a w hs=>rtR (rS hs)
  ·refine RS.fx 11 false (decide_eq_false hp) (RS.mS 9 [kB 4 false,kB 19 false,kU 18,kU 17,kU 16,kU 15,kU 14,kU 13,kU 12] (RS.dn (WS.nxt (WS.rt ?_))))
   cases h
   exact fun a w hs=>rtR (rS hs)
 ·refine RS.fx 7 false (b_not hp) (RS.mS 13 [kB 4 false,kB 19 false,kU 18,kU 17,kU 16,kU 15,kU 14,kU 13,kU 12,kB 11 false,kB 10 false,kU 9,kU 8] (RS.dn (WS.nxt (WS.rt ?_))))
  cases h
  exact fun a w hs=>rtR (rS hs)
def z9e:(Int×Bool)→Value
 | (r0,r1)=>(Value.tuple #[(Value.int .i64 r0),(Value.bool r1)])
def za4 (H:AH):(Int×Bool)→AH:=fun _=>H
noncomputable def B14:Code:=(Tryd.f14.body).getD .skip
noncomputable def z2o (L:LC) (H:AH) (a0:Option Addr) (a1:Int):Option (Int×Bool) :=
 Option.bind (z1k L H a0 a1) fun x1 =>
 if x1=true then
  Option.bind a0 fun q2 =>
  Option.bind (rd deSl H (Addr.add q2 5)) fun x3 =>
  Option.bind (rd deSl H (Addr.add q2 4)) fun x4 =>
  Option.bind (idxA 1 x4 a1) fun p5 =>
  Option.bind (rd (deI .i64) H p5) fun x6 =>
  Option.bind (idxA 1 x3 x6) fun p7 =>
  Option.bind (rd deP H p7) fun x8 =>
  Option.bind x8 fun q9 =>
  Option.bind (rd (deI .i64) H (Addr.add q9 3)) fun x10 =>
  some (x10,true)
 else
  some (0,false)
theorem z5z {L:LC} {m:Nat} {H:AH} {a0:Option Addr} {a1:Int} {r:(Int×Bool)} (h:z2o L H a0 a1=some r) :
  CallS Tryd.prog (NE.plain 1000) m 14 #[(Value.pointer a0),(Value.int .i64 a1)] H (z9e r) (za4 H r):=by
 refine CallS.mk (args:=[(Value.pointer a0),(Value.int .i64 a1)]) Tryd.func14 (B:=B14) (by kernel_rfl) (fun E _=>?_)
 unfold z2o at h
 refine WS.sq (WS.rg (RS.mS 2 [kB 5 false,kI 4 0] (RS.dn (WS.nxt (WS.sq (WS.sq (WS.rg (RS.mS 2 [kI 7 a1,(6,.val (Value.pointer a0))] ?_))))))))
 obtain ⟨x1,hx,h⟩:=bind_some h
 refine RS.cl (some 8) (v:=(Value.bool x1)) 31 #[(Value.pointer a0),(Value.int .i64 a1)] (z29 hx) (RS.mS 1 [kB 9 (!x1)] (RS.dn (WS.nxt ?_)))
 rcases z9 h with ⟨hp,h⟩ | ⟨hp,h⟩
 ·refine WS.fx 9 false (nb_not hp) (WS.cF (WS.sk (WS.nxt (WS.sq ?_))))
  refine WS.dr [0,1,2,3,4,5,6,7,8,9,10,11,12,13,14,15] [0,1,3,7,0,16,48,112,0,496,1008,2047,4095,8191,16383,32767,65535,131071] 18 (fun hcl=>?_)
  refine DA.tK 0 (some 10) (Value.pointer a0) ?_
  obtain ⟨q2,hx,hq2⟩:=bind_some h
  subst hx
  have h:=hq2
  refine DA.tK 1 (some 11) (Value.pointer (some q2)) (DA.tK 2 (some 12) (Value.pointer (some (Addr.add q2 5))) ?_)
  obtain ⟨x3,hx,h⟩:=bind_some h
  refine DA.tD 3 (some 13) (Sl3.v x3) (Abs.det_load (t:=60) (x:=.tmp 12) (a:=(Addr.add q2 5)) (by kernel_rfl) (by kernel_rfl) (by kernel_rfl) (by kernel_rfl) (z0 hx zb)) (DA.tK 4 (some 14) (Value.pointer (some q2)) (DA.tK 5 (some 15) (Value.pointer (some q2)) (DA.tK 6 (some 16) (Value.pointer (some (Addr.add q2 4))) ?_)))
  obtain ⟨x4,hx,h⟩:=bind_some h
  refine DA.tD 7 (some 17) (Sl3.v x4) (Abs.det_load (t:=27) (x:=.tmp 16) (a:=(Addr.add q2 4)) (by kernel_rfl) (by kernel_rfl) (by kernel_rfl) (by kernel_rfl) (z0 hx zb)) (DA.tK 8 (some 18) (Value.int .i64 a1) ?_)
  obtain ⟨p5,hx,h⟩:=bind_some h
  refine DA.tD 9 (some 19) (Value.pointer (some p5)) (Abs.det_idx (s:=x4) (k:=.i64) (t:=27) (e:=3) (x:=.tmp 17) (y:=.tmp 18) (by kernel_rfl) (by kernel_rfl) (by kernel_rfl) (by kernel_rfl) (by kernel_rfl) hx) ?_
  obtain ⟨x6,hx,h⟩:=bind_some h
  refine DA.tD 10 (some 20) (Value.int .i64 x6) (Abs.det_load (t:=3) (x:=.tmp 19) (a:=p5) (by kernel_rfl) (by kernel_rfl) (by kernel_rfl) (by kernel_rfl) (z0 hx zd)) ?_
  obtain ⟨p7,hx,h⟩:=bind_some h
  refine DA.tD 11 (some 21) (Value.pointer (some p7)) (Abs.det_idx (s:=x3) (k:=.i64) (t:=60) (e:=79) (x:=.tmp 13) (y:=.tmp 20) (by kernel_rfl) (by kernel_rfl) (by kernel_rfl) (by kernel_rfl) (by kernel_rfl) hx) ?_
  obtain ⟨x8,hx,h⟩:=bind_some h
  refine DA.tD 12 (some 22) (Value.pointer x8) (Abs.det_load (t:=79) (x:=.tmp 21) (a:=p7) (by kernel_rfl) (by kernel_rfl) (by kernel_rfl) (by kernel_rfl) (z0 hx z3h)) ?_
  obtain ⟨q9,hx,hq9⟩:=bind_some h
  subst hx
  have h:=hq9
  refine DA.tK 13 (some 23) (Value.pointer (some q9)) (DA.tK 14 (some 24) (Value.pointer (some (Addr.add q9 3))) ?_)
  obtain ⟨x10,hx,h⟩:=bind_some h
  refine DA.tD 15 (some 25) (Value.int .i64 x10) (Abs.det_load (t:=3) (x:=.tmp 24) (a:=(Addr.add q9 3)) (by kernel_rfl) (by kernel_rfl) (by kernel_rfl) (by kernel_rfl) (z0 hx zd)) (DA.tP 16 (some 4) (Value.int .i64 x10) (DA.tP 17 (some 5) (Value.bool true) (DA.dn (WS.nxt (WS.rt ?_)))))
  cases h
  exact fun a w hs=>rtR (rS hs)
 ·refine WS.fx 9 true (z34 hp) (WS.cT (WS.sq (WS.rg (RS.mS 2 [kB 5 false,kI 4 0] (RS.dn (WS.nxt (WS.rt ?_)))))))
  cases h
  exact fun a w hs=>sqR (rtR (rS hs))
def ze8:((Option Addr)×AH)→Value
 | (r0,_)=>(Value.pointer r0)
def zfp (_:AH):((Option Addr)×AH)→AH:=fun r=>r.2
noncomputable def B16:Code:=(Tryd.f16.body).getD .skip
noncomputable def z68 (_L:LC) (_m:Nat) (H:AH):Option ((Option Addr)×AH) :=
 Option.bind (newM H) fun (p1,H2) =>
 Option.bind (newM H2) fun (p3,H4) =>
 Option.bind (newB 63 [(Sl3.v Sl3.nil),(Value.map (some p1)),(Sl3.v Sl3.nil),(Sl3.v Sl3.nil),(Sl3.v Sl3.nil),(Sl3.v Sl3.nil),(Sl3.v Sl3.nil),(Value.map (some p3))] H4) fun (p5,H6) =>
 some ((some p5),H6)
theorem zap {L:LC} {m:Nat} {H:AH} {r:((Option Addr)×AH)} (h:z68 L m H=some r) :
  CallS Tryd.prog (NE.plain 1000) m 16 #[] H (ze8 r) (zfp H r):=by
 refine CallS.mk (args:=[]) Tryd.func16 (B:=B16) (by kernel_rfl) (fun E _=>?_)
 unfold z68 at h
 refine WS.sq (WS.rg (RS.mS 1 [(0,.val (Value.pointer none))] (RS.dn (WS.nxt (WS.sq (WS.rg ?_))))))
 obtain ⟨⟨p1,H2⟩,hx,h⟩:=bind_some h
 try dsimp only at h
 refine RS.o (H':=H2) (some 1) (Value.map (some p1)) (Abs.run_newM (by kernel_rfl) hx) ?_
 obtain ⟨⟨p3,H4⟩,hx,h⟩:=bind_some h
 try dsimp only at h
 refine RS.o (H':=H4) (some 2) (Value.map (some p3)) (Abs.run_newM (by kernel_rfl) hx) (RS.mS 1 [kA 3 #[(Sl3.v Sl3.nil),(Value.map (some p1)),(Sl3.v Sl3.nil),(Sl3.v Sl3.nil),(Sl3.v Sl3.nil),(Sl3.v Sl3.nil),(Sl3.v Sl3.nil),(Value.map (some p3))]] ?_)
 obtain ⟨⟨p5,H6⟩,hx,h⟩:=bind_some h
 try dsimp only at h
 refine RS.o (H':=H6) (some 4) (Value.pointer (some p5)) (Abs.run_newB (by kernel_rfl) hx) (RS.mS 1 [kP 0 p5] (RS.dn (WS.nxt (WS.rt ?_))))
 cases h
 exact fun a w hs=>rtR (rS hs)
def z53:AH→Value
 | _=>(Value.tuple #[])
def z58 (_:AH):AH→AH:=fun r=>r
noncomputable def B72:Code:=(Tryd.f72.body).getD .skip
noncomputable def zl (_L:LC) (m:Nat) (a0:Option Addr):(AH×Int×Int×Int×Int×Int×Int×Bool)→Option (Lp (AH×Int×Int×Int×Int×Int×Int×Bool) AH):=fun (H1,v1_2,v4_3,w0_4,w0_5,w0_6,w0_7,w0_8) =>
 if v1_2≥0 then
  Option.bind a0 fun q9 =>
  Option.bind (rd deSl H1 (Addr.add q9 6)) fun x10 =>
  Option.bind (idxA 5 x10 v1_2) fun p11 =>
  Option.bind (rd (deI .i64) H1 (Addr.add p11 0)) fun x12_0 =>
  Option.bind (rd (deI .i64) H1 (Addr.add p11 1)) fun x12_1 =>
  Option.bind (rd (deI .i64) H1 (Addr.add p11 2)) fun x12_2 =>
  Option.bind (rd (deI .i64) H1 (Addr.add p11 3)) fun x12_3 =>
  Option.bind (rd deB H1 (Addr.add p11 4)) fun x12_4 =>
  Option.bind (α:=(AH×Int×Int×Int×Int×Bool)) (
   if v4_3<0 then
    Option.bind (rd deSl H1 (Addr.add q9 6)) fun x19 =>
    Option.bind (idxA 5 x19 v1_2) fun p20 =>
    Option.bind (wrCells m p20 0 [(Value.int .i64 (-1)),(Value.int .i64 0),(Value.int .i64 0),(Value.int .i64 0),(Value.bool false)] H1) fun H21 =>
    some (H21,w0_4,w0_5,w0_6,w0_7,w0_8)
   else
    Option.bind (rd deSl H1 (Addr.add q9 6)) fun x22 =>
    Option.bind (idxA 5 x22 v1_2) fun p23 =>
    Option.bind (wrCells m p23 0 [(Value.int .i64 v4_3),(Value.int .i64 w0_5),(Value.int .i64 w0_6),(Value.int .i64 w0_7),(Value.bool w0_8)] H1) fun H24 =>
    some (H24,v4_3,w0_5,w0_6,w0_7,w0_8)) fun (H13,_,_,_,_,_) =>
  some (.next (H13,x12_0,v1_2,x12_0,x12_1,x12_2,x12_3,x12_4))
 else
  some (.brk (H1,v1_2,v4_3,w0_4,w0_5,w0_6,w0_7,w0_8))
def z7k (_L:LC) (_m:Nat) (a0:Option Addr):(AH×Int×Int×Int×Int×Int×Int×Bool)→KN×Lcs:=fun (_,v1_2,v4_3,w0_4,w0_5,w0_6,w0_7,w0_8)=>([kI 1 v1_2,kI 4 v4_3,(0,.val (Value.pointer a0)),kL 5 0 0],[some (109,[(Value.int .i64 w0_4),(Value.int .i64 w0_5),(Value.int .i64 w0_6),(Value.int .i64 w0_7),(Value.bool w0_8)])])
noncomputable def z2a (L:LC) (m:Nat) (H:AH) (a0:Option Addr) (a1:Int):Option AH :=
 Option.bind (L.run (zl L m a0) (H,a1,(-1),0,0,0,0,false)) fun o=>match o with
 | .inl (H25,_,_,_,_,_,_,_) =>
  some H25
 | .inr r=>some r
theorem z46 {E H L m a0} :LoopF Tryd.prog (NE.plain 1000) m E Tryd.f72 ((cfst (csnd B72))) (z7k L m a0) (fun s=>s.1) 0 z53 (z58 H) (zl L m a0):=by
 rintro ⟨H1,v1_2,v4_3,w0_4,w0_5,w0_6,w0_7,w0_8⟩ o h
 unfold zl at h
 try dsimp only at h
 refine WS.sq (WS.sq (WS.rg (RS.mS 2 [kB 9 (decide (v1_2≥0)),kI 8 v1_2] (RS.dn (WS.nxt ?_)))))
 rcases z9 h with ⟨hp,h⟩ | ⟨hp,h⟩
 ·refine WS.fx 9 true (decide_eq_true hp) (WS.cT (WS.sk (WS.nxt (WS.bk 1 (WS.sq (WS.rg (RS.mS 1 [(10,.val (Value.pointer a0))] ?_)))))))
  obtain ⟨q9,hx,hq9⟩:=bind_some h
  subst hx
  have h:=hq9
  refine RS.mS 2 [(12,.val (Value.pointer (some (Addr.add q9 6)))),kP 11 q9] ?_
  obtain ⟨x10,hx,h⟩:=bind_some h
  refine RS.ld 13 61 (.tmp 12) (z0 hx zb) (RS.mS 1 [kI 14 v1_2] ?_)
  obtain ⟨p11,hx,h⟩:=bind_some h
  refine RS.ix 15 61 109 (.tmp 13) (.tmp 14) hx ?_
  obtain ⟨x12_0,hx0,h⟩:=bind_some h
  obtain ⟨x12_1,hx1,h⟩:=bind_some h
  obtain ⟨x12_2,hx2,h⟩:=bind_some h
  obtain ⟨x12_3,hx3,h⟩:=bind_some h
  obtain ⟨x12_4,hx4,h⟩:=bind_some h
  refine RS.la 16 109 (.tmp 15) 5 (zi (z0 hx0 zd) (zi (z0 hx1 zd) (zi (z0 hx2 zd) (zi (z0 hx3 zd) (zi (z0 hx4 z4o) z5n))))) (RS.mL 2 [kL 6 1 0] ([some (109,[(Value.int .i64 w0_4),(Value.int .i64 w0_5),(Value.int .i64 w0_6),(Value.int .i64 w0_7),(Value.bool w0_8)]),some (109,[(Value.int .i64 x12_0),(Value.int .i64 x12_1),(Value.int .i64 x12_2),(Value.int .i64 x12_3),(Value.bool x12_4)])]) (RS.dn (WS.nxt ?_)))
  obtain ⟨⟨H13,w0_14,w0_15,w0_16,w0_17,w0_18⟩,hx,h⟩:=bind_some h
  try dsimp only at h
  refine WS.sq ?_
  refine WS.join ([kP 0 q9,kI 1 v1_2,kL 5 0 0,kL 6 1 0]) ([some (109,[(Value.int .i64 w0_14),(Value.int .i64 w0_15),(Value.int .i64 w0_16),(Value.int .i64 w0_17),(Value.bool w0_18)]),some (109,[(Value.int .i64 x12_0),(Value.int .i64 x12_1),(Value.int .i64 x12_2),(Value.int .i64 x12_3),(Value.bool x12_4)])]) H13 ?_ (fun a w hs=>WS.nxt ?_ a w hs)
  ·clear h; rename _=>h
   refine WS.sq (WS.rg (RS.mS 2 [kB 18 (decide (v4_3<0)),kI 17 v4_3] (RS.dn (WS.nxt ?_))))
   rcases z9 h with ⟨hp,h⟩ | ⟨hp,h⟩
   ·refine WS.fx 18 true (decide_eq_true hp) (WS.cT (WS.rg (RS.mS 3 [(21,.val (Value.pointer (some (Addr.add q9 6)))),kP 20 q9,kP 19 q9] ?_)))
    obtain ⟨x19,hx,h⟩:=bind_some h
    refine RS.ld 22 61 (.tmp 21) (z0 hx zb) (RS.mS 2 [kA 24 #[(Value.int .i64 (-1)),(Value.int .i64 0),(Value.int .i64 0),(Value.int .i64 0),(Value.bool false)],kI 23 v1_2] ?_)
    obtain ⟨p20,hx,h⟩:=bind_some h
    refine RS.ix 25 61 109 (.tmp 22) (.tmp 23) hx ?_
    obtain ⟨H21,hx,h⟩:=bind_some h
    refine RS.o (H':=H21) none undef (Abs.run_storeA (t:=109) (x:=.tmp 25) (y:=.tmp 24) (a:=p20) (v:=(Value.agg #[(Value.int .i64 (-1)),(Value.int .i64 0),(Value.int .i64 0),(Value.int .i64 0),(Value.bool false)])) (by kernel_rfl) (by kernel_rfl) (by kernel_rfl) (by kernel_rfl) (by kernel_rfl) hx) (RS.dn ?_)
    cases h
    exact fun a w hs=>(jsN (hs.sb 2))
   ·refine WS.fx 18 false (decide_eq_false hp) (WS.cF (WS.sq (WS.rg (RS.mL 3 [kL 27 0 0,kI 26 v4_3] ([some (109,[(Value.int .i64 v4_3),(Value.int .i64 w0_5),(Value.int .i64 w0_6),(Value.int .i64 w0_7),(Value.bool w0_8)]),some (109,[(Value.int .i64 x12_0),(Value.int .i64 x12_1),(Value.int .i64 x12_2),(Value.int .i64 x12_3),(Value.bool x12_4)])]) (RS.dn (WS.nxt ?_))))))
    refine WS.dr [0,1,2,3,5] [0,1,3,7,0,0,63,127] 8 (fun hcl=>?_)
    refine DA.tK 0 (some 28) (Value.pointer (some q9)) (DA.tK 1 (some 29) (Value.pointer (some q9)) (DA.tK 2 (some 30) (Value.pointer (some (Addr.add q9 6))) ?_))
    obtain ⟨x22,hx,h⟩:=bind_some h
    refine DA.tD 3 (some 31) (Sl3.v x22) (Abs.det_load (t:=61) (x:=.tmp 30) (a:=(Addr.add q9 6)) (by kernel_rfl) (by kernel_rfl) (by kernel_rfl) (by kernel_rfl) (z0 hx zb)) (DA.tL 5 (some 33) (.val (Value.agg #[(Value.int .i64 v4_3),(Value.int .i64 w0_5),(Value.int .i64 w0_6),(Value.int .i64 w0_7),(Value.bool w0_8)])) (DA.tP 4 (some 32) (Value.int .i64 v1_2) ?_))
    obtain ⟨p23,hx,h⟩:=bind_some h
    refine DA.tPx 6 (some 34) (Value.pointer (some p23)) (Abs.det_idx (s:=x22) (k:=.i64) (t:=61) (e:=109) (x:=.tmp 31) (y:=.tmp 32) (by kernel_rfl) (by kernel_rfl) (by kernel_rfl) (by kernel_rfl) (by kernel_rfl) hx) ?_
    obtain ⟨H24,hx,h⟩:=bind_some h
    refine DA.on 7 (DA.aH (H':=H24) 7 none undef (Abs.run_storeA (t:=109) (x:=.tmp 34) (y:=.tmp 33) (a:=p23) (v:=(Value.agg #[(Value.int .i64 v4_3),(Value.int .i64 w0_5),(Value.int .i64 w0_6),(Value.int .i64 w0_7),(Value.bool w0_8)])) (by kernel_rfl) (by kernel_rfl) (by kernel_rfl) (by kernel_rfl) (by kernel_rfl) hx) (DA.dn ?_))
    cases h
    exact fun a w hs=>(jsN (hs.sb 2))
  ·clear hx
   refine WS.sq ?_
   refine WS.dr [1] [0,0,1,7] 4 (fun hcl=>?_)
   refine DA.tL 1 (some 36) (.val (Value.agg #[(Value.int .i64 x12_0),(Value.int .i64 x12_1),(Value.int .i64 x12_2),(Value.int .i64 x12_3),(Value.bool x12_4)])) (DA.tP 0 (some 35) (Value.int .i64 v1_2) (DA.tP 2 (some 4) (Value.int .i64 v1_2) (DA.on 3 (DA.aL 3 none (.val undef) ([some (109,[(Value.int .i64 x12_0),(Value.int .i64 x12_1),(Value.int .i64 x12_2),(Value.int .i64 x12_3),(Value.bool x12_4)]),some (109,[(Value.int .i64 x12_0),(Value.int .i64 x12_1),(Value.int .i64 x12_2),(Value.int .i64 x12_3),(Value.bool x12_4)])]) false (DA.dn (WS.nxt (WS.rg (RS.mS 3 [kI 1 x12_0,kI 38 x12_0,kL 37 1 0] (RS.dn ?_)))))))))
   cases h
   exact fun a w hs=>bkN (lsN rfl (hs.sb 1))
 ·refine WS.fx 9 false (decide_eq_false hp) (WS.cF (WS.ex 0 ?_))
  cases h
  exact fun a w hs=>sqE (lsB rfl (hs.sb 1))
theorem z8j {L:LC} {m:Nat} {H:AH} {a0:Option Addr} {a1:Int} {r:AH} (h:z2a L m H a0 a1=some r) :
  CallS Tryd.prog (NE.plain 1000) m 72 #[(Value.pointer a0),(Value.int .i64 a1)] H (z53 r) (z58 H r):=by
 refine CallS.mk (args:=[(Value.pointer a0),(Value.int .i64 a1)]) Tryd.func72 (B:=B72) (by kernel_rfl) (fun E _=>?_)
 unfold z2a at h
 refine WS.sq (WS.rg (RS.mL 4 [kI 4 (-1),kL 5 0 0,kA 7 #[(Value.int .i64 0),(Value.int .i64 0),(Value.int .i64 0),(Value.int .i64 0),(Value.bool false)]] ([some (109,[(Value.int .i64 0),(Value.int .i64 0),(Value.int .i64 0),(Value.int .i64 0),(Value.bool false)])]) (RS.dn (WS.nxt (WS.bk 0 ?_)))))
 obtain ⟨o,hl,h⟩:=bind_some h
 rcases o with ⟨H25,v1_26,v4_27,w0_28,w0_29,w0_30,w0_31,w0_32⟩ | r
 ·try dsimp only at h
  refine WS.lI (z46 (L:=L) (E:=E) (m:=m) (H:=H)) (L.ok hl) 1 ?_
  clear hl
  cases h
  exact fun a w hs=>bkE (rtN (rS hs))
 ·try dsimp only at h
  refine WS.lR (z46 (L:=L) (E:=E) (m:=m) (H:=H)) (L.ok hl) 1 ?_
  cases h
  exact fun a w hq=>bkR (rtR hq)
def zaw:AH→Value
 | _=>(Value.tuple #[])
def zbh (_:AH):AH→AH:=fun r=>r
noncomputable def B70:Code:=(Tryd.f70.body).getD .skip
noncomputable def z2l (_L:LC) (m:Nat) (H:AH) (a0:Option Addr) (a1:Sl3):Option AH :=
 Option.bind a0 fun q1 =>
 Option.bind (rd deSl H (Addr.add q1 0)) fun x2 =>
 Option.bind (appS m 3 1 8 H x2 a1) fun (s3,H4) =>
 Option.bind (H4.setCell m (Addr.add q1 0) (Sl3.v s3)) fun H5 =>
 some H5
theorem z6t {L:LC} {m:Nat} {H:AH} {a0:Option Addr} {a1:Sl3} {r:AH} (h:z2l L m H a0 a1=some r) :
  CallS Tryd.prog (NE.plain 1000) m 70 #[(Value.pointer a0),(Sl3.v a1)] H (zaw r) (zbh H r):=by
 refine CallS.mk (args:=[(Value.pointer a0),(Sl3.v a1)]) Tryd.func70 (B:=B70) (by kernel_rfl) (fun E _=>?_)
 unfold z2l at h
 refine WS.rg (RS.mS 2 [(5,.val (Value.pointer a0)),(4,.val (Value.pointer a0))] ?_)
 obtain ⟨q1,hx,hq1⟩:=bind_some h
 subst hx
 have h:=hq1
 refine RS.mS 2 [(7,.val (Value.pointer (some (Addr.add q1 0)))),kP 6 q1] ?_
 obtain ⟨x2,hx,h⟩:=bind_some h
 refine RS.ld 8 27 (.tmp 7) (z0 hx zb) (RS.mS 1 [kS 9 a1] ?_)
 obtain ⟨⟨s3,H4⟩,hx,h⟩:=bind_some h
 try dsimp only at h
 refine RS.o (H':=H4) (some 10) (Sl3.v s3) (Abs.run_app (x:=.tmp 8) (y:=.tmp 9) (ts:=#[27,27]) (s:=x2) (z:=a1) (by kernel_rfl) (by kernel_rfl) (by kernel_rfl) (by kernel_rfl) hx) (RS.mS 2 [(12,.val (Value.pointer (some (Addr.add q1 0)))),kP 11 q1] ?_)
 obtain ⟨H5,hx,h⟩:=bind_some h
 refine RS.o (H':=H5) none undef (Abs.run_store1 (t:=27) (x:=.tmp 12) (y:=.tmp 10) (a:=(Addr.add q1 0)) (v:=(Sl3.v s3)) (by kernel_rfl) (by kernel_rfl) (by kernel_rfl) (by kernel_rfl) (by kernel_rfl) hx) (RS.dn ?_)
 cases h
 exact fun a w hs=>rtN (rS hs)
end Go.Proofs.YtgkhbmoidenjaaaDoor
namespace Go.Proofs.YtgkhbmoidenjaaaDoor
open Go Go.Abs
set_option maxRecDepth 100000
def z4d:AH→Value
 | _=>(Value.tuple #[])
def z4v (_:AH):AH→AH:=fun r=>r
noncomputable def B100:Code:=(Tryd.f100.body).getD .skip
noncomputable def z11 (_L:LC) (m:Nat) (a0:Sl3):(AH×Int×Int)→Option (Lp (AH×Int×Int) AH):=fun (H1,v1_2,v4_3) =>
 if v4_3≥8 then
  Option.bind (bytA (⟨#[48,48,48,49,48,50,48,51,48,52,48,53,48,54,48,55,48,56,48,57,49,48,49,49,49,50,49,51,49,52,49,53,49,54,49,55,49,56,49,57,50,48,50,49,50,50,50,51,50,52,50,53,50,54,50,55,50,56,50,57,51,48,51,49,51,50,51,51,51,52,51,53,51,54,51,55,51,56,51,57,52,48,52,49,52,50,52,51,52,52,52,53,52,54,52,55,52,56,52,57,53,48,53,49,53,50,53,51,53,52,53,53,53,54,53,55,53,56,53,57,54,48,54,49,54,50,54,51,54,52,54,53,54,54,54,55,54,56,54,57,55,48,55,49,55,50,55,51,55,52,55,53,55,54,55,55,55,56,55,57,56,48,56,49,56,50,56,51,56,52,56,53,56,54,56,55,56,56,56,57,57,48,57,49,57,50,57,51,57,52,57,53,57,54,57,55,57,56,57,57]⟩:ByteArray) (IntKind.u32.wrap ((IntKind.u32.wrap ((Int.tmod (Int.tmod (IntKind.u32.wrap (Int.tmod v1_2 100000000)) 10000) 100)*2))+1))) fun x4 =>
  Option.bind (bytA (⟨#[48,48,48,49,48,50,48,51,48,52,48,53,48,54,48,55,48,56,48,57,49,48,49,49,49,50,49,51,49,52,49,53,49,54,49,55,49,56,49,57,50,48,50,49,50,50,50,51,50,52,50,53,50,54,50,55,50,56,50,57,51,48,51,49,51,50,51,51,51,52,51,53,51,54,51,55,51,56,51,57,52,48,52,49,52,50,52,51,52,52,52,53,52,54,52,55,52,56,52,57,53,48,53,49,53,50,53,51,53,52,53,53,53,54,53,55,53,56,53,57,54,48,54,49,54,50,54,51,54,52,54,53,54,54,54,55,54,56,54,57,55,48,55,49,55,50,55,51,55,52,55,53,55,54,55,55,55,56,55,57,56,48,56,49,56,50,56,51,56,52,56,53,56,54,56,55,56,56,56,57,57,48,57,49,57,50,57,51,57,52,57,53,57,54,57,55,57,56,57,57]⟩:ByteArray) (IntKind.u32.wrap ((Int.tmod (Int.tmod (IntKind.u32.wrap (Int.tmod v1_2 100000000)) 10000) 100)*2))) fun x5 =>
  Option.bind (idxA 1 a0 (IntKind.i64.wrap (v4_3 - 1))) fun p6 =>
  Option.bind (H1.setCell m p6 (Value.int .u8 x4)) fun H7 =>
  Option.bind (idxA 1 a0 (IntKind.i64.wrap (v4_3 - 2))) fun p8 =>
  Option.bind (H7.setCell m p8 (Value.int .u8 x5)) fun H9 =>
  Option.bind (bytA (⟨#[48,48,48,49,48,50,48,51,48,52,48,53,48,54,48,55,48,56,48,57,49,48,49,49,49,50,49,51,49,52,49,53,49,54,49,55,49,56,49,57,50,48,50,49,50,50,50,51,50,52,50,53,50,54,50,55,50,56,50,57,51,48,51,49,51,50,51,51,51,52,51,53,51,54,51,55,51,56,51,57,52,48,52,49,52,50,52,51,52,52,52,53,52,54,52,55,52,56,52,57,53,48,53,49,53,50,53,51,53,52,53,53,53,54,53,55,53,56,53,57,54,48,54,49,54,50,54,51,54,52,54,53,54,54,54,55,54,56,54,57,55,48,55,49,55,50,55,51,55,52,55,53,55,54,55,55,55,56,55,57,56,48,56,49,56,50,56,51,56,52,56,53,56,54,56,55,56,56,56,57,57,48,57,49,57,50,57,51,57,52,57,53,57,54,57,55,57,56,57,57]⟩:ByteArray) (IntKind.u32.wrap ((IntKind.u32.wrap ((IntKind.u32.wrap (Int.tdiv (Int.tmod (IntKind.u32.wrap (Int.tmod v1_2 100000000)) 10000) 100))*2))+1))) fun x10 =>
  Option.bind (bytA (⟨#[48,48,48,49,48,50,48,51,48,52,48,53,48,54,48,55,48,56,48,57,49,48,49,49,49,50,49,51,49,52,49,53,49,54,49,55,49,56,49,57,50,48,50,49,50,50,50,51,50,52,50,53,50,54,50,55,50,56,50,57,51,48,51,49,51,50,51,51,51,52,51,53,51,54,51,55,51,56,51,57,52,48,52,49,52,50,52,51,52,52,52,53,52,54,52,55,52,56,52,57,53,48,53,49,53,50,53,51,53,52,53,53,53,54,53,55,53,56,53,57,54,48,54,49,54,50,54,51,54,52,54,53,54,54,54,55,54,56,54,57,55,48,55,49,55,50,55,51,55,52,55,53,55,54,55,55,55,56,55,57,56,48,56,49,56,50,56,51,56,52,56,53,56,54,56,55,56,56,56,57,57,48,57,49,57,50,57,51,57,52,57,53,57,54,57,55,57,56,57,57]⟩:ByteArray) (IntKind.u32.wrap ((IntKind.u32.wrap (Int.tdiv (Int.tmod (IntKind.u32.wrap (Int.tmod v1_2 100000000)) 10000) 100))*2))) fun x11 =>
  Option.bind (idxA 1 a0 (IntKind.i64.wrap (v4_3 - 3))) fun p12 =>
  Option.bind (H9.setCell m p12 (Value.int .u8 x10)) fun H13 =>
  Option.bind (idxA 1 a0 (IntKind.i64.wrap (v4_3 - 4))) fun p14 =>
  Option.bind (H13.setCell m p14 (Value.int .u8 x11)) fun H15 =>
  Option.bind (bytA (⟨#[48,48,48,49,48,50,48,51,48,52,48,53,48,54,48,55,48,56,48,57,49,48,49,49,49,50,49,51,49,52,49,53,49,54,49,55,49,56,49,57,50,48,50,49,50,50,50,51,50,52,50,53,50,54,50,55,50,56,50,57,51,48,51,49,51,50,51,51,51,52,51,53,51,54,51,55,51,56,51,57,52,48,52,49,52,50,52,51,52,52,52,53,52,54,52,55,52,56,52,57,53,48,53,49,53,50,53,51,53,52,53,53,53,54,53,55,53,56,53,57,54,48,54,49,54,50,54,51,54,52,54,53,54,54,54,55,54,56,54,57,55,48,55,49,55,50,55,51,55,52,55,53,55,54,55,55,55,56,55,57,56,48,56,49,56,50,56,51,56,52,56,53,56,54,56,55,56,56,56,57,57,48,57,49,57,50,57,51,57,52,57,53,57,54,57,55,57,56,57,57]⟩:ByteArray) (IntKind.u32.wrap ((IntKind.u32.wrap ((Int.tmod (IntKind.u32.wrap (Int.tdiv (IntKind.u32.wrap (Int.tmod v1_2 100000000)) 10000)) 100)*2))+1))) fun x16 =>
  Option.bind (bytA (⟨#[48,48,48,49,48,50,48,51,48,52,48,53,48,54,48,55,48,56,48,57,49,48,49,49,49,50,49,51,49,52,49,53,49,54,49,55,49,56,49,57,50,48,50,49,50,50,50,51,50,52,50,53,50,54,50,55,50,56,50,57,51,48,51,49,51,50,51,51,51,52,51,53,51,54,51,55,51,56,51,57,52,48,52,49,52,50,52,51,52,52,52,53,52,54,52,55,52,56,52,57,53,48,53,49,53,50,53,51,53,52,53,53,53,54,53,55,53,56,53,57,54,48,54,49,54,50,54,51,54,52,54,53,54,54,54,55,54,56,54,57,55,48,55,49,55,50,55,51,55,52,55,53,55,54,55,55,55,56,55,57,56,48,56,49,56,50,56,51,56,52,56,53,56,54,56,55,56,56,56,57,57,48,57,49,57,50,57,51,57,52,57,53,57,54,57,55,57,56,57,57]⟩:ByteArray) (IntKind.u32.wrap ((Int.tmod (IntKind.u32.wrap (Int.tdiv (IntKind.u32.wrap (Int.tmod v1_2 100000000)) 10000)) 100)*2))) fun x17 =>
  Option.bind (idxA 1 a0 (IntKind.i64.wrap (v4_3 - 5))) fun p18 =>
  Option.bind (H15.setCell m p18 (Value.int .u8 x16)) fun H19 =>
  Option.bind (idxA 1 a0 (IntKind.i64.wrap (v4_3 - 6))) fun p20 =>
  Option.bind (H19.setCell m p20 (Value.int .u8 x17)) fun H21 =>
  Option.bind (bytA (⟨#[48,48,48,49,48,50,48,51,48,52,48,53,48,54,48,55,48,56,48,57,49,48,49,49,49,50,49,51,49,52,49,53,49,54,49,55,49,56,49,57,50,48,50,49,50,50,50,51,50,52,50,53,50,54,50,55,50,56,50,57,51,48,51,49,51,50,51,51,51,52,51,53,51,54,51,55,51,56,51,57,52,48,52,49,52,50,52,51,52,52,52,53,52,54,52,55,52,56,52,57,53,48,53,49,53,50,53,51,53,52,53,53,53,54,53,55,53,56,53,57,54,48,54,49,54,50,54,51,54,52,54,53,54,54,54,55,54,56,54,57,55,48,55,49,55,50,55,51,55,52,55,53,55,54,55,55,55,56,55,57,56,48,56,49,56,50,56,51,56,52,56,53,56,54,56,55,56,56,56,57,57,48,57,49,57,50,57,51,57,52,57,53,57,54,57,55,57,56,57,57]⟩:ByteArray) (IntKind.u32.wrap ((IntKind.u32.wrap ((IntKind.u32.wrap (Int.tdiv (IntKind.u32.wrap (Int.tdiv (IntKind.u32.wrap (Int.tmod v1_2 100000000)) 10000)) 100))*2))+1))) fun x22 =>
  Option.bind (bytA (⟨#[48,48,48,49,48,50,48,51,48,52,48,53,48,54,48,55,48,56,48,57,49,48,49,49,49,50,49,51,49,52,49,53,49,54,49,55,49,56,49,57,50,48,50,49,50,50,50,51,50,52,50,53,50,54,50,55,50,56,50,57,51,48,51,49,51,50,51,51,51,52,51,53,51,54,51,55,51,56,51,57,52,48,52,49,52,50,52,51,52,52,52,53,52,54,52,55,52,56,52,57,53,48,53,49,53,50,53,51,53,52,53,53,53,54,53,55,53,56,53,57,54,48,54,49,54,50,54,51,54,52,54,53,54,54,54,55,54,56,54,57,55,48,55,49,55,50,55,51,55,52,55,53,55,54,55,55,55,56,55,57,56,48,56,49,56,50,56,51,56,52,56,53,56,54,56,55,56,56,56,57,57,48,57,49,57,50,57,51,57,52,57,53,57,54,57,55,57,56,57,57]⟩:ByteArray) (IntKind.u32.wrap ((IntKind.u32.wrap (Int.tdiv (IntKind.u32.wrap (Int.tdiv (IntKind.u32.wrap (Int.tmod v1_2 100000000)) 10000)) 100))*2))) fun x23 =>
  Option.bind (idxA 1 a0 (IntKind.i64.wrap (v4_3 - 7))) fun p24 =>
  Option.bind (H21.setCell m p24 (Value.int .u8 x22)) fun H25 =>
  Option.bind (idxA 1 a0 (IntKind.i64.wrap (v4_3 - 8))) fun p26 =>
  Option.bind (H25.setCell m p26 (Value.int .u8 x23)) fun H27 =>
  some (.next (H27,(IntKind.u64.wrap (Int.tdiv v1_2 100000000)),(IntKind.i64.wrap (v4_3 - 8))))
 else
  some (.brk (H1,v1_2,v4_3))
def z73 (_L:LC) (_m:Nat) (a0:Sl3):(AH×Int×Int)→KN×Lcs:=fun (_,v1_2,v4_3)=>([(1,.val (Value.int .u64 v1_2)),kI 4 v4_3,kS 0 a0],[])
noncomputable def z2j (L:LC) (m:Nat) (H:AH) (a0:Sl3) (a1:Int):Option AH :=
 Option.bind (L.run (z11 L m a0) (H,a1,(a0.n:Int))) fun o=>match o with
 | .inl (H28,v1_29,v4_30) =>
  Option.bind (α:=(AH×Int×Int)) (
   if v4_30≥4 then
    Option.bind (bytA (⟨#[48,48,48,49,48,50,48,51,48,52,48,53,48,54,48,55,48,56,48,57,49,48,49,49,49,50,49,51,49,52,49,53,49,54,49,55,49,56,49,57,50,48,50,49,50,50,50,51,50,52,50,53,50,54,50,55,50,56,50,57,51,48,51,49,51,50,51,51,51,52,51,53,51,54,51,55,51,56,51,57,52,48,52,49,52,50,52,51,52,52,52,53,52,54,52,55,52,56,52,57,53,48,53,49,53,50,53,51,53,52,53,53,53,54,53,55,53,56,53,57,54,48,54,49,54,50,54,51,54,52,54,53,54,54,54,55,54,56,54,57,55,48,55,49,55,50,55,51,55,52,55,53,55,54,55,55,55,56,55,57,56,48,56,49,56,50,56,51,56,52,56,53,56,54,56,55,56,56,56,57,57,48,57,49,57,50,57,51,57,52,57,53,57,54,57,55,57,56,57,57]⟩:ByteArray) (IntKind.u32.wrap ((IntKind.u32.wrap ((Int.tmod (Int.tmod (IntKind.u32.wrap v1_29) 10000) 100)*2))+1))) fun x34 =>
    Option.bind (bytA (⟨#[48,48,48,49,48,50,48,51,48,52,48,53,48,54,48,55,48,56,48,57,49,48,49,49,49,50,49,51,49,52,49,53,49,54,49,55,49,56,49,57,50,48,50,49,50,50,50,51,50,52,50,53,50,54,50,55,50,56,50,57,51,48,51,49,51,50,51,51,51,52,51,53,51,54,51,55,51,56,51,57,52,48,52,49,52,50,52,51,52,52,52,53,52,54,52,55,52,56,52,57,53,48,53,49,53,50,53,51,53,52,53,53,53,54,53,55,53,56,53,57,54,48,54,49,54,50,54,51,54,52,54,53,54,54,54,55,54,56,54,57,55,48,55,49,55,50,55,51,55,52,55,53,55,54,55,55,55,56,55,57,56,48,56,49,56,50,56,51,56,52,56,53,56,54,56,55,56,56,56,57,57,48,57,49,57,50,57,51,57,52,57,53,57,54,57,55,57,56,57,57]⟩:ByteArray) (IntKind.u32.wrap ((Int.tmod (Int.tmod (IntKind.u32.wrap v1_29) 10000) 100)*2))) fun x35 =>
    Option.bind (idxA 1 a0 (IntKind.i64.wrap (v4_30 - 1))) fun p36 =>
    Option.bind (H28.setCell m p36 (Value.int .u8 x34)) fun H37 =>
    Option.bind (idxA 1 a0 (IntKind.i64.wrap (v4_30 - 2))) fun p38 =>
    Option.bind (H37.setCell m p38 (Value.int .u8 x35)) fun H39 =>
    Option.bind (bytA (⟨#[48,48,48,49,48,50,48,51,48,52,48,53,48,54,48,55,48,56,48,57,49,48,49,49,49,50,49,51,49,52,49,53,49,54,49,55,49,56,49,57,50,48,50,49,50,50,50,51,50,52,50,53,50,54,50,55,50,56,50,57,51,48,51,49,51,50,51,51,51,52,51,53,51,54,51,55,51,56,51,57,52,48,52,49,52,50,52,51,52,52,52,53,52,54,52,55,52,56,52,57,53,48,53,49,53,50,53,51,53,52,53,53,53,54,53,55,53,56,53,57,54,48,54,49,54,50,54,51,54,52,54,53,54,54,54,55,54,56,54,57,55,48,55,49,55,50,55,51,55,52,55,53,55,54,55,55,55,56,55,57,56,48,56,49,56,50,56,51,56,52,56,53,56,54,56,55,56,56,56,57,57,48,57,49,57,50,57,51,57,52,57,53,57,54,57,55,57,56,57,57]⟩:ByteArray) (IntKind.u32.wrap ((IntKind.u32.wrap ((IntKind.u32.wrap (Int.tdiv (Int.tmod (IntKind.u32.wrap v1_29) 10000) 100))*2))+1))) fun x40 =>
    Option.bind (bytA (⟨#[48,48,48,49,48,50,48,51,48,52,48,53,48,54,48,55,48,56,48,57,49,48,49,49,49,50,49,51,49,52,49,53,49,54,49,55,49,56,49,57,50,48,50,49,50,50,50,51,50,52,50,53,50,54,50,55,50,56,50,57,51,48,51,49,51,50,51,51,51,52,51,53,51,54,51,55,51,56,51,57,52,48,52,49,52,50,52,51,52,52,52,53,52,54,52,55,52,56,52,57,53,48,53,49,53,50,53,51,53,52,53,53,53,54,53,55,53,56,53,57,54,48,54,49,54,50,54,51,54,52,54,53,54,54,54,55,54,56,54,57,55,48,55,49,55,50,55,51,55,52,55,53,55,54,55,55,55,56,55,57,56,48,56,49,56,50,56,51,56,52,56,53,56,54,56,55,56,56,56,57,57,48,57,49,57,50,57,51,57,52,57,53,57,54,57,55,57,56,57,57]⟩:ByteArray) (IntKind.u32.wrap ((IntKind.u32.wrap (Int.tdiv (Int.tmod (IntKind.u32.wrap v1_29) 10000) 100))*2))) fun x41 =>
    Option.bind (idxA 1 a0 (IntKind.i64.wrap (v4_30 - 3))) fun p42 =>
    Option.bind (H39.setCell m p42 (Value.int .u8 x40)) fun H43 =>
    Option.bind (idxA 1 a0 (IntKind.i64.wrap (v4_30 - 4))) fun p44 =>
    Option.bind (H43.setCell m p44 (Value.int .u8 x41)) fun H45 =>
    some (H45,(IntKind.i64.wrap (v4_30 - 4)),(IntKind.u32.wrap (Int.tdiv (IntKind.u32.wrap v1_29) 10000)))
   else
    some (H28,v4_30,(IntKind.u32.wrap v1_29))) fun (H31,v4_32,v12_33) =>
  Option.bind (α:=(AH×Int×Int)) (
   if v4_32≥2 then
    Option.bind (bytA (⟨#[48,48,48,49,48,50,48,51,48,52,48,53,48,54,48,55,48,56,48,57,49,48,49,49,49,50,49,51,49,52,49,53,49,54,49,55,49,56,49,57,50,48,50,49,50,50,50,51,50,52,50,53,50,54,50,55,50,56,50,57,51,48,51,49,51,50,51,51,51,52,51,53,51,54,51,55,51,56,51,57,52,48,52,49,52,50,52,51,52,52,52,53,52,54,52,55,52,56,52,57,53,48,53,49,53,50,53,51,53,52,53,53,53,54,53,55,53,56,53,57,54,48,54,49,54,50,54,51,54,52,54,53,54,54,54,55,54,56,54,57,55,48,55,49,55,50,55,51,55,52,55,53,55,54,55,55,55,56,55,57,56,48,56,49,56,50,56,51,56,52,56,53,56,54,56,55,56,56,56,57,57,48,57,49,57,50,57,51,57,52,57,53,57,54,57,55,57,56,57,57]⟩:ByteArray) (IntKind.u32.wrap ((IntKind.u32.wrap ((Int.tmod v12_33 100)*2))+1))) fun x49 =>
    Option.bind (bytA (⟨#[48,48,48,49,48,50,48,51,48,52,48,53,48,54,48,55,48,56,48,57,49,48,49,49,49,50,49,51,49,52,49,53,49,54,49,55,49,56,49,57,50,48,50,49,50,50,50,51,50,52,50,53,50,54,50,55,50,56,50,57,51,48,51,49,51,50,51,51,51,52,51,53,51,54,51,55,51,56,51,57,52,48,52,49,52,50,52,51,52,52,52,53,52,54,52,55,52,56,52,57,53,48,53,49,53,50,53,51,53,52,53,53,53,54,53,55,53,56,53,57,54,48,54,49,54,50,54,51,54,52,54,53,54,54,54,55,54,56,54,57,55,48,55,49,55,50,55,51,55,52,55,53,55,54,55,55,55,56,55,57,56,48,56,49,56,50,56,51,56,52,56,53,56,54,56,55,56,56,56,57,57,48,57,49,57,50,57,51,57,52,57,53,57,54,57,55,57,56,57,57]⟩:ByteArray) (IntKind.u32.wrap ((Int.tmod v12_33 100)*2))) fun x50 =>
    Option.bind (idxA 1 a0 (IntKind.i64.wrap (v4_32 - 1))) fun p51 =>
    Option.bind (H31.setCell m p51 (Value.int .u8 x49)) fun H52 =>
    Option.bind (idxA 1 a0 (IntKind.i64.wrap (v4_32 - 2))) fun p53 =>
    Option.bind (H52.setCell m p53 (Value.int .u8 x50)) fun H54 =>
    some (H54,(IntKind.i64.wrap (v4_32 - 2)),(IntKind.u32.wrap (Int.tdiv v12_33 100)))
   else
    some (H31,v4_32,v12_33)) fun (H46,v4_47,v12_48) =>
  if v4_47 > 0 then
   Option.bind (idxA 1 a0 0) fun p55 =>
   Option.bind (H46.setCell m p55 (Value.int .u8 (IntKind.u8.wrap (IntKind.u32.wrap (48+v12_48))))) fun H56 =>
   some H56
  else
   some H46
 | .inr r=>some r
theorem z3y {E H L m a0} :LoopF Tryd.prog (NE.plain 1000) m E Tryd.f100 ((cfst (cfst (csnd B100)))) (z73 L m a0) (fun s=>s.1) 0 z4d (z4v H) (z11 L m a0):=by
 rintro ⟨H1,v1_2,v4_3⟩ o h
 unfold z11 at h
 try dsimp only at h
 refine WS.sq (WS.sq (WS.rg (RS.mS 2 [kB 20 (decide (v4_3≥8)),kI 19 v4_3] (RS.dn (WS.nxt ?_)))))
 rcases z9 h with ⟨hp,h⟩ | ⟨hp,h⟩
 ·refine WS.fx 20 true (decide_eq_true hp) (WS.cT (WS.sk (WS.nxt (WS.bk 1 (WS.sq (WS.rg (RS.mS 4 [(5,.val (Value.int .u32 (IntKind.u32.wrap (Int.tmod v1_2 100000000)))),(23,.val (Value.int .u32 (IntKind.u32.wrap (Int.tmod v1_2 100000000)))),(22,.val (Value.int .u64 (Int.tmod v1_2 100000000))),(21,.val (Value.int .u64 v1_2))] (RS.dn (WS.nxt ?_)))))))))
  refine WS.sq (WS.rg (RS.mS 3 [(1,.val (Value.int .u64 (IntKind.u64.wrap (Int.tdiv v1_2 100000000)))),(25,.val (Value.int .u64 (IntKind.u64.wrap (Int.tdiv v1_2 100000000)))),(24,.val (Value.int .u64 v1_2))] (RS.dn (WS.nxt (WS.sq (WS.rg (RS.mS 6 [(7,.val (Value.int .u32 (Int.tmod (IntKind.u32.wrap (Int.tmod v1_2 100000000)) 10000))),(6,.val (Value.int .u32 (IntKind.u32.wrap (Int.tdiv (IntKind.u32.wrap (Int.tmod v1_2 100000000)) 10000)))),(29,.val (Value.int .u32 (Int.tmod (IntKind.u32.wrap (Int.tmod v1_2 100000000)) 10000))),(28,.val (Value.int .u32 (IntKind.u32.wrap (Int.tmod v1_2 100000000)))),(27,.val (Value.int .u32 (IntKind.u32.wrap (Int.tdiv (IntKind.u32.wrap (Int.tmod v1_2 100000000)) 10000)))),(26,.val (Value.int .u32 (IntKind.u32.wrap (Int.tmod v1_2 100000000))))] (RS.dn (WS.nxt ?_)))))))))
  refine WS.sq (WS.rg (RS.mS 8 [(9,.val (Value.int .u32 (IntKind.u32.wrap ((Int.tmod (Int.tmod (IntKind.u32.wrap (Int.tmod v1_2 100000000)) 10000) 100)*2)))),(8,.val (Value.int .u32 (IntKind.u32.wrap ((IntKind.u32.wrap (Int.tdiv (Int.tmod (IntKind.u32.wrap (Int.tmod v1_2 100000000)) 10000) 100))*2)))),(35,.val (Value.int .u32 (IntKind.u32.wrap ((Int.tmod (Int.tmod (IntKind.u32.wrap (Int.tmod v1_2 100000000)) 10000) 100)*2)))),(34,.val (Value.int .u32 (Int.tmod (Int.tmod (IntKind.u32.wrap (Int.tmod v1_2 100000000)) 10000) 100))),(33,.val (Value.int .u32 (Int.tmod (IntKind.u32.wrap (Int.tmod v1_2 100000000)) 10000))),(32,.val (Value.int .u32 (IntKind.u32.wrap ((IntKind.u32.wrap (Int.tdiv (Int.tmod (IntKind.u32.wrap (Int.tmod v1_2 100000000)) 10000) 100))*2)))),(31,.val (Value.int .u32 (IntKind.u32.wrap (Int.tdiv (Int.tmod (IntKind.u32.wrap (Int.tmod v1_2 100000000)) 10000) 100)))),(30,.val (Value.int .u32 (Int.tmod (IntKind.u32.wrap (Int.tmod v1_2 100000000)) 10000)))] (RS.dn (WS.nxt (WS.sq (WS.rg (RS.mS 8 [(11,.val (Value.int .u32 (IntKind.u32.wrap ((Int.tmod (IntKind.u32.wrap (Int.tdiv (IntKind.u32.wrap (Int.tmod v1_2 100000000)) 10000)) 100)*2)))),(10,.val (Value.int .u32 (IntKind.u32.wrap ((IntKind.u32.wrap (Int.tdiv (IntKind.u32.wrap (Int.tdiv (IntKind.u32.wrap (Int.tmod v1_2 100000000)) 10000)) 100))*2)))),(41,.val (Value.int .u32 (IntKind.u32.wrap ((Int.tmod (IntKind.u32.wrap (Int.tdiv (IntKind.u32.wrap (Int.tmod v1_2 100000000)) 10000)) 100)*2)))),(40,.val (Value.int .u32 (Int.tmod (IntKind.u32.wrap (Int.tdiv (IntKind.u32.wrap (Int.tmod v1_2 100000000)) 10000)) 100))),(39,.val (Value.int .u32 (IntKind.u32.wrap (Int.tdiv (IntKind.u32.wrap (Int.tmod v1_2 100000000)) 10000)))),(38,.val (Value.int .u32 (IntKind.u32.wrap ((IntKind.u32.wrap (Int.tdiv (IntKind.u32.wrap (Int.tdiv (IntKind.u32.wrap (Int.tmod v1_2 100000000)) 10000)) 100))*2)))),(37,.val (Value.int .u32 (IntKind.u32.wrap (Int.tdiv (IntKind.u32.wrap (Int.tdiv (IntKind.u32.wrap (Int.tmod v1_2 100000000)) 10000)) 100)))),(36,.val (Value.int .u32 (IntKind.u32.wrap (Int.tdiv (IntKind.u32.wrap (Int.tmod v1_2 100000000)) 10000))))] (RS.dn (WS.nxt ?_)))))))))
  refine WS.sq ?_
  refine WS.dr [] [0,0,2,0,0,16,0,64,192,0,512,455,2503,8191,16383] 15 (fun hcl=>?_)
  refine DA.tP 0 (some 42) (Sl3.v a0) (DA.tP 1 (some 43) (Value.int .i64 v4_3) (DA.tP 2 (some 44) (Value.int .i64 (IntKind.i64.wrap (v4_3 - 1))) (DA.tP 3 (some 45) (Sl3.v a0) (DA.tP 4 (some 46) (Value.int .i64 v4_3) (DA.tP 5 (some 47) (Value.int .i64 (IntKind.i64.wrap (v4_3 - 2))) (DA.tP 6 (some 48) (Value.int .u32 (IntKind.u32.wrap ((Int.tmod (Int.tmod (IntKind.u32.wrap (Int.tmod v1_2 100000000)) 10000) 100)*2))) (DA.tP 7 (some 49) (Value.int .u32 (IntKind.u32.wrap ((IntKind.u32.wrap ((Int.tmod (Int.tmod (IntKind.u32.wrap (Int.tmod v1_2 100000000)) 10000) 100)*2))+1))) ?_)))))))
  obtain ⟨x4,hx,h⟩:=bind_some h
  refine DA.tPx 8 (some 50) (Value.int .u8 x4) (Abs.det_byt (t:=9) (x:=.const (Value.string (⟨#[48,48,48,49,48,50,48,51,48,52,48,53,48,54,48,55,48,56,48,57,49,48,49,49,49,50,49,51,49,52,49,53,49,54,49,55,49,56,49,57,50,48,50,49,50,50,50,51,50,52,50,53,50,54,50,55,50,56,50,57,51,48,51,49,51,50,51,51,51,52,51,53,51,54,51,55,51,56,51,57,52,48,52,49,52,50,52,51,52,52,52,53,52,54,52,55,52,56,52,57,53,48,53,49,53,50,53,51,53,52,53,53,53,54,53,55,53,56,53,57,54,48,54,49,54,50,54,51,54,52,54,53,54,54,54,55,54,56,54,57,55,48,55,49,55,50,55,51,55,52,55,53,55,54,55,55,55,56,55,57,56,48,56,49,56,50,56,51,56,52,56,53,56,54,56,55,56,56,56,57,57,48,57,49,57,50,57,51,57,52,57,53,57,54,57,55,57,56,57,57]⟩:ByteArray))) (y:=.tmp 49) (s:=(⟨#[48,48,48,49,48,50,48,51,48,52,48,53,48,54,48,55,48,56,48,57,49,48,49,49,49,50,49,51,49,52,49,53,49,54,49,55,49,56,49,57,50,48,50,49,50,50,50,51,50,52,50,53,50,54,50,55,50,56,50,57,51,48,51,49,51,50,51,51,51,52,51,53,51,54,51,55,51,56,51,57,52,48,52,49,52,50,52,51,52,52,52,53,52,54,52,55,52,56,52,57,53,48,53,49,53,50,53,51,53,52,53,53,53,54,53,55,53,56,53,57,54,48,54,49,54,50,54,51,54,52,54,53,54,54,54,55,54,56,54,57,55,48,55,49,55,50,55,51,55,52,55,53,55,54,55,55,55,56,55,57,56,48,56,49,56,50,56,51,56,52,56,53,56,54,56,55,56,56,56,57,57,48,57,49,57,50,57,51,57,52,57,53,57,54,57,55,57,56,57,57]⟩:ByteArray)) (k:=.u32) (i:=(IntKind.u32.wrap ((IntKind.u32.wrap ((Int.tmod (Int.tmod (IntKind.u32.wrap (Int.tmod v1_2 100000000)) 10000) 100)*2))+1))) (by kernel_rfl) (by kernel_rfl) (by kernel_rfl) (by kernel_rfl) hx) (DA.tP 9 (some 51) (Value.int .u32 (IntKind.u32.wrap ((Int.tmod (Int.tmod (IntKind.u32.wrap (Int.tmod v1_2 100000000)) 10000) 100)*2))) ?_)
  obtain ⟨x5,hx,h⟩:=bind_some h
  refine DA.tPx 10 (some 52) (Value.int .u8 x5) (Abs.det_byt (t:=9) (x:=.const (Value.string (⟨#[48,48,48,49,48,50,48,51,48,52,48,53,48,54,48,55,48,56,48,57,49,48,49,49,49,50,49,51,49,52,49,53,49,54,49,55,49,56,49,57,50,48,50,49,50,50,50,51,50,52,50,53,50,54,50,55,50,56,50,57,51,48,51,49,51,50,51,51,51,52,51,53,51,54,51,55,51,56,51,57,52,48,52,49,52,50,52,51,52,52,52,53,52,54,52,55,52,56,52,57,53,48,53,49,53,50,53,51,53,52,53,53,53,54,53,55,53,56,53,57,54,48,54,49,54,50,54,51,54,52,54,53,54,54,54,55,54,56,54,57,55,48,55,49,55,50,55,51,55,52,55,53,55,54,55,55,55,56,55,57,56,48,56,49,56,50,56,51,56,52,56,53,56,54,56,55,56,56,56,57,57,48,57,49,57,50,57,51,57,52,57,53,57,54,57,55,57,56,57,57]⟩:ByteArray))) (y:=.tmp 51) (s:=(⟨#[48,48,48,49,48,50,48,51,48,52,48,53,48,54,48,55,48,56,48,57,49,48,49,49,49,50,49,51,49,52,49,53,49,54,49,55,49,56,49,57,50,48,50,49,50,50,50,51,50,52,50,53,50,54,50,55,50,56,50,57,51,48,51,49,51,50,51,51,51,52,51,53,51,54,51,55,51,56,51,57,52,48,52,49,52,50,52,51,52,52,52,53,52,54,52,55,52,56,52,57,53,48,53,49,53,50,53,51,53,52,53,53,53,54,53,55,53,56,53,57,54,48,54,49,54,50,54,51,54,52,54,53,54,54,54,55,54,56,54,57,55,48,55,49,55,50,55,51,55,52,55,53,55,54,55,55,55,56,55,57,56,48,56,49,56,50,56,51,56,52,56,53,56,54,56,55,56,56,56,57,57,48,57,49,57,50,57,51,57,52,57,53,57,54,57,55,57,56,57,57]⟩:ByteArray)) (k:=.u32) (i:=(IntKind.u32.wrap ((Int.tmod (Int.tmod (IntKind.u32.wrap (Int.tmod v1_2 100000000)) 10000) 100)*2))) (by kernel_rfl) (by kernel_rfl) (by kernel_rfl) (by kernel_rfl) hx) ?_
  obtain ⟨p6,hx,h⟩:=bind_some h
  refine DA.tPx 11 (some 53) (Value.pointer (some p6)) (Abs.det_idx (s:=a0) (k:=.i64) (t:=151) (e:=5) (x:=.tmp 42) (y:=.tmp 44) (by kernel_rfl) (by kernel_rfl) (by kernel_rfl) (by kernel_rfl) (by kernel_rfl) hx) ?_
  obtain ⟨H7,hx,h⟩:=bind_some h
  refine DA.on 12 (DA.aH (H':=H7) 12 none undef (Abs.run_store1 (t:=5) (x:=.tmp 53) (y:=.tmp 50) (a:=p6) (v:=(Value.int .u8 x4)) (by kernel_rfl) (by kernel_rfl) (by kernel_rfl) (by kernel_rfl) (by kernel_rfl) hx) ?_)
  obtain ⟨p8,hx,h⟩:=bind_some h
  refine DA.tPx 13 (some 54) (Value.pointer (some p8)) (Abs.det_idx (s:=a0) (k:=.i64) (t:=151) (e:=5) (x:=.tmp 45) (y:=.tmp 47) (by kernel_rfl) (by kernel_rfl) (by kernel_rfl) (by kernel_rfl) (by kernel_rfl) hx) ?_
  obtain ⟨H9,hx,h⟩:=bind_some h
  refine DA.on 14 (DA.aH (H':=H9) 14 none undef (Abs.run_store1 (t:=5) (x:=.tmp 54) (y:=.tmp 52) (a:=p8) (v:=(Value.int .u8 x5)) (by kernel_rfl) (by kernel_rfl) (by kernel_rfl) (by kernel_rfl) (by kernel_rfl) hx) (DA.dn (WS.nxt (WS.sq ?_))))
  refine WS.dr [] [0,0,2,0,0,16,0,64,192,0,512,455,2503,8191,16383] 15 (fun hcl=>?_)
  refine DA.tP 0 (some 55) (Sl3.v a0) (DA.tP 1 (some 56) (Value.int .i64 v4_3) (DA.tP 2 (some 57) (Value.int .i64 (IntKind.i64.wrap (v4_3 - 3))) (DA.tP 3 (some 58) (Sl3.v a0) (DA.tP 4 (some 59) (Value.int .i64 v4_3) (DA.tP 5 (some 60) (Value.int .i64 (IntKind.i64.wrap (v4_3 - 4))) (DA.tP 6 (some 61) (Value.int .u32 (IntKind.u32.wrap ((IntKind.u32.wrap (Int.tdiv (Int.tmod (IntKind.u32.wrap (Int.tmod v1_2 100000000)) 10000) 100))*2))) (DA.tP 7 (some 62) (Value.int .u32 (IntKind.u32.wrap ((IntKind.u32.wrap ((IntKind.u32.wrap (Int.tdiv (Int.tmod (IntKind.u32.wrap (Int.tmod v1_2 100000000)) 10000) 100))*2))+1))) ?_)))))))
  obtain ⟨x10,hx,h⟩:=bind_some h
  refine DA.tPx 8 (some 63) (Value.int .u8 x10) (Abs.det_byt (t:=9) (x:=.const (Value.string (⟨#[48,48,48,49,48,50,48,51,48,52,48,53,48,54,48,55,48,56,48,57,49,48,49,49,49,50,49,51,49,52,49,53,49,54,49,55,49,56,49,57,50,48,50,49,50,50,50,51,50,52,50,53,50,54,50,55,50,56,50,57,51,48,51,49,51,50,51,51,51,52,51,53,51,54,51,55,51,56,51,57,52,48,52,49,52,50,52,51,52,52,52,53,52,54,52,55,52,56,52,57,53,48,53,49,53,50,53,51,53,52,53,53,53,54,53,55,53,56,53,57,54,48,54,49,54,50,54,51,54,52,54,53,54,54,54,55,54,56,54,57,55,48,55,49,55,50,55,51,55,52,55,53,55,54,55,55,55,56,55,57,56,48,56,49,56,50,56,51,56,52,56,53,56,54,56,55,56,56,56,57,57,48,57,49,57,50,57,51,57,52,57,53,57,54,57,55,57,56,57,57]⟩:ByteArray))) (y:=.tmp 62) (s:=(⟨#[48,48,48,49,48,50,48,51,48,52,48,53,48,54,48,55,48,56,48,57,49,48,49,49,49,50,49,51,49,52,49,53,49,54,49,55,49,56,49,57,50,48,50,49,50,50,50,51,50,52,50,53,50,54,50,55,50,56,50,57,51,48,51,49,51,50,51,51,51,52,51,53,51,54,51,55,51,56,51,57,52,48,52,49,52,50,52,51,52,52,52,53,52,54,52,55,52,56,52,57,53,48,53,49,53,50,53,51,53,52,53,53,53,54,53,55,53,56,53,57,54,48,54,49,54,50,54,51,54,52,54,53,54,54,54,55,54,56,54,57,55,48,55,49,55,50,55,51,55,52,55,53,55,54,55,55,55,56,55,57,56,48,56,49,56,50,56,51,56,52,56,53,56,54,56,55,56,56,56,57,57,48,57,49,57,50,57,51,57,52,57,53,57,54,57,55,57,56,57,57]⟩:ByteArray)) (k:=.u32) (i:=(IntKind.u32.wrap ((IntKind.u32.wrap ((IntKind.u32.wrap (Int.tdiv (Int.tmod (IntKind.u32.wrap (Int.tmod v1_2 100000000)) 10000) 100))*2))+1))) (by kernel_rfl) (by kernel_rfl) (by kernel_rfl) (by kernel_rfl) hx) (DA.tP 9 (some 64) (Value.int .u32 (IntKind.u32.wrap ((IntKind.u32.wrap (Int.tdiv (Int.tmod (IntKind.u32.wrap (Int.tmod v1_2 100000000)) 10000) 100))*2))) ?_)
  obtain ⟨x11,hx,h⟩:=bind_some h
  refine DA.tPx 10 (some 65) (Value.int .u8 x11) (Abs.det_byt (t:=9) (x:=.const (Value.string (⟨#[48,48,48,49,48,50,48,51,48,52,48,53,48,54,48,55,48,56,48,57,49,48,49,49,49,50,49,51,49,52,49,53,49,54,49,55,49,56,49,57,50,48,50,49,50,50,50,51,50,52,50,53,50,54,50,55,50,56,50,57,51,48,51,49,51,50,51,51,51,52,51,53,51,54,51,55,51,56,51,57,52,48,52,49,52,50,52,51,52,52,52,53,52,54,52,55,52,56,52,57,53,48,53,49,53,50,53,51,53,52,53,53,53,54,53,55,53,56,53,57,54,48,54,49,54,50,54,51,54,52,54,53,54,54,54,55,54,56,54,57,55,48,55,49,55,50,55,51,55,52,55,53,55,54,55,55,55,56,55,57,56,48,56,49,56,50,56,51,56,52,56,53,56,54,56,55,56,56,56,57,57,48,57,49,57,50,57,51,57,52,57,53,57,54,57,55,57,56,57,57]⟩:ByteArray))) (y:=.tmp 64) (s:=(⟨#[48,48,48,49,48,50,48,51,48,52,48,53,48,54,48,55,48,56,48,57,49,48,49,49,49,50,49,51,49,52,49,53,49,54,49,55,49,56,49,57,50,48,50,49,50,50,50,51,50,52,50,53,50,54,50,55,50,56,50,57,51,48,51,49,51,50,51,51,51,52,51,53,51,54,51,55,51,56,51,57,52,48,52,49,52,50,52,51,52,52,52,53,52,54,52,55,52,56,52,57,53,48,53,49,53,50,53,51,53,52,53,53,53,54,53,55,53,56,53,57,54,48,54,49,54,50,54,51,54,52,54,53,54,54,54,55,54,56,54,57,55,48,55,49,55,50,55,51,55,52,55,53,55,54,55,55,55,56,55,57,56,48,56,49,56,50,56,51,56,52,56,53,56,54,56,55,56,56,56,57,57,48,57,49,57,50,57,51,57,52,57,53,57,54,57,55,57,56,57,57]⟩:ByteArray)) (k:=.u32) (i:=(IntKind.u32.wrap ((IntKind.u32.wrap (Int.tdiv (Int.tmod (IntKind.u32.wrap (Int.tmod v1_2 100000000)) 10000) 100))*2))) (by kernel_rfl) (by kernel_rfl) (by kernel_rfl) (by kernel_rfl) hx) ?_
  obtain ⟨p12,hx,h⟩:=bind_some h
  refine DA.tPx 11 (some 66) (Value.pointer (some p12)) (Abs.det_idx (s:=a0) (k:=.i64) (t:=151) (e:=5) (x:=.tmp 55) (y:=.tmp 57) (by kernel_rfl) (by kernel_rfl) (by kernel_rfl) (by kernel_rfl) (by kernel_rfl) hx) ?_
  obtain ⟨H13,hx,h⟩:=bind_some h
  refine DA.on 12 (DA.aH (H':=H13) 12 none undef (Abs.run_store1 (t:=5) (x:=.tmp 66) (y:=.tmp 63) (a:=p12) (v:=(Value.int .u8 x10)) (by kernel_rfl) (by kernel_rfl) (by kernel_rfl) (by kernel_rfl) (by kernel_rfl) hx) ?_)
  obtain ⟨p14,hx,h⟩:=bind_some h
  refine DA.tPx 13 (some 67) (Value.pointer (some p14)) (Abs.det_idx (s:=a0) (k:=.i64) (t:=151) (e:=5) (x:=.tmp 58) (y:=.tmp 60) (by kernel_rfl) (by kernel_rfl) (by kernel_rfl) (by kernel_rfl) (by kernel_rfl) hx) ?_
  obtain ⟨H15,hx,h⟩:=bind_some h
  refine DA.on 14 (DA.aH (H':=H15) 14 none undef (Abs.run_store1 (t:=5) (x:=.tmp 67) (y:=.tmp 65) (a:=p14) (v:=(Value.int .u8 x11)) (by kernel_rfl) (by kernel_rfl) (by kernel_rfl) (by kernel_rfl) (by kernel_rfl) hx) (DA.dn (WS.nxt (WS.sq ?_))))
  refine WS.dr [] [0,0,2,0,0,16,0,64,192,0,512,455,2503,8191,16383] 15 (fun hcl=>?_)
  refine DA.tP 0 (some 68) (Sl3.v a0) (DA.tP 1 (some 69) (Value.int .i64 v4_3) (DA.tP 2 (some 70) (Value.int .i64 (IntKind.i64.wrap (v4_3 - 5))) (DA.tP 3 (some 71) (Sl3.v a0) (DA.tP 4 (some 72) (Value.int .i64 v4_3) (DA.tP 5 (some 73) (Value.int .i64 (IntKind.i64.wrap (v4_3 - 6))) (DA.tP 6 (some 74) (Value.int .u32 (IntKind.u32.wrap ((Int.tmod (IntKind.u32.wrap (Int.tdiv (IntKind.u32.wrap (Int.tmod v1_2 100000000)) 10000)) 100)*2))) (DA.tP 7 (some 75) (Value.int .u32 (IntKind.u32.wrap ((IntKind.u32.wrap ((Int.tmod (IntKind.u32.wrap (Int.tdiv (IntKind.u32.wrap (Int.tmod v1_2 100000000)) 10000)) 100)*2))+1))) ?_)))))))
  obtain ⟨x16,hx,h⟩:=bind_some h
  refine DA.tPx 8 (some 76) (Value.int .u8 x16) (Abs.det_byt (t:=9) (x:=.const (Value.string (⟨#[48,48,48,49,48,50,48,51,48,52,48,53,48,54,48,55,48,56,48,57,49,48,49,49,49,50,49,51,49,52,49,53,49,54,49,55,49,56,49,57,50,48,50,49,50,50,50,51,50,52,50,53,50,54,50,55,50,56,50,57,51,48,51,49,51,50,51,51,51,52,51,53,51,54,51,55,51,56,51,57,52,48,52,49,52,50,52,51,52,52,52,53,52,54,52,55,52,56,52,57,53,48,53,49,53,50,53,51,53,52,53,53,53,54,53,55,53,56,53,57,54,48,54,49,54,50,54,51,54,52,54,53,54,54,54,55,54,56,54,57,55,48,55,49,55,50,55,51,55,52,55,53,55,54,55,55,55,56,55,57,56,48,56,49,56,50,56,51,56,52,56,53,56,54,56,55,56,56,56,57,57,48,57,49,57,50,57,51,57,52,57,53,57,54,57,55,57,56,57,57]⟩:ByteArray))) (y:=.tmp 75) (s:=(⟨#[48,48,48,49,48,50,48,51,48,52,48,53,48,54,48,55,48,56,48,57,49,48,49,49,49,50,49,51,49,52,49,53,49,54,49,55,49,56,49,57,50,48,50,49,50,50,50,51,50,52,50,53,50,54,50,55,50,56,50,57,51,48,51,49,51,50,51,51,51,52,51,53,51,54,51,55,51,56,51,57,52,48,52,49,52,50,52,51,52,52,52,53,52,54,52,55,52,56,52,57,53,48,53,49,53,50,53,51,53,52,53,53,53,54,53,55,53,56,53,57,54,48,54,49,54,50,54,51,54,52,54,53,54,54,54,55,54,56,54,57,55,48,55,49,55,50,55,51,55,52,55,53,55,54,55,55,55,56,55,57,56,48,56,49,56,50,56,51,56,52,56,53,56,54,56,55,56,56,56,57,57,48,57,49,57,50,57,51,57,52,57,53,57,54,57,55,57,56,57,57]⟩:ByteArray)) (k:=.u32) (i:=(IntKind.u32.wrap ((IntKind.u32.wrap ((Int.tmod (IntKind.u32.wrap (Int.tdiv (IntKind.u32.wrap (Int.tmod v1_2 100000000)) 10000)) 100)*2))+1))) (by kernel_rfl) (by kernel_rfl) (by kernel_rfl) (by kernel_rfl) hx) (DA.tP 9 (some 77) (Value.int .u32 (IntKind.u32.wrap ((Int.tmod (IntKind.u32.wrap (Int.tdiv (IntKind.u32.wrap (Int.tmod v1_2 100000000)) 10000)) 100)*2))) ?_)
  obtain ⟨x17,hx,h⟩:=bind_some h
  refine DA.tPx 10 (some 78) (Value.int .u8 x17) (Abs.det_byt (t:=9) (x:=.const (Value.string (⟨#[48,48,48,49,48,50,48,51,48,52,48,53,48,54,48,55,48,56,48,57,49,48,49,49,49,50,49,51,49,52,49,53,49,54,49,55,49,56,49,57,50,48,50,49,50,50,50,51,50,52,50,53,50,54,50,55,50,56,50,57,51,48,51,49,51,50,51,51,51,52,51,53,51,54,51,55,51,56,51,57,52,48,52,49,52,50,52,51,52,52,52,53,52,54,52,55,52,56,52,57,53,48,53,49,53,50,53,51,53,52,53,53,53,54,53,55,53,56,53,57,54,48,54,49,54,50,54,51,54,52,54,53,54,54,54,55,54,56,54,57,55,48,55,49,55,50,55,51,55,52,55,53,55,54,55,55,55,56,55,57,56,48,56,49,56,50,56,51,56,52,56,53,56,54,56,55,56,56,56,57,57,48,57,49,57,50,57,51,57,52,57,53,57,54,57,55,57,56,57,57]⟩:ByteArray))) (y:=.tmp 77) (s:=(⟨#[48,48,48,49,48,50,48,51,48,52,48,53,48,54,48,55,48,56,48,57,49,48,49,49,49,50,49,51,49,52,49,53,49,54,49,55,49,56,49,57,50,48,50,49,50,50,50,51,50,52,50,53,50,54,50,55,50,56,50,57,51,48,51,49,51,50,51,51,51,52,51,53,51,54,51,55,51,56,51,57,52,48,52,49,52,50,52,51,52,52,52,53,52,54,52,55,52,56,52,57,53,48,53,49,53,50,53,51,53,52,53,53,53,54,53,55,53,56,53,57,54,48,54,49,54,50,54,51,54,52,54,53,54,54,54,55,54,56,54,57,55,48,55,49,55,50,55,51,55,52,55,53,55,54,55,55,55,56,55,57,56,48,56,49,56,50,56,51,56,52,56,53,56,54,56,55,56,56,56,57,57,48,57,49,57,50,57,51,57,52,57,53,57,54,57,55,57,56,57,57]⟩:ByteArray)) (k:=.u32) (i:=(IntKind.u32.wrap ((Int.tmod (IntKind.u32.wrap (Int.tdiv (IntKind.u32.wrap (Int.tmod v1_2 100000000)) 10000)) 100)*2))) (by kernel_rfl) (by kernel_rfl) (by kernel_rfl) (by kernel_rfl) hx) ?_
  obtain ⟨p18,hx,h⟩:=bind_some h
  refine DA.tPx 11 (some 79) (Value.pointer (some p18)) (Abs.det_idx (s:=a0) (k:=.i64) (t:=151) (e:=5) (x:=.tmp 68) (y:=.tmp 70) (by kernel_rfl) (by kernel_rfl) (by kernel_rfl) (by kernel_rfl) (by kernel_rfl) hx) ?_
  obtain ⟨H19,hx,h⟩:=bind_some h
  refine DA.on 12 (DA.aH (H':=H19) 12 none undef (Abs.run_store1 (t:=5) (x:=.tmp 79) (y:=.tmp 76) (a:=p18) (v:=(Value.int .u8 x16)) (by kernel_rfl) (by kernel_rfl) (by kernel_rfl) (by kernel_rfl) (by kernel_rfl) hx) ?_)
  obtain ⟨p20,hx,h⟩:=bind_some h
  refine DA.tPx 13 (some 80) (Value.pointer (some p20)) (Abs.det_idx (s:=a0) (k:=.i64) (t:=151) (e:=5) (x:=.tmp 71) (y:=.tmp 73) (by kernel_rfl) (by kernel_rfl) (by kernel_rfl) (by kernel_rfl) (by kernel_rfl) hx) ?_
  obtain ⟨H21,hx,h⟩:=bind_some h
  refine DA.on 14 (DA.aH (H':=H21) 14 none undef (Abs.run_store1 (t:=5) (x:=.tmp 80) (y:=.tmp 78) (a:=p20) (v:=(Value.int .u8 x17)) (by kernel_rfl) (by kernel_rfl) (by kernel_rfl) (by kernel_rfl) (by kernel_rfl) hx) (DA.dn (WS.nxt (WS.sq ?_))))
  refine WS.dr [] [0,0,2,0,0,16,0,64,192,0,512,455,2503,8191,16383] 15 (fun hcl=>?_)
  refine DA.tP 0 (some 81) (Sl3.v a0) (DA.tP 1 (some 82) (Value.int .i64 v4_3) (DA.tP 2 (some 83) (Value.int .i64 (IntKind.i64.wrap (v4_3 - 7))) (DA.tP 3 (some 84) (Sl3.v a0) (DA.tP 4 (some 85) (Value.int .i64 v4_3) (DA.tP 5 (some 86) (Value.int .i64 (IntKind.i64.wrap (v4_3 - 8))) (DA.tP 6 (some 87) (Value.int .u32 (IntKind.u32.wrap ((IntKind.u32.wrap (Int.tdiv (IntKind.u32.wrap (Int.tdiv (IntKind.u32.wrap (Int.tmod v1_2 100000000)) 10000)) 100))*2))) (DA.tP 7 (some 88) (Value.int .u32 (IntKind.u32.wrap ((IntKind.u32.wrap ((IntKind.u32.wrap (Int.tdiv (IntKind.u32.wrap (Int.tdiv (IntKind.u32.wrap (Int.tmod v1_2 100000000)) 10000)) 100))*2))+1))) ?_)))))))
  obtain ⟨x22,hx,h⟩:=bind_some h
  refine DA.tPx 8 (some 89) (Value.int .u8 x22) (Abs.det_byt (t:=9) (x:=.const (Value.string (⟨#[48,48,48,49,48,50,48,51,48,52,48,53,48,54,48,55,48,56,48,57,49,48,49,49,49,50,49,51,49,52,49,53,49,54,49,55,49,56,49,57,50,48,50,49,50,50,50,51,50,52,50,53,50,54,50,55,50,56,50,57,51,48,51,49,51,50,51,51,51,52,51,53,51,54,51,55,51,56,51,57,52,48,52,49,52,50,52,51,52,52,52,53,52,54,52,55,52,56,52,57,53,48,53,49,53,50,53,51,53,52,53,53,53,54,53,55,53,56,53,57,54,48,54,49,54,50,54,51,54,52,54,53,54,54,54,55,54,56,54,57,55,48,55,49,55,50,55,51,55,52,55,53,55,54,55,55,55,56,55,57,56,48,56,49,56,50,56,51,56,52,56,53,56,54,56,55,56,56,56,57,57,48,57,49,57,50,57,51,57,52,57,53,57,54,57,55,57,56,57,57]⟩:ByteArray))) (y:=.tmp 88) (s:=(⟨#[48,48,48,49,48,50,48,51,48,52,48,53,48,54,48,55,48,56,48,57,49,48,49,49,49,50,49,51,49,52,49,53,49,54,49,55,49,56,49,57,50,48,50,49,50,50,50,51,50,52,50,53,50,54,50,55,50,56,50,57,51,48,51,49,51,50,51,51,51,52,51,53,51,54,51,55,51,56,51,57,52,48,52,49,52,50,52,51,52,52,52,53,52,54,52,55,52,56,52,57,53,48,53,49,53,50,53,51,53,52,53,53,53,54,53,55,53,56,53,57,54,48,54,49,54,50,54,51,54,52,54,53,54,54,54,55,54,56,54,57,55,48,55,49,55,50,55,51,55,52,55,53,55,54,55,55,55,56,55,57,56,48,56,49,56,50,56,51,56,52,56,53,56,54,56,55,56,56,56,57,57,48,57,49,57,50,57,51,57,52,57,53,57,54,57,55,57,56,57,57]⟩:ByteArray)) (k:=.u32) (i:=(IntKind.u32.wrap ((IntKind.u32.wrap ((IntKind.u32.wrap (Int.tdiv (IntKind.u32.wrap (Int.tdiv (IntKind.u32.wrap (Int.tmod v1_2 100000000)) 10000)) 100))*2))+1))) (by kernel_rfl) (by kernel_rfl) (by kernel_rfl) (by kernel_rfl) hx) (DA.tP 9 (some 90) (Value.int .u32 (IntKind.u32.wrap ((IntKind.u32.wrap (Int.tdiv (IntKind.u32.wrap (Int.tdiv (IntKind.u32.wrap (Int.tmod v1_2 100000000)) 10000)) 100))*2))) ?_)
  obtain ⟨x23,hx,h⟩:=bind_some h
  refine DA.tPx 10 (some 91) (Value.int .u8 x23) (Abs.det_byt (t:=9) (x:=.const (Value.string (⟨#[48,48,48,49,48,50,48,51,48,52,48,53,48,54,48,55,48,56,48,57,49,48,49,49,49,50,49,51,49,52,49,53,49,54,49,55,49,56,49,57,50,48,50,49,50,50,50,51,50,52,50,53,50,54,50,55,50,56,50,57,51,48,51,49,51,50,51,51,51,52,51,53,51,54,51,55,51,56,51,57,52,48,52,49,52,50,52,51,52,52,52,53,52,54,52,55,52,56,52,57,53,48,53,49,53,50,53,51,53,52,53,53,53,54,53,55,53,56,53,57,54,48,54,49,54,50,54,51,54,52,54,53,54,54,54,55,54,56,54,57,55,48,55,49,55,50,55,51,55,52,55,53,55,54,55,55,55,56,55,57,56,48,56,49,56,50,56,51,56,52,56,53,56,54,56,55,56,56,56,57,57,48,57,49,57,50,57,51,57,52,57,53,57,54,57,55,57,56,57,57]⟩:ByteArray))) (y:=.tmp 90) (s:=(⟨#[48,48,48,49,48,50,48,51,48,52,48,53,48,54,48,55,48,56,48,57,49,48,49,49,49,50,49,51,49,52,49,53,49,54,49,55,49,56,49,57,50,48,50,49,50,50,50,51,50,52,50,53,50,54,50,55,50,56,50,57,51,48,51,49,51,50,51,51,51,52,51,53,51,54,51,55,51,56,51,57,52,48,52,49,52,50,52,51,52,52,52,53,52,54,52,55,52,56,52,57,53,48,53,49,53,50,53,51,53,52,53,53,53,54,53,55,53,56,53,57,54,48,54,49,54,50,54,51,54,52,54,53,54,54,54,55,54,56,54,57,55,48,55,49,55,50,55,51,55,52,55,53,55,54,55,55,55,56,55,57,56,48,56,49,56,50,56,51,56,52,56,53,56,54,56,55,56,56,56,57,57,48,57,49,57,50,57,51,57,52,57,53,57,54,57,55,57,56,57,57]⟩:ByteArray)) (k:=.u32) (i:=(IntKind.u32.wrap ((IntKind.u32.wrap (Int.tdiv (IntKind.u32.wrap (Int.tdiv (IntKind.u32.wrap (Int.tmod v1_2 100000000)) 10000)) 100))*2))) (by kernel_rfl) (by kernel_rfl) (by kernel_rfl) (by kernel_rfl) hx) ?_
  obtain ⟨p24,hx,h⟩:=bind_some h
  refine DA.tPx 11 (some 92) (Value.pointer (some p24)) (Abs.det_idx (s:=a0) (k:=.i64) (t:=151) (e:=5) (x:=.tmp 81) (y:=.tmp 83) (by kernel_rfl) (by kernel_rfl) (by kernel_rfl) (by kernel_rfl) (by kernel_rfl) hx) ?_
  obtain ⟨H25,hx,h⟩:=bind_some h
  refine DA.on 12 (DA.aH (H':=H25) 12 none undef (Abs.run_store1 (t:=5) (x:=.tmp 92) (y:=.tmp 89) (a:=p24) (v:=(Value.int .u8 x22)) (by kernel_rfl) (by kernel_rfl) (by kernel_rfl) (by kernel_rfl) (by kernel_rfl) hx) ?_)
  obtain ⟨p26,hx,h⟩:=bind_some h
  refine DA.tPx 13 (some 93) (Value.pointer (some p26)) (Abs.det_idx (s:=a0) (k:=.i64) (t:=151) (e:=5) (x:=.tmp 84) (y:=.tmp 86) (by kernel_rfl) (by kernel_rfl) (by kernel_rfl) (by kernel_rfl) (by kernel_rfl) hx) ?_
  obtain ⟨H27,hx,h⟩:=bind_some h
  refine DA.on 14 (DA.aH (H':=H27) 14 none undef (Abs.run_store1 (t:=5) (x:=.tmp 93) (y:=.tmp 91) (a:=p26) (v:=(Value.int .u8 x23)) (by kernel_rfl) (by kernel_rfl) (by kernel_rfl) (by kernel_rfl) (by kernel_rfl) hx) (DA.dn (WS.nxt (WS.rg (RS.mS 3 [kI 4 (IntKind.i64.wrap (v4_3 - 8)),kI 95 (IntKind.i64.wrap (v4_3 - 8)),kI 94 v4_3] (RS.dn ?_))))))
  cases h
  exact fun a w hs=>bkN (lsN rfl (hs.sb 0))
 ·refine WS.fx 20 false (decide_eq_false hp) (WS.cF (WS.ex 0 ?_))
  cases h
  exact fun a w hs=>sqE (lsB rfl (hs.sb 0))
theorem z88 {L:LC} {m:Nat} {H:AH} {a0:Sl3} {a1:Int} {r:AH} (h:z2j L m H a0 a1=some r) :
  CallS Tryd.prog (NE.plain 1000) m 100 #[(Sl3.v a0),(Value.int .u64 a1)] H (z4d r) (z4v H r):=by
 refine CallS.mk (args:=[(Sl3.v a0),(Value.int .u64 a1)]) Tryd.func100 (B:=B100) (by kernel_rfl) (fun E _=>?_)
 unfold z2j at h
 refine WS.sq (WS.rg (RS.mS 3 [kI 4 (a0.n:Int),kI 18 (a0.n:Int),kS 17 a0] (RS.dn (WS.nxt (WS.sq (WS.bk 0 ?_))))))
 obtain ⟨o,hl,h⟩:=bind_some h
 rcases o with ⟨H28,v1_29,v4_30⟩ | r
 ·try dsimp only at h
  refine WS.lI (z3y (L:=L) (E:=E) (m:=m) (H:=H)) (L.ok hl) 0 ?_
  clear hl
  refine fun a w hs=>bkE ((WS.nxt ?_ a w hs))
  refine WS.sq (WS.rg (RS.mS 3 [(12,.val (Value.int .u32 (IntKind.u32.wrap v1_29))),(97,.val (Value.int .u32 (IntKind.u32.wrap v1_29))),(96,.val (Value.int .u64 v1_29))] (RS.dn (WS.nxt ?_))))
  obtain ⟨⟨H31,v4_32,v12_33⟩,hx,h⟩:=bind_some h
  try dsimp only at h
  refine WS.sq ?_
  refine WS.join ([kI 4 v4_32,(12,.val (Value.int .u32 v12_33)),kS 0 a0]) ([]) H31 ?_ (fun a w hs=>WS.nxt ?_ a w hs)
  ·clear h; rename _=>h
   refine WS.sq (WS.rg (RS.mS 2 [kB 99 (decide (v4_30≥4)),kI 98 v4_30] (RS.dn (WS.nxt ?_))))
   rcases z9 h with ⟨hp,h⟩ | ⟨hp,h⟩
   ·refine WS.fx 99 true (decide_eq_true hp) (WS.cT (WS.sq (WS.rg (RS.mS 3 [(13,.val (Value.int .u32 (Int.tmod (IntKind.u32.wrap v1_29) 10000))),(101,.val (Value.int .u32 (Int.tmod (IntKind.u32.wrap v1_29) 10000))),(100,.val (Value.int .u32 (IntKind.u32.wrap v1_29)))] (RS.dn (WS.nxt (WS.sq (WS.rg (RS.mS 3 [(12,.val (Value.int .u32 (IntKind.u32.wrap (Int.tdiv (IntKind.u32.wrap v1_29) 10000)))),(103,.val (Value.int .u32 (IntKind.u32.wrap (Int.tdiv (IntKind.u32.wrap v1_29) 10000)))),(102,.val (Value.int .u32 (IntKind.u32.wrap v1_29)))] ?_)))))))))
    refine RS.dn (WS.nxt (WS.sq (WS.rg (RS.mS 8 [(15,.val (Value.int .u32 (IntKind.u32.wrap ((Int.tmod (Int.tmod (IntKind.u32.wrap v1_29) 10000) 100)*2)))),(14,.val (Value.int .u32 (IntKind.u32.wrap ((IntKind.u32.wrap (Int.tdiv (Int.tmod (IntKind.u32.wrap v1_29) 10000) 100))*2)))),(109,.val (Value.int .u32 (IntKind.u32.wrap ((Int.tmod (Int.tmod (IntKind.u32.wrap v1_29) 10000) 100)*2)))),(108,.val (Value.int .u32 (Int.tmod (Int.tmod (IntKind.u32.wrap v1_29) 10000) 100))),(107,.val (Value.int .u32 (Int.tmod (IntKind.u32.wrap v1_29) 10000))),(106,.val (Value.int .u32 (IntKind.u32.wrap ((IntKind.u32.wrap (Int.tdiv (Int.tmod (IntKind.u32.wrap v1_29) 10000) 100))*2)))),(105,.val (Value.int .u32 (IntKind.u32.wrap (Int.tdiv (Int.tmod (IntKind.u32.wrap v1_29) 10000) 100)))),(104,.val (Value.int .u32 (Int.tmod (IntKind.u32.wrap v1_29) 10000)))] (RS.dn (WS.nxt (WS.sq ?_)))))))
    refine WS.dr [] [0,0,2,0,0,16,0,64,192,0,512,455,2503,8191,16383] 15 (fun hcl=>?_)
    refine DA.tP 0 (some 110) (Sl3.v a0) (DA.tP 1 (some 111) (Value.int .i64 v4_30) (DA.tP 2 (some 112) (Value.int .i64 (IntKind.i64.wrap (v4_30 - 1))) (DA.tP 3 (some 113) (Sl3.v a0) (DA.tP 4 (some 114) (Value.int .i64 v4_30) (DA.tP 5 (some 115) (Value.int .i64 (IntKind.i64.wrap (v4_30 - 2))) (DA.tP 6 (some 116) (Value.int .u32 (IntKind.u32.wrap ((Int.tmod (Int.tmod (IntKind.u32.wrap v1_29) 10000) 100)*2))) (DA.tP 7 (some 117) (Value.int .u32 (IntKind.u32.wrap ((IntKind.u32.wrap ((Int.tmod (Int.tmod (IntKind.u32.wrap v1_29) 10000) 100)*2))+1))) ?_)))))))
    obtain ⟨x34,hx,h⟩:=bind_some h
    refine DA.tPx 8 (some 118) (Value.int .u8 x34) (Abs.det_byt (t:=9) (x:=.const (Value.string (⟨#[48,48,48,49,48,50,48,51,48,52,48,53,48,54,48,55,48,56,48,57,49,48,49,49,49,50,49,51,49,52,49,53,49,54,49,55,49,56,49,57,50,48,50,49,50,50,50,51,50,52,50,53,50,54,50,55,50,56,50,57,51,48,51,49,51,50,51,51,51,52,51,53,51,54,51,55,51,56,51,57,52,48,52,49,52,50,52,51,52,52,52,53,52,54,52,55,52,56,52,57,53,48,53,49,53,50,53,51,53,52,53,53,53,54,53,55,53,56,53,57,54,48,54,49,54,50,54,51,54,52,54,53,54,54,54,55,54,56,54,57,55,48,55,49,55,50,55,51,55,52,55,53,55,54,55,55,55,56,55,57,56,48,56,49,56,50,56,51,56,52,56,53,56,54,56,55,56,56,56,57,57,48,57,49,57,50,57,51,57,52,57,53,57,54,57,55,57,56,57,57]⟩:ByteArray))) (y:=.tmp 117) (s:=(⟨#[48,48,48,49,48,50,48,51,48,52,48,53,48,54,48,55,48,56,48,57,49,48,49,49,49,50,49,51,49,52,49,53,49,54,49,55,49,56,49,57,50,48,50,49,50,50,50,51,50,52,50,53,50,54,50,55,50,56,50,57,51,48,51,49,51,50,51,51,51,52,51,53,51,54,51,55,51,56,51,57,52,48,52,49,52,50,52,51,52,52,52,53,52,54,52,55,52,56,52,57,53,48,53,49,53,50,53,51,53,52,53,53,53,54,53,55,53,56,53,57,54,48,54,49,54,50,54,51,54,52,54,53,54,54,54,55,54,56,54,57,55,48,55,49,55,50,55,51,55,52,55,53,55,54,55,55,55,56,55,57,56,48,56,49,56,50,56,51,56,52,56,53,56,54,56,55,56,56,56,57,57,48,57,49,57,50,57,51,57,52,57,53,57,54,57,55,57,56,57,57]⟩:ByteArray)) (k:=.u32) (i:=(IntKind.u32.wrap ((IntKind.u32.wrap ((Int.tmod (Int.tmod (IntKind.u32.wrap v1_29) 10000) 100)*2))+1))) (by kernel_rfl) (by kernel_rfl) (by kernel_rfl) (by kernel_rfl) hx) (DA.tP 9 (some 119) (Value.int .u32 (IntKind.u32.wrap ((Int.tmod (Int.tmod (IntKind.u32.wrap v1_29) 10000) 100)*2))) ?_)
    obtain ⟨x35,hx,h⟩:=bind_some h
    refine DA.tPx 10 (some 120) (Value.int .u8 x35) (Abs.det_byt (t:=9) (x:=.const (Value.string (⟨#[48,48,48,49,48,50,48,51,48,52,48,53,48,54,48,55,48,56,48,57,49,48,49,49,49,50,49,51,49,52,49,53,49,54,49,55,49,56,49,57,50,48,50,49,50,50,50,51,50,52,50,53,50,54,50,55,50,56,50,57,51,48,51,49,51,50,51,51,51,52,51,53,51,54,51,55,51,56,51,57,52,48,52,49,52,50,52,51,52,52,52,53,52,54,52,55,52,56,52,57,53,48,53,49,53,50,53,51,53,52,53,53,53,54,53,55,53,56,53,57,54,48,54,49,54,50,54,51,54,52,54,53,54,54,54,55,54,56,54,57,55,48,55,49,55,50,55,51,55,52,55,53,55,54,55,55,55,56,55,57,56,48,56,49,56,50,56,51,56,52,56,53,56,54,56,55,56,56,56,57,57,48,57,49,57,50,57,51,57,52,57,53,57,54,57,55,57,56,57,57]⟩:ByteArray))) (y:=.tmp 119) (s:=(⟨#[48,48,48,49,48,50,48,51,48,52,48,53,48,54,48,55,48,56,48,57,49,48,49,49,49,50,49,51,49,52,49,53,49,54,49,55,49,56,49,57,50,48,50,49,50,50,50,51,50,52,50,53,50,54,50,55,50,56,50,57,51,48,51,49,51,50,51,51,51,52,51,53,51,54,51,55,51,56,51,57,52,48,52,49,52,50,52,51,52,52,52,53,52,54,52,55,52,56,52,57,53,48,53,49,53,50,53,51,53,52,53,53,53,54,53,55,53,56,53,57,54,48,54,49,54,50,54,51,54,52,54,53,54,54,54,55,54,56,54,57,55,48,55,49,55,50,55,51,55,52,55,53,55,54,55,55,55,56,55,57,56,48,56,49,56,50,56,51,56,52,56,53,56,54,56,55,56,56,56,57,57,48,57,49,57,50,57,51,57,52,57,53,57,54,57,55,57,56,57,57]⟩:ByteArray)) (k:=.u32) (i:=(IntKind.u32.wrap ((Int.tmod (Int.tmod (IntKind.u32.wrap v1_29) 10000) 100)*2))) (by kernel_rfl) (by kernel_rfl) (by kernel_rfl) (by kernel_rfl) hx) ?_
    obtain ⟨p36,hx,h⟩:=bind_some h
    refine DA.tPx 11 (some 121) (Value.pointer (some p36)) (Abs.det_idx (s:=a0) (k:=.i64) (t:=151) (e:=5) (x:=.tmp 110) (y:=.tmp 112) (by kernel_rfl) (by kernel_rfl) (by kernel_rfl) (by kernel_rfl) (by kernel_rfl) hx) ?_
    obtain ⟨H37,hx,h⟩:=bind_some h
    refine DA.on 12 (DA.aH (H':=H37) 12 none undef (Abs.run_store1 (t:=5) (x:=.tmp 121) (y:=.tmp 118) (a:=p36) (v:=(Value.int .u8 x34)) (by kernel_rfl) (by kernel_rfl) (by kernel_rfl) (by kernel_rfl) (by kernel_rfl) hx) ?_)
    obtain ⟨p38,hx,h⟩:=bind_some h
    refine DA.tPx 13 (some 122) (Value.pointer (some p38)) (Abs.det_idx (s:=a0) (k:=.i64) (t:=151) (e:=5) (x:=.tmp 113) (y:=.tmp 115) (by kernel_rfl) (by kernel_rfl) (by kernel_rfl) (by kernel_rfl) (by kernel_rfl) hx) ?_
    obtain ⟨H39,hx,h⟩:=bind_some h
    refine DA.on 14 (DA.aH (H':=H39) 14 none undef (Abs.run_store1 (t:=5) (x:=.tmp 122) (y:=.tmp 120) (a:=p38) (v:=(Value.int .u8 x35)) (by kernel_rfl) (by kernel_rfl) (by kernel_rfl) (by kernel_rfl) (by kernel_rfl) hx) (DA.dn (WS.nxt (WS.sq ?_))))
    refine WS.dr [] [0,0,2,0,0,16,0,64,192,0,512,455,2503,8191,16383] 15 (fun hcl=>?_)
    refine DA.tP 0 (some 123) (Sl3.v a0) (DA.tP 1 (some 124) (Value.int .i64 v4_30) (DA.tP 2 (some 125) (Value.int .i64 (IntKind.i64.wrap (v4_30 - 3))) (DA.tP 3 (some 126) (Sl3.v a0) (DA.tP 4 (some 127) (Value.int .i64 v4_30) (DA.tP 5 (some 128) (Value.int .i64 (IntKind.i64.wrap (v4_30 - 4))) (DA.tP 6 (some 129) (Value.int .u32 (IntKind.u32.wrap ((IntKind.u32.wrap (Int.tdiv (Int.tmod (IntKind.u32.wrap v1_29) 10000) 100))*2))) (DA.tP 7 (some 130) (Value.int .u32 (IntKind.u32.wrap ((IntKind.u32.wrap ((IntKind.u32.wrap (Int.tdiv (Int.tmod (IntKind.u32.wrap v1_29) 10000) 100))*2))+1))) ?_)))))))
    obtain ⟨x40,hx,h⟩:=bind_some h
    refine DA.tPx 8 (some 131) (Value.int .u8 x40) (Abs.det_byt (t:=9) (x:=.const (Value.string (⟨#[48,48,48,49,48,50,48,51,48,52,48,53,48,54,48,55,48,56,48,57,49,48,49,49,49,50,49,51,49,52,49,53,49,54,49,55,49,56,49,57,50,48,50,49,50,50,50,51,50,52,50,53,50,54,50,55,50,56,50,57,51,48,51,49,51,50,51,51,51,52,51,53,51,54,51,55,51,56,51,57,52,48,52,49,52,50,52,51,52,52,52,53,52,54,52,55,52,56,52,57,53,48,53,49,53,50,53,51,53,52,53,53,53,54,53,55,53,56,53,57,54,48,54,49,54,50,54,51,54,52,54,53,54,54,54,55,54,56,54,57,55,48,55,49,55,50,55,51,55,52,55,53,55,54,55,55,55,56,55,57,56,48,56,49,56,50,56,51,56,52,56,53,56,54,56,55,56,56,56,57,57,48,57,49,57,50,57,51,57,52,57,53,57,54,57,55,57,56,57,57]⟩:ByteArray))) (y:=.tmp 130) (s:=(⟨#[48,48,48,49,48,50,48,51,48,52,48,53,48,54,48,55,48,56,48,57,49,48,49,49,49,50,49,51,49,52,49,53,49,54,49,55,49,56,49,57,50,48,50,49,50,50,50,51,50,52,50,53,50,54,50,55,50,56,50,57,51,48,51,49,51,50,51,51,51,52,51,53,51,54,51,55,51,56,51,57,52,48,52,49,52,50,52,51,52,52,52,53,52,54,52,55,52,56,52,57,53,48,53,49,53,50,53,51,53,52,53,53,53,54,53,55,53,56,53,57,54,48,54,49,54,50,54,51,54,52,54,53,54,54,54,55,54,56,54,57,55,48,55,49,55,50,55,51,55,52,55,53,55,54,55,55,55,56,55,57,56,48,56,49,56,50,56,51,56,52,56,53,56,54,56,55,56,56,56,57,57,48,57,49,57,50,57,51,57,52,57,53,57,54,57,55,57,56,57,57]⟩:ByteArray)) (k:=.u32) (i:=(IntKind.u32.wrap ((IntKind.u32.wrap ((IntKind.u32.wrap (Int.tdiv (Int.tmod (IntKind.u32.wrap v1_29) 10000) 100))*2))+1))) (by kernel_rfl) (by kernel_rfl) (by kernel_rfl) (by kernel_rfl) hx) (DA.tP 9 (some 132) (Value.int .u32 (IntKind.u32.wrap ((IntKind.u32.wrap (Int.tdiv (Int.tmod (IntKind.u32.wrap v1_29) 10000) 100))*2))) ?_)
    obtain ⟨x41,hx,h⟩:=bind_some h
    refine DA.tPx 10 (some 133) (Value.int .u8 x41) (Abs.det_byt (t:=9) (x:=.const (Value.string (⟨#[48,48,48,49,48,50,48,51,48,52,48,53,48,54,48,55,48,56,48,57,49,48,49,49,49,50,49,51,49,52,49,53,49,54,49,55,49,56,49,57,50,48,50,49,50,50,50,51,50,52,50,53,50,54,50,55,50,56,50,57,51,48,51,49,51,50,51,51,51,52,51,53,51,54,51,55,51,56,51,57,52,48,52,49,52,50,52,51,52,52,52,53,52,54,52,55,52,56,52,57,53,48,53,49,53,50,53,51,53,52,53,53,53,54,53,55,53,56,53,57,54,48,54,49,54,50,54,51,54,52,54,53,54,54,54,55,54,56,54,57,55,48,55,49,55,50,55,51,55,52,55,53,55,54,55,55,55,56,55,57,56,48,56,49,56,50,56,51,56,52,56,53,56,54,56,55,56,56,56,57,57,48,57,49,57,50,57,51,57,52,57,53,57,54,57,55,57,56,57,57]⟩:ByteArray))) (y:=.tmp 132) (s:=(⟨#[48,48,48,49,48,50,48,51,48,52,48,53,48,54,48,55,48,56,48,57,49,48,49,49,49,50,49,51,49,52,49,53,49,54,49,55,49,56,49,57,50,48,50,49,50,50,50,51,50,52,50,53,50,54,50,55,50,56,50,57,51,48,51,49,51,50,51,51,51,52,51,53,51,54,51,55,51,56,51,57,52,48,52,49,52,50,52,51,52,52,52,53,52,54,52,55,52,56,52,57,53,48,53,49,53,50,53,51,53,52,53,53,53,54,53,55,53,56,53,57,54,48,54,49,54,50,54,51,54,52,54,53,54,54,54,55,54,56,54,57,55,48,55,49,55,50,55,51,55,52,55,53,55,54,55,55,55,56,55,57,56,48,56,49,56,50,56,51,56,52,56,53,56,54,56,55,56,56,56,57,57,48,57,49,57,50,57,51,57,52,57,53,57,54,57,55,57,56,57,57]⟩:ByteArray)) (k:=.u32) (i:=(IntKind.u32.wrap ((IntKind.u32.wrap (Int.tdiv (Int.tmod (IntKind.u32.wrap v1_29) 10000) 100))*2))) (by kernel_rfl) (by kernel_rfl) (by kernel_rfl) (by kernel_rfl) hx) ?_
    obtain ⟨p42,hx,h⟩:=bind_some h
    refine DA.tPx 11 (some 134) (Value.pointer (some p42)) (Abs.det_idx (s:=a0) (k:=.i64) (t:=151) (e:=5) (x:=.tmp 123) (y:=.tmp 125) (by kernel_rfl) (by kernel_rfl) (by kernel_rfl) (by kernel_rfl) (by kernel_rfl) hx) ?_
    obtain ⟨H43,hx,h⟩:=bind_some h
    refine DA.on 12 (DA.aH (H':=H43) 12 none undef (Abs.run_store1 (t:=5) (x:=.tmp 134) (y:=.tmp 131) (a:=p42) (v:=(Value.int .u8 x40)) (by kernel_rfl) (by kernel_rfl) (by kernel_rfl) (by kernel_rfl) (by kernel_rfl) hx) ?_)
    obtain ⟨p44,hx,h⟩:=bind_some h
    refine DA.tPx 13 (some 135) (Value.pointer (some p44)) (Abs.det_idx (s:=a0) (k:=.i64) (t:=151) (e:=5) (x:=.tmp 126) (y:=.tmp 128) (by kernel_rfl) (by kernel_rfl) (by kernel_rfl) (by kernel_rfl) (by kernel_rfl) hx) ?_
    obtain ⟨H45,hx,h⟩:=bind_some h
    refine DA.on 14 (DA.aH (H':=H45) 14 none undef (Abs.run_store1 (t:=5) (x:=.tmp 135) (y:=.tmp 133) (a:=p44) (v:=(Value.int .u8 x41)) (by kernel_rfl) (by kernel_rfl) (by kernel_rfl) (by kernel_rfl) (by kernel_rfl) hx) (DA.dn (WS.nxt (WS.rg (RS.mS 3 [kI 4 (IntKind.i64.wrap (v4_30 - 4)),kI 137 (IntKind.i64.wrap (v4_30 - 4)),kI 136 v4_30] (RS.dn ?_))))))
    cases h
    exact fun a w hs=>(jsN (hs.sb 0))
   ·refine WS.fx 99 false (decide_eq_false hp) (WS.cF (WS.sk ?_))
    cases h
    exact fun a w hs=>(jsN (hs.sb 0))
  ·clear hx
   obtain ⟨⟨H46,v4_47,v12_48⟩,hx,h⟩:=bind_some h
   try dsimp only at h
   refine WS.sq ?_
   refine WS.join ([kI 4 v4_47,(12,.val (Value.int .u32 v12_48)),kS 0 a0]) ([]) H46 ?_ (fun a w hs=>WS.nxt ?_ a w hs)
   ·clear h; rename _=>h
    refine WS.sq (WS.rg (RS.mS 2 [kB 139 (decide (v4_32≥2)),kI 138 v4_32] (RS.dn (WS.nxt ?_))))
    rcases z9 h with ⟨hp,h⟩ | ⟨hp,h⟩
    ·refine WS.fx 139 true (decide_eq_true hp) (WS.cT (WS.sq (WS.rg (RS.mS 4 [(16,.val (Value.int .u32 (IntKind.u32.wrap ((Int.tmod v12_33 100)*2)))),(142,.val (Value.int .u32 (IntKind.u32.wrap ((Int.tmod v12_33 100)*2)))),(141,.val (Value.int .u32 (Int.tmod v12_33 100))),(140,.val (Value.int .u32 v12_33))] (RS.dn (WS.nxt (WS.sq (WS.rg (RS.mS 3 [(12,.val (Value.int .u32 (IntKind.u32.wrap (Int.tdiv v12_33 100)))),(144,.val (Value.int .u32 (IntKind.u32.wrap (Int.tdiv v12_33 100)))),(143,.val (Value.int .u32 v12_33))] ?_)))))))))
     refine RS.dn (WS.nxt (WS.sq ?_))
     refine WS.dr [] [0,0,2,0,0,16,0,64,192,0,512,455,2503,8191,16383] 15 (fun hcl=>?_)
     refine DA.tP 0 (some 145) (Sl3.v a0) (DA.tP 1 (some 146) (Value.int .i64 v4_32) (DA.tP 2 (some 147) (Value.int .i64 (IntKind.i64.wrap (v4_32 - 1))) (DA.tP 3 (some 148) (Sl3.v a0) (DA.tP 4 (some 149) (Value.int .i64 v4_32) (DA.tP 5 (some 150) (Value.int .i64 (IntKind.i64.wrap (v4_32 - 2))) (DA.tP 6 (some 151) (Value.int .u32 (IntKind.u32.wrap ((Int.tmod v12_33 100)*2))) (DA.tP 7 (some 152) (Value.int .u32 (IntKind.u32.wrap ((IntKind.u32.wrap ((Int.tmod v12_33 100)*2))+1))) ?_)))))))
     obtain ⟨x49,hx,h⟩:=bind_some h
     refine DA.tPx 8 (some 153) (Value.int .u8 x49) (Abs.det_byt (t:=9) (x:=.const (Value.string (⟨#[48,48,48,49,48,50,48,51,48,52,48,53,48,54,48,55,48,56,48,57,49,48,49,49,49,50,49,51,49,52,49,53,49,54,49,55,49,56,49,57,50,48,50,49,50,50,50,51,50,52,50,53,50,54,50,55,50,56,50,57,51,48,51,49,51,50,51,51,51,52,51,53,51,54,51,55,51,56,51,57,52,48,52,49,52,50,52,51,52,52,52,53,52,54,52,55,52,56,52,57,53,48,53,49,53,50,53,51,53,52,53,53,53,54,53,55,53,56,53,57,54,48,54,49,54,50,54,51,54,52,54,53,54,54,54,55,54,56,54,57,55,48,55,49,55,50,55,51,55,52,55,53,55,54,55,55,55,56,55,57,56,48,56,49,56,50,56,51,56,52,56,53,56,54,56,55,56,56,56,57,57,48,57,49,57,50,57,51,57,52,57,53,57,54,57,55,57,56,57,57]⟩:ByteArray))) (y:=.tmp 152) (s:=(⟨#[48,48,48,49,48,50,48,51,48,52,48,53,48,54,48,55,48,56,48,57,49,48,49,49,49,50,49,51,49,52,49,53,49,54,49,55,49,56,49,57,50,48,50,49,50,50,50,51,50,52,50,53,50,54,50,55,50,56,50,57,51,48,51,49,51,50,51,51,51,52,51,53,51,54,51,55,51,56,51,57,52,48,52,49,52,50,52,51,52,52,52,53,52,54,52,55,52,56,52,57,53,48,53,49,53,50,53,51,53,52,53,53,53,54,53,55,53,56,53,57,54,48,54,49,54,50,54,51,54,52,54,53,54,54,54,55,54,56,54,57,55,48,55,49,55,50,55,51,55,52,55,53,55,54,55,55,55,56,55,57,56,48,56,49,56,50,56,51,56,52,56,53,56,54,56,55,56,56,56,57,57,48,57,49,57,50,57,51,57,52,57,53,57,54,57,55,57,56,57,57]⟩:ByteArray)) (k:=.u32) (i:=(IntKind.u32.wrap ((IntKind.u32.wrap ((Int.tmod v12_33 100)*2))+1))) (by kernel_rfl) (by kernel_rfl) (by kernel_rfl) (by kernel_rfl) hx) (DA.tP 9 (some 154) (Value.int .u32 (IntKind.u32.wrap ((Int.tmod v12_33 100)*2))) ?_)
     obtain ⟨x50,hx,h⟩:=bind_some h
     refine DA.tPx 10 (some 155) (Value.int .u8 x50) (Abs.det_byt (t:=9) (x:=.const (Value.string (⟨#[48,48,48,49,48,50,48,51,48,52,48,53,48,54,48,55,48,56,48,57,49,48,49,49,49,50,49,51,49,52,49,53,49,54,49,55,49,56,49,57,50,48,50,49,50,50,50,51,50,52,50,53,50,54,50,55,50,56,50,57,51,48,51,49,51,50,51,51,51,52,51,53,51,54,51,55,51,56,51,57,52,48,52,49,52,50,52,51,52,52,52,53,52,54,52,55,52,56,52,57,53,48,53,49,53,50,53,51,53,52,53,53,53,54,53,55,53,56,53,57,54,48,54,49,54,50,54,51,54,52,54,53,54,54,54,55,54,56,54,57,55,48,55,49,55,50,55,51,55,52,55,53,55,54,55,55,55,56,55,57,56,48,56,49,56,50,56,51,56,52,56,53,56,54,56,55,56,56,56,57,57,48,57,49,57,50,57,51,57,52,57,53,57,54,57,55,57,56,57,57]⟩:ByteArray))) (y:=.tmp 154) (s:=(⟨#[48,48,48,49,48,50,48,51,48,52,48,53,48,54,48,55,48,56,48,57,49,48,49,49,49,50,49,51,49,52,49,53,49,54,49,55,49,56,49,57,50,48,50,49,50,50,50,51,50,52,50,53,50,54,50,55,50,56,50,57,51,48,51,49,51,50,51,51,51,52,51,53,51,54,51,55,51,56,51,57,52,48,52,49,52,50,52,51,52,52,52,53,52,54,52,55,52,56,52,57,53,48,53,49,53,50,53,51,53,52,53,53,53,54,53,55,53,56,53,57,54,48,54,49,54,50,54,51,54,52,54,53,54,54,54,55,54,56,54,57,55,48,55,49,55,50,55,51,55,52,55,53,55,54,55,55,55,56,55,57,56,48,56,49,56,50,56,51,56,52,56,53,56,54,56,55,56,56,56,57,57,48,57,49,57,50,57,51,57,52,57,53,57,54,57,55,57,56,57,57]⟩:ByteArray)) (k:=.u32) (i:=(IntKind.u32.wrap ((Int.tmod v12_33 100)*2))) (by kernel_rfl) (by kernel_rfl) (by kernel_rfl) (by kernel_rfl) hx) ?_
     obtain ⟨p51,hx,h⟩:=bind_some h
     refine DA.tPx 11 (some 156) (Value.pointer (some p51)) (Abs.det_idx (s:=a0) (k:=.i64) (t:=151) (e:=5) (x:=.tmp 145) (y:=.tmp 147) (by kernel_rfl) (by kernel_rfl) (by kernel_rfl) (by kernel_rfl) (by kernel_rfl) hx) ?_
     obtain ⟨H52,hx,h⟩:=bind_some h
     refine DA.on 12 (DA.aH (H':=H52) 12 none undef (Abs.run_store1 (t:=5) (x:=.tmp 156) (y:=.tmp 153) (a:=p51) (v:=(Value.int .u8 x49)) (by kernel_rfl) (by kernel_rfl) (by kernel_rfl) (by kernel_rfl) (by kernel_rfl) hx) ?_)
     obtain ⟨p53,hx,h⟩:=bind_some h
     refine DA.tPx 13 (some 157) (Value.pointer (some p53)) (Abs.det_idx (s:=a0) (k:=.i64) (t:=151) (e:=5) (x:=.tmp 148) (y:=.tmp 150) (by kernel_rfl) (by kernel_rfl) (by kernel_rfl) (by kernel_rfl) (by kernel_rfl) hx) ?_
     obtain ⟨H54,hx,h⟩:=bind_some h
     refine DA.on 14 (DA.aH (H':=H54) 14 none undef (Abs.run_store1 (t:=5) (x:=.tmp 157) (y:=.tmp 155) (a:=p53) (v:=(Value.int .u8 x50)) (by kernel_rfl) (by kernel_rfl) (by kernel_rfl) (by kernel_rfl) (by kernel_rfl) hx) (DA.dn (WS.nxt (WS.rg (RS.mS 3 [kI 4 (IntKind.i64.wrap (v4_32 - 2)),kI 159 (IntKind.i64.wrap (v4_32 - 2)),kI 158 v4_32] (RS.dn ?_))))))
     cases h
     exact fun a w hs=>(jsN (hs.sb 0))
    ·refine WS.fx 139 false (decide_eq_false hp) (WS.cF (WS.sk ?_))
     cases h
     exact fun a w hs=>(jsN (hs.sb 0))
   ·clear hx
    refine WS.sq (WS.rg (RS.mS 2 [kB 161 (decide (v4_47 > 0)),kI 160 v4_47] (RS.dn (WS.nxt ?_))))
    rcases z9 h with ⟨hp,h⟩ | ⟨hp,h⟩
    ·refine WS.fx 161 true (decide_eq_true hp) (WS.cT (WS.rg (RS.mS 4 [(165,.val (Value.int .u8 (IntKind.u8.wrap (IntKind.u32.wrap (48+v12_48))))),(164,.val (Value.int .u32 (IntKind.u32.wrap (48+v12_48)))),(163,.val (Value.int .u32 v12_48)),kS 162 a0] ?_)))
     obtain ⟨p55,hx,h⟩:=bind_some h
     refine RS.ix 166 151 5 (.tmp 162) (.const (Value.int .i64 0)) hx ?_
     obtain ⟨H56,hx,h⟩:=bind_some h
     refine RS.o (H':=H56) none undef (Abs.run_store1 (t:=5) (x:=.tmp 166) (y:=.tmp 165) (a:=p55) (v:=(Value.int .u8 (IntKind.u8.wrap (IntKind.u32.wrap (48+v12_48))))) (by kernel_rfl) (by kernel_rfl) (by kernel_rfl) (by kernel_rfl) (by kernel_rfl) hx) (RS.dn ?_)
     cases h
     exact fun a w hs=>rtN (rS hs)
    ·refine WS.fx 161 false (decide_eq_false hp) (WS.cF (WS.sk ?_))
     cases h
     exact fun a w hs=>rtN (rS hs)
 ·try dsimp only at h
  refine WS.lR (z3y (L:=L) (E:=E) (m:=m) (H:=H)) (L.ok hl) 0 ?_
  cases h
  exact fun a w hq=>bkR (sqR (rtR hq))
end Go.Proofs.YtgkhbmoidenjaaaDoor
namespace Go.Proofs.YtgkhbmoidenjaaaDoor
open Go Go.Abs
set_option maxRecDepth 100000
def zc1:ByteArray→Value
 | r0=>(Value.string r0)
def zcm (H:AH):ByteArray→AH:=fun _=>H
noncomputable def B98:Code:=(Tryd.f98.body).getD .skip
noncomputable def z5c (_L:LC) (a0:Int):Option ByteArray :=
 if a0<10 then
  Option.bind (strC (⟨#[48,49,50,51,52,53,54,55,56,57,97,98,99,100,101,102,103,104,105,106,107,108,109,110,111,112,113,114,115,116,117,118,119,120,121,122]⟩:ByteArray) (some a0) (some (IntKind.i64.wrap (a0+1)))) fun s1 =>
  some s1
 else
  Option.bind (strC (⟨#[48,48,48,49,48,50,48,51,48,52,48,53,48,54,48,55,48,56,48,57,49,48,49,49,49,50,49,51,49,52,49,53,49,54,49,55,49,56,49,57,50,48,50,49,50,50,50,51,50,52,50,53,50,54,50,55,50,56,50,57,51,48,51,49,51,50,51,51,51,52,51,53,51,54,51,55,51,56,51,57,52,48,52,49,52,50,52,51,52,52,52,53,52,54,52,55,52,56,52,57,53,48,53,49,53,50,53,51,53,52,53,53,53,54,53,55,53,56,53,57,54,48,54,49,54,50,54,51,54,52,54,53,54,54,54,55,54,56,54,57,55,48,55,49,55,50,55,51,55,52,55,53,55,54,55,55,55,56,55,57,56,48,56,49,56,50,56,51,56,52,56,53,56,54,56,55,56,56,56,57,57,48,57,49,57,50,57,51,57,52,57,53,57,54,57,55,57,56,57,57]⟩:ByteArray) (some (IntKind.i64.wrap (a0*2))) (some (IntKind.i64.wrap ((IntKind.i64.wrap (a0*2))+2)))) fun s2 =>
  some s2
theorem zd1 {L:LC} {m:Nat} {H:AH} {a0:Int} {r:ByteArray} (h:z5c L a0=some r) :
  CallS Tryd.prog (NE.plain 1000) m 98 #[(Value.int .i64 a0)] H (zc1 r) (zcm H r):=by
 refine CallS.mk (args:=[(Value.int .i64 a0)]) Tryd.func98 (B:=B98) (by kernel_rfl) (fun E _=>?_)
 unfold z5c at h
 refine WS.sq (WS.rg (RS.mS 1 [kT 2 (⟨#[]⟩:ByteArray)] (RS.dn (WS.nxt (WS.sq (WS.sq (WS.rg (RS.mS 2 [kB 4 (decide (a0<10)),kI 3 a0] (RS.dn ?_)))))))))
 refine WS.nxt ?_
 rcases z9 h with ⟨hp,h⟩ | ⟨hp,h⟩
 ·refine WS.fx 4 true (decide_eq_true hp) (WS.cT (WS.sq (WS.rg (RS.mS 3 [kI 7 (IntKind.i64.wrap (a0+1)),kI 6 a0,kI 5 a0] ?_))))
  obtain ⟨s1,hx,h⟩:=bind_some h
  refine RS.o (H':=H) (some 8) (Value.string s1) (Abs.run_strC (t:=9) (x:=.const (Value.string (⟨#[48,49,50,51,52,53,54,55,56,57,97,98,99,100,101,102,103,104,105,106,107,108,109,110,111,112,113,114,115,116,117,118,119,120,121,122]⟩:ByteArray))) (lo:=(some (.tmp 5))) (hi:=(some (.tmp 7))) (s:=(⟨#[48,49,50,51,52,53,54,55,56,57,97,98,99,100,101,102,103,104,105,106,107,108,109,110,111,112,113,114,115,116,117,118,119,120,121,122]⟩:ByteArray)) (k1:=.i64) (k2:=.i64) (by kernel_rfl) (by kernel_rfl) (by kernel_rfl) (by kernel_rfl) (by kernel_rfl) hx) (RS.mS 1 [kT 2 s1] (RS.dn (WS.nxt (WS.rt ?_))))
  cases h
  exact fun a w hs=>sqR (rtR (rS hs))
 ·refine WS.fx 4 false (decide_eq_false hp) (WS.cF (WS.sk (WS.nxt (WS.sq (WS.rg (RS.mS 5 [kI 13 (IntKind.i64.wrap ((IntKind.i64.wrap (a0*2))+2)),kI 12 (IntKind.i64.wrap (a0*2)),kI 11 a0,kI 10 (IntKind.i64.wrap (a0*2)),kI 9 a0] ?_))))))
  obtain ⟨s2,hx,h⟩:=bind_some h
  refine RS.o (H':=H) (some 14) (Value.string s2) (Abs.run_strC (t:=9) (x:=.const (Value.string (⟨#[48,48,48,49,48,50,48,51,48,52,48,53,48,54,48,55,48,56,48,57,49,48,49,49,49,50,49,51,49,52,49,53,49,54,49,55,49,56,49,57,50,48,50,49,50,50,50,51,50,52,50,53,50,54,50,55,50,56,50,57,51,48,51,49,51,50,51,51,51,52,51,53,51,54,51,55,51,56,51,57,52,48,52,49,52,50,52,51,52,52,52,53,52,54,52,55,52,56,52,57,53,48,53,49,53,50,53,51,53,52,53,53,53,54,53,55,53,56,53,57,54,48,54,49,54,50,54,51,54,52,54,53,54,54,54,55,54,56,54,57,55,48,55,49,55,50,55,51,55,52,55,53,55,54,55,55,55,56,55,57,56,48,56,49,56,50,56,51,56,52,56,53,56,54,56,55,56,56,56,57,57,48,57,49,57,50,57,51,57,52,57,53,57,54,57,55,57,56,57,57]⟩:ByteArray))) (lo:=(some (.tmp 10))) (hi:=(some (.tmp 13))) (s:=(⟨#[48,48,48,49,48,50,48,51,48,52,48,53,48,54,48,55,48,56,48,57,49,48,49,49,49,50,49,51,49,52,49,53,49,54,49,55,49,56,49,57,50,48,50,49,50,50,50,51,50,52,50,53,50,54,50,55,50,56,50,57,51,48,51,49,51,50,51,51,51,52,51,53,51,54,51,55,51,56,51,57,52,48,52,49,52,50,52,51,52,52,52,53,52,54,52,55,52,56,52,57,53,48,53,49,53,50,53,51,53,52,53,53,53,54,53,55,53,56,53,57,54,48,54,49,54,50,54,51,54,52,54,53,54,54,54,55,54,56,54,57,55,48,55,49,55,50,55,51,55,52,55,53,55,54,55,55,55,56,55,57,56,48,56,49,56,50,56,51,56,52,56,53,56,54,56,55,56,56,56,57,57,48,57,49,57,50,57,51,57,52,57,53,57,54,57,55,57,56,57,57]⟩:ByteArray)) (k1:=.i64) (k2:=.i64) (by kernel_rfl) (by kernel_rfl) (by kernel_rfl) (by kernel_rfl) (by kernel_rfl) hx) (RS.mS 1 [kT 2 s2] (RS.dn (WS.nxt (WS.rt ?_))))
  cases h
  exact fun a w hs=>rtR (rS hs)
def z93:Int→Value
 | r0=>(Value.int .i64 r0)
def zae (H:AH):Int→AH:=fun _=>H
noncomputable def B102:Code:=(Tryd.f102.body).getD .skip
noncomputable def z37 (_L:LC) (a0:Int):Option Int :=
 some (ishr .i64 (IntKind.i64.wrap (a0*78913)) 18)
theorem zam {L:LC} {m:Nat} {H:AH} {a0 r:Int} (h:z37 L a0=some r) :
  CallS Tryd.prog (NE.plain 1000) m 102 #[(Value.int .i64 a0)] H (z93 r) (zae H r):=by
 refine CallS.mk (args:=[(Value.int .i64 a0)]) Tryd.func102 (B:=B102) (by kernel_rfl) (fun E _=>?_)
 unfold z37 at h
 refine WS.sq (WS.rg (RS.mS 1 [kI 2 0] (RS.dn (WS.nxt (WS.sq (WS.rg (RS.mS 4 [kI 2 (ishr .i64 (IntKind.i64.wrap (a0*78913)) 18),kI 5 (ishr .i64 (IntKind.i64.wrap (a0*78913)) 18),kI 4 (IntKind.i64.wrap (a0*78913)),kI 3 a0] (RS.dn (WS.nxt ?_)))))))))
 refine WS.rt ?_
 cases h
 exact fun a w hs=>rtR (rS hs)
def zbx:Int→Value
 | r0=>(Value.int .i64 r0)
def zd4 (H:AH):Int→AH:=fun _=>H
noncomputable def B103:Code:=(Tryd.f103.body).getD .skip
noncomputable def z5a (_L:LC) (a0:Bool):Option Int :=
 if a0=true then
  some 1
 else
  some 0
theorem zcw {L:LC} {m:Nat} {H:AH} {a0:Bool} {r:Int} (h:z5a L a0=some r) :
  CallS Tryd.prog (NE.plain 1000) m 103 #[(Value.bool a0)] H (zbx r) (zd4 H r):=by
 refine CallS.mk (args:=[(Value.bool a0)]) Tryd.func103 (B:=B103) (by kernel_rfl) (fun E _=>?_)
 unfold z5a at h
 refine WS.sq (WS.rg (RS.mS 1 [kI 2 0] (RS.dn (WS.nxt (WS.sq (WS.sq (WS.rg (RS.mS 1 [kB 3 a0] (RS.dn ?_)))))))))
 refine WS.nxt ?_
 rcases z9 h with ⟨hp,h⟩ | ⟨hp,h⟩
 ·refine WS.fx 3 true hp (WS.cT (WS.sq (WS.rg (RS.mS 1 [kI 2 1] (RS.dn (WS.nxt (WS.rt ?_)))))))
  cases h
  exact fun a w hs=>sqR (rtR (rS hs))
 ·refine WS.fx 3 false (b_not hp) (WS.cF (WS.sk (WS.nxt (WS.sq (WS.rg (RS.mS 1 [kI 2 0] (RS.dn (WS.nxt (WS.rt ?_)))))))))
  cases h
  exact fun a w hs=>rtR (rS hs)
def ze0:Int→Value
 | r0=>(Value.int .i64 r0)
def zf9 (H:AH):Int→AH:=fun _=>H
noncomputable def B88:Code:=(Tryd.f88.body).getD .skip
noncomputable def z69 (_L:LC) (a0:Int):Option Int :=
 Option.bind (α:=(Int×Int)) (
  if a0≥4294967296 then
   some ((ishr .u64 a0 32),32)
  else
   some (a0,0)) fun (v0_1,v2_2) =>
 Option.bind (α:=(Int×Int)) (
  if v0_1≥65536 then
   some ((ishr .u64 v0_1 16),(IntKind.i64.wrap (v2_2+16)))
  else
   some (v0_1,v2_2)) fun (v0_3,v2_4) =>
 Option.bind (α:=(Int×Int)) (
  if v0_3≥256 then
   some ((ishr .u64 v0_3 8),(IntKind.i64.wrap (v2_4+8)))
  else
   some (v0_3,v2_4)) fun (v0_5,v2_6) =>
 Option.bind (bytA (⟨#[0,1,2,2,3,3,3,3,4,4,4,4,4,4,4,4,5,5,5,5,5,5,5,5,5,5,5,5,5,5,5,5,6,6,6,6,6,6,6,6,6,6,6,6,6,6,6,6,6,6,6,6,6,6,6,6,6,6,6,6,6,6,6,6,7,7,7,7,7,7,7,7,7,7,7,7,7,7,7,7,7,7,7,7,7,7,7,7,7,7,7,7,7,7,7,7,7,7,7,7,7,7,7,7,7,7,7,7,7,7,7,7,7,7,7,7,7,7,7,7,7,7,7,7,7,7,7,7,8,8,8,8,8,8,8,8,8,8,8,8,8,8,8,8,8,8,8,8,8,8,8,8,8,8,8,8,8,8,8,8,8,8,8,8,8,8,8,8,8,8,8,8,8,8,8,8,8,8,8,8,8,8,8,8,8,8,8,8,8,8,8,8,8,8,8,8,8,8,8,8,8,8,8,8,8,8,8,8,8,8,8,8,8,8,8,8,8,8,8,8,8,8,8,8,8,8,8,8,8,8,8,8,8,8,8,8,8,8,8,8,8,8,8,8,8,8,8,8,8,8,8,8,8,8,8,8]⟩:ByteArray) (IntKind.u8.wrap v0_5)) fun x7 =>
 some (IntKind.i64.wrap (v2_6+(IntKind.i64.wrap x7)))
theorem zfr {L:LC} {m:Nat} {H:AH} {a0 r:Int} (h:z69 L a0=some r) :
  CallS Tryd.prog (NE.plain 1000) m 88 #[(Value.int .u64 a0)] H (ze0 r) (zf9 H r):=by
 refine CallS.mk (args:=[(Value.int .u64 a0)]) Tryd.func88 (B:=B88) (by kernel_rfl) (fun E _=>?_)
 unfold z69 at h
 refine WS.sq (WS.rg (RS.mS 1 [kI 2 0] (RS.dn (WS.nxt ?_))))
 obtain ⟨⟨v0_1,v2_2⟩,hx,h⟩:=bind_some h
 try dsimp only at h
 refine WS.sq ?_
 refine WS.join ([(0,.val (Value.int .u64 v0_1)),kI 2 v2_2]) ([]) H ?_ (fun a w hs=>WS.nxt ?_ a w hs)
 ·clear h; rename _=>h
  refine WS.sq (WS.rg (RS.mS 2 [kB 4 (decide (a0≥4294967296)),(3,.val (Value.int .u64 a0))] (RS.dn (WS.nxt ?_))))
  rcases z9 h with ⟨hp,h⟩ | ⟨hp,h⟩
  ·refine WS.fx 4 true (decide_eq_true hp) (WS.cT (WS.sq (WS.rg (RS.mS 3 [(0,.val (Value.int .u64 (ishr .u64 a0 32))),(6,.val (Value.int .u64 (ishr .u64 a0 32))),(5,.val (Value.int .u64 a0))] (RS.dn (WS.nxt (WS.rg (RS.mS 1 [kI 2 32] (RS.dn ?_)))))))))
   cases h
   exact fun a w hs=>(jsN (hs.sb 0))
  ·refine WS.fx 4 false (decide_eq_false hp) (WS.cF (WS.sk ?_))
   cases h
   exact fun a w hs=>(jsN (hs.sb 0))
 ·clear hx
  obtain ⟨⟨v0_3,v2_4⟩,hx,h⟩:=bind_some h
  try dsimp only at h
  refine WS.sq ?_
  refine WS.join ([(0,.val (Value.int .u64 v0_3)),kI 2 v2_4]) ([]) H ?_ (fun a w hs=>WS.nxt ?_ a w hs)
  ·clear h; rename _=>h
   refine WS.sq (WS.rg (RS.mS 2 [kB 8 (decide (v0_1≥65536)),(7,.val (Value.int .u64 v0_1))] (RS.dn (WS.nxt ?_))))
   rcases z9 h with ⟨hp,h⟩ | ⟨hp,h⟩
   ·refine WS.fx 8 true (decide_eq_true hp) (WS.cT (WS.sq (WS.rg (RS.mS 3 [(0,.val (Value.int .u64 (ishr .u64 v0_1 16))),(10,.val (Value.int .u64 (ishr .u64 v0_1 16))),(9,.val (Value.int .u64 v0_1))] (RS.dn (WS.nxt (WS.rg (RS.mS 3 [kI 2 (IntKind.i64.wrap (v2_2+16)),kI 12 (IntKind.i64.wrap (v2_2+16)),kI 11 v2_2] (RS.dn ?_)))))))))
    cases h
    exact fun a w hs=>(jsN (hs.sb 0))
   ·refine WS.fx 8 false (decide_eq_false hp) (WS.cF (WS.sk ?_))
    cases h
    exact fun a w hs=>(jsN (hs.sb 0))
  ·clear hx
   obtain ⟨⟨v0_5,v2_6⟩,hx,h⟩:=bind_some h
   try dsimp only at h
   refine WS.sq ?_
   refine WS.join ([(0,.val (Value.int .u64 v0_5)),kI 2 v2_6]) ([]) H ?_ (fun a w hs=>WS.nxt ?_ a w hs)
   ·clear h; rename _=>h
    refine WS.sq (WS.rg (RS.mS 2 [kB 14 (decide (v0_3≥256)),(13,.val (Value.int .u64 v0_3))] (RS.dn (WS.nxt ?_))))
    rcases z9 h with ⟨hp,h⟩ | ⟨hp,h⟩
    ·refine WS.fx 14 true (decide_eq_true hp) (WS.cT (WS.sq (WS.rg (RS.mS 3 [(0,.val (Value.int .u64 (ishr .u64 v0_3 8))),(16,.val (Value.int .u64 (ishr .u64 v0_3 8))),(15,.val (Value.int .u64 v0_3))] (RS.dn (WS.nxt (WS.rg (RS.mS 3 [kI 2 (IntKind.i64.wrap (v2_4+8)),kI 18 (IntKind.i64.wrap (v2_4+8)),kI 17 v2_4] (RS.dn ?_)))))))))
     cases h
     exact fun a w hs=>(jsN (hs.sb 0))
    ·refine WS.fx 14 false (decide_eq_false hp) (WS.cF (WS.sk ?_))
     cases h
     exact fun a w hs=>(jsN (hs.sb 0))
   ·clear hx
    refine WS.sq (WS.rg (RS.mS 3 [(21,.val (Value.int .u8 (IntKind.u8.wrap v0_5))),(20,.val (Value.int .u64 v0_5)),kI 19 v2_6] ?_))
    obtain ⟨x7,hx,h⟩:=bind_some h
    refine RS.o (H':=H) (some 22) (Value.int .u8 x7) (Abs.run_byt (t:=9) (x:=.const (Value.string (⟨#[0,1,2,2,3,3,3,3,4,4,4,4,4,4,4,4,5,5,5,5,5,5,5,5,5,5,5,5,5,5,5,5,6,6,6,6,6,6,6,6,6,6,6,6,6,6,6,6,6,6,6,6,6,6,6,6,6,6,6,6,6,6,6,6,7,7,7,7,7,7,7,7,7,7,7,7,7,7,7,7,7,7,7,7,7,7,7,7,7,7,7,7,7,7,7,7,7,7,7,7,7,7,7,7,7,7,7,7,7,7,7,7,7,7,7,7,7,7,7,7,7,7,7,7,7,7,7,7,8,8,8,8,8,8,8,8,8,8,8,8,8,8,8,8,8,8,8,8,8,8,8,8,8,8,8,8,8,8,8,8,8,8,8,8,8,8,8,8,8,8,8,8,8,8,8,8,8,8,8,8,8,8,8,8,8,8,8,8,8,8,8,8,8,8,8,8,8,8,8,8,8,8,8,8,8,8,8,8,8,8,8,8,8,8,8,8,8,8,8,8,8,8,8,8,8,8,8,8,8,8,8,8,8,8,8,8,8,8,8,8,8,8,8,8,8,8,8,8,8,8,8,8,8,8,8,8]⟩:ByteArray))) (y:=.tmp 21) (s:=(⟨#[0,1,2,2,3,3,3,3,4,4,4,4,4,4,4,4,5,5,5,5,5,5,5,5,5,5,5,5,5,5,5,5,6,6,6,6,6,6,6,6,6,6,6,6,6,6,6,6,6,6,6,6,6,6,6,6,6,6,6,6,6,6,6,6,7,7,7,7,7,7,7,7,7,7,7,7,7,7,7,7,7,7,7,7,7,7,7,7,7,7,7,7,7,7,7,7,7,7,7,7,7,7,7,7,7,7,7,7,7,7,7,7,7,7,7,7,7,7,7,7,7,7,7,7,7,7,7,7,8,8,8,8,8,8,8,8,8,8,8,8,8,8,8,8,8,8,8,8,8,8,8,8,8,8,8,8,8,8,8,8,8,8,8,8,8,8,8,8,8,8,8,8,8,8,8,8,8,8,8,8,8,8,8,8,8,8,8,8,8,8,8,8,8,8,8,8,8,8,8,8,8,8,8,8,8,8,8,8,8,8,8,8,8,8,8,8,8,8,8,8,8,8,8,8,8,8,8,8,8,8,8,8,8,8,8,8,8,8,8,8,8,8,8,8,8,8,8,8,8,8,8,8,8,8,8,8]⟩:ByteArray)) (k:=.u8) (i:=(IntKind.u8.wrap v0_5)) (by kernel_rfl) (by kernel_rfl) (by kernel_rfl) (by kernel_rfl) hx) (RS.mS 3 [kI 2 (IntKind.i64.wrap (v2_6+(IntKind.i64.wrap x7))),kI 24 (IntKind.i64.wrap (v2_6+(IntKind.i64.wrap x7))),kI 23 (IntKind.i64.wrap x7)] (RS.dn (WS.nxt (WS.rt ?_))))
    cases h
    exact fun a w hs=>rtR (rS hs)
def z94:Int→Value
 | r0=>(Value.int .i64 r0)
def zai (H:AH):Int→AH:=fun _=>H
noncomputable def B99:Code:=(Tryd.f99.body).getD .skip
noncomputable def z38 (L:LC) (H:AH) (a0:Int):Option Int :=
 Option.bind (z69 L a0) fun x1 =>
 Option.bind (z37 L x1) fun x2 =>
 Option.bind (idxR 1 20 (⟨0,0,none⟩:Addr) x2) fun p3 =>
 Option.bind (rd (deI .u64) H p3) fun x4 =>
 Option.bind (z5a L (decide (a0≥x4))) fun x5 =>
 some (IntKind.i64.wrap (x2+x5))
theorem z9p {L:LC} {m:Nat} {H:AH} {a0 r:Int} (h:z38 L H a0=some r) :
  CallS Tryd.prog (NE.plain 1000) m 99 #[(Value.int .u64 a0)] H (z94 r) (zai H r):=by
 refine CallS.mk (args:=[(Value.int .u64 a0)]) Tryd.func99 (B:=B99) (by kernel_rfl) (fun E _=>?_)
 unfold z38 at h
 refine WS.sq (WS.rg (RS.mS 1 [kI 2 0] (RS.dn (WS.nxt (WS.sq (WS.rg (RS.mS 1 [(4,.val (Value.int .u64 a0))] ?_)))))))
 obtain ⟨x1,hx,h⟩:=bind_some h
 refine RS.cl (some 5) (v:=(Value.int .i64 x1)) 88 #[(Value.int .u64 a0)] (zfr hx) ?_
 obtain ⟨x2,hx,h⟩:=bind_some h
 refine RS.cl (some 6) (v:=(Value.int .i64 x2)) 102 #[(Value.int .i64 x1)] (zam hx) (RS.mS 1 [kI 3 x2] (RS.dn (WS.nxt (WS.sq (WS.rg (RS.mS 3 [kI 9 x2,(8,.val (Value.int .u64 a0)),kI 7 x2] ?_))))))
 obtain ⟨p3,hx,h⟩:=bind_some h
 refine RS.o (H':=H) (some 10) (Value.pointer (some p3)) (Abs.run_idxR (a:=(⟨0,0,none⟩:Addr)) (k:=.i64) (t:=155) (e:=138) (x:=.global 0) (y:=.tmp 9) (by kernel_rfl) (by kernel_rfl) (by kernel_rfl) (by kernel_rfl) (by kernel_rfl) hx) ?_
 obtain ⟨x4,hx,h⟩:=bind_some h
 refine RS.ld 11 138 (.tmp 10) (z0 hx zd) (RS.mS 1 [kB 12 (decide (a0≥x4))] ?_)
 obtain ⟨x5,hx,h⟩:=bind_some h
 refine RS.cl (some 13) (v:=(Value.int .i64 x5)) 103 #[(Value.bool (decide (a0≥x4)))] (zcw hx) (RS.mS 2 [kI 2 (IntKind.i64.wrap (x2+x5)),kI 14 (IntKind.i64.wrap (x2+x5))] (RS.dn (WS.nxt (WS.rt ?_))))
 cases h
 exact fun a w hs=>rtR (rS hs)
def z8v:(ByteArray×AH)→Value
 | (r0,_)=>(Value.string r0)
def za3 (_:AH):(ByteArray×AH)→AH:=fun r=>r.2
noncomputable def B96:Code:=(Tryd.f96.body).getD .skip
noncomputable def z23 (L:LC) (m:Nat) (H:AH) (a0 a1:Int):Option (ByteArray×AH) :=
 if a1=10 then
  Option.bind (α:=Bool) (
   if 0≤a0 then
    some (decide (a0<100))
   else
    some false) fun v17_1 =>
  if v17_1=true then
   Option.bind (z5c L a0) fun x2 =>
   some (x2,H)
  else
   Option.bind (newB 149 [(Value.int .u8 0),(Value.int .u8 0),(Value.int .u8 0),(Value.int .u8 0),(Value.int .u8 0),(Value.int .u8 0),(Value.int .u8 0),(Value.int .u8 0),(Value.int .u8 0),(Value.int .u8 0),(Value.int .u8 0),(Value.int .u8 0),(Value.int .u8 0),(Value.int .u8 0),(Value.int .u8 0),(Value.int .u8 0),(Value.int .u8 0),(Value.int .u8 0),(Value.int .u8 0),(Value.int .u8 0),(Value.int .u8 0),(Value.int .u8 0),(Value.int .u8 0),(Value.int .u8 0)] H) fun (p3,H4) =>
   Option.bind (α:=Int) (
    if a0<0 then
     some (IntKind.u64.wrap (0 - (IntKind.u64.wrap a0)))
    else
     some (IntKind.u64.wrap a0)) fun v6_5 =>
   Option.bind (z38 L H4 v6_5) fun x6 =>
   Option.bind (slcR 1 24 p3 (some 1) (some (IntKind.i64.wrap (1+x6)))) fun s7 =>
   Option.bind (z2j L m H4 s7 v6_5) fun H8 =>
   if a0<0 then
    Option.bind (idxR 1 24 p3 0) fun p9 =>
    Option.bind (H8.setCell m p9 (Value.int .u8 45)) fun H10 =>
    Option.bind (slcR 1 24 p3 none (some (IntKind.i64.wrap (1+x6)))) fun s11 =>
    Option.bind (bts H10 s11) fun s12 =>
    some (s12,H10)
   else
    Option.bind (slcR 1 24 p3 (some 1) (some (IntKind.i64.wrap (1+x6)))) fun s13 =>
    Option.bind (bts H8 s13) fun s14 =>
    some (s14,H8)
 else
  none
theorem z9s {L:LC} {m:Nat} {H:AH} {a0 a1:Int} {r:(ByteArray×AH)} (h:z23 L m H a0 a1=some r) :
  CallS Tryd.prog (NE.plain 1000) m 96 #[(Value.int .i64 a0),(Value.int .i64 a1)] H (z8v r) (za3 H r):=by
 refine CallS.mk (args:=[(Value.int .i64 a0),(Value.int .i64 a1)]) Tryd.func96 (B:=B96) (by kernel_rfl) (fun E _=>?_)
 unfold z23 at h
 refine WS.sq (WS.rg (RS.mS 1 [kT 4 (⟨#[]⟩:ByteArray)] (RS.dn (WS.nxt (WS.sq (WS.sq (WS.rg (RS.mS 2 [kB 11 (decide (a1=10)),kI 10 a1] (RS.dn ?_)))))))))
 refine WS.nxt ?_
 rcases z9 h with ⟨hp,h⟩ | ⟨hp,h⟩
 ·refine WS.fx 11 true (decide_eq_true hp) (WS.cT (WS.sq ?_))
  obtain ⟨v17_1,hx,h⟩:=bind_some h
  refine WS.sq ?_
  refine WS.join ([kB 17 v17_1,kI 0 a0]) ([]) H ?_ (fun a w hs=>WS.nxt ?_ a w hs)
  ·clear h; rename _=>h
   refine WS.rg (RS.mS 3 [kB 14 (decide (0≤a0)),kB 13 (decide (0≤a0)),kI 12 a0] ?_)
   rcases z9 h with ⟨hp,h⟩ | ⟨hp,h⟩
   ·refine RS.fx 14 true (decide_eq_true hp) (RS.mS 3 [kB 17 (decide (a0<100)),kB 16 (decide (a0<100)),kI 15 a0] (RS.dn ?_))
    cases h
    exact fun a w hs=>(jsN (hs.sb 0))
   ·refine RS.fx 14 false (decide_eq_false hp) (RS.mS 3 [kB 17 false,kU 16,kU 15] (RS.dn ?_))
    cases h
    exact fun a w hs=>(jsN (hs.sb 0))
  ·clear hx
   rcases z9 h with ⟨hp,h⟩ | ⟨hp,h⟩
   ·refine WS.fx 17 true hp (WS.cT (WS.sq (WS.rg (RS.mS 1 [kI 18 a0] ?_))))
    obtain ⟨x2,hx,h⟩:=bind_some h
    refine RS.cl (some 19) (v:=(Value.string x2)) 98 #[(Value.int .i64 a0)] (zd1 hx) (RS.mS 1 [kT 4 x2] (RS.dn (WS.nxt (WS.rt ?_))))
    cases h
    exact fun a w hs=>sqR (sqR (rtR (rS hs)))
   ·refine WS.fx 17 false (b_not hp) (WS.cF (WS.sk (WS.nxt (WS.sq (WS.rg ?_)))))
    obtain ⟨⟨p3,H4⟩,hx,h⟩:=bind_some h
    try dsimp only at h
    refine RS.o (H':=H4) (some 5) (Value.pointer (some p3)) (Abs.run_newB (by kernel_rfl) hx) (RS.dn (WS.nxt (WS.sq (WS.rg (RS.mS 3 [(6,.val (Value.int .u64 (IntKind.u64.wrap a0))),(21,.val (Value.int .u64 (IntKind.u64.wrap a0))),kI 20 a0] (RS.dn (WS.nxt ?_)))))))
    obtain ⟨v6_5,hx,h⟩:=bind_some h
    refine WS.sq ?_
    refine WS.join ([(6,.val (Value.int .u64 v6_5)),kI 0 a0,kP 5 p3]) ([]) H4 ?_ (fun a w hs=>WS.nxt ?_ a w hs)
    ·clear h; rename _=>h
     refine WS.sq (WS.rg (RS.mS 2 [kB 23 (decide (a0<0)),kI 22 a0] (RS.dn (WS.nxt ?_))))
     rcases z9 h with ⟨hp,h⟩ | ⟨hp,h⟩
     ·refine WS.fx 23 true (decide_eq_true hp) (WS.cT (WS.rg (RS.mS 3 [(6,.val (Value.int .u64 (IntKind.u64.wrap (0 - (IntKind.u64.wrap a0))))),(25,.val (Value.int .u64 (IntKind.u64.wrap (0 - (IntKind.u64.wrap a0))))),(24,.val (Value.int .u64 (IntKind.u64.wrap a0)))] (RS.dn ?_))))
      cases h
      exact fun a w hs=>(jsN (hs.sb 0))
     ·refine WS.fx 23 false (decide_eq_false hp) (WS.cF (WS.sk ?_))
      cases h
      exact fun a w hs=>(jsN (hs.sb 0))
    ·clear hx
     refine WS.sq (WS.rg (RS.mS 1 [(26,.val (Value.int .u64 v6_5))] ?_))
     obtain ⟨x6,hx,h⟩:=bind_some h
     refine RS.cl (some 27) (v:=(Value.int .i64 x6)) 99 #[(Value.int .u64 v6_5)] (z9p hx) (RS.mS 1 [kI 7 x6] (RS.dn (WS.nxt (WS.sq (WS.rg (RS.mS 2 [kI 29 (IntKind.i64.wrap (1+x6)),kI 28 x6] ?_))))))
     obtain ⟨s7,hx,h⟩:=bind_some h
     refine RS.o (H':=H4) (some 30) (Sl3.v s7) (Abs.run_slcR (t:=149) (e:=5) (x:=.tmp 5) (lo:=(some (.const (Value.int .i64 1)))) (hi:=(some (.tmp 29))) (a:=p3) (k1:=.i64) (k2:=.i64) (by kernel_rfl) (by kernel_rfl) (by kernel_rfl) (by kernel_rfl) (by kernel_rfl) (by kernel_rfl) hx) (RS.mS 1 [(31,.val (Value.int .u64 v6_5))] ?_)
     obtain ⟨H8,hx,h⟩:=bind_some h
     refine RS.cl (some 32) (v:=(Value.tuple #[])) 100 #[(Sl3.v s7),(Value.int .u64 v6_5)] (z88 hx) (RS.dn (WS.nxt (WS.sq (WS.sq (WS.rg (RS.mS 2 [kB 34 (decide (a0<0)),kI 33 a0] (RS.dn (WS.nxt ?_))))))))
     rcases z9 h with ⟨hp,h⟩ | ⟨hp,h⟩
     ·refine WS.fx 34 true (decide_eq_true hp) (WS.cT (WS.sq (WS.rg ?_)))
      obtain ⟨p9,hx,h⟩:=bind_some h
      refine RS.o (H':=H8) (some 35) (Value.pointer (some p9)) (Abs.run_idxR (a:=p3) (k:=.i64) (t:=149) (e:=5) (x:=.tmp 5) (y:=.const (Value.int .i64 0)) (by kernel_rfl) (by kernel_rfl) (by kernel_rfl) (by kernel_rfl) (by kernel_rfl) hx) ?_
      obtain ⟨H10,hx,h⟩:=bind_some h
      refine RS.o (H':=H10) none undef (Abs.run_store1 (t:=5) (x:=.tmp 35) (y:=.const (Value.int .u8 45)) (a:=p9) (v:=(Value.int .u8 45)) (by kernel_rfl) (by kernel_rfl) (by kernel_rfl) (by kernel_rfl) (by kernel_rfl) hx) (RS.dn (WS.nxt (WS.sq (WS.rg (RS.mS 2 [kI 37 (IntKind.i64.wrap (1+x6)),kI 36 x6] ?_)))))
      obtain ⟨s11,hx,h⟩:=bind_some h
      refine RS.o (H':=H10) (some 38) (Sl3.v s11) (Abs.run_slcR (t:=149) (e:=5) (x:=.tmp 5) (lo:=none) (hi:=(some (.tmp 37))) (a:=p3) (k1:=.i64) (k2:=.i64) (by kernel_rfl) (by kernel_rfl) (by kernel_rfl) (by kernel_rfl) (by kernel_rfl) (by kernel_rfl) hx) ?_
      obtain ⟨s12,hx,h⟩:=bind_some h
      refine RS.o (H':=H10) (some 39) (Value.string s12) (Abs.run_bts (t:=151) (u:=9) (e:=5) (x:=.tmp 38) (s:=s11) (by kernel_rfl) (by kernel_rfl) (by kernel_rfl) (by kernel_rfl) (by kernel_rfl) hx) (RS.mS 1 [kT 4 s12] (RS.dn (WS.nxt (WS.rt ?_))))
      cases h
      exact fun a w hs=>sqR (sqR (rtR (rS hs)))
     ·refine WS.fx 34 false (decide_eq_false hp) (WS.cF (WS.sk (WS.nxt (WS.sq (WS.rg (RS.mS 2 [kI 41 (IntKind.i64.wrap (1+x6)),kI 40 x6] ?_))))))
      obtain ⟨s13,hx,h⟩:=bind_some h
      refine RS.o (H':=H8) (some 42) (Sl3.v s13) (Abs.run_slcR (t:=149) (e:=5) (x:=.tmp 5) (lo:=(some (.const (Value.int .i64 1)))) (hi:=(some (.tmp 41))) (a:=p3) (k1:=.i64) (k2:=.i64) (by kernel_rfl) (by kernel_rfl) (by kernel_rfl) (by kernel_rfl) (by kernel_rfl) (by kernel_rfl) hx) ?_
      obtain ⟨s14,hx,h⟩:=bind_some h
      refine RS.o (H':=H8) (some 43) (Value.string s14) (Abs.run_bts (t:=151) (u:=9) (e:=5) (x:=.tmp 42) (s:=s13) (by kernel_rfl) (by kernel_rfl) (by kernel_rfl) (by kernel_rfl) (by kernel_rfl) hx) (RS.mS 1 [kT 4 s14] (RS.dn (WS.nxt (WS.rt ?_))))
      cases h
      exact fun a w hs=>sqR (rtR (rS hs))
 ·refine WS.fx 11 false (decide_eq_false hp) (WS.cF (WS.sk (WS.nxt (WS.sq ?_))))
  cases h
def zb0:(ByteArray×AH)→Value
 | (r0,_)=>(Value.string r0)
def zbn (_:AH):(ByteArray×AH)→AH:=fun r=>r.2
noncomputable def B89:Code:=(Tryd.f89.body).getD .skip
noncomputable def z47 (L:LC) (m:Nat) (H:AH) (a0:Int):Option (ByteArray×AH) :=
 Option.bind (z23 L m H a0 10) fun (x1,H2) =>
 some (x1,H2)
theorem zbb {L:LC} {m:Nat} {H:AH} {a0:Int} {r:(ByteArray×AH)} (h:z47 L m H a0=some r) :
  CallS Tryd.prog (NE.plain 1000) m 89 #[(Value.int .i64 a0)] H (zb0 r) (zbn H r):=by
 refine CallS.mk (args:=[(Value.int .i64 a0)]) Tryd.func89 (B:=B89) (by kernel_rfl) (fun E _=>?_)
 unfold z47 at h
 refine WS.sq (WS.rg (RS.mS 1 [kT 2 (⟨#[]⟩:ByteArray)] (RS.dn (WS.nxt (WS.sq (WS.rg (RS.mS 1 [kI 3 a0] ?_)))))))
 obtain ⟨⟨x1,H2⟩,hx,h⟩:=bind_some h
 try dsimp only at h
 refine RS.cl (some 4) (v:=(Value.string x1)) 96 #[(Value.int .i64 a0),(Value.int .i64 10)] (z9s hx) (RS.mS 1 [kT 2 x1] (RS.dn (WS.nxt (WS.rt ?_))))
 cases h
 exact fun a w hs=>rtR (rS hs)
def zcp:(ByteArray×AH)→Value
 | (r0,_)=>(Value.string r0)
def zdp (_:AH):(ByteArray×AH)→AH:=fun r=>r.2
noncomputable def B76:Code:=(Tryd.f76.body).getD .skip
noncomputable def z3s (L:LC) (m:Nat) (H:AH) (a0:Int):Option (ByteArray×AH) :=
 Option.bind (z47 L m H a0) fun (x1,H2) =>
 some (x1,H2)
theorem z8e {L:LC} {m:Nat} {H:AH} {a0:Int} {r:(ByteArray×AH)} (h:z3s L m H a0=some r) :
  CallS Tryd.prog (NE.plain 1000) m 76 #[(Value.int .i64 a0)] H (zcp r) (zdp H r):=by
 refine CallS.mk (args:=[(Value.int .i64 a0)]) Tryd.func76 (B:=B76) (by kernel_rfl) (fun E _=>?_)
 unfold z3s at h
 refine WS.sq (WS.rg (RS.mS 1 [kT 2 (⟨#[]⟩:ByteArray)] (RS.dn (WS.nxt (WS.sq (WS.rg (RS.mS 1 [kI 3 a0] ?_)))))))
 obtain ⟨⟨x1,H2⟩,hx,h⟩:=bind_some h
 try dsimp only at h
 refine RS.cl (some 4) (v:=(Value.string x1)) 89 #[(Value.int .i64 a0)] (zbb hx) (RS.mS 1 [kT 2 x1] (RS.dn (WS.nxt (WS.rt ?_))))
 cases h
 exact fun a w hs=>rtR (rS hs)
def z8a:(ByteArray×AH)→Value
 | (r0,_)=>(Value.string r0)
def z9b (_:AH):(ByteArray×AH)→AH:=fun r=>r.2
noncomputable def B63:Code:=(Tryd.f63.body).getD .skip
noncomputable def z2v (L:LC) (m:Nat) (a2:Sl3):(AH×ByteArray×Int)→Option (Lp (AH×ByteArray×Int) (ByteArray×AH)):=fun (H5,v7_6,v17_7) =>
 if v17_7<(a2.n:Int) then
  Option.bind (idxA 1 a2 v17_7) fun p8 =>
  Option.bind (rd (deI .i64) H5 p8) fun x9 =>
  Option.bind (z3s L m H5 x9) fun (x10,H11) =>
  Option.bind (strcat (⟨#[32]⟩:ByteArray) x10) fun s12 =>
  Option.bind (strcat v7_6 s12) fun s13 =>
  some (.next (H11,s13,(IntKind.i64.wrap (v17_7+1))))
 else
  some (.brk (H5,v7_6,v17_7))
def zc5 (_L:LC) (_m:Nat) (a2:Sl3):(AH×ByteArray×Int)→KN×Lcs:=fun (_,v7_6,v17_7)=>([kT 7 v7_6,kI 17 v17_7,kS 15 a2,kI 16 (a2.n:Int)],[])
noncomputable def z40 (L:LC) (m:Nat) (H:AH) (a0:Bool) (a1:Int) (a2:Sl3):Option (ByteArray×AH) :=
 Option.bind (α:=ByteArray) (
  if a0=true then
   some (⟨#[118]⟩:ByteArray)
  else
   some (⟨#[115]⟩:ByteArray)) fun v7_1 =>
 Option.bind (z3s L m H a1) fun (x2,H3) =>
 Option.bind (strcat v7_1 x2) fun s4 =>
 Option.bind (L.run (z2v L m a2) (H3,s4,0)) fun o=>match o with
 | .inl (H14,v7_15,_) =>
  some (v7_15,H14)
 | .inr r=>some r
theorem z7c {E H L m a2} :LoopF Tryd.prog (NE.plain 1000) m E Tryd.f63 ((cfst (csnd (cfst (csnd (csnd (csnd (csnd B63)))))))) (zc5 L m a2) (fun s=>s.1) 0 z8a (z9b H) (z2v L m a2):=by
 rintro ⟨H5,v7_6,v17_7⟩ o h
 unfold z2v at h
 try dsimp only at h
 refine WS.sq (WS.rg (RS.mS 1 [kB 18 (decide (v17_7<(a2.n:Int)))] (RS.dn (WS.nxt (WS.sq ?_)))))
 rcases z9 h with ⟨hp,h⟩ | ⟨hp,h⟩
 ·refine WS.fx 18 true (decide_eq_true hp) (WS.cT (WS.sk (WS.nxt (WS.sq (WS.bk 1 (WS.sq (WS.rg ?_)))))))
  obtain ⟨p8,hx,h⟩:=bind_some h
  refine RS.ix 19 27 3 (.tmp 15) (.tmp 17) hx ?_
  obtain ⟨x9,hx,h⟩:=bind_some h
  refine RS.ld 20 3 (.tmp 19) (z0 hx zd) (RS.mS 1 [kI 9 x9] (RS.dn (WS.nxt (WS.rg (RS.mS 2 [kI 22 x9,kT 21 v7_6] ?_)))))
  obtain ⟨⟨x10,H11⟩,hx,h⟩:=bind_some h
  try dsimp only at h
  refine RS.cl (some 23) (v:=(Value.string x10)) 76 #[(Value.int .i64 x9)] (z8e hx) ?_
  obtain ⟨s12,hx,h⟩:=bind_some h
  refine RS.o (H':=H11) (some 24) (Value.string s12) (Abs.run_strcat (t:=9) (u:=9) (x:=.const (Value.string (⟨#[32]⟩:ByteArray))) (y:=.tmp 23) (a:=(⟨#[32]⟩:ByteArray)) (b:=x10) (by kernel_rfl) (by kernel_rfl) (by kernel_rfl) hx) ?_
  obtain ⟨s13,hx,h⟩:=bind_some h
  refine RS.o (H':=H11) (some 25) (Value.string s13) (Abs.run_strcat (t:=9) (u:=9) (x:=.tmp 21) (y:=.tmp 24) (a:=v7_6) (b:=s12) (by kernel_rfl) (by kernel_rfl) (by kernel_rfl) hx) (RS.mS 1 [kT 7 s13] (RS.dn ?_))
  refine fun a w hs=>bkN ((WS.nxt ?_ a w hs))
  refine WS.rg (RS.mS 2 [kI 17 (IntKind.i64.wrap (v17_7+1)),kI 26 (IntKind.i64.wrap (v17_7+1))] (RS.dn ?_))
  cases h
  exact fun a w hs=>lsN rfl (hs.sb 0)
 ·refine WS.fx 18 false (decide_eq_false hp) (WS.cF (WS.ex 0 ?_))
  cases h
  exact fun a w hs=>sqE (lsB rfl (hs.sb 0))
theorem z9h {L:LC} {m:Nat} {H:AH} {a0:Bool} {a1:Int} {a2:Sl3} {r:(ByteArray×AH)} (h:z40 L m H a0 a1 a2=some r) :
  CallS Tryd.prog (NE.plain 1000) m 63 #[(Value.bool a0),(Value.int .i64 a1),(Sl3.v a2)] H (z8a r) (z9b H r):=by
 refine CallS.mk (args:=[(Value.bool a0),(Value.int .i64 a1),(Sl3.v a2)]) Tryd.func63 (B:=B63) (by kernel_rfl) (fun E _=>?_)
 unfold z40 at h
 refine WS.sq (WS.rg (RS.mS 1 [kT 6 (⟨#[]⟩:ByteArray)] (RS.dn (WS.nxt (WS.sq (WS.rg (RS.mS 1 [kT 7 (⟨#[115]⟩:ByteArray)] (RS.dn (WS.nxt ?_)))))))))
 obtain ⟨v7_1,hx,h⟩:=bind_some h
 refine WS.sq ?_
 refine WS.join ([kT 7 v7_1,kI 1 a1,kS 2 a2]) ([]) H ?_ (fun a w hs=>WS.nxt ?_ a w hs)
 ·clear h; rename _=>h
  refine WS.sq (WS.rg (RS.mS 1 [kB 10 a0] (RS.dn (WS.nxt ?_))))
  rcases z9 h with ⟨hp,h⟩ | ⟨hp,h⟩
  ·refine WS.fx 10 true hp (WS.cT (WS.rg (RS.mS 1 [kT 7 (⟨#[118]⟩:ByteArray)] (RS.dn ?_))))
   cases h
   exact fun a w hs=>(jsN (hs.sb 0))
  ·refine WS.fx 10 false (b_not hp) (WS.cF (WS.sk ?_))
   cases h
   exact fun a w hs=>(jsN (hs.sb 0))
 ·clear hx
  refine WS.sq (WS.rg (RS.mS 2 [kI 12 a1,kT 11 v7_1] ?_))
  obtain ⟨⟨x2,H3⟩,hx,h⟩:=bind_some h
  try dsimp only at h
  refine RS.cl (some 13) (v:=(Value.string x2)) 76 #[(Value.int .i64 a1)] (z8e hx) ?_
  obtain ⟨s4,hx,h⟩:=bind_some h
  refine RS.o (H':=H3) (some 14) (Value.string s4) (Abs.run_strcat (t:=9) (u:=9) (x:=.tmp 11) (y:=.tmp 13) (a:=v7_1) (b:=x2) (by kernel_rfl) (by kernel_rfl) (by kernel_rfl) hx) (RS.mS 1 [kT 7 s4] (RS.dn (WS.nxt (WS.sq (WS.sq (WS.rg (RS.mS 3 [kI 17 0,kI 16 (a2.n:Int),kS 15 a2] (RS.dn (WS.nxt ?_)))))))))
  refine WS.bk 0 ?_
  obtain ⟨o,hl,h⟩:=bind_some h
  rcases o with ⟨H14,v7_15,v17_16⟩ | r
  ·try dsimp only at h
   refine WS.lI (z7c (L:=L) (E:=E) (m:=m) (H:=H)) (L.ok hl) 0 ?_
   clear hl
   refine fun a w hs=>bkE ((WS.nxt ?_ a w hs))
   refine WS.sq (WS.rg (RS.mS 2 [kT 6 v7_15,kT 27 v7_15] (RS.dn (WS.nxt (WS.rt ?_)))))
   cases h
   exact fun a w hs=>rtR (rS hs)
  ·try dsimp only at h
   refine WS.lR (z7c (L:=L) (E:=E) (m:=m) (H:=H)) (L.ok hl) 0 ?_
   cases h
   exact fun a w hq=>bkR (sqR (rtR hq))
def z3w:(ByteArray×AH)→Value
 | (r0,_)=>(Value.string r0)
def z48 (_:AH):(ByteArray×AH)→AH:=fun r=>r.2
noncomputable def B71:Code:=(Tryd.f71.body).getD .skip
noncomputable def z12 (_L:LC) (m:Nat) (q1:Addr) (_x4_0:Int) (x4_1:Sl3) (_x4_2:Bool):(AH×Sl3×Int)→Option (Lp (AH×Sl3×Int) (ByteArray×AH)):=fun (H5,v6_6,v19_7) =>
 if v19_7<(x4_1.n:Int) then
  Option.bind (idxA 1 x4_1 v19_7) fun p8 =>
  Option.bind (rd (deI .i64) H5 p8) fun x9 =>
  Option.bind (rd deSl H5 (Addr.add q1 4)) fun x10 =>
  Option.bind (idxA 1 x10 x9) fun p11 =>
  Option.bind (rd (deI .i64) H5 p11) fun x12 =>
  Option.bind (newR 3 1 #[(Value.int .i64 x12)] H5) fun (s13,H14) =>
  Option.bind (appS m 3 1 8 H14 v6_6 s13) fun (s15,H16) =>
  some (.next (H16,s15,(IntKind.i64.wrap (v19_7+1))))
 else
  some (.brk (H5,v6_6,v19_7))
def z6i (_L:LC) (_m:Nat) (q1:Addr) (x4_0:Int) (x4_1:Sl3) (x4_2:Bool):(AH×Sl3×Int)→KN×Lcs:=fun (_,v6_6,v19_7)=>([kS 6 v6_6,kI 19 v19_7,kP 0 q1,kL 5 0 0,kS 17 x4_1,kI 18 (x4_1.n:Int)],[some (86,[(Value.int .i64 x4_0),(Sl3.v x4_1),(Value.bool x4_2)])])
noncomputable def zh (L:LC) (m:Nat) (H:AH) (a0:Option Addr) (a1:Int):Option (ByteArray×AH) :=
 Option.bind a0 fun q1 =>
 Option.bind (rd deSl H (Addr.add q1 0)) fun x2 =>
 Option.bind (idxA 3 x2 a1) fun p3 =>
 Option.bind (rd (deI .i64) H (Addr.add p3 0)) fun x4_0 =>
 Option.bind (rd deSl H (Addr.add p3 1)) fun x4_1 =>
 Option.bind (rd deB H (Addr.add p3 2)) fun x4_2 =>
 Option.bind (L.run (z12 L m q1 x4_0 x4_1 x4_2) (H,Sl3.nil,0)) fun o=>match o with
 | .inl (H17,v6_18,_) =>
  Option.bind (z40 L m H17 x4_2 x4_0 v6_18) fun (x20,H21) =>
  some (x20,H21)
 | .inr r=>some r
theorem z3p {E H L m q1 x4_0 x4_1 x4_2} :LoopF Tryd.prog (NE.plain 1000) m E Tryd.f71 ((cfst (csnd (cfst (csnd (csnd (csnd B71))))))) (z6i L m q1 x4_0 x4_1 x4_2) (fun s=>s.1) 0 z3w (z48 H) (z12 L m q1 x4_0 x4_1 x4_2):=by
 rintro ⟨H5,v6_6,v19_7⟩ o h
 unfold z12 at h
 try dsimp only at h
 refine WS.sq (WS.rg (RS.mS 1 [kB 20 (decide (v19_7<(x4_1.n:Int)))] (RS.dn (WS.nxt (WS.sq ?_)))))
 rcases z9 h with ⟨hp,h⟩ | ⟨hp,h⟩
 ·refine WS.fx 20 true (decide_eq_true hp) (WS.cT (WS.sk (WS.nxt (WS.sq (WS.bk 1 (WS.sq (WS.rg ?_)))))))
  obtain ⟨p8,hx,h⟩:=bind_some h
  refine RS.ix 21 27 3 (.tmp 17) (.tmp 19) hx ?_
  obtain ⟨x9,hx,h⟩:=bind_some h
  refine RS.ld 22 3 (.tmp 21) (z0 hx zd) (RS.mS 1 [kI 8 x9] (RS.dn (WS.nxt (WS.rg (RS.mS 4 [(26,.val (Value.pointer (some (Addr.add q1 4)))),kP 25 q1,kP 24 q1,kS 23 v6_6] ?_)))))
  obtain ⟨x10,hx,h⟩:=bind_some h
  refine RS.ld 27 27 (.tmp 26) (z0 hx zb) (RS.mS 1 [kI 28 x9] ?_)
  obtain ⟨p11,hx,h⟩:=bind_some h
  refine RS.ix 29 27 3 (.tmp 27) (.tmp 28) hx ?_
  obtain ⟨x12,hx,h⟩:=bind_some h
  refine RS.ld 30 3 (.tmp 29) (z0 hx zd) ?_
  obtain ⟨⟨s13,H14⟩,hx,h⟩:=bind_some h
  try dsimp only at h
  refine RS.o (H':=H14) (some 31) (Sl3.v s13) (Abs.run_newR (by kernel_rfl) (by kernel_rfl) hx) ?_
  obtain ⟨⟨s15,H16⟩,hx,h⟩:=bind_some h
  try dsimp only at h
  refine RS.o (H':=H16) (some 32) (Sl3.v s15) (Abs.run_app (x:=.tmp 23) (y:=.tmp 31) (ts:=#[27,27]) (s:=v6_6) (z:=s13) (by kernel_rfl) (by kernel_rfl) (by kernel_rfl) (by kernel_rfl) hx) (RS.mS 1 [kS 6 s15] (RS.dn ?_))
  refine fun a w hs=>bkN ((WS.nxt ?_ a w hs))
  refine WS.rg (RS.mS 2 [kI 19 (IntKind.i64.wrap (v19_7+1)),kI 33 (IntKind.i64.wrap (v19_7+1))] (RS.dn ?_))
  cases h
  exact fun a w hs=>lsN rfl (hs.sb 1)
 ·refine WS.fx 20 false (decide_eq_false hp) (WS.cF (WS.ex 0 ?_))
  cases h
  exact fun a w hs=>sqE (lsB rfl (hs.sb 1))
theorem z2i {L:LC} {m:Nat} {H:AH} {a0:Option Addr} {a1:Int} {r:(ByteArray×AH)} (h:zh L m H a0 a1=some r) :
  CallS Tryd.prog (NE.plain 1000) m 71 #[(Value.pointer a0),(Value.int .i64 a1)] H (z3w r) (z48 H r):=by
 refine CallS.mk (args:=[(Value.pointer a0),(Value.int .i64 a1)]) Tryd.func71 (B:=B71) (by kernel_rfl) (fun E _=>?_)
 unfold zh at h
 refine WS.sq (WS.rg (RS.mS 1 [kT 4 (⟨#[]⟩:ByteArray)] (RS.dn (WS.nxt (WS.sq (WS.rg (RS.mS 1 [(9,.val (Value.pointer a0))] ?_)))))))
 obtain ⟨q1,hx,hq1⟩:=bind_some h
 subst hx
 have h:=hq1
 refine RS.mS 2 [(11,.val (Value.pointer (some (Addr.add q1 0)))),kP 10 q1] ?_
 obtain ⟨x2,hx,h⟩:=bind_some h
 refine RS.ld 12 57 (.tmp 11) (z0 hx zb) (RS.mS 1 [kI 13 a1] ?_)
 obtain ⟨p3,hx,h⟩:=bind_some h
 refine RS.ix 14 57 86 (.tmp 12) (.tmp 13) hx ?_
 obtain ⟨x4_0,hx0,h⟩:=bind_some h
 obtain ⟨x4_1,hx1,h⟩:=bind_some h
 obtain ⟨x4_2,hx2,h⟩:=bind_some h
 refine RS.la 15 86 (.tmp 14) 3 (zi (z0 hx0 zd) (zi (z0 hx1 zb) (zi (z0 hx2 z4o) z5n))) (RS.mL 2 [kL 5 0 0] ([some (86,[(Value.int .i64 x4_0),(Sl3.v x4_1),(Value.bool x4_2)])]) (RS.dn (WS.nxt (WS.sq (WS.rg (RS.mS 1 [kS 6 Sl3.nil] (RS.dn (WS.nxt (WS.sq ?_)))))))))
 refine WS.sq (WS.rg (RS.mS 4 [kI 19 0,kI 18 (x4_1.n:Int),kS 17 x4_1,kL 16 0 1] (RS.dn (WS.nxt (WS.bk 0 ?_)))))
 obtain ⟨o,hl,h⟩:=bind_some h
 rcases o with ⟨H17,v6_18,v19_19⟩ | r
 ·try dsimp only at h
  refine WS.lI (z3p (L:=L) (E:=E) (m:=m) (H:=H)) (L.ok hl) 1 ?_
  clear hl
  refine fun a w hs=>bkE ((WS.nxt ?_ a w hs))
  refine WS.sq (WS.rg (RS.mS 5 [kS 38 v6_18,kI 37 x4_0,kL 36 0 0,kB 35 x4_2,kL 34 0 2] ?_))
  obtain ⟨⟨x20,H21⟩,hx,h⟩:=bind_some h
  try dsimp only at h
  refine RS.cl (some 39) (v:=(Value.string x20)) 63 #[(Value.bool x4_2),(Value.int .i64 x4_0),(Sl3.v v6_18)] (z9h hx) (RS.mS 1 [kT 4 x20] (RS.dn (WS.nxt (WS.rt ?_))))
  cases h
  exact fun a w hs=>rtR (rS hs)
 ·try dsimp only at h
  refine WS.lR (z3p (L:=L) (E:=E) (m:=m) (H:=H)) (L.ok hl) 1 ?_
  cases h
  exact fun a w hq=>bkR (sqR (rtR hq))
end Go.Proofs.YtgkhbmoidenjaaaDoor
namespace Go.Proofs.YtgkhbmoidenjaaaDoor
open Go Go.Abs
set_option maxRecDepth 100000
def z33:(Sl3×AH)→Value
 | (r0,_)=>(Sl3.v r0)
def z3a (_:AH):(Sl3×AH)→AH:=fun r=>r.2
noncomputable def B73:Code:=(Tryd.f73.body).getD .skip
noncomputable def z15 (L:LC) (m:Nat) (_a2:Int) (q1:Addr) (_x7:Option Addr) (_q8:Addr) (x9:Sl3):(AH×Int)→Option (Lp (AH×Int) (Sl3×AH)):=fun (H10,v41_11) =>
 if v41_11<(x9.n:Int) then
  Option.bind (α:=AH) (
   Option.bind (idxA 1 x9 v41_11) fun p13 =>
   Option.bind (rd (deI .i64) H10 p13) fun x14 =>
   Option.bind (rd deM H10 (Addr.add q1 7)) fun x15 =>
   Option.bind (zh L (Nat.max m H10.next) H10 (some q1) x14) fun (x16,H17) =>
   Option.bind (lkM Tryd.prog 58 (deI .i64) H17 x15 (Value.string x16)) fun (x18,b19) =>
   Option.bind (α:=Bool) (
    if b19=true then
     some (decide (x18=x14))
    else
     some false) fun v61_20 =>
   if v61_20=true then
    Option.bind (rd deM H17 (Addr.add q1 7)) fun x21 =>
    Option.bind (zh L (Nat.max m H17.next) H17 (some q1) x14) fun (x22,H23) =>
    Option.bind (gOp Tryd.prog m (opsOf (cfst (csnd (csnd (csnd (cfst (cfst (csnd (csnd (cfst (cfst (csnd (cfst (csnd (csnd B73))))))))))))))) 7 [(65,.val (Value.map x21)),(68,.val (Value.string x22))] deV H23) fun (_,H25) =>
    some H25
   else
    some H17) fun H12 =>
  some (.next (H12,(IntKind.i64.wrap (v41_11+1))))
 else
  some (.brk (H10,v41_11))
def z81 (_L:LC) (_m:Nat) (a2:Int) (q1:Addr) (x7:Option Addr) (q8:Addr) (x9:Sl3):(AH×Int)→KN×Lcs:=fun (_,v41_11)=>([kI 41 v41_11,kP 0 q1,kI 2 a2,kP 7 q8,(8,.val (Value.pointer x7)),kS 39 x9,kI 40 (x9.n:Int)],[])
noncomputable def z1j (_L:LC) (m:Nat) (a2:Int) (q1:Addr) (_x7:Option Addr) (_q8:Addr) (x28:Sl3):(AH×Int)→Option (Lp (AH×Int) (Sl3×AH)):=fun (H29,v75_30) =>
 if v75_30<(x28.n:Int) then
  Option.bind (idxA 1 x28 v75_30) fun p31 =>
  Option.bind (rd (deI .i64) H29 p31) fun x32 =>
  Option.bind (rd deSl H29 (Addr.add q1 4)) fun x33 =>
  Option.bind (idxA 1 x33 x32) fun p34 =>
  Option.bind (H29.setCell m p34 (Value.int .i64 a2)) fun H35 =>
  some (.next (H35,(IntKind.i64.wrap (v75_30+1))))
 else
  some (.brk (H29,v75_30))
def z80 (_L:LC) (_m:Nat) (a2:Int) (q1:Addr) (x7:Option Addr) (q8:Addr) (x28:Sl3):(AH×Int)→KN×Lcs:=fun (_,v75_30)=>([kI 75 v75_30,kP 0 q1,kI 2 a2,kP 7 q8,(8,.val (Value.pointer x7)),kS 73 x28,kI 74 (x28.n:Int)],[])
noncomputable def z14 (L:LC) (m:Nat) (q1:Addr) (_x7:Option Addr) (_q8:Addr) (x38:Sl3):(AH×Sl3×Int)→Option (Lp (AH×Sl3×Int) (Sl3×AH)):=fun (H39,v15_40,v93_41) =>
 if v93_41<(x38.n:Int) then
  Option.bind (α:=(AH×Sl3)) (
   Option.bind (idxA 1 x38 v93_41) fun p44 =>
   Option.bind (rd (deI .i64) H39 p44) fun x45 =>
   Option.bind (zh L m H39 (some q1) x45) fun (x46,H47) =>
   Option.bind (rd deM H47 (Addr.add q1 7)) fun x48 =>
   Option.bind (lkM Tryd.prog 58 (deI .i64) H47 x48 (Value.string x46)) fun (x49,b50) =>
   if b50=true then
    if x49=x45 then
     some (H47,v15_40)
    else
     Option.bind (newR 122 1 #[(Value.int .i64 x45),(Value.int .i64 x49),(Value.int .i64 0),(Value.int .i64 0),(Value.int .i64 x45),(Value.int .i64 x49),(Value.bool true)] H47) fun (s51,H52) =>
     Option.bind (appS m 122 7 56 H52 v15_40 s51) fun (s53,H54) =>
     some (H54,s53)
   else
    Option.bind (rd deM H47 (Addr.add q1 7)) fun x55 =>
    Option.bind (upM Tryd.prog m 58 H47 x55 (Value.string x46) (Value.int .i64 x45)) fun H56 =>
    some (H56,v15_40)) fun (H42,v15_43) =>
  some (.next (H42,v15_43,(IntKind.i64.wrap (v93_41+1))))
 else
  some (.brk (H39,v15_40,v93_41))
def z82 (_L:LC) (_m:Nat) (q1:Addr) (x7:Option Addr) (q8:Addr) (x38:Sl3):(AH×Sl3×Int)→KN×Lcs:=fun (_,v15_40,v93_41)=>([kS 15 v15_40,kI 93 v93_41,kP 0 q1,kP 7 q8,(8,.val (Value.pointer x7)),kS 91 x38,kI 92 (x38.n:Int)],[])
noncomputable def z2p (L:LC) (m:Nat) (H:AH) (a0:Option Addr) (a1 a2:Int):Option (Sl3×AH) :=
 Option.bind a0 fun q1 =>
 Option.bind (rd deSl H (Addr.add q1 5)) fun x2 =>
 Option.bind (idxA 1 x2 a1) fun p3 =>
 Option.bind (rd deP H p3) fun x4 =>
 Option.bind (rd deSl H (Addr.add q1 5)) fun x5 =>
 Option.bind (idxA 1 x5 a2) fun p6 =>
 Option.bind (rd deP H p6) fun x7 =>
 Option.bind x4 fun q8 =>
 Option.bind (rd deSl H (Addr.add (Addr.add q8 0) 0)) fun x9 =>
 Option.bind (L.run (z15 L m a2 q1 x7 q8 x9) (H,0)) fun o=>match o with
 | .inl (H26,_) =>
  Option.bind (rd deSl H26 (Addr.add q8 1)) fun x28 =>
  Option.bind (L.run (z1j L m a2 q1 x7 q8 x28) (H26,0)) fun o=>match o with
  | .inl (H36,_) =>
   Option.bind (rd deSl H36 (Addr.add (Addr.add q8 0) 0)) fun x38 =>
   Option.bind (L.run (z14 L m q1 x7 q8 x38) (H36,Sl3.nil,0)) fun o=>match o with
   | .inl (H57,v15_58,_) =>
    Option.bind (rd deSl H57 (Addr.add (Addr.add q8 0) 0)) fun x60 =>
    Option.bind x7 fun q61 =>
    Option.bind (z2l L m H57 (some (Addr.add q61 0)) x60) fun H62 =>
    Option.bind (rd deSl H62 (Addr.add q61 1)) fun x63 =>
    Option.bind (rd deSl H62 (Addr.add q8 1)) fun x64 =>
    Option.bind (appS m 3 1 8 H62 x63 x64) fun (s65,H66) =>
    Option.bind (H66.setCell m (Addr.add q61 1) (Sl3.v s65)) fun H67 =>
    Option.bind (rd deSl H67 (Addr.add q61 2)) fun x68 =>
    Option.bind (rd deSl H67 (Addr.add q8 2)) fun x69 =>
    Option.bind (appS m 3 1 8 H67 x68 x69) fun (s70,H71) =>
    Option.bind (H71.setCell m (Addr.add q61 2) (Sl3.v s70)) fun H72 =>
    Option.bind (rd (deI .i64) H72 (Addr.add q61 3)) fun x73 =>
    Option.bind (rd (deI .i64) H72 (Addr.add q8 3)) fun x74 =>
    Option.bind (gOp1 Tryd.prog (opsOf (cfst (csnd (csnd (csnd (csnd (csnd (csnd (csnd (csnd (csnd B73))))))))))) 9 [(166,.val (Value.int .i64 x73)),(170,.val (Value.int .i64 x74))] (deI .i64) H72) fun x75 =>
    Option.bind (H72.setCell m (Addr.add q61 3) (Value.int .i64 x75)) fun H76 =>
    some (v15_58,H76)
   | .inr r=>some r
  | .inr r=>some r
 | .inr r=>some r
theorem z50 {E H L m a2 q1 x7 q8 x9} :LoopF Tryd.prog (NE.plain 1000) m E Tryd.f73 ((cfst (csnd (cfst (csnd (csnd B73)))))) (z81 L m a2 q1 x7 q8 x9) (fun s=>s.1) 0 z33 (z3a H) (z15 L m a2 q1 x7 q8 x9):=by
 rintro ⟨H10,v41_11⟩ o h
 unfold z15 at h
 try dsimp only at h
 refine WS.sq (WS.rg (RS.mS 1 [kB 42 (decide (v41_11<(x9.n:Int)))] (RS.dn (WS.nxt (WS.sq ?_)))))
 rcases z9 h with ⟨hp,h⟩ | ⟨hp,h⟩
 ·refine WS.fx 42 true (decide_eq_true hp) (WS.cT (WS.sk (WS.nxt ?_)))
  obtain ⟨H12,hx,h⟩:=bind_some h
  refine WS.sq ?_
  refine WS.join ([kP 0 q1,kI 2 a2,kP 7 q8,(8,.val (Value.pointer x7)),kS 39 x9,kI 40 (x9.n:Int),kI 41 v41_11]) ([]) H12 ?_ (fun a w hs=>WS.nxt ?_ a w hs)
  ·clear h; rename _=>h
   refine WS.bk 1 (WS.sq (WS.rg ?_))
   obtain ⟨p13,hx,h⟩:=bind_some h
   refine RS.ix 43 27 3 (.tmp 39) (.tmp 41) hx ?_
   obtain ⟨x14,hx,h⟩:=bind_some h
   refine RS.ld 44 3 (.tmp 43) (z0 hx zd) (RS.mS 1 [kI 10 x14] (RS.dn (WS.nxt (WS.sq ?_))))
   refine WS.dr [0,1,2,3] [0,1,3,7,0,0,48,127,255,511,511,1023,4095] 13 (fun hcl=>?_)
   refine DA.tK 0 (some 46) (Value.pointer (some q1)) (DA.tK 1 (some 47) (Value.pointer (some q1)) (DA.tK 2 (some 48) (Value.pointer (some (Addr.add q1 7))) ?_))
   obtain ⟨x15,hx,h⟩:=bind_some h
   refine DA.tD 3 (some 49) (Value.map x15) (Abs.det_load (t:=58) (x:=.tmp 48) (a:=(Addr.add q1 7)) (by kernel_rfl) (by kernel_rfl) (by kernel_rfl) (by kernel_rfl) (z0 hx z4m)) (DA.tP 4 (some 50) (Value.pointer (some q1)) (DA.tP 5 (some 51) (Value.int .i64 x14) ?_))
   obtain ⟨⟨x16,H17⟩,hx,h⟩:=bind_some h
   try dsimp only at h
   refine DA.on 6 (DA.aCj 6 (some 52) false (v:=(Value.string x16)) 71 #[(Value.pointer (some q1)),(Value.int .i64 x14)] (z2i hx) ?_)
   obtain ⟨⟨x18,b19⟩,hx,h⟩:=bind_some h
   try dsimp only at h
   refine DA.on 7 (DA.aH (H':=H17) 7 (some 53) (Value.tuple #[(Value.int .i64 x18),(Value.bool b19)]) (Abs.run_look (t:=58) (x:=.tmp 49) (y:=.tmp 52) (mm:=x15) (k:=(Value.string x16)) (by kernel_rfl) (by kernel_rfl) (by kernel_rfl) (by kernel_rfl) (lkM_eq hx zd)) (DA.tP 8 (some 45) (Value.tuple #[(Value.int .i64 x18),(Value.bool b19)]) (DA.tP 9 (some 54) (Value.int .i64 x18) (DA.tP 10 (some 55) (Value.bool b19) (DA.tP 11 (some 11) (Value.int .i64 x18) (DA.tP 12 (some 12) (Value.bool b19) (DA.dn (WS.nxt ?_))))))))
   obtain ⟨v61_20,hx,h⟩:=bind_some h
   refine WS.sq ?_
   refine WS.join ([kB 61 v61_20,kP 0 q1,kI 2 a2,kP 7 q8,(8,.val (Value.pointer x7)),kI 10 x14,kS 39 x9,kI 40 (x9.n:Int),kI 41 v41_11]) ([]) H17 ?_ (fun a w hs=>WS.nxt ?_ a w hs)
   ·clear h; rename _=>h
    refine WS.rg (RS.mS 2 [kB 57 b19,kB 56 b19] ?_)
    rcases z9 h with ⟨hp,h⟩ | ⟨hp,h⟩
    ·refine RS.fx 57 true hp (RS.mS 4 [kB 61 (decide (x18=x14)),kB 60 (decide (x18=x14)),kI 59 x14,kI 58 x18] (RS.dn ?_))
     cases h
     exact fun a w hs=>(jsN (hs.sb 0))
    ·refine RS.fx 57 false (b_not hp) (RS.mS 4 [kB 61 false,kU 60,kU 59,kU 58] (RS.dn ?_))
     cases h
     exact fun a w hs=>(jsN (hs.sb 0))
   ·clear hx
    rcases z9 h with ⟨hp,h⟩ | ⟨hp,h⟩
    ·refine WS.fx 61 true hp (WS.cT ?_)
     refine WS.dr [0,1,2,3] [0,1,3,7,0,0,48,127] 8 (fun hcl=>?_)
     refine DA.tK 0 (some 62) (Value.pointer (some q1)) (DA.tK 1 (some 63) (Value.pointer (some q1)) (DA.tK 2 (some 64) (Value.pointer (some (Addr.add q1 7))) ?_))
     obtain ⟨x21,hx,h⟩:=bind_some h
     refine DA.tD 3 (some 65) (Value.map x21) (Abs.det_load (t:=58) (x:=.tmp 64) (a:=(Addr.add q1 7)) (by kernel_rfl) (by kernel_rfl) (by kernel_rfl) (by kernel_rfl) (z0 hx z4m)) (DA.tP 4 (some 66) (Value.pointer (some q1)) (DA.tP 5 (some 67) (Value.int .i64 x14) ?_))
     obtain ⟨⟨x22,H23⟩,hx,h⟩:=bind_some h
     try dsimp only at h
     refine DA.on 6 (DA.aCj 6 (some 68) false (v:=(Value.string x22)) 71 #[(Value.pointer (some q1)),(Value.int .i64 x14)] (z2i hx) ?_)
     obtain ⟨⟨x24,H25⟩,hx,h⟩:=bind_some h
     try dsimp only at h
     refine DA.on 7 (DA.aH (H':=H25) 7 none x24 (zif hx znu (by kernel_rfl)) (DA.dn ?_))
     cases h
     exact fun a w hs=>bkN ((jsN (hs.sb 0)))
    ·refine WS.fx 61 false (b_not hp) (WS.cF (WS.sk ?_))
     cases h
     exact fun a w hs=>bkN ((jsN (hs.sb 0)))
  ·clear hx
   refine WS.rg (RS.mS 2 [kI 41 (IntKind.i64.wrap (v41_11+1)),kI 69 (IntKind.i64.wrap (v41_11+1))] (RS.dn ?_))
   cases h
   exact fun a w hs=>lsN rfl (hs.sb 0)
 ·refine WS.fx 42 false (decide_eq_false hp) (WS.cF (WS.ex 0 ?_))
  cases h
  exact fun a w hs=>sqE (lsB rfl (hs.sb 0))
theorem z52 {E H L m a2 q1 x7 q8 x28} :LoopF Tryd.prog (NE.plain 1000) m E Tryd.f73 ((cfst (csnd (cfst (csnd (csnd (csnd B73))))))) (z80 L m a2 q1 x7 q8 x28) (fun s=>s.1) 2 z33 (z3a H) (z1j L m a2 q1 x7 q8 x28):=by
 rintro ⟨H29,v75_30⟩ o h
 unfold z1j at h
 try dsimp only at h
 refine WS.sq (WS.rg (RS.mS 1 [kB 76 (decide (v75_30<(x28.n:Int)))] (RS.dn (WS.nxt (WS.sq ?_)))))
 rcases z9 h with ⟨hp,h⟩ | ⟨hp,h⟩
 ·refine WS.fx 76 true (decide_eq_true hp) (WS.cT (WS.sk (WS.nxt (WS.sq (WS.bk 3 (WS.sq (WS.rg ?_)))))))
  obtain ⟨p31,hx,h⟩:=bind_some h
  refine RS.ix 77 27 3 (.tmp 73) (.tmp 75) hx ?_
  obtain ⟨x32,hx,h⟩:=bind_some h
  refine RS.ld 78 3 (.tmp 77) (z0 hx zd) (RS.mS 1 [kI 14 x32] (RS.dn (WS.nxt (WS.rg (RS.mS 3 [(81,.val (Value.pointer (some (Addr.add q1 4)))),kP 80 q1,kP 79 q1] ?_)))))
  obtain ⟨x33,hx,h⟩:=bind_some h
  refine RS.ld 82 27 (.tmp 81) (z0 hx zb) (RS.mS 2 [kI 84 a2,kI 83 x32] ?_)
  obtain ⟨p34,hx,h⟩:=bind_some h
  refine RS.ix 85 27 3 (.tmp 82) (.tmp 83) hx ?_
  obtain ⟨H35,hx,h⟩:=bind_some h
  refine RS.o (H':=H35) none undef (Abs.run_store1 (t:=3) (x:=.tmp 85) (y:=.tmp 84) (a:=p34) (v:=(Value.int .i64 a2)) (by kernel_rfl) (by kernel_rfl) (by kernel_rfl) (by kernel_rfl) (by kernel_rfl) hx) (RS.dn ?_)
  refine fun a w hs=>bkN ((WS.nxt ?_ a w hs))
  refine WS.rg (RS.mS 2 [kI 75 (IntKind.i64.wrap (v75_30+1)),kI 86 (IntKind.i64.wrap (v75_30+1))] (RS.dn ?_))
  cases h
  exact fun a w hs=>lsN rfl (hs.sb 0)
 ·refine WS.fx 76 false (decide_eq_false hp) (WS.cF (WS.ex 2 ?_))
  cases h
  exact fun a w hs=>sqE (lsB rfl (hs.sb 0))
theorem z4z {E H L m q1 x7 q8 x38} :LoopF Tryd.prog (NE.plain 1000) m E Tryd.f73 ((cfst (csnd (cfst (csnd (csnd (csnd (csnd (csnd B73))))))))) (z82 L m q1 x7 q8 x38) (fun s=>s.1) 4 z33 (z3a H) (z14 L m q1 x7 q8 x38):=by
 rintro ⟨H39,v15_40,v93_41⟩ o h
 unfold z14 at h
 try dsimp only at h
 refine WS.sq (WS.rg (RS.mS 1 [kB 94 (decide (v93_41<(x38.n:Int)))] (RS.dn (WS.nxt (WS.sq ?_)))))
 rcases z9 h with ⟨hp,h⟩ | ⟨hp,h⟩
 ·refine WS.fx 94 true (decide_eq_true hp) (WS.cT (WS.sk (WS.nxt ?_)))
  obtain ⟨⟨H42,v15_43⟩,hx,h⟩:=bind_some h
  try dsimp only at h
  refine WS.sq ?_
  refine WS.join ([kS 15 v15_43,kP 0 q1,kP 7 q8,(8,.val (Value.pointer x7)),kS 91 x38,kI 92 (x38.n:Int),kI 93 v93_41]) ([]) H42 ?_ (fun a w hs=>WS.nxt ?_ a w hs)
  ·clear h; rename _=>h
   refine WS.bk 5 (WS.sq (WS.rg ?_))
   obtain ⟨p44,hx,h⟩:=bind_some h
   refine RS.ix 95 27 3 (.tmp 91) (.tmp 93) hx ?_
   obtain ⟨x45,hx,h⟩:=bind_some h
   refine RS.ld 96 3 (.tmp 95) (z0 hx zd) (RS.mS 1 [kI 17 x45] (RS.dn (WS.nxt (WS.sq (WS.rg (RS.mS 2 [kI 98 x45,kP 97 q1] ?_))))))
   obtain ⟨⟨x46,H47⟩,hx,h⟩:=bind_some h
   try dsimp only at h
   refine RS.cl (some 99) (v:=(Value.string x46)) 71 #[(Value.pointer (some q1)),(Value.int .i64 x45)] (z2i hx) (RS.mS 1 [kT 18 x46] (RS.dn (WS.nxt (WS.sq (WS.rg (RS.mS 3 [(103,.val (Value.pointer (some (Addr.add q1 7)))),kP 102 q1,kP 101 q1] ?_))))))
   obtain ⟨x48,hx,h⟩:=bind_some h
   refine RS.ld 104 58 (.tmp 103) (z0 hx z4m) (RS.mS 1 [kT 105 x46] ?_)
   obtain ⟨⟨x49,b50⟩,hx,h⟩:=bind_some h
   try dsimp only at h
   refine RS.o (H':=H47) (some 106) (Value.tuple #[(Value.int .i64 x49),(Value.bool b50)]) (Abs.run_look (t:=58) (x:=.tmp 104) (y:=.tmp 105) (mm:=x48) (k:=(Value.string x46)) (by kernel_rfl) (by kernel_rfl) (by kernel_rfl) (by kernel_rfl) (lkM_eq hx zd)) (RS.mS 5 [kB 20 b50,kI 19 x49,kB 108 b50,kI 107 x49,(100,.val (Value.tuple #[(Value.int .i64 x49),(Value.bool b50)]))] (RS.dn (WS.nxt (WS.sq (WS.rg (RS.mS 1 [kB 109 b50] (RS.dn (WS.nxt ?_))))))))
   rcases z9 h with ⟨hp,h⟩ | ⟨hp,h⟩
   ·refine WS.fx 109 true hp (WS.cT (WS.sq (WS.rg (RS.mS 3 [kB 112 (!decide (x49=x45)),kI 111 x45,kI 110 x49] (RS.dn (WS.nxt ?_))))))
    rcases z9 h with ⟨hp,h⟩ | ⟨hp,h⟩
    ·refine WS.fx 112 false (z7o hp) (WS.cF (WS.sk ?_))
     cases h
     exact fun a w hs=>bkN ((jsN (hs.sb 0)))
    ·refine WS.fx 112 true (z6k hp) (WS.cT (WS.rg (RS.mS 7 [kA 119 #[(Value.int .i64 x45),(Value.int .i64 x49),(Value.int .i64 0),(Value.int .i64 0),(Value.int .i64 x45),(Value.int .i64 x49),(Value.bool true)],kA 118 #[(Value.int .i64 0),(Value.int .i64 0),(Value.int .i64 x45),(Value.int .i64 x49),(Value.bool true)],kI 117 x49,kI 116 x45,kI 115 x49,kI 114 x45,kS 113 v15_40] ?_)))
     obtain ⟨⟨s51,H52⟩,hx,h⟩:=bind_some h
     try dsimp only at h
     refine RS.o (H':=H52) (some 120) (Sl3.v s51) (Abs.run_newR (by kernel_rfl) (by kernel_rfl) hx) ?_
     obtain ⟨⟨s53,H54⟩,hx,h⟩:=bind_some h
     try dsimp only at h
     refine RS.o (H':=H54) (some 121) (Sl3.v s53) (Abs.run_app (x:=.tmp 113) (y:=.tmp 120) (ts:=#[123,123]) (s:=v15_40) (z:=s51) (by kernel_rfl) (by kernel_rfl) (by kernel_rfl) (by kernel_rfl) hx) (RS.mS 1 [kS 15 s53] (RS.dn ?_))
     cases h
     exact fun a w hs=>bkN ((jsN (hs.sb 0)))
   ·refine WS.fx 109 false (b_not hp) (WS.cF (WS.rg (RS.mS 3 [(124,.val (Value.pointer (some (Addr.add q1 7)))),kP 123 q1,kP 122 q1] ?_)))
    obtain ⟨x55,hx,h⟩:=bind_some h
    refine RS.ld 125 58 (.tmp 124) (z0 hx z4m) (RS.mS 2 [kI 127 x45,kT 126 x46] ?_)
    obtain ⟨H56,hx,h⟩:=bind_some h
    refine RS.o (H':=H56) none undef (Abs.run_upM (t:=58) (x:=.tmp 125) (y:=.tmp 126) (z:=.tmp 127) (mm:=x55) (k:=(Value.string x46)) (v:=(Value.int .i64 x45)) (by kernel_rfl) (by kernel_rfl) (by kernel_rfl) (by kernel_rfl) (by kernel_rfl) hx) (RS.dn ?_)
    cases h
    exact fun a w hs=>bkN ((jsN (hs.sb 0)))
  ·clear hx
   refine WS.rg (RS.mS 2 [kI 93 (IntKind.i64.wrap (v93_41+1)),kI 128 (IntKind.i64.wrap (v93_41+1))] (RS.dn ?_))
   cases h
   exact fun a w hs=>lsN rfl (hs.sb 0)
 ·refine WS.fx 94 false (decide_eq_false hp) (WS.cF (WS.ex 4 ?_))
  cases h
  exact fun a w hs=>sqE (lsB rfl (hs.sb 0))
theorem z9y {L:LC} {m:Nat} {H:AH} {a0:Option Addr} {a1 a2:Int} {r:(Sl3×AH)} (h:z2p L m H a0 a1 a2=some r) :
  CallS Tryd.prog (NE.plain 1000) m 73 #[(Value.pointer a0),(Value.int .i64 a1),(Value.int .i64 a2)] H (z33 r) (z3a H r):=by
 refine CallS.mk (args:=[(Value.pointer a0),(Value.int .i64 a1),(Value.int .i64 a2)]) Tryd.func73 (B:=B73) (by kernel_rfl) (fun E _=>?_)
 unfold z2p at h
 refine WS.sq (WS.rg (RS.mS 1 [kS 6 Sl3.nil] (RS.dn (WS.nxt (WS.sq ?_)))))
 refine WS.dr [0,1,2,3,4,5,6,7,8,9,10,11,12,13] [0,1,3,7,0,31,63,0,128,384,896,0,3968,8064,127,32767] 16 (fun hcl=>?_)
 refine DA.tK 0 (some 21) (Value.pointer a0) ?_
 obtain ⟨q1,hx,hq1⟩:=bind_some h
 subst hx
 have h:=hq1
 refine DA.tK 1 (some 22) (Value.pointer (some q1)) (DA.tK 2 (some 23) (Value.pointer (some (Addr.add q1 5))) ?_)
 obtain ⟨x2,hx,h⟩:=bind_some h
 refine DA.tD 3 (some 24) (Sl3.v x2) (Abs.det_load (t:=60) (x:=.tmp 23) (a:=(Addr.add q1 5)) (by kernel_rfl) (by kernel_rfl) (by kernel_rfl) (by kernel_rfl) (z0 hx zb)) (DA.tK 4 (some 25) (Value.int .i64 a1) ?_)
 obtain ⟨p3,hx,h⟩:=bind_some h
 refine DA.tD 5 (some 26) (Value.pointer (some p3)) (Abs.det_idx (s:=x2) (k:=.i64) (t:=60) (e:=79) (x:=.tmp 24) (y:=.tmp 25) (by kernel_rfl) (by kernel_rfl) (by kernel_rfl) (by kernel_rfl) (by kernel_rfl) hx) ?_
 obtain ⟨x4,hx,h⟩:=bind_some h
 refine DA.tD 6 (some 27) (Value.pointer x4) (Abs.det_load (t:=79) (x:=.tmp 26) (a:=p3) (by kernel_rfl) (by kernel_rfl) (by kernel_rfl) (by kernel_rfl) (z0 hx z3h)) (DA.tK 7 (some 28) (Value.pointer (some q1)) (DA.tK 8 (some 29) (Value.pointer (some q1)) (DA.tK 9 (some 30) (Value.pointer (some (Addr.add q1 5))) ?_)))
 obtain ⟨x5,hx,h⟩:=bind_some h
 refine DA.tD 10 (some 31) (Sl3.v x5) (Abs.det_load (t:=60) (x:=.tmp 30) (a:=(Addr.add q1 5)) (by kernel_rfl) (by kernel_rfl) (by kernel_rfl) (by kernel_rfl) (z0 hx zb)) (DA.tK 11 (some 32) (Value.int .i64 a2) ?_)
 obtain ⟨p6,hx,h⟩:=bind_some h
 refine DA.tD 12 (some 33) (Value.pointer (some p6)) (Abs.det_idx (s:=x5) (k:=.i64) (t:=60) (e:=79) (x:=.tmp 31) (y:=.tmp 32) (by kernel_rfl) (by kernel_rfl) (by kernel_rfl) (by kernel_rfl) (by kernel_rfl) hx) ?_
 obtain ⟨x7,hx,h⟩:=bind_some h
 refine DA.tD 13 (some 34) (Value.pointer x7) (Abs.det_load (t:=79) (x:=.tmp 33) (a:=p6) (by kernel_rfl) (by kernel_rfl) (by kernel_rfl) (by kernel_rfl) (z0 hx z3h)) (DA.tP 14 (some 7) (Value.pointer x4) (DA.tP 15 (some 8) (Value.pointer x7) (DA.dn (WS.nxt (WS.sq (WS.sq (WS.rg (RS.mS 1 [(35,.val (Value.pointer x4))] ?_))))))))
 obtain ⟨q8,hx,hq8⟩:=bind_some h
 subst hx
 have h:=hq8
 refine RS.mS 3 [(38,.val (Value.pointer (some (Addr.add (Addr.add q8 0) 0)))),(37,.val (Value.pointer (some (Addr.add q8 0)))),kP 36 q8] ?_
 obtain ⟨x9,hx,h⟩:=bind_some h
 refine RS.ld 39 27 (.tmp 38) (z0 hx zb) (RS.mS 2 [kI 41 0,kI 40 (x9.n:Int)] (RS.dn (WS.nxt (WS.bk 0 ?_))))
 obtain ⟨o,hl,h⟩:=bind_some h
 rcases o with ⟨H26,v41_27⟩ | r
 ·try dsimp only at h
  refine WS.lI (z50 (L:=L) (E:=E) (m:=m) (H:=H)) (L.ok hl) 0 ?_
  clear hl
  refine fun a w hs=>bkE ((WS.nxt ?_ a w hs))
  refine WS.sq (WS.sq (WS.rg (RS.mS 3 [(72,.val (Value.pointer (some (Addr.add q8 1)))),kP 71 q8,kP 70 q8] ?_)))
  obtain ⟨x28,hx,h⟩:=bind_some h
  refine RS.ld 73 27 (.tmp 72) (z0 hx zb) (RS.mS 2 [kI 75 0,kI 74 (x28.n:Int)] (RS.dn (WS.nxt (WS.bk 2 ?_))))
  obtain ⟨o,hl,h⟩:=bind_some h
  rcases o with ⟨H36,v75_37⟩ | r
  ·try dsimp only at h
   refine WS.lI (z52 (L:=L) (E:=E) (m:=m) (H:=H)) (L.ok hl) 0 ?_
   clear hl
   refine fun a w hs=>bkE ((WS.nxt ?_ a w hs))
   refine WS.sq (WS.rg (RS.mS 1 [kS 15 Sl3.nil] (RS.dn (WS.nxt (WS.sq (WS.sq (WS.rg (RS.mS 4 [(90,.val (Value.pointer (some (Addr.add (Addr.add q8 0) 0)))),(89,.val (Value.pointer (some (Addr.add q8 0)))),kP 88 q8,kP 87 q8] ?_))))))))
   obtain ⟨x38,hx,h⟩:=bind_some h
   refine RS.ld 91 27 (.tmp 90) (z0 hx zb) (RS.mS 2 [kI 93 0,kI 92 (x38.n:Int)] (RS.dn (WS.nxt (WS.bk 4 ?_))))
   obtain ⟨o,hl,h⟩:=bind_some h
   rcases o with ⟨H57,v15_58,v93_59⟩ | r
   ·try dsimp only at h
    refine WS.lI (z4z (L:=L) (E:=E) (m:=m) (H:=H)) (L.ok hl) 0 ?_
    clear hl
    refine fun a w hs=>bkE ((WS.nxt ?_ a w hs))
    refine WS.sq ?_
    refine WS.dr [3,4,5,6,7] [0,1,3,0,8,24,56,120,255] 9 (fun hcl=>?_)
    refine DA.tK 3 (some 132) (Value.pointer (some q8)) (DA.tK 4 (some 133) (Value.pointer (some q8)) (DA.tK 5 (some 134) (Value.pointer (some (Addr.add q8 0))) (DA.tK 6 (some 135) (Value.pointer (some (Addr.add (Addr.add q8 0) 0))) ?_)))
    obtain ⟨x60,hx,h⟩:=bind_some h
    refine DA.tD 7 (some 136) (Sl3.v x60) (Abs.det_load (t:=27) (x:=.tmp 135) (a:=(Addr.add (Addr.add q8 0) 0)) (by kernel_rfl) (by kernel_rfl) (by kernel_rfl) (by kernel_rfl) (z0 hx zb)) (DA.tP 0 (some 129) (Value.pointer x7) ?_)
    obtain ⟨q61,hx,hq61⟩:=bind_some h
    subst hx
    have h:=hq61
    refine DA.on 1 (DA.aHj (H':=H57) 1 (some 130) true (Value.pointer (some q61)) (by kernel_rfl) (DA.on 2 (DA.aHj (H':=H57) 2 (some 131) false (Value.pointer (some (Addr.add q61 0))) (by kernel_rfl) ?_)))
    obtain ⟨H62,hx,h⟩:=bind_some h
    refine DA.on 8 (DA.aC 8 (some 137) (v:=(Value.tuple #[])) 70 #[(Value.pointer (some (Addr.add q61 0))),(Sl3.v x60)] (z6t hx) (DA.dn (WS.nxt (WS.sq ?_))))
    refine WS.dr [1,2,3,4,5,6,7,8] [0,0,2,6,14,0,32,96,224,510,1023,2047,4095] 13 (fun hcl=>?_)
    refine DA.tK 1 (some 139) (Value.pointer (some q61)) (DA.tK 2 (some 140) (Value.pointer (some q61)) (DA.tK 3 (some 141) (Value.pointer (some (Addr.add q61 1))) ?_))
    obtain ⟨x63,hx,h⟩:=bind_some h
    refine DA.tD 4 (some 142) (Sl3.v x63) (Abs.det_load (t:=27) (x:=.tmp 141) (a:=(Addr.add q61 1)) (by kernel_rfl) (by kernel_rfl) (by kernel_rfl) (by kernel_rfl) (z0 hx zb)) (DA.tK 5 (some 143) (Value.pointer (some q8)) (DA.tK 6 (some 144) (Value.pointer (some q8)) (DA.tK 7 (some 145) (Value.pointer (some (Addr.add q8 1))) ?_)))
    obtain ⟨x64,hx,h⟩:=bind_some h
    refine DA.tD 8 (some 146) (Sl3.v x64) (Abs.det_load (t:=27) (x:=.tmp 145) (a:=(Addr.add q8 1)) (by kernel_rfl) (by kernel_rfl) (by kernel_rfl) (by kernel_rfl) (z0 hx zb)) (DA.tP 0 (some 138) (Value.pointer (some q61)) ?_)
    obtain ⟨⟨s65,H66⟩,hx,h⟩:=bind_some h
    try dsimp only at h
    refine DA.on 9 (DA.aH (H':=H66) 9 (some 147) (Sl3.v s65) (Abs.run_app (x:=.tmp 142) (y:=.tmp 146) (ts:=#[27,27]) (s:=x63) (z:=x64) (by kernel_rfl) (by kernel_rfl) (by kernel_rfl) (by kernel_rfl) hx) (DA.tP 10 (some 148) (Value.pointer (some q61)) (DA.tP 11 (some 149) (Value.pointer (some (Addr.add q61 1))) ?_)))
    obtain ⟨H67,hx,h⟩:=bind_some h
    refine DA.on 12 (DA.aH (H':=H67) 12 none undef (Abs.run_store1 (t:=27) (x:=.tmp 149) (y:=.tmp 147) (a:=(Addr.add q61 1)) (v:=(Sl3.v s65)) (by kernel_rfl) (by kernel_rfl) (by kernel_rfl) (by kernel_rfl) (by kernel_rfl) hx) (DA.dn (WS.nxt (WS.sq ?_))))
    refine WS.dr [1,2,3,4,5,6,7,8] [0,0,2,6,14,0,32,96,224,510,1023,2047,4095] 13 (fun hcl=>?_)
    refine DA.tK 1 (some 151) (Value.pointer (some q61)) (DA.tK 2 (some 152) (Value.pointer (some q61)) (DA.tK 3 (some 153) (Value.pointer (some (Addr.add q61 2))) ?_))
    obtain ⟨x68,hx,h⟩:=bind_some h
    refine DA.tD 4 (some 154) (Sl3.v x68) (Abs.det_load (t:=27) (x:=.tmp 153) (a:=(Addr.add q61 2)) (by kernel_rfl) (by kernel_rfl) (by kernel_rfl) (by kernel_rfl) (z0 hx zb)) (DA.tK 5 (some 155) (Value.pointer (some q8)) (DA.tK 6 (some 156) (Value.pointer (some q8)) (DA.tK 7 (some 157) (Value.pointer (some (Addr.add q8 2))) ?_)))
    obtain ⟨x69,hx,h⟩:=bind_some h
    refine DA.tD 8 (some 158) (Sl3.v x69) (Abs.det_load (t:=27) (x:=.tmp 157) (a:=(Addr.add q8 2)) (by kernel_rfl) (by kernel_rfl) (by kernel_rfl) (by kernel_rfl) (z0 hx zb)) (DA.tP 0 (some 150) (Value.pointer (some q61)) ?_)
    obtain ⟨⟨s70,H71⟩,hx,h⟩:=bind_some h
    try dsimp only at h
    refine DA.on 9 (DA.aH (H':=H71) 9 (some 159) (Sl3.v s70) (Abs.run_app (x:=.tmp 154) (y:=.tmp 158) (ts:=#[27,27]) (s:=x68) (z:=x69) (by kernel_rfl) (by kernel_rfl) (by kernel_rfl) (by kernel_rfl) hx) (DA.tP 10 (some 160) (Value.pointer (some q61)) (DA.tP 11 (some 161) (Value.pointer (some (Addr.add q61 2))) ?_)))
    obtain ⟨H72,hx,h⟩:=bind_some h
    refine DA.on 12 (DA.aH (H':=H72) 12 none undef (Abs.run_store1 (t:=27) (x:=.tmp 161) (y:=.tmp 159) (a:=(Addr.add q61 2)) (v:=(Sl3.v s70)) (by kernel_rfl) (by kernel_rfl) (by kernel_rfl) (by kernel_rfl) (by kernel_rfl) hx) (DA.dn (WS.nxt (WS.sq ?_))))
    refine WS.dr [1,2,3,4,5,6,7,8] [0,0,2,6,14,0,32,96,224,510,1023,2047,4095] 13 (fun hcl=>?_)
    refine DA.tK 1 (some 163) (Value.pointer (some q61)) (DA.tK 2 (some 164) (Value.pointer (some q61)) (DA.tK 3 (some 165) (Value.pointer (some (Addr.add q61 3))) ?_))
    obtain ⟨x73,hx,h⟩:=bind_some h
    refine DA.tD 4 (some 166) (Value.int .i64 x73) (Abs.det_load (t:=3) (x:=.tmp 165) (a:=(Addr.add q61 3)) (by kernel_rfl) (by kernel_rfl) (by kernel_rfl) (by kernel_rfl) (z0 hx zd)) (DA.tK 5 (some 167) (Value.pointer (some q8)) (DA.tK 6 (some 168) (Value.pointer (some q8)) (DA.tK 7 (some 169) (Value.pointer (some (Addr.add q8 3))) ?_)))
    obtain ⟨x74,hx,h⟩:=bind_some h
    refine DA.tD 8 (some 170) (Value.int .i64 x74) (Abs.det_load (t:=3) (x:=.tmp 169) (a:=(Addr.add q8 3)) (by kernel_rfl) (by kernel_rfl) (by kernel_rfl) (by kernel_rfl) (z0 hx zd)) (DA.tP 0 (some 162) (Value.pointer (some q61)) ?_)
    obtain ⟨x75,hx,h⟩:=bind_some h
    refine DA.on 9 (DA.aH (H':=H72) 9 (some 171) (Value.int .i64 x75) (zmj hx zd (by kernel_rfl) (by kernel_rfl)) (DA.tP 10 (some 172) (Value.pointer (some q61)) (DA.tP 11 (some 173) (Value.pointer (some (Addr.add q61 3))) ?_)))
    obtain ⟨H76,hx,h⟩:=bind_some h
    refine DA.on 12 (DA.aH (H':=H76) 12 none undef (Abs.run_store1 (t:=3) (x:=.tmp 173) (y:=.tmp 171) (a:=(Addr.add q61 3)) (v:=(Value.int .i64 x75)) (by kernel_rfl) (by kernel_rfl) (by kernel_rfl) (by kernel_rfl) (by kernel_rfl) hx) (DA.dn (WS.nxt (WS.sq (WS.rg (RS.mS 2 [kS 6 v15_58,kS 174 v15_58] (RS.dn (WS.nxt (WS.rt ?_)))))))))
    cases h
    exact fun a w hs=>rtR (rS hs)
   ·try dsimp only at h
    refine WS.lR (z4z (L:=L) (E:=E) (m:=m) (H:=H)) (L.ok hl) 0 ?_
    cases h
    exact fun a w hq=>bkR (sqR (rtR hq))
  ·try dsimp only at h
   refine WS.lR (z52 (L:=L) (E:=E) (m:=m) (H:=H)) (L.ok hl) 0 ?_
   cases h
   exact fun a w hq=>bkR (sqR (rtR hq))
 ·try dsimp only at h
  refine WS.lR (z50 (L:=L) (E:=E) (m:=m) (H:=H)) (L.ok hl) 0 ?_
  cases h
  exact fun a w hq=>bkR (sqR (rtR hq))
def z57:AH→Value
 | _=>(Value.tuple #[])
def z5o (_:AH):AH→AH:=fun r=>r
noncomputable def B58:Code:=(Tryd.f58.body).getD .skip
noncomputable def zq (L:LC) (m:Nat) (a0:Option Addr) (_a3_0 _a3_1:Int) (_a3_2 _a3_3:Int) (_a3_4:Bool):(AH×Sl3)→Option (Lp (AH×Sl3) AH):=fun (H3,v8_4) =>
 if (v8_4.n:Int) > 0 then
  Option.bind (idxA 7 v8_4 0) fun p5 =>
  Option.bind (rd (deI .i64) H3 (Addr.add p5 0)) fun x6_0 =>
  Option.bind (rd (deI .i64) H3 (Addr.add p5 1)) fun x6_1 =>
  Option.bind (rd (deI .i64) H3 (Addr.add p5 2)) fun x6_2 =>
  Option.bind (rd (deI .i64) H3 (Addr.add p5 3)) fun x6_3 =>
  Option.bind (rd (deI .i64) H3 (Addr.add p5 4)) fun x6_4 =>
  Option.bind (rd (deI .i64) H3 (Addr.add p5 5)) fun x6_5 =>
  Option.bind (rd deB H3 (Addr.add p5 6)) fun x6_6 =>
  Option.bind (slc 7 H3 v8_4 (some 1) none none) fun s7 =>
  Option.bind a0 fun q8 =>
  Option.bind (rd deSl H3 (Addr.add q8 4)) fun x9 =>
  Option.bind (idxA 1 x9 x6_0) fun p10 =>
  Option.bind (rd (deI .i64) H3 p10) fun x11 =>
  Option.bind (rd deSl H3 (Addr.add q8 4)) fun x12 =>
  Option.bind (idxA 1 x12 x6_1) fun p13 =>
  Option.bind (rd (deI .i64) H3 p13) fun x14 =>
  if x11=x14 then
   some (.next (H3,s7))
  else
   Option.bind (α:=(Int×Int×Int×Int×Int×Int×Int×Int×Bool)) (
    Option.bind (rd deSl H3 (Addr.add q8 5)) fun x24 =>
    Option.bind (idxA 1 x24 x11) fun p25 =>
    Option.bind (rd deP H3 p25) fun x26 =>
    Option.bind x26 fun q27 =>
    Option.bind (rd deSl H3 (Addr.add q27 1)) fun x28 =>
    Option.bind (rd deSl H3 (Addr.add q8 5)) fun x29 =>
    Option.bind (idxA 1 x29 x14) fun p30 =>
    Option.bind (rd deP H3 p30) fun x31 =>
    Option.bind x31 fun q32 =>
    Option.bind (rd deSl H3 (Addr.add q32 1)) fun x33 =>
    if (x28.n:Int) > (x33.n:Int) then
     some (x14,x11,x6_1,x6_0,x6_2,x6_3,x6_4,x6_5,x6_6)
    else
     some (x11,x14,x6_0,x6_1,x6_2,x6_3,x6_4,x6_5,x6_6)) fun (v10_15,v11_16,w1_17,w1_18,_,w1_20,w1_21,w1_22,w1_23) =>
   Option.bind (z2a L m H3 (some q8) w1_17) fun H34 =>
   Option.bind (rd deSl H34 (Addr.add q8 6)) fun x35 =>
   Option.bind (idxA 5 x35 w1_17) fun p36 =>
   Option.bind (wrCells m p36 0 [(Value.int .i64 w1_18),(Value.int .i64 w1_20),(Value.int .i64 w1_21),(Value.int .i64 w1_22),(Value.bool w1_23)] H34) fun H37 =>
   Option.bind (z2p L m H37 (some q8) v10_15 v11_16) fun (x38,H39) =>
   Option.bind (appS m 122 7 56 H39 s7 x38) fun (s40,H41) =>
   some (.next (H41,s40))
 else
  some (.brk (H3,v8_4))
def z7t (_L:LC) (_m:Nat) (a0:Option Addr) (a3_0 a3_1:Int) (a3_2 a3_3:Int) (a3_4:Bool):(AH×Sl3)→KN×Lcs:=fun (_,v8_4)=>([kS 8 v8_4,(0,.val (Value.pointer a0))],[some (109,[(Value.int .i64 a3_0),(Value.int .i64 a3_1),(Value.int .i64 a3_2),(Value.int .i64 a3_3),(Value.bool a3_4)])])
noncomputable def z19 (L:LC) (m:Nat) (H:AH) (a0:Option Addr) (a1 a2:Int) (a3_0 a3_1:Int) (a3_2 a3_3:Int) (a3_4:Bool):Option AH :=
 Option.bind (newR 122 1 #[(Value.int .i64 a1),(Value.int .i64 a2),(Value.int .i64 a3_0),(Value.int .i64 a3_1),(Value.int .i64 a3_2),(Value.int .i64 a3_3),(Value.bool a3_4)] H) fun (s1,H2) =>
 Option.bind (L.run (zq L m a0 a3_0 a3_1 a3_2 a3_3 a3_4) (H2,s1)) fun o=>match o with
 | .inl (H42,_) =>
  some H42
 | .inr r=>some r
theorem z4e {E H L m a0 a3_0 a3_1 a3_2 a3_3 a3_4} :LoopF Tryd.prog (NE.plain 1000) m E Tryd.f58 ((cfst (csnd (csnd B58)))) (z7t L m a0 a3_0 a3_1 a3_2 a3_3 a3_4) (fun s=>s.1) 0 z57 (z5o H) (zq L m a0 a3_0 a3_1 a3_2 a3_3 a3_4):=by
 rintro ⟨H3,v8_4⟩ o h
 unfold zq at h
 try dsimp only at h
 refine WS.sq (WS.sq (WS.rg (RS.mS 3 [kB 19 (decide ((v8_4.n:Int) > 0)),kI 18 (v8_4.n:Int),kS 17 v8_4] (RS.dn (WS.nxt ?_)))))
 rcases z9 h with ⟨hp,h⟩ | ⟨hp,h⟩
 ·refine WS.fx 19 true (decide_eq_true hp) (WS.cT (WS.sk (WS.nxt (WS.bk 1 (WS.sq (WS.rg (RS.mS 1 [kS 20 v8_4] ?_)))))))
  obtain ⟨p5,hx,h⟩:=bind_some h
  refine RS.ix 21 123 122 (.tmp 20) (.const (Value.int .i64 0)) hx ?_
  obtain ⟨x6_0,hx0,h⟩:=bind_some h
  obtain ⟨x6_1,hx1,h⟩:=bind_some h
  obtain ⟨x6_2,hx2,h⟩:=bind_some h
  obtain ⟨x6_3,hx3,h⟩:=bind_some h
  obtain ⟨x6_4,hx4,h⟩:=bind_some h
  obtain ⟨x6_5,hx5,h⟩:=bind_some h
  obtain ⟨x6_6,hx6,h⟩:=bind_some h
  refine RS.la 22 122 (.tmp 21) 7 (zi (z0 hx0 zd) (zi (z0 hx1 zd) (zi (z0 hx2 zd) (zi (z0 hx3 zd) (zi (z0 hx4 zd) (zi (z0 hx5 zd) (zi (z0 hx6 z4o) z5n))))))) (RS.mL 2 [kL 9 1 0] ([some (109,[(Value.int .i64 a3_0),(Value.int .i64 a3_1),(Value.int .i64 a3_2),(Value.int .i64 a3_3),(Value.bool a3_4)]),some (122,[(Value.int .i64 x6_0),(Value.int .i64 x6_1),(Value.int .i64 x6_2),(Value.int .i64 x6_3),(Value.int .i64 x6_4),(Value.int .i64 x6_5),(Value.bool x6_6)])]) (RS.dn (WS.nxt (WS.sq (WS.rg (RS.mS 1 [kS 23 v8_4] ?_))))))
  obtain ⟨s7,hx,h⟩:=bind_some h
  refine RS.o (H':=H3) (some 24) (Sl3.v s7) (Abs.run_slice (t:=123) (e:=122) (x:=.tmp 23) (lo:=(some (.const (Value.int .i64 1)))) (hi:=none) (mx:=none) (s:=v8_4) (k1:=.i64) (k2:=.i64) (k3:=.i64) (by kernel_rfl) (by kernel_rfl) (by kernel_rfl) (by kernel_rfl) (by kernel_rfl) (by kernel_rfl) (by kernel_rfl) hx) (RS.mS 1 [kS 8 s7] (RS.dn (WS.nxt (WS.sq ?_))))
  refine WS.dr [0,1,2,3,4,5,6,7,8,9,10,11,12,13,14,15] [0,1,3,7,0,16,63,127,0,256,768,1792,0,4096,16128,32512,255,131071] 18 (fun hcl=>?_)
  refine DA.tK 0 (some 25) (Value.pointer a0) ?_
  obtain ⟨q8,hx,hq8⟩:=bind_some h
  subst hx
  have h:=hq8
  refine DA.tK 1 (some 26) (Value.pointer (some q8)) (DA.tK 2 (some 27) (Value.pointer (some (Addr.add q8 4))) ?_)
  obtain ⟨x9,hx,h⟩:=bind_some h
  refine DA.tD 3 (some 28) (Sl3.v x9) (Abs.det_load (t:=27) (x:=.tmp 27) (a:=(Addr.add q8 4)) (by kernel_rfl) (by kernel_rfl) (by kernel_rfl) (by kernel_rfl) (z0 hx zb)) (DA.tL 4 (some 29) (.loc 1 0) (DA.tL 5 (some 30) (.val (Value.int .i64 x6_0)) ?_))
  obtain ⟨p10,hx,h⟩:=bind_some h
  refine DA.tD 6 (some 31) (Value.pointer (some p10)) (Abs.det_idx (s:=x9) (k:=.i64) (t:=27) (e:=3) (x:=.tmp 28) (y:=.tmp 30) (by kernel_rfl) (by kernel_rfl) (by kernel_rfl) (by kernel_rfl) (by kernel_rfl) hx) ?_
  obtain ⟨x11,hx,h⟩:=bind_some h
  refine DA.tD 7 (some 32) (Value.int .i64 x11) (Abs.det_load (t:=3) (x:=.tmp 31) (a:=p10) (by kernel_rfl) (by kernel_rfl) (by kernel_rfl) (by kernel_rfl) (z0 hx zd)) (DA.tK 8 (some 33) (Value.pointer (some q8)) (DA.tK 9 (some 34) (Value.pointer (some q8)) (DA.tK 10 (some 35) (Value.pointer (some (Addr.add q8 4))) ?_)))
  obtain ⟨x12,hx,h⟩:=bind_some h
  refine DA.tD 11 (some 36) (Sl3.v x12) (Abs.det_load (t:=27) (x:=.tmp 35) (a:=(Addr.add q8 4)) (by kernel_rfl) (by kernel_rfl) (by kernel_rfl) (by kernel_rfl) (z0 hx zb)) (DA.tL 12 (some 37) (.loc 1 1) (DA.tL 13 (some 38) (.val (Value.int .i64 x6_1)) ?_))
  obtain ⟨p13,hx,h⟩:=bind_some h
  refine DA.tD 14 (some 39) (Value.pointer (some p13)) (Abs.det_idx (s:=x12) (k:=.i64) (t:=27) (e:=3) (x:=.tmp 36) (y:=.tmp 38) (by kernel_rfl) (by kernel_rfl) (by kernel_rfl) (by kernel_rfl) (by kernel_rfl) hx) ?_
  obtain ⟨x14,hx,h⟩:=bind_some h
  refine DA.tD 15 (some 40) (Value.int .i64 x14) (Abs.det_load (t:=3) (x:=.tmp 39) (a:=p13) (by kernel_rfl) (by kernel_rfl) (by kernel_rfl) (by kernel_rfl) (z0 hx zd)) (DA.tP 16 (some 10) (Value.int .i64 x11) (DA.tP 17 (some 11) (Value.int .i64 x14) (DA.dn (WS.nxt (WS.sq (WS.sq (WS.rg (RS.mS 3 [kB 43 (decide (x11=x14)),kI 42 x14,kI 41 x11] (RS.dn ?_)))))))))
  refine WS.nxt ?_
  rcases z9 h with ⟨hp,h⟩ | ⟨hp,h⟩
  ·refine WS.fx 43 true (decide_eq_true hp) (WS.cT (WS.ex 1 ?_))
   cases h
   exact fun a w hs=>sqE (bkE (lsN rfl (hs.sb 1)))
  ·refine WS.fx 43 false (decide_eq_false hp) (WS.cF (WS.sk (WS.nxt ?_)))
   obtain ⟨⟨v10_15,v11_16,w1_17,w1_18,w1_19,w1_20,w1_21,w1_22,w1_23⟩,hx,h⟩:=bind_some h
   try dsimp only at h
   refine WS.sq ?_
   refine WS.join ([kI 10 v10_15,kI 11 v11_16,kP 0 q8,kS 8 s7,kL 9 1 0]) ([some (109,[(Value.int .i64 a3_0),(Value.int .i64 a3_1),(Value.int .i64 a3_2),(Value.int .i64 a3_3),(Value.bool a3_4)]),some (122,[(Value.int .i64 w1_17),(Value.int .i64 w1_18),(Value.int .i64 w1_19),(Value.int .i64 w1_20),(Value.int .i64 w1_21),(Value.int .i64 w1_22),(Value.bool w1_23)])]) H3 ?_ (fun a w hs=>WS.nxt ?_ a w hs)
   ·clear h; rename _=>h
    refine WS.sq ?_
    refine WS.dr [0,1,2,3,4,5,6,7,8,9,11,12,13,14,15,16,17,18,19,20] [0,1,3,7,0,31,63,127,255,511,1023,0,2048,6144,14336,0,63488,129024,260096,522240,1046528,2095104,4194303] 23 (fun hcl=>?_)
    refine DA.tK 0 (some 44) (Value.pointer (some q8)) (DA.tK 1 (some 45) (Value.pointer (some q8)) (DA.tK 2 (some 46) (Value.pointer (some (Addr.add q8 5))) ?_))
    obtain ⟨x24,hx,h⟩:=bind_some h
    refine DA.tD 3 (some 47) (Sl3.v x24) (Abs.det_load (t:=60) (x:=.tmp 46) (a:=(Addr.add q8 5)) (by kernel_rfl) (by kernel_rfl) (by kernel_rfl) (by kernel_rfl) (z0 hx zb)) (DA.tK 4 (some 48) (Value.int .i64 x11) ?_)
    obtain ⟨p25,hx,h⟩:=bind_some h
    refine DA.tD 5 (some 49) (Value.pointer (some p25)) (Abs.det_idx (s:=x24) (k:=.i64) (t:=60) (e:=79) (x:=.tmp 47) (y:=.tmp 48) (by kernel_rfl) (by kernel_rfl) (by kernel_rfl) (by kernel_rfl) (by kernel_rfl) hx) ?_
    obtain ⟨x26,hx,h⟩:=bind_some h
    refine DA.tD 6 (some 50) (Value.pointer x26) (Abs.det_load (t:=79) (x:=.tmp 49) (a:=p25) (by kernel_rfl) (by kernel_rfl) (by kernel_rfl) (by kernel_rfl) (z0 hx z3h)) ?_
    obtain ⟨q27,hx,hq27⟩:=bind_some h
    subst hx
    have h:=hq27
    refine DA.tK 7 (some 51) (Value.pointer (some q27)) (DA.tK 8 (some 52) (Value.pointer (some (Addr.add q27 1))) ?_)
    obtain ⟨x28,hx,h⟩:=bind_some h
    refine DA.tD 9 (some 53) (Sl3.v x28) (Abs.det_load (t:=27) (x:=.tmp 52) (a:=(Addr.add q27 1)) (by kernel_rfl) (by kernel_rfl) (by kernel_rfl) (by kernel_rfl) (z0 hx zb)) (DA.tK 11 (some 55) (Value.pointer (some q8)) (DA.tK 12 (some 56) (Value.pointer (some q8)) (DA.tK 13 (some 57) (Value.pointer (some (Addr.add q8 5))) ?_)))
    obtain ⟨x29,hx,h⟩:=bind_some h
    refine DA.tD 14 (some 58) (Sl3.v x29) (Abs.det_load (t:=60) (x:=.tmp 57) (a:=(Addr.add q8 5)) (by kernel_rfl) (by kernel_rfl) (by kernel_rfl) (by kernel_rfl) (z0 hx zb)) (DA.tK 15 (some 59) (Value.int .i64 x14) ?_)
    obtain ⟨p30,hx,h⟩:=bind_some h
    refine DA.tD 16 (some 60) (Value.pointer (some p30)) (Abs.det_idx (s:=x29) (k:=.i64) (t:=60) (e:=79) (x:=.tmp 58) (y:=.tmp 59) (by kernel_rfl) (by kernel_rfl) (by kernel_rfl) (by kernel_rfl) (by kernel_rfl) hx) ?_
    obtain ⟨x31,hx,h⟩:=bind_some h
    refine DA.tD 17 (some 61) (Value.pointer x31) (Abs.det_load (t:=79) (x:=.tmp 60) (a:=p30) (by kernel_rfl) (by kernel_rfl) (by kernel_rfl) (by kernel_rfl) (z0 hx z3h)) ?_
    obtain ⟨q32,hx,hq32⟩:=bind_some h
    subst hx
    have h:=hq32
    refine DA.tK 18 (some 62) (Value.pointer (some q32)) (DA.tK 19 (some 63) (Value.pointer (some (Addr.add q32 1))) ?_)
    obtain ⟨x33,hx,h⟩:=bind_some h
    refine DA.tD 20 (some 64) (Sl3.v x33) (Abs.det_load (t:=27) (x:=.tmp 63) (a:=(Addr.add q32 1)) (by kernel_rfl) (by kernel_rfl) (by kernel_rfl) (by kernel_rfl) (z0 hx zb)) (DA.restart [0,1,2,3,4,5,6,7,8,9,10,11,12,13,14,15,16,17,18,19,20,21] (by kernel_rfl) (DA.tK 10 (some 54) (Value.int .i64 (x28.n:Int)) (DA.tK 21 (some 65) (Value.int .i64 (x33.n:Int)) (DA.tP 22 (some 66) (Value.bool (decide ((x28.n:Int) > (x33.n:Int)))) (DA.dn (WS.nxt ?_))))))
    rcases z9 h with ⟨hp,h⟩ | ⟨hp,h⟩
    ·refine WS.fx 66 true (decide_eq_true hp) (WS.cT (WS.sq (WS.rg (RS.mS 4 [kI 11 x11,kI 10 x14,kI 68 x11,kI 67 x14] (RS.dn (WS.nxt (WS.rg (RS.mL 8 [kL 74 1 1,kL 73 1 0,kI 72 x6_0,kL 71 1 0,kI 70 x6_1,kL 69 1 1] ([some (109,[(Value.int .i64 a3_0),(Value.int .i64 a3_1),(Value.int .i64 a3_2),(Value.int .i64 a3_3),(Value.bool a3_4)]),some (122,[(Value.int .i64 x6_1),(Value.int .i64 x6_0),(Value.int .i64 x6_2),(Value.int .i64 x6_3),(Value.int .i64 x6_4),(Value.int .i64 x6_5),(Value.bool x6_6)])]) (RS.dn ?_)))))))))
     cases h
     exact fun a w hs=>(jsN (hs.sb 2))
    ·refine WS.fx 66 false (decide_eq_false hp) (WS.cF (WS.sk ?_))
     cases h
     exact fun a w hs=>(jsN (hs.sb 2))
   ·clear hx
    refine WS.sq (WS.rg (RS.mS 3 [kI 77 w1_17,kL 76 1 0,kP 75 q8] ?_))
    obtain ⟨H34,hx,h⟩:=bind_some h
    refine RS.cl (some 78) (v:=(Value.tuple #[])) 72 #[(Value.pointer (some q8)),(Value.int .i64 w1_17)] (z8j hx) (RS.dn (WS.nxt (WS.sq (WS.rg (RS.mL 5 [kL 82 1 2,kL 81 1 2,kI 80 w1_18,kL 79 1 1] ([some (109,[(Value.int .i64 a3_0),(Value.int .i64 a3_1),(Value.int .i64 a3_2),(Value.int .i64 a3_3),(Value.bool a3_4)]),some (122,[(Value.int .i64 w1_17),(Value.int .i64 w1_18),(Value.int .i64 w1_18),(Value.int .i64 w1_20),(Value.int .i64 w1_21),(Value.int .i64 w1_22),(Value.bool w1_23)])]) (RS.dn (WS.nxt (WS.sq ?_))))))))
    refine WS.dr [0,1,2,3,4,5,6,7] [0,1,3,7,0,16,0,64,255,511] 10 (fun hcl=>?_)
    refine DA.tK 0 (some 83) (Value.pointer (some q8)) (DA.tK 1 (some 84) (Value.pointer (some q8)) (DA.tK 2 (some 85) (Value.pointer (some (Addr.add q8 6))) ?_))
    obtain ⟨x35,hx,h⟩:=bind_some h
    refine DA.tD 3 (some 86) (Sl3.v x35) (Abs.det_load (t:=61) (x:=.tmp 85) (a:=(Addr.add q8 6)) (by kernel_rfl) (by kernel_rfl) (by kernel_rfl) (by kernel_rfl) (z0 hx zb)) (DA.tL 4 (some 87) (.loc 1 0) (DA.tL 5 (some 88) (.val (Value.int .i64 w1_17)) (DA.tL 6 (some 89) (.loc 1 2) (DA.tL 7 (some 90) (.val (Value.agg #[(Value.int .i64 w1_18),(Value.int .i64 w1_20),(Value.int .i64 w1_21),(Value.int .i64 w1_22),(Value.bool w1_23)])) ?_))))
    obtain ⟨p36,hx,h⟩:=bind_some h
    refine DA.tPx 8 (some 91) (Value.pointer (some p36)) (Abs.det_idx (s:=x35) (k:=.i64) (t:=61) (e:=109) (x:=.tmp 86) (y:=.tmp 88) (by kernel_rfl) (by kernel_rfl) (by kernel_rfl) (by kernel_rfl) (by kernel_rfl) hx) ?_
    obtain ⟨H37,hx,h⟩:=bind_some h
    refine DA.on 9 (DA.aH (H':=H37) 9 none undef (Abs.run_storeA (t:=109) (x:=.tmp 91) (y:=.tmp 90) (a:=p36) (v:=(Value.agg #[(Value.int .i64 w1_18),(Value.int .i64 w1_20),(Value.int .i64 w1_21),(Value.int .i64 w1_22),(Value.bool w1_23)])) (by kernel_rfl) (by kernel_rfl) (by kernel_rfl) (by kernel_rfl) (by kernel_rfl) hx) (DA.dn (WS.nxt (WS.rg (RS.mS 4 [kI 95 v11_16,kI 94 v10_15,kP 93 q8,kS 92 s7] ?_)))))
    obtain ⟨⟨x38,H39⟩,hx,h⟩:=bind_some h
    try dsimp only at h
    refine RS.cl (some 96) (v:=(Sl3.v x38)) 73 #[(Value.pointer (some q8)),(Value.int .i64 v10_15),(Value.int .i64 v11_16)] (z9y hx) ?_
    obtain ⟨⟨s40,H41⟩,hx,h⟩:=bind_some h
    try dsimp only at h
    refine RS.o (H':=H41) (some 97) (Sl3.v s40) (Abs.run_app (x:=.tmp 92) (y:=.tmp 96) (ts:=#[123,123]) (s:=s7) (z:=x38) (by kernel_rfl) (by kernel_rfl) (by kernel_rfl) (by kernel_rfl) hx) (RS.mS 1 [kS 8 s40] (RS.dn ?_))
    cases h
    exact fun a w hs=>bkN (lsN rfl (hs.sb 1))
 ·refine WS.fx 19 false (decide_eq_false hp) (WS.cF (WS.ex 0 ?_))
  cases h
  exact fun a w hs=>sqE (lsB rfl (hs.sb 1))
theorem z5w {L:LC} {m:Nat} {H:AH} {a0:Option Addr} {a1 a2:Int} {a3_0 a3_1:Int} {a3_2 a3_3:Int} {a3_4:Bool} {r:AH} (h:z19 L m H a0 a1 a2 a3_0 a3_1 a3_2 a3_3 a3_4=some r) :
  CallS Tryd.prog (NE.plain 1000) m 58 #[(Value.pointer a0),(Value.int .i64 a1),(Value.int .i64 a2),(Value.agg #[(Value.int .i64 a3_0),(Value.int .i64 a3_1),(Value.int .i64 a3_2),(Value.int .i64 a3_3),(Value.bool a3_4)])] H (z57 r) (z5o H r):=by
 refine CallS.mk (args:=[(Value.pointer a0),(Value.int .i64 a1),(Value.int .i64 a2),(Value.agg #[(Value.int .i64 a3_0),(Value.int .i64 a3_1),(Value.int .i64 a3_2),(Value.int .i64 a3_3),(Value.bool a3_4)])]) Tryd.func58 (B:=B58) (by kernel_rfl) (fun E _=>?_)
 unfold z19 at h
 refine WS.sq (WS.rg (RS.mL 1 [kL 7 0 0] ([some (109,[(Value.int .i64 a3_0),(Value.int .i64 a3_1),(Value.int .i64 a3_2),(Value.int .i64 a3_3),(Value.bool a3_4)])]) (RS.dn (WS.nxt (WS.sq (WS.rg (RS.mS 4 [kA 15 #[(Value.int .i64 a1),(Value.int .i64 a2),(Value.int .i64 a3_0),(Value.int .i64 a3_1),(Value.int .i64 a3_2),(Value.int .i64 a3_3),(Value.bool a3_4)],kA 14 #[(Value.int .i64 a3_0),(Value.int .i64 a3_1),(Value.int .i64 a3_2),(Value.int .i64 a3_3),(Value.bool a3_4)],kI 13 a2,kI 12 a1] ?_)))))))
 obtain ⟨⟨s1,H2⟩,hx,h⟩:=bind_some h
 try dsimp only at h
 refine RS.o (H':=H2) (some 16) (Sl3.v s1) (Abs.run_newR (by kernel_rfl) (by kernel_rfl) hx) (RS.mS 1 [kS 8 s1] (RS.dn (WS.nxt (WS.bk 0 ?_))))
 obtain ⟨o,hl,h⟩:=bind_some h
 rcases o with ⟨H42,v8_43⟩ | r
 ·try dsimp only at h
  refine WS.lI (z4e (L:=L) (E:=E) (m:=m) (H:=H)) (L.ok hl) 1 ?_
  clear hl
  cases h
  exact fun a w hs=>bkE (rtN (rS hs))
 ·try dsimp only at h
  refine WS.lR (z4e (L:=L) (E:=E) (m:=m) (H:=H)) (L.ok hl) 1 ?_
  cases h
  exact fun a w hq=>bkR (rtR hq)
end Go.Proofs.YtgkhbmoidenjaaaDoor
namespace Go.Proofs.YtgkhbmoidenjaaaDoor
open Go Go.Abs
set_option maxRecDepth 100000
def z55:AH→Value
 | _=>(Value.tuple #[])
def z5u (_:AH):AH→AH:=fun r=>r
noncomputable def B57:Code:=(Tryd.f57.body).getD .skip
noncomputable def z1e (L:LC) (m:Nat) (a1:Int) (q13:Addr) (x35:Sl3):(AH×Int)→Option (Lp (AH×Int) AH):=fun (H36,v71_37) =>
 if v71_37<(x35.n:Int) then
  Option.bind (idxA 1 x35 v71_37) fun p38 =>
  Option.bind (rd (deI .i64) H36 p38) fun x39 =>
  Option.bind (rd deSl H36 (Addr.add q13 5)) fun x40 =>
  Option.bind (rd deSl H36 (Addr.add q13 4)) fun x41 =>
  Option.bind (idxA 1 x41 x39) fun p42 =>
  Option.bind (rd (deI .i64) H36 p42) fun x43 =>
  Option.bind (idxA 1 x40 x43) fun p44 =>
  Option.bind (rd deP H36 p44) fun x45 =>
  Option.bind x45 fun q46 =>
  Option.bind (newR 3 1 #[(Value.int .i64 a1)] H36) fun (s47,H48) =>
  Option.bind (z2l L m H48 (some (Addr.add q46 0)) s47) fun H49 =>
  some (.next (H49,(IntKind.i64.wrap (v71_37+1))))
 else
  some (.brk (H36,v71_37))
def z7y (_L:LC) (_m:Nat) (a1:Int) (q13:Addr) (x35:Sl3):(AH×Int)→KN×Lcs:=fun (_,v71_37)=>([kI 71 v71_37,kP 0 q13,kI 1 a1,kS 69 x35,kI 70 (x35.n:Int)],[])
noncomputable def z1w (L:LC) (m:Nat) (H:AH) (a0:Option Addr) (a1:Int):Option AH :=
 Option.bind (newR 3 1 #[(Value.int .i64 a1)] H) fun (s1,H2) =>
 Option.bind (newB 78 [(Sl3.v Sl3.nil),(Sl3.v s1),(Sl3.v Sl3.nil),(Value.int .i64 a1)] H2) fun (p3,H4) =>
 Option.bind (α:=AH) (
  Option.bind a0 fun q6 =>
  Option.bind (rd deSl H4 (Addr.add q6 0)) fun x7 =>
  Option.bind (idxA 3 x7 a1) fun p8 =>
  Option.bind (rd deB H4 (Addr.add p8 2)) fun x9 =>
  if x9=true then
   Option.bind (newR 3 1 #[(Value.int .i64 a1)] H4) fun (s10,H11) =>
   Option.bind (H11.setCell m (Addr.add p3 2) (Sl3.v s10)) fun H12 =>
   some H12
  else
   some H4) fun H5 =>
 Option.bind a0 fun q13 =>
 Option.bind (rd deSl H5 (Addr.add q13 4)) fun x14 =>
 Option.bind (rd deSl H5 (Addr.add q13 5)) fun x15 =>
 Option.bind (newR 3 1 #[(Value.int .i64 (x15.n:Int))] H5) fun (s16,H17) =>
 Option.bind (appS m 3 1 8 H17 x14 s16) fun (s18,H19) =>
 Option.bind (H19.setCell m (Addr.add q13 4) (Sl3.v s18)) fun H20 =>
 Option.bind (rd deSl H20 (Addr.add q13 5)) fun x21 =>
 Option.bind (newR 79 1 #[(Value.pointer (some p3))] H20) fun (s22,H23) =>
 Option.bind (appS m 79 1 8 H23 x21 s22) fun (s24,H25) =>
 Option.bind (H25.setCell m (Addr.add q13 5) (Sl3.v s24)) fun H26 =>
 Option.bind (rd deSl H26 (Addr.add q13 6)) fun x27 =>
 Option.bind (newR 109 1 #[(Value.int .i64 (-1)),(Value.int .i64 0),(Value.int .i64 0),(Value.int .i64 0),(Value.bool false)] H26) fun (s28,H29) =>
 Option.bind (appS m 109 5 40 H29 x27 s28) fun (s30,H31) =>
 Option.bind (H31.setCell m (Addr.add q13 6) (Sl3.v s30)) fun H32 =>
 Option.bind (rd deSl H32 (Addr.add q13 0)) fun x33 =>
 Option.bind (idxA 3 x33 a1) fun p34 =>
 Option.bind (rd deSl H32 (Addr.add p34 1)) fun x35 =>
 Option.bind (L.run (z1e L m a1 q13 x35) (H32,0)) fun o=>match o with
 | .inl (H50,_) =>
  Option.bind (zh L m H50 (some q13) a1) fun (x52,H53) =>
  Option.bind (rd deM H53 (Addr.add q13 7)) fun x54 =>
  Option.bind (lkM Tryd.prog 58 (deI .i64) H53 x54 (Value.string x52)) fun (x55,b56) =>
  if b56=true then
   Option.bind (z19 L m H53 (some q13) a1 x55 0 0 a1 x55 true) fun H57 =>
   some H57
  else
   Option.bind (rd deM H53 (Addr.add q13 7)) fun x58 =>
   Option.bind (upM Tryd.prog m 58 H53 x58 (Value.string x52) (Value.int .i64 a1)) fun H59 =>
   some H59
 | .inr r=>some r
theorem z4i {E H L m a1 q13 x35} :LoopF Tryd.prog (NE.plain 1000) m E Tryd.f57 ((cfst (csnd (cfst (csnd (csnd (csnd (csnd (csnd B57))))))))) (z7y L m a1 q13 x35) (fun s=>s.1) 0 z55 (z5u H) (z1e L m a1 q13 x35):=by
 rintro ⟨H36,v71_37⟩ o h
 unfold z1e at h
 try dsimp only at h
 refine WS.sq (WS.rg (RS.mS 1 [kB 72 (decide (v71_37<(x35.n:Int)))] (RS.dn (WS.nxt (WS.sq ?_)))))
 rcases z9 h with ⟨hp,h⟩ | ⟨hp,h⟩
 ·refine WS.fx 72 true (decide_eq_true hp) (WS.cT (WS.sk (WS.nxt (WS.sq (WS.bk 1 (WS.sq (WS.rg ?_)))))))
  obtain ⟨p38,hx,h⟩:=bind_some h
  refine RS.ix 73 27 3 (.tmp 69) (.tmp 71) hx ?_
  obtain ⟨x39,hx,h⟩:=bind_some h
  refine RS.ld 74 3 (.tmp 73) (z0 hx zd) (RS.mS 1 [kI 6 x39] (RS.dn (WS.nxt ?_)))
  refine WS.dr [0,1,2,3,4,5,6,7,8,9,10,11,12] [0,1,3,7,0,16,48,112,0,496,1008,2047,4095,8191,16383,0,32768,131071] 18 (fun hcl=>?_)
  refine DA.tK 0 (some 75) (Value.pointer (some q13)) (DA.tK 1 (some 76) (Value.pointer (some q13)) (DA.tK 2 (some 77) (Value.pointer (some (Addr.add q13 5))) ?_))
  obtain ⟨x40,hx,h⟩:=bind_some h
  refine DA.tD 3 (some 78) (Sl3.v x40) (Abs.det_load (t:=60) (x:=.tmp 77) (a:=(Addr.add q13 5)) (by kernel_rfl) (by kernel_rfl) (by kernel_rfl) (by kernel_rfl) (z0 hx zb)) (DA.tK 4 (some 79) (Value.pointer (some q13)) (DA.tK 5 (some 80) (Value.pointer (some q13)) (DA.tK 6 (some 81) (Value.pointer (some (Addr.add q13 4))) ?_)))
  obtain ⟨x41,hx,h⟩:=bind_some h
  refine DA.tD 7 (some 82) (Sl3.v x41) (Abs.det_load (t:=27) (x:=.tmp 81) (a:=(Addr.add q13 4)) (by kernel_rfl) (by kernel_rfl) (by kernel_rfl) (by kernel_rfl) (z0 hx zb)) (DA.tK 8 (some 83) (Value.int .i64 x39) ?_)
  obtain ⟨p42,hx,h⟩:=bind_some h
  refine DA.tD 9 (some 84) (Value.pointer (some p42)) (Abs.det_idx (s:=x41) (k:=.i64) (t:=27) (e:=3) (x:=.tmp 82) (y:=.tmp 83) (by kernel_rfl) (by kernel_rfl) (by kernel_rfl) (by kernel_rfl) (by kernel_rfl) hx) ?_
  obtain ⟨x43,hx,h⟩:=bind_some h
  refine DA.tD 10 (some 85) (Value.int .i64 x43) (Abs.det_load (t:=3) (x:=.tmp 84) (a:=p42) (by kernel_rfl) (by kernel_rfl) (by kernel_rfl) (by kernel_rfl) (z0 hx zd)) ?_
  obtain ⟨p44,hx,h⟩:=bind_some h
  refine DA.tD 11 (some 86) (Value.pointer (some p44)) (Abs.det_idx (s:=x40) (k:=.i64) (t:=60) (e:=79) (x:=.tmp 78) (y:=.tmp 85) (by kernel_rfl) (by kernel_rfl) (by kernel_rfl) (by kernel_rfl) (by kernel_rfl) hx) ?_
  obtain ⟨x45,hx,h⟩:=bind_some h
  refine DA.tD 12 (some 87) (Value.pointer x45) (Abs.det_load (t:=79) (x:=.tmp 86) (a:=p44) (by kernel_rfl) (by kernel_rfl) (by kernel_rfl) (by kernel_rfl) (z0 hx z3h)) ?_
  obtain ⟨q46,hx,hq46⟩:=bind_some h
  subst hx
  have h:=hq46
  refine DA.tP 13 (some 88) (Value.pointer (some q46)) (DA.tP 14 (some 89) (Value.pointer (some (Addr.add q46 0))) (DA.tP 15 (some 90) (Value.int .i64 a1) ?_))
  obtain ⟨⟨s47,H48⟩,hx,h⟩:=bind_some h
  try dsimp only at h
  refine DA.on 16 (DA.aHj (H':=H48) 16 (some 91) false (Sl3.v s47) (Abs.run_newR (by kernel_rfl) (by kernel_rfl) hx) ?_)
  obtain ⟨H49,hx,h⟩:=bind_some h
  refine DA.on 17 (DA.aC 17 (some 92) (v:=(Value.tuple #[])) 70 #[(Value.pointer (some (Addr.add q46 0))),(Sl3.v s47)] (z6t hx) (DA.dn ?_))
  refine fun a w hs=>bkN ((WS.nxt ?_ a w hs))
  refine WS.rg (RS.mS 2 [kI 71 (IntKind.i64.wrap (v71_37+1)),kI 93 (IntKind.i64.wrap (v71_37+1))] (RS.dn ?_))
  cases h
  exact fun a w hs=>lsN rfl (hs.sb 0)
 ·refine WS.fx 72 false (decide_eq_false hp) (WS.cF (WS.ex 0 ?_))
  cases h
  exact fun a w hs=>sqE (lsB rfl (hs.sb 0))
theorem z9i {L:LC} {m:Nat} {H:AH} {a0:Option Addr} {a1:Int} {r:AH} (h:z1w L m H a0 a1=some r) :
  CallS Tryd.prog (NE.plain 1000) m 57 #[(Value.pointer a0),(Value.int .i64 a1)] H (z55 r) (z5u H r):=by
 refine CallS.mk (args:=[(Value.pointer a0),(Value.int .i64 a1)]) Tryd.func57 (B:=B57) (by kernel_rfl) (fun E _=>?_)
 unfold z1w at h
 refine WS.sq (WS.rg (RS.mS 1 [kI 10 a1] ?_))
 obtain ⟨⟨s1,H2⟩,hx,h⟩:=bind_some h
 try dsimp only at h
 refine RS.o (H':=H2) (some 11) (Sl3.v s1) (Abs.run_newR (by kernel_rfl) (by kernel_rfl) hx) (RS.mS 2 [kA 13 #[(Sl3.v Sl3.nil),(Sl3.v s1),(Sl3.v Sl3.nil),(Value.int .i64 a1)],kI 12 a1] ?_)
 obtain ⟨⟨p3,H4⟩,hx,h⟩:=bind_some h
 try dsimp only at h
 refine RS.o (H':=H4) (some 14) (Value.pointer (some p3)) (Abs.run_newB (by kernel_rfl) hx) (RS.mS 1 [kP 4 p3] (RS.dn (WS.nxt ?_)))
 obtain ⟨H5,hx,h⟩:=bind_some h
 refine WS.sq ?_
 refine WS.join ([(0,.val (Value.pointer a0)),kI 1 a1,kP 4 p3]) ([]) H5 ?_ (fun a w hs=>WS.nxt ?_ a w hs)
 ·clear h; rename _=>h
  refine WS.sq (WS.rg (RS.mS 1 [(15,.val (Value.pointer a0))] ?_))
  obtain ⟨q6,hx,hq6⟩:=bind_some h
  subst hx
  have h:=hq6
  refine RS.mS 2 [(17,.val (Value.pointer (some (Addr.add q6 0)))),kP 16 q6] ?_
  obtain ⟨x7,hx,h⟩:=bind_some h
  refine RS.ld 18 57 (.tmp 17) (z0 hx zb) (RS.mS 1 [kI 19 a1] ?_)
  obtain ⟨p8,hx,h⟩:=bind_some h
  refine RS.ix 20 57 86 (.tmp 18) (.tmp 19) hx (RS.mS 1 [(21,.val (Value.pointer (some (Addr.add p8 2))))] ?_)
  obtain ⟨x9,hx,h⟩:=bind_some h
  refine RS.ld 22 4 (.tmp 21) (z0 hx z4o) (RS.dn (WS.nxt ?_))
  rcases z9 h with ⟨hp,h⟩ | ⟨hp,h⟩
  ·refine WS.fx 22 true hp (WS.cT (WS.rg (RS.mS 2 [kI 24 a1,kP 23 p3] ?_)))
   obtain ⟨⟨s10,H11⟩,hx,h⟩:=bind_some h
   try dsimp only at h
   refine RS.o (H':=H11) (some 25) (Sl3.v s10) (Abs.run_newR (by kernel_rfl) (by kernel_rfl) hx) (RS.mS 2 [(27,.val (Value.pointer (some (Addr.add p3 2)))),kP 26 p3] ?_)
   obtain ⟨H12,hx,h⟩:=bind_some h
   refine RS.o (H':=H12) none undef (Abs.run_store1 (t:=27) (x:=.tmp 27) (y:=.tmp 25) (a:=(Addr.add p3 2)) (v:=(Sl3.v s10)) (by kernel_rfl) (by kernel_rfl) (by kernel_rfl) (by kernel_rfl) (by kernel_rfl) hx) (RS.dn ?_)
   cases h
   exact fun a w hs=>(jsN (hs.sb 0))
  ·refine WS.fx 22 false (b_not hp) (WS.cF (WS.sk ?_))
   cases h
   exact fun a w hs=>(jsN (hs.sb 0))
 ·clear hx
  refine WS.sq ?_
  refine WS.dr [1,2,3,4,5,6,7,8] [0,0,2,6,14,0,32,96,224,480,992,2046,4095,8191,16383] 15 (fun hcl=>?_)
  refine DA.tK 1 (some 29) (Value.pointer a0) ?_
  obtain ⟨q13,hx,hq13⟩:=bind_some h
  subst hx
  have h:=hq13
  refine DA.tK 2 (some 30) (Value.pointer (some q13)) (DA.tK 3 (some 31) (Value.pointer (some (Addr.add q13 4))) ?_)
  obtain ⟨x14,hx,h⟩:=bind_some h
  refine DA.tD 4 (some 32) (Sl3.v x14) (Abs.det_load (t:=27) (x:=.tmp 31) (a:=(Addr.add q13 4)) (by kernel_rfl) (by kernel_rfl) (by kernel_rfl) (by kernel_rfl) (z0 hx zb)) (DA.tK 5 (some 33) (Value.pointer (some q13)) (DA.tK 6 (some 34) (Value.pointer (some q13)) (DA.tK 7 (some 35) (Value.pointer (some (Addr.add q13 5))) ?_)))
  obtain ⟨x15,hx,h⟩:=bind_some h
  refine DA.tD 8 (some 36) (Sl3.v x15) (Abs.det_load (t:=60) (x:=.tmp 35) (a:=(Addr.add q13 5)) (by kernel_rfl) (by kernel_rfl) (by kernel_rfl) (by kernel_rfl) (z0 hx zb)) (DA.tP 0 (some 28) (Value.pointer (some q13)) (DA.on 9 (DA.aHj (H':=H5) 9 (some 37) true (Value.int .i64 (x15.n:Int)) (by kernel_rfl) ?_)))
  obtain ⟨⟨s16,H17⟩,hx,h⟩:=bind_some h
  try dsimp only at h
  refine DA.on 10 (DA.aHj (H':=H17) 10 (some 38) false (Sl3.v s16) (Abs.run_newR (by kernel_rfl) (by kernel_rfl) hx) ?_)
  obtain ⟨⟨s18,H19⟩,hx,h⟩:=bind_some h
  try dsimp only at h
  refine DA.on 11 (DA.aH (H':=H19) 11 (some 39) (Sl3.v s18) (Abs.run_app (x:=.tmp 32) (y:=.tmp 38) (ts:=#[27,27]) (s:=x14) (z:=s16) (by kernel_rfl) (by kernel_rfl) (by kernel_rfl) (by kernel_rfl) hx) (DA.tP 12 (some 40) (Value.pointer (some q13)) (DA.tP 13 (some 41) (Value.pointer (some (Addr.add q13 4))) ?_)))
  obtain ⟨H20,hx,h⟩:=bind_some h
  refine DA.on 14 (DA.aH (H':=H20) 14 none undef (Abs.run_store1 (t:=27) (x:=.tmp 41) (y:=.tmp 39) (a:=(Addr.add q13 4)) (v:=(Sl3.v s18)) (by kernel_rfl) (by kernel_rfl) (by kernel_rfl) (by kernel_rfl) (by kernel_rfl) hx) (DA.dn (WS.nxt (WS.sq (WS.rg (RS.mS 4 [(45,.val (Value.pointer (some (Addr.add q13 5)))),kP 44 q13,kP 43 q13,kP 42 q13] ?_))))))
  obtain ⟨x21,hx,h⟩:=bind_some h
  refine RS.ld 46 60 (.tmp 45) (z0 hx zb) (RS.mS 1 [kP 47 p3] ?_)
  obtain ⟨⟨s22,H23⟩,hx,h⟩:=bind_some h
  try dsimp only at h
  refine RS.o (H':=H23) (some 48) (Sl3.v s22) (Abs.run_newR (by kernel_rfl) (by kernel_rfl) hx) ?_
  obtain ⟨⟨s24,H25⟩,hx,h⟩:=bind_some h
  try dsimp only at h
  refine RS.o (H':=H25) (some 49) (Sl3.v s24) (Abs.run_app (x:=.tmp 46) (y:=.tmp 48) (ts:=#[60,60]) (s:=x21) (z:=s22) (by kernel_rfl) (by kernel_rfl) (by kernel_rfl) (by kernel_rfl) hx) (RS.mS 2 [(51,.val (Value.pointer (some (Addr.add q13 5)))),kP 50 q13] ?_)
  obtain ⟨H26,hx,h⟩:=bind_some h
  refine RS.o (H':=H26) none undef (Abs.run_store1 (t:=60) (x:=.tmp 51) (y:=.tmp 49) (a:=(Addr.add q13 5)) (v:=(Sl3.v s24)) (by kernel_rfl) (by kernel_rfl) (by kernel_rfl) (by kernel_rfl) (by kernel_rfl) hx) (RS.dn (WS.nxt (WS.sq (WS.rg (RS.mS 4 [(55,.val (Value.pointer (some (Addr.add q13 6)))),kP 54 q13,kP 53 q13,kP 52 q13] ?_)))))
  obtain ⟨x27,hx,h⟩:=bind_some h
  refine RS.ld 56 61 (.tmp 55) (z0 hx zb) (RS.mS 1 [kA 57 #[(Value.int .i64 (-1)),(Value.int .i64 0),(Value.int .i64 0),(Value.int .i64 0),(Value.bool false)]] ?_)
  obtain ⟨⟨s28,H29⟩,hx,h⟩:=bind_some h
  try dsimp only at h
  refine RS.o (H':=H29) (some 58) (Sl3.v s28) (Abs.run_newR (by kernel_rfl) (by kernel_rfl) hx) ?_
  obtain ⟨⟨s30,H31⟩,hx,h⟩:=bind_some h
  try dsimp only at h
  refine RS.o (H':=H31) (some 59) (Sl3.v s30) (Abs.run_app (x:=.tmp 56) (y:=.tmp 58) (ts:=#[61,61]) (s:=x27) (z:=s28) (by kernel_rfl) (by kernel_rfl) (by kernel_rfl) (by kernel_rfl) hx) (RS.mS 2 [(61,.val (Value.pointer (some (Addr.add q13 6)))),kP 60 q13] ?_)
  obtain ⟨H32,hx,h⟩:=bind_some h
  refine RS.o (H':=H32) none undef (Abs.run_store1 (t:=61) (x:=.tmp 61) (y:=.tmp 59) (a:=(Addr.add q13 6)) (v:=(Sl3.v s30)) (by kernel_rfl) (by kernel_rfl) (by kernel_rfl) (by kernel_rfl) (by kernel_rfl) hx) (RS.dn (WS.nxt (WS.sq (WS.sq (WS.rg (RS.mS 3 [(64,.val (Value.pointer (some (Addr.add q13 0)))),kP 63 q13,kP 62 q13] ?_))))))
  obtain ⟨x33,hx,h⟩:=bind_some h
  refine RS.ld 65 57 (.tmp 64) (z0 hx zb) (RS.mS 1 [kI 66 a1] ?_)
  obtain ⟨p34,hx,h⟩:=bind_some h
  refine RS.ix 67 57 86 (.tmp 65) (.tmp 66) hx (RS.mS 1 [(68,.val (Value.pointer (some (Addr.add p34 1))))] ?_)
  obtain ⟨x35,hx,h⟩:=bind_some h
  refine RS.ld 69 27 (.tmp 68) (z0 hx zb) (RS.mS 2 [kI 71 0,kI 70 (x35.n:Int)] (RS.dn (WS.nxt (WS.bk 0 ?_))))
  obtain ⟨o,hl,h⟩:=bind_some h
  rcases o with ⟨H50,v71_51⟩ | r
  ·try dsimp only at h
   refine WS.lI (z4i (L:=L) (E:=E) (m:=m) (H:=H)) (L.ok hl) 0 ?_
   clear hl
   refine fun a w hs=>bkE ((WS.nxt ?_ a w hs))
   refine WS.sq (WS.rg (RS.mS 2 [kI 95 a1,kP 94 q13] ?_))
   obtain ⟨⟨x52,H53⟩,hx,h⟩:=bind_some h
   try dsimp only at h
   refine RS.cl (some 96) (v:=(Value.string x52)) 71 #[(Value.pointer (some q13)),(Value.int .i64 a1)] (z2i hx) (RS.mS 1 [kT 7 x52] (RS.dn (WS.nxt (WS.sq (WS.sq (WS.rg (RS.mS 3 [(100,.val (Value.pointer (some (Addr.add q13 7)))),kP 99 q13,kP 98 q13] ?_)))))))
   obtain ⟨x54,hx,h⟩:=bind_some h
   refine RS.ld 101 58 (.tmp 100) (z0 hx z4m) (RS.mS 1 [kT 102 x52] ?_)
   obtain ⟨⟨x55,b56⟩,hx,h⟩:=bind_some h
   try dsimp only at h
   refine RS.o (H':=H53) (some 103) (Value.tuple #[(Value.int .i64 x55),(Value.bool b56)]) (Abs.run_look (t:=58) (x:=.tmp 101) (y:=.tmp 102) (mm:=x54) (k:=(Value.string x52)) (by kernel_rfl) (by kernel_rfl) (by kernel_rfl) (by kernel_rfl) (lkM_eq hx zd)) (RS.mS 5 [kB 9 b56,kI 8 x55,kB 105 b56,kI 104 x55,(97,.val (Value.tuple #[(Value.int .i64 x55),(Value.bool b56)]))] (RS.dn (WS.nxt (WS.sq (WS.rg (RS.mS 1 [kB 106 b56] (RS.dn (WS.nxt ?_))))))))
   rcases z9 h with ⟨hp,h⟩ | ⟨hp,h⟩
   ·refine WS.fx 106 true hp (WS.cT (WS.sq (WS.rg (RS.mS 6 [kA 112 #[(Value.int .i64 0),(Value.int .i64 0),(Value.int .i64 a1),(Value.int .i64 x55),(Value.bool true)],kI 111 x55,kI 110 a1,kI 109 x55,kI 108 a1,kP 107 q13] ?_))))
    obtain ⟨H57,hx,h⟩:=bind_some h
    refine RS.cl (some 113) (v:=(Value.tuple #[])) 58 #[(Value.pointer (some q13)),(Value.int .i64 a1),(Value.int .i64 x55),(Value.agg #[(Value.int .i64 0),(Value.int .i64 0),(Value.int .i64 a1),(Value.int .i64 x55),(Value.bool true)])] (z5w hx) (RS.dn (WS.nxt (WS.rt ?_)))
    cases h
    exact fun a w hs=>sqR (rtR (rS hs))
   ·refine WS.fx 106 false (b_not hp) (WS.cF (WS.sk (WS.nxt (WS.rg (RS.mS 3 [(116,.val (Value.pointer (some (Addr.add q13 7)))),kP 115 q13,kP 114 q13] ?_)))))
    obtain ⟨x58,hx,h⟩:=bind_some h
    refine RS.ld 117 58 (.tmp 116) (z0 hx z4m) (RS.mS 2 [kI 119 a1,kT 118 x52] ?_)
    obtain ⟨H59,hx,h⟩:=bind_some h
    refine RS.o (H':=H59) none undef (Abs.run_upM (t:=58) (x:=.tmp 117) (y:=.tmp 118) (z:=.tmp 119) (mm:=x58) (k:=(Value.string x52)) (v:=(Value.int .i64 a1)) (by kernel_rfl) (by kernel_rfl) (by kernel_rfl) (by kernel_rfl) (by kernel_rfl) hx) (RS.dn ?_)
    cases h
    exact fun a w hs=>rtN (rS hs)
  ·try dsimp only at h
   refine WS.lR (z4i (L:=L) (E:=E) (m:=m) (H:=H)) (L.ok hl) 0 ?_
   cases h
   exact fun a w hq=>bkR (sqR (rtR hq))
def z9m:(Int×Int×AH)→Value
 | (r0,r1,_)=>(Value.tuple #[(Value.int .i64 r0),(Value.int .i64 r1)])
def zay (_:AH):(Int×Int×AH)→AH:=fun r=>r.2.2
noncomputable def B39:Code:=(Tryd.f39.body).getD .skip
noncomputable def z1c (L:LC) (m:Nat) (H:AH) (a0:Option Addr) (a1_0:Int) (a1_1:Sl3) (a1_2:Bool):Option (Int×Int×AH) :=
 Option.bind (z40 L m H a1_2 a1_0 a1_1) fun (x1,H2) =>
 Option.bind a0 fun q3 =>
 Option.bind (rd deM H2 (Addr.add q3 1)) fun x4 =>
 Option.bind (lkM Tryd.prog 58 (deI .i64) H2 x4 (Value.string x1)) fun (x5,b6) =>
 if b6=true then
  some (x5,0,H2)
 else
  Option.bind (rd deSl H2 (Addr.add q3 0)) fun x7 =>
  if (x7.n:Int)≥1048576 then
   some (0,3,H2)
  else
   Option.bind (rd deSl H2 (Addr.add q3 0)) fun x8 =>
   Option.bind (rd deM H2 (Addr.add q3 1)) fun x9 =>
   Option.bind (upM Tryd.prog m 58 H2 x9 (Value.string x1) (Value.int .i64 (x8.n:Int))) fun H10 =>
   Option.bind (rd deSl H10 (Addr.add q3 0)) fun x11 =>
   Option.bind (newR 86 1 #[(Value.int .i64 a1_0),(Sl3.v a1_1),(Value.bool a1_2)] H10) fun (s12,H13) =>
   Option.bind (appS m 86 3 40 H13 x11 s12) fun (s14,H15) =>
   Option.bind (H15.setCell m (Addr.add q3 0) (Sl3.v s14)) fun H16 =>
   Option.bind (z1w L m H16 (some q3) (x8.n:Int)) fun H17 =>
   some ((x8.n:Int),0,H17)
theorem z6c {L:LC} {m:Nat} {H:AH} {a0:Option Addr} {a1_0:Int} {a1_1:Sl3} {a1_2:Bool} {r:(Int×Int×AH)} (h:z1c L m H a0 a1_0 a1_1 a1_2=some r) :
  CallS Tryd.prog (NE.plain 1000) m 39 #[(Value.pointer a0),(Value.agg #[(Value.int .i64 a1_0),(Sl3.v a1_1),(Value.bool a1_2)])] H (z9m r) (zay H r):=by
 refine CallS.mk (args:=[(Value.pointer a0),(Value.agg #[(Value.int .i64 a1_0),(Sl3.v a1_1),(Value.bool a1_2)])]) Tryd.func39 (B:=B39) (by kernel_rfl) (fun E _=>?_)
 unfold z1c at h
 refine WS.sq (WS.rg (RS.mL 3 [kI 5 0,kI 4 0,kL 3 0 0] ([some (86,[(Value.int .i64 a1_0),(Sl3.v a1_1),(Value.bool a1_2)])]) (RS.dn (WS.nxt (WS.sq (WS.rg (RS.mS 6 [kS 15 a1_1,kL 14 0 1,kI 13 a1_0,kL 12 0 0,kB 11 a1_2,kL 10 0 2] ?_)))))))
 obtain ⟨⟨x1,H2⟩,hx,h⟩:=bind_some h
 try dsimp only at h
 refine RS.cl (some 16) (v:=(Value.string x1)) 63 #[(Value.bool a1_2),(Value.int .i64 a1_0),(Sl3.v a1_1)] (z9h hx) (RS.mS 1 [kT 6 x1] (RS.dn (WS.nxt (WS.sq (WS.sq (WS.rg (RS.mS 1 [(18,.val (Value.pointer a0))] ?_)))))))
 obtain ⟨q3,hx,hq3⟩:=bind_some h
 subst hx
 have h:=hq3
 refine RS.mS 2 [(20,.val (Value.pointer (some (Addr.add q3 1)))),kP 19 q3] ?_
 obtain ⟨x4,hx,h⟩:=bind_some h
 refine RS.ld 21 58 (.tmp 20) (z0 hx z4m) (RS.mS 1 [kT 22 x1] ?_)
 obtain ⟨⟨x5,b6⟩,hx,h⟩:=bind_some h
 try dsimp only at h
 refine RS.o (H':=H2) (some 23) (Value.tuple #[(Value.int .i64 x5),(Value.bool b6)]) (Abs.run_look (t:=58) (x:=.tmp 21) (y:=.tmp 22) (mm:=x4) (k:=(Value.string x1)) (by kernel_rfl) (by kernel_rfl) (by kernel_rfl) (by kernel_rfl) (lkM_eq hx zd)) (RS.mS 5 [kB 8 b6,kI 7 x5,kB 25 b6,kI 24 x5,(17,.val (Value.tuple #[(Value.int .i64 x5),(Value.bool b6)]))] (RS.dn (WS.nxt (WS.sq (WS.rg (RS.mS 1 [kB 26 b6] (RS.dn (WS.nxt ?_))))))))
 rcases z9 h with ⟨hp,h⟩ | ⟨hp,h⟩
 ·refine WS.fx 26 true hp (WS.cT (WS.sq (WS.rg (RS.mS 3 [kI 5 0,kI 4 x5,kI 27 x5] (RS.dn (WS.nxt (WS.rt ?_)))))))
  cases h
  exact fun a w hs=>sqR (rtR (rS hs))
 ·refine WS.fx 26 false (b_not hp) (WS.cF (WS.sk (WS.nxt (WS.sq (WS.sq (WS.rg (RS.mS 3 [(30,.val (Value.pointer (some (Addr.add q3 0)))),kP 29 q3,kP 28 q3] ?_)))))))
  obtain ⟨x7,hx,h⟩:=bind_some h
  refine RS.ld 31 57 (.tmp 30) (z0 hx zb) (RS.mS 2 [kB 33 (decide ((x7.n:Int)≥1048576)),kI 32 (x7.n:Int)] (RS.dn (WS.nxt ?_)))
  rcases z9 h with ⟨hp,h⟩ | ⟨hp,h⟩
  ·refine WS.fx 33 true (decide_eq_true hp) (WS.cT (WS.sq (WS.rg (RS.mS 2 [kI 5 3,kI 4 0] (RS.dn (WS.nxt (WS.rt ?_)))))))
   cases h
   exact fun a w hs=>sqR (rtR (rS hs))
  ·refine WS.fx 33 false (decide_eq_false hp) (WS.cF (WS.sk (WS.nxt (WS.sq (WS.rg (RS.mS 3 [(36,.val (Value.pointer (some (Addr.add q3 0)))),kP 35 q3,kP 34 q3] ?_))))))
   obtain ⟨x8,hx,h⟩:=bind_some h
   refine RS.ld 37 57 (.tmp 36) (z0 hx zb) (RS.mS 2 [kI 9 (x8.n:Int),kI 38 (x8.n:Int)] (RS.dn (WS.nxt (WS.sq (WS.rg (RS.mS 3 [(41,.val (Value.pointer (some (Addr.add q3 1)))),kP 40 q3,kP 39 q3] ?_))))))
   obtain ⟨x9,hx,h⟩:=bind_some h
   refine RS.ld 42 58 (.tmp 41) (z0 hx z4m) (RS.mS 2 [kI 44 (x8.n:Int),kT 43 x1] ?_)
   obtain ⟨H10,hx,h⟩:=bind_some h
   refine RS.o (H':=H10) none undef (Abs.run_upM (t:=58) (x:=.tmp 42) (y:=.tmp 43) (z:=.tmp 44) (mm:=x9) (k:=(Value.string x1)) (v:=(Value.int .i64 (x8.n:Int))) (by kernel_rfl) (by kernel_rfl) (by kernel_rfl) (by kernel_rfl) (by kernel_rfl) hx) (RS.dn (WS.nxt (WS.sq ?_)))
   refine WS.dr [1,2,3,4,5] [0,0,2,6,14,0,32,126,255,511,1023] 11 (fun hcl=>?_)
   refine DA.tK 1 (some 46) (Value.pointer (some q3)) (DA.tK 2 (some 47) (Value.pointer (some q3)) (DA.tK 3 (some 48) (Value.pointer (some (Addr.add q3 0))) ?_))
   obtain ⟨x11,hx,h⟩:=bind_some h
   refine DA.tD 4 (some 49) (Sl3.v x11) (Abs.det_load (t:=57) (x:=.tmp 48) (a:=(Addr.add q3 0)) (by kernel_rfl) (by kernel_rfl) (by kernel_rfl) (by kernel_rfl) (z0 hx zb)) (DA.tL 5 (some 50) (.val (Value.agg #[(Value.int .i64 a1_0),(Sl3.v a1_1),(Value.bool a1_2)])) (DA.tP 0 (some 45) (Value.pointer (some q3)) ?_))
   obtain ⟨⟨s12,H13⟩,hx,h⟩:=bind_some h
   try dsimp only at h
   refine DA.on 6 (DA.aHj (H':=H13) 6 (some 51) false (Sl3.v s12) (Abs.run_newR (by kernel_rfl) (by kernel_rfl) hx) ?_)
   obtain ⟨⟨s14,H15⟩,hx,h⟩:=bind_some h
   try dsimp only at h
   refine DA.on 7 (DA.aH (H':=H15) 7 (some 52) (Sl3.v s14) (Abs.run_app (x:=.tmp 49) (y:=.tmp 51) (ts:=#[57,57]) (s:=x11) (z:=s12) (by kernel_rfl) (by kernel_rfl) (by kernel_rfl) (by kernel_rfl) hx) (DA.tP 8 (some 53) (Value.pointer (some q3)) (DA.tP 9 (some 54) (Value.pointer (some (Addr.add q3 0))) ?_)))
   obtain ⟨H16,hx,h⟩:=bind_some h
   refine DA.on 10 (DA.aH (H':=H16) 10 none undef (Abs.run_store1 (t:=57) (x:=.tmp 54) (y:=.tmp 52) (a:=(Addr.add q3 0)) (v:=(Sl3.v s14)) (by kernel_rfl) (by kernel_rfl) (by kernel_rfl) (by kernel_rfl) (by kernel_rfl) hx) (DA.dn (WS.nxt (WS.sq (WS.rg (RS.mS 2 [kI 56 (x8.n:Int),kP 55 q3] ?_))))))
   obtain ⟨H17,hx,h⟩:=bind_some h
   refine RS.cl (some 57) (v:=(Value.tuple #[])) 57 #[(Value.pointer (some q3)),(Value.int .i64 (x8.n:Int))] (z9i hx) (RS.dn (WS.nxt (WS.sq (WS.rg (RS.mS 3 [kI 5 0,kI 4 (x8.n:Int),kI 58 (x8.n:Int)] (RS.dn (WS.nxt (WS.rt ?_))))))))
   cases h
   exact fun a w hs=>rtR (rS hs)
def z8q:(Int×Int×AH)→Value
 | (r0,r1,_)=>(Value.tuple #[(Value.int .i64 r0),(Value.int .i64 r1)])
def z9j (_:AH):(Int×Int×AH)→AH:=fun r=>r.2.2
noncomputable def B17:Code:=(Tryd.f17.body).getD .skip
noncomputable def z1u (L:LC) (m:Nat) (H:AH) (a0:Option Addr) (a1:Int):Option (Int×Int×AH) :=
 Option.bind (z1f L H a0) fun x1 =>
 if x1=true then
  Option.bind (z1c L m H a0 a1 Sl3.nil true) fun (x2,x3,H4) =>
  some (x2,x3,H4)
 else
  some (0,4,H)
theorem z5t {L:LC} {m:Nat} {H:AH} {a0:Option Addr} {a1:Int} {r:(Int×Int×AH)} (h:z1u L m H a0 a1=some r) :
  CallS Tryd.prog (NE.plain 1000) m 17 #[(Value.pointer a0),(Value.int .i64 a1)] H (z8q r) (z9j H r):=by
 refine CallS.mk (args:=[(Value.pointer a0),(Value.int .i64 a1)]) Tryd.func17 (B:=B17) (by kernel_rfl) (fun E _=>?_)
 unfold z1u at h
 refine WS.sq (WS.rg (RS.mS 2 [kI 5 0,kI 4 0] (RS.dn (WS.nxt (WS.sq (WS.sq (WS.rg (RS.mS 1 [(6,.val (Value.pointer a0))] ?_))))))))
 obtain ⟨x1,hx,h⟩:=bind_some h
 refine RS.cl (some 7) (v:=(Value.bool x1)) 38 #[(Value.pointer a0)] (z1z hx) (RS.mS 1 [kB 8 (!x1)] (RS.dn (WS.nxt ?_)))
 rcases z9 h with ⟨hp,h⟩ | ⟨hp,h⟩
 ·refine WS.fx 8 false (nb_not hp) (WS.cF (WS.sk (WS.nxt (WS.sq (WS.rg (RS.mS 3 [kA 11 #[(Value.int .i64 a1),(Sl3.v Sl3.nil),(Value.bool true)],kI 10 a1,(9,.val (Value.pointer a0))] ?_))))))
  obtain ⟨⟨x2,x3,H4⟩,hx,h⟩:=bind_some h
  try dsimp only at h
  refine RS.cl (some 12) (v:=(Value.tuple #[(Value.int .i64 x2),(Value.int .i64 x3)])) 39 #[(Value.pointer a0),(Value.agg #[(Value.int .i64 a1),(Sl3.v Sl3.nil),(Value.bool true)])] (z6c hx) (RS.mS 4 [kI 5 x3,kI 4 x2,kI 14 x3,kI 13 x2] (RS.dn (WS.nxt (WS.rt ?_))))
  cases h
  exact fun a w hs=>rtR (rS hs)
 ·refine WS.fx 8 true (z34 hp) (WS.cT (WS.sq (WS.rg (RS.mS 2 [kI 5 4,kI 4 0] (RS.dn (WS.nxt (WS.rt ?_)))))))
  cases h
  exact fun a w hs=>sqR (rtR (rS hs))
def z8t:Bool→Value
 | r0=>(Value.bool r0)
def z8x (H:AH):Bool→AH:=fun _=>H
noncomputable def B41:Code:=(Tryd.f41.body).getD .skip
noncomputable def z31 (L:LC) (H:AH) (a0:Int) (a1:Option Addr):Option Bool :=
 Option.bind a1 fun q1 =>
 Option.bind (rd deP H q1) fun x2 =>
 Option.bind (z1k L H x2 a0) fun x3 =>
 some (!x3)
theorem z98 {L:LC} {m:Nat} {H:AH} {a0:Int} {a1:Option Addr} {r:Bool} (h:z31 L H a0 a1=some r) :
  CallS Tryd.prog (NE.plain 1000) m 41 #[(Value.int .i64 a0),(Value.pointer a1)] H (z8t r) (z8x H r):=by
 refine CallS.mk (args:=[(Value.int .i64 a0),(Value.pointer a1)]) Tryd.func41 (B:=B41) (by kernel_rfl) (fun E _=>?_)
 unfold z31 at h
 refine WS.sq (WS.rg (RS.mS 1 [kB 3 false] (RS.dn (WS.nxt (WS.sq (WS.rg ?_))))))
 obtain ⟨q1,hx,hq1⟩:=bind_some h
 subst hx
 have h:=hq1
 obtain ⟨x2,hx,h⟩:=bind_some h
 refine RS.ld 4 23 (.tmp 1) (z0 hx z3h) (RS.mS 1 [kI 5 a0] ?_)
 obtain ⟨x3,hx,h⟩:=bind_some h
 refine RS.cl (some 6) (v:=(Value.bool x3)) 31 #[(Value.pointer x2),(Value.int .i64 a0)] (z29 hx) (RS.mS 2 [kB 3 (!x3),kB 7 (!x3)] (RS.dn (WS.nxt (WS.rt ?_))))
 cases h
 exact fun a w hs=>rtR (rS hs)
def z4j:Int→Value
 | r0=>(Value.int .i64 r0)
def z51 (H:AH):Int→AH:=fun _=>H
noncomputable def B64:Code:=(Tryd.f64.body).getD .skip
noncomputable def zy (L:LC) (H:AH) (a0:Sl3) (a1_0:Option Addr):Int→Option (Lp Int Int):=fun v8_1 =>
 if v8_1<(a0.n:Int) then
  Option.bind (idxA 1 a0 v8_1) fun p2 =>
  Option.bind (rd (deI .i64) H p2) fun x3 =>
  Option.bind (z31 L H x3 a1_0) fun x4 =>
  if x4=true then
   some (.ret v8_1)
  else
   some (.next (IntKind.i64.wrap (v8_1+1)))
 else
  some (.brk v8_1)
def z74 (_L:LC) (_H:AH) (a0:Sl3) (a1_0:Option Addr):Int→KN×Lcs:=fun v8_1=>([kI 8 v8_1,kS 0 a0,(1,.val (Value.func (.func 41) #[] #[(Value.pointer a1_0)])),kI 7 (a0.n:Int)],[])
noncomputable def z39 (L:LC) (H:AH) (a0:Sl3) (a1_0:Option Addr):Option Int :=
 Option.bind (L.run (zy L H a0 a1_0) 0) fun o=>match o with
 | .inl _ =>
  some (-1)
 | .inr r=>some r
theorem z3x {E m L H a0 a1_0} :LoopF Tryd.prog (NE.plain 1000) m E Tryd.f64 ((cfst (csnd (cfst (csnd B64))))) (z74 L H a0 a1_0) (fun _=>H) 0 z4j (z51 H) (zy L H a0 a1_0):=by
 rintro v8_1 o h
 unfold zy at h
 try dsimp only at h
 refine WS.sq (WS.rg (RS.mS 1 [kB 9 (decide (v8_1<(a0.n:Int)))] (RS.dn (WS.nxt (WS.sq ?_)))))
 rcases z9 h with ⟨hp,h⟩ | ⟨hp,h⟩
 ·refine WS.fx 9 true (decide_eq_true hp) (WS.cT (WS.sk (WS.nxt (WS.sq (WS.bk 1 (WS.sq (WS.rg (RS.mS 2 [kI 5 v8_1,kI 10 v8_1] (RS.dn ?_)))))))))
  refine WS.nxt (WS.sq (WS.rg (RS.mS 3 [kI 13 v8_1,kS 12 a0,(11,.val (Value.func (.func 41) #[] #[(Value.pointer a1_0)]))] ?_)))
  obtain ⟨p2,hx,h⟩:=bind_some h
  refine RS.ix 14 27 3 (.tmp 12) (.tmp 13) hx ?_
  obtain ⟨x3,hx,h⟩:=bind_some h
  refine RS.ld 15 3 (.tmp 14) (z0 hx zd) ?_
  obtain ⟨x4,hx,h⟩:=bind_some h
  refine RS.cl (some 16) (v:=(Value.bool x4)) 41 #[(Value.int .i64 x3),(Value.pointer a1_0)] (z98 hx) (RS.dn (WS.nxt ?_))
  rcases z9 h with ⟨hp,h⟩ | ⟨hp,h⟩
  ·refine WS.fx 16 true hp (WS.cT (WS.sq (WS.rg (RS.mS 2 [kI 4 v8_1,kI 17 v8_1] (RS.dn (WS.nxt (WS.rt ?_)))))))
   cases h
   exact fun a w hs=>bkR (sqR (lsR rfl (rS hs)))
  ·refine WS.fx 16 false (b_not hp) (WS.cF (WS.sk ?_))
   refine fun a w hs=>bkN ((WS.nxt ?_ a w hs))
   refine WS.rg (RS.mS 2 [kI 8 (IntKind.i64.wrap (v8_1+1)),kI 18 (IntKind.i64.wrap (v8_1+1))] (RS.dn ?_))
   cases h
   exact fun a w hs=>lsN rfl (hs.sb 0)
 ·refine WS.fx 9 false (decide_eq_false hp) (WS.cF (WS.ex 0 ?_))
  cases h
  exact fun a w hs=>sqE (lsB rfl (hs.sb 0))
theorem z87 {L:LC} {m:Nat} {H:AH} {a0:Sl3} {a1_0:Option Addr} {r:Int} (h:z39 L H a0 a1_0=some r) :
  CallS Tryd.prog (NE.plain 1000) m 64 #[(Sl3.v a0),(Value.func (.func 41) #[] #[(Value.pointer a1_0)])] H (z4j r) (z51 H r):=by
 refine CallS.mk (args:=[(Sl3.v a0),(Value.func (.func 41) #[] #[(Value.pointer a1_0)])]) Tryd.func64 (B:=B64) (by kernel_rfl) (fun E _=>?_)
 unfold z39 at h
 refine WS.sq (WS.rg (RS.mS 1 [kI 4 0] (RS.dn (WS.nxt (WS.sq (WS.sq (WS.rg (RS.mS 3 [kI 8 0,kI 7 (a0.n:Int),kS 6 a0] (RS.dn ?_)))))))))
 refine WS.nxt (WS.bk 0 ?_)
 obtain ⟨o,hl,h⟩:=bind_some h
 rcases o with v8_5 | r
 ·try dsimp only at h
  refine WS.lI (z3x (L:=L) (E:=E) (m:=m) (H:=H)) (L.ok hl) 0 ?_
  clear hl
  refine fun a w hs=>bkE ((WS.nxt ?_ a w hs))
  refine WS.sq (WS.rg (RS.mS 1 [kI 4 (-1)] (RS.dn (WS.nxt (WS.rt ?_)))))
  cases h
  exact fun a w hs=>rtR (rS hs)
 ·try dsimp only at h
  refine WS.lR (z3x (L:=L) (E:=E) (m:=m) (H:=H)) (L.ok hl) 0 ?_
  cases h
  exact fun a w hq=>bkR (sqR (rtR hq))
def z6w:Bool→Value
 | r0=>(Value.bool r0)
def z7a (H:AH):Bool→AH:=fun _=>H
noncomputable def B40:Code:=(Tryd.f40.body).getD .skip
noncomputable def z21 (L:LC) (H:AH) (a0:Sl3) (a1_0:Option Addr):Option Bool :=
 Option.bind (z39 L H a0 a1_0) fun x1 =>
 some (decide (x1≥0))
theorem z75 {L:LC} {m:Nat} {H:AH} {a0:Sl3} {a1_0:Option Addr} {r:Bool} (h:z21 L H a0 a1_0=some r) :
  CallS Tryd.prog (NE.plain 1000) m 40 #[(Sl3.v a0),(Value.func (.func 41) #[] #[(Value.pointer a1_0)])] H (z6w r) (z7a H r):=by
 refine CallS.mk (args:=[(Sl3.v a0),(Value.func (.func 41) #[] #[(Value.pointer a1_0)])]) Tryd.func40 (B:=B40) (by kernel_rfl) (fun E _=>?_)
 unfold z21 at h
 refine WS.sq (WS.rg (RS.mS 1 [kB 4 false] (RS.dn (WS.nxt (WS.sq (WS.rg (RS.mS 2 [(6,.val (Value.func (.func 41) #[] #[(Value.pointer a1_0)])),kS 5 a0] ?_)))))))
 obtain ⟨x1,hx,h⟩:=bind_some h
 refine RS.cl (some 7) (v:=(Value.int .i64 x1)) 64 #[(Sl3.v a0),(Value.func (.func 41) #[] #[(Value.pointer a1_0)])] (z87 hx) (RS.mS 2 [kB 4 (decide (x1≥0)),kB 8 (decide (x1≥0))] (RS.dn (WS.nxt (WS.rt ?_))))
 cases h
 exact fun a w hs=>rtR (rS hs)
def zcq:(Sl3×AH)→Value
 | (r0,_)=>(Sl3.v r0)
def zdu (_:AH):(Sl3×AH)→AH:=fun r=>r.2
noncomputable def B42:Code:=(Tryd.f42.body).getD .skip
noncomputable def z3q (_L:LC) (m:Nat) (H:AH) (a0:Sl3):Option (Sl3×AH) :=
 if (isNilS a0)=true then
  some (Sl3.nil,H)
 else
  Option.bind (newR 3 0 #[] H) fun (s1,H2) =>
  Option.bind (appS m 3 1 8 H2 s1 a0) fun (s3,H4) =>
  some (s3,H4)
theorem zdo {L:LC} {m:Nat} {H:AH} {a0:Sl3} {r:(Sl3×AH)} (h:z3q L m H a0=some r) :
  CallS Tryd.prog (NE.plain 1000) m 42 #[(Sl3.v a0)] H (zcq r) (zdu H r):=by
 refine CallS.mk (args:=[(Sl3.v a0)]) Tryd.func42 (B:=B42) (by kernel_rfl) (fun E _=>?_)
 unfold z3q at h
 refine WS.sq (WS.rg (RS.mS 1 [kS 2 Sl3.nil] (RS.dn (WS.nxt (WS.sq (WS.sq (WS.rg (RS.mS 1 [kS 3 a0] (RS.o (H':=H) (some 4) (Value.bool (isNilS a0)) (zhf (t:=27) (e:=3) (u:=27) (x:=.tmp 3) (y:=.const (Sl3.v Sl3.nil)) (s:=a0) (by kernel_rfl) (by kernel_rfl) (by kernel_rfl) (by kernel_rfl)) ?_)))))))))
 refine RS.dn (WS.nxt ?_)
 rcases z9 h with ⟨hp,h⟩ | ⟨hp,h⟩
 ·refine WS.fx 4 true hp (WS.cT (WS.sq (WS.rg (RS.mS 1 [kS 2 Sl3.nil] (RS.dn (WS.nxt (WS.rt ?_)))))))
  cases h
  exact fun a w hs=>sqR (rtR (rS hs))
 ·refine WS.fx 4 false (b_not hp) (WS.cF (WS.sk (WS.nxt (WS.sq (WS.rg ?_)))))
  obtain ⟨⟨s1,H2⟩,hx,h⟩:=bind_some h
  try dsimp only at h
  refine RS.o (H':=H2) (some 5) (Sl3.v s1) (Abs.run_newR (by kernel_rfl) (by kernel_rfl) hx) (RS.mS 1 [kS 6 a0] ?_)
  obtain ⟨⟨s3,H4⟩,hx,h⟩:=bind_some h
  try dsimp only at h
  refine RS.o (H':=H4) (some 7) (Sl3.v s3) (Abs.run_app (x:=.tmp 5) (y:=.tmp 6) (ts:=#[27,27]) (s:=s1) (z:=a0) (by kernel_rfl) (by kernel_rfl) (by kernel_rfl) (by kernel_rfl) hx) (RS.mS 1 [kS 2 s3] (RS.dn (WS.nxt (WS.rt ?_))))
  cases h
  exact fun a w hs=>rtR (rS hs)
def zag:(Int×Int×AH)→Value
 | (r0,r1,_)=>(Value.tuple #[(Value.int .i64 r0),(Value.int .i64 r1)])
def zb1 (_:AH):(Int×Int×AH)→AH:=fun r=>r.2.2
noncomputable def B18:Code:=(Tryd.f18.body).getD .skip
noncomputable def z1x (L:LC) (m:Nat) (H:AH) (a0:Option Addr) (a1:Int) (a2:Sl3):Option (Int×Int×AH) :=
 Option.bind (newB 23 [(Value.pointer a0)] H) fun (p1,H2) =>
 Option.bind (rd deP H2 p1) fun x3 =>
 Option.bind (z1f L H2 x3) fun x4 =>
 if x4=true then
  if (a2.n:Int) > 64 then
   some (0,51,H2)
  else
   Option.bind (z21 L H2 a2 (some p1)) fun x5 =>
   if x5=true then
    some (0,150,H2)
   else
    Option.bind (rd deP H2 p1) fun x6 =>
    Option.bind (z3q L (Nat.max m H2.next) H2 a2) fun (x7,H8) =>
    Option.bind (z1c L m H8 x6 a1 x7 false) fun (x9,x10,H11) =>
    some (x9,x10,H11)
 else
  some (0,4,H2)
theorem z6f {L:LC} {m:Nat} {H:AH} {a0:Option Addr} {a1:Int} {a2:Sl3} {r:(Int×Int×AH)} (h:z1x L m H a0 a1 a2=some r) :
  CallS Tryd.prog (NE.plain 1000) m 18 #[(Value.pointer a0),(Value.int .i64 a1),(Sl3.v a2)] H (zag r) (zb1 H r):=by
 refine CallS.mk (args:=[(Value.pointer a0),(Value.int .i64 a1),(Sl3.v a2)]) Tryd.func18 (B:=B18) (by kernel_rfl) (fun E _=>?_)
 unfold z1x at h
 refine WS.sq (WS.rg ?_)
 obtain ⟨⟨p1,H2⟩,hx,h⟩:=bind_some h
 try dsimp only at h
 refine RS.o (H':=H2) (some 3) (Value.pointer (some p1)) (Abs.run_newB (by kernel_rfl) hx) (RS.mS 2 [kI 7 0,kI 6 0] (RS.dn (WS.nxt (WS.sq (WS.sq (WS.rg ?_))))))
 obtain ⟨x3,hx,h⟩:=bind_some h
 refine RS.ld 8 23 (.tmp 3) (z0 hx z3h) ?_
 obtain ⟨x4,hx,h⟩:=bind_some h
 refine RS.cl (some 9) (v:=(Value.bool x4)) 38 #[(Value.pointer x3)] (z1z hx) (RS.mS 1 [kB 10 (!x4)] (RS.dn (WS.nxt ?_)))
 rcases z9 h with ⟨hp,h⟩ | ⟨hp,h⟩
 ·refine WS.fx 10 false (nb_not hp) (WS.cF (WS.sk (WS.nxt (WS.sq (WS.sq (WS.rg (RS.mS 3 [kB 13 (decide ((a2.n:Int) > 64)),kI 12 (a2.n:Int),kS 11 a2] (RS.dn (WS.nxt ?_)))))))))
  rcases z9 h with ⟨hp,h⟩ | ⟨hp,h⟩
  ·refine WS.fx 13 true (decide_eq_true hp) (WS.cT (WS.sq (WS.rg (RS.mS 2 [kI 7 51,kI 6 0] (RS.dn (WS.nxt (WS.rt ?_)))))))
   cases h
   exact fun a w hs=>sqR (rtR (rS hs))
  ·refine WS.fx 13 false (decide_eq_false hp) (WS.cF (WS.sk (WS.nxt (WS.sq (WS.sq (WS.rg (RS.mS 2 [(15,.val (Value.func (.func 41) #[] #[(Value.pointer (some p1))])),kS 14 a2] ?_)))))))
   obtain ⟨x5,hx,h⟩:=bind_some h
   refine RS.cl (some 16) (v:=(Value.bool x5)) 40 #[(Sl3.v a2),(Value.func (.func 41) #[] #[(Value.pointer (some p1))])] (z75 hx) (RS.dn (WS.nxt ?_))
   rcases z9 h with ⟨hp,h⟩ | ⟨hp,h⟩
   ·refine WS.fx 16 true hp (WS.cT (WS.sq (WS.rg (RS.mS 2 [kI 7 150,kI 6 0] (RS.dn (WS.nxt (WS.rt ?_)))))))
    cases h
    exact fun a w hs=>sqR (rtR (rS hs))
   ·refine WS.fx 16 false (b_not hp) (WS.cF (WS.sk (WS.nxt (WS.sq ?_))))
    refine WS.dr [0] [0,0,0,4,14,31,63,63,255,511] 10 (fun hcl=>?_)
    obtain ⟨x6,hx,h⟩:=bind_some h
    refine DA.tD 0 (some 17) (Value.pointer x6) (Abs.det_load (t:=23) (x:=.tmp 3) (a:=p1) (by kernel_rfl) (by kernel_rfl) (by kernel_rfl) (by kernel_rfl) (z0 hx z3h)) (DA.tP 1 (some 18) (Value.int .i64 a1) (DA.tP 2 (some 19) (Sl3.v a2) ?_))
    obtain ⟨⟨x7,H8⟩,hx,h⟩:=bind_some h
    try dsimp only at h
    refine DA.on 3 (DA.aCj 3 (some 20) true (v:=(Sl3.v x7)) 42 #[(Sl3.v a2)] (zdo hx) (DA.on 4 (DA.aHj (H':=H8) 4 (some 21) false (Value.agg #[(Value.int .i64 a1),(Sl3.v x7),(Value.bool false)]) (by kernel_rfl) ?_)))
    obtain ⟨⟨x9,x10,H11⟩,hx,h⟩:=bind_some h
    try dsimp only at h
    refine DA.on 5 (DA.aC 5 (some 22) (v:=(Value.tuple #[(Value.int .i64 x9),(Value.int .i64 x10)])) 39 #[(Value.pointer x6),(Value.agg #[(Value.int .i64 a1),(Sl3.v x7),(Value.bool false)])] (z6c hx) (DA.tP 6 (some 23) (Value.int .i64 x9) (DA.tP 7 (some 24) (Value.int .i64 x10) (DA.tP 8 (some 6) (Value.int .i64 x9) (DA.tP 9 (some 7) (Value.int .i64 x10) (DA.dn (WS.nxt (WS.rt ?_))))))))
    cases h
    exact fun a w hs=>rtR (rS hs)
 ·refine WS.fx 10 true (z34 hp) (WS.cT (WS.sq (WS.rg (RS.mS 2 [kI 7 4,kI 6 0] (RS.dn (WS.nxt (WS.rt ?_)))))))
  cases h
  exact fun a w hs=>sqR (rtR (rS hs))
def z9k:(Int×AH)→Value
 | (r0,_)=>(Value.int .i64 r0)
def zb2 (_:AH):(Int×AH)→AH:=fun r=>r.2
noncomputable def B43:Code:=(Tryd.f43.body).getD .skip
noncomputable def z1y (L:LC) (m:Nat) (H:AH) (a0:Option Addr) (a1_0 a1_1 a1_2:Int) (a1_3:Bool):Option (Int×AH) :=
 Option.bind (z1f L H a0) fun x1 =>
 if x1=true then
  Option.bind (α:=Bool) (
   Option.bind (z1k L H a0 a1_0) fun x3 =>
   if x3=true then
    Option.bind (z1k L H a0 a1_1) fun x4 =>
    some (!x4)
   else
    some true) fun v19_2 =>
  if v19_2=true then
   some (150,H)
  else
   Option.bind a0 fun q5 =>
   Option.bind (rd deSl H (Addr.add q5 2)) fun x6 =>
   Option.bind (newR 91 1 #[(Value.int .i64 a1_0),(Value.int .i64 a1_1),(Value.int .i64 a1_2),(Value.bool a1_3)] H) fun (s7,H8) =>
   Option.bind (appS m 91 4 32 H8 x6 s7) fun (s9,H10) =>
   Option.bind (H10.setCell m (Addr.add q5 2) (Sl3.v s9)) fun H11 =>
   Option.bind (α:=AH) (
    if a1_3=true then
     some H11
    else
     Option.bind (z19 L m H11 (some q5) a1_0 a1_1 0 a1_2 0 0 false) fun H13 =>
     some H13) fun H12 =>
   some (0,H12)
 else
  some (4,H)
theorem z6g {L:LC} {m:Nat} {H:AH} {a0:Option Addr} {a1_0 a1_1 a1_2:Int} {a1_3:Bool} {r:(Int×AH)} (h:z1y L m H a0 a1_0 a1_1 a1_2 a1_3=some r) :
  CallS Tryd.prog (NE.plain 1000) m 43 #[(Value.pointer a0),(Value.agg #[(Value.int .i64 a1_0),(Value.int .i64 a1_1),(Value.int .i64 a1_2),(Value.bool a1_3)])] H (z9k r) (zb2 H r):=by
 refine CallS.mk (args:=[(Value.pointer a0),(Value.agg #[(Value.int .i64 a1_0),(Value.int .i64 a1_1),(Value.int .i64 a1_2),(Value.bool a1_3)])]) Tryd.func43 (B:=B43) (by kernel_rfl) (fun E _=>?_)
 unfold z1y at h
 refine WS.sq (WS.rg (RS.mL 2 [kI 4 0,kL 3 0 0] ([some (91,[(Value.int .i64 a1_0),(Value.int .i64 a1_1),(Value.int .i64 a1_2),(Value.bool a1_3)])]) (RS.dn (WS.nxt (WS.sq (WS.sq (WS.rg (RS.mS 1 [(5,.val (Value.pointer a0))] ?_))))))))
 obtain ⟨x1,hx,h⟩:=bind_some h
 refine RS.cl (some 6) (v:=(Value.bool x1)) 38 #[(Value.pointer a0)] (z1z hx) (RS.mS 1 [kB 7 (!x1)] (RS.dn (WS.nxt ?_)))
 rcases z9 h with ⟨hp,h⟩ | ⟨hp,h⟩
 ·refine WS.fx 7 false (nb_not hp) (WS.cF (WS.sk (WS.nxt (WS.sq ?_))))
  obtain ⟨v19_2,hx,h⟩:=bind_some h
  refine WS.sq ?_
  refine WS.join ([kB 19 v19_2,(0,.val (Value.pointer a0)),kL 3 0 0]) ([some (91,[(Value.int .i64 a1_0),(Value.int .i64 a1_1),(Value.int .i64 a1_2),(Value.bool a1_3)])]) H ?_ (fun a w hs=>WS.nxt ?_ a w hs)
  ·clear h; rename _=>h
   refine WS.rg (RS.mS 3 [kI 10 a1_0,kL 9 0 0,(8,.val (Value.pointer a0))] ?_)
   obtain ⟨x3,hx,h⟩:=bind_some h
   refine RS.cl (some 11) (v:=(Value.bool x3)) 31 #[(Value.pointer a0),(Value.int .i64 a1_0)] (z29 hx) (RS.mS 2 [kB 13 (!x3),kB 12 (!x3)] ?_)
   rcases z9 h with ⟨hp,h⟩ | ⟨hp,h⟩
   ·refine RS.fx 13 false (nb_not hp) (RS.mS 3 [kI 16 a1_1,kL 15 0 1,(14,.val (Value.pointer a0))] ?_)
    obtain ⟨x4,hx,h⟩:=bind_some h
    refine RS.cl (some 17) (v:=(Value.bool x4)) 31 #[(Value.pointer a0),(Value.int .i64 a1_1)] (z29 hx) (RS.mS 2 [kB 19 (!x4),kB 18 (!x4)] (RS.dn ?_))
    cases h
    exact fun a w hs=>(jsN (hs.sb 1))
   ·refine RS.fx 13 true (z34 hp) (RS.mS 6 [kB 19 true,kU 18,kU 17,kU 16,kU 15,kU 14] (RS.dn ?_))
    cases h
    exact fun a w hs=>(jsN (hs.sb 1))
  ·clear hx
   rcases z9 h with ⟨hp,h⟩ | ⟨hp,h⟩
   ·refine WS.fx 19 true hp (WS.cT (WS.sq (WS.rg (RS.mS 1 [kI 4 150] (RS.dn (WS.nxt (WS.rt ?_)))))))
    cases h
    exact fun a w hs=>sqR (rtR (rS hs))
   ·refine WS.fx 19 false (b_not hp) (WS.cF (WS.sk (WS.nxt (WS.sq ?_))))
    refine WS.dr [1,2,3,4,5] [0,0,2,6,14,0,32,126,255,511,1023] 11 (fun hcl=>?_)
    refine DA.tK 1 (some 21) (Value.pointer a0) ?_
    obtain ⟨q5,hx,hq5⟩:=bind_some h
    subst hx
    have h:=hq5
    refine DA.tK 2 (some 22) (Value.pointer (some q5)) (DA.tK 3 (some 23) (Value.pointer (some (Addr.add q5 2))) ?_)
    obtain ⟨x6,hx,h⟩:=bind_some h
    refine DA.tD 4 (some 24) (Sl3.v x6) (Abs.det_load (t:=59) (x:=.tmp 23) (a:=(Addr.add q5 2)) (by kernel_rfl) (by kernel_rfl) (by kernel_rfl) (by kernel_rfl) (z0 hx zb)) (DA.tL 5 (some 25) (.val (Value.agg #[(Value.int .i64 a1_0),(Value.int .i64 a1_1),(Value.int .i64 a1_2),(Value.bool a1_3)])) (DA.tP 0 (some 20) (Value.pointer (some q5)) ?_))
    obtain ⟨⟨s7,H8⟩,hx,h⟩:=bind_some h
    try dsimp only at h
    refine DA.on 6 (DA.aHj (H':=H8) 6 (some 26) false (Sl3.v s7) (Abs.run_newR (by kernel_rfl) (by kernel_rfl) hx) ?_)
    obtain ⟨⟨s9,H10⟩,hx,h⟩:=bind_some h
    try dsimp only at h
    refine DA.on 7 (DA.aH (H':=H10) 7 (some 27) (Sl3.v s9) (Abs.run_app (x:=.tmp 24) (y:=.tmp 26) (ts:=#[59,59]) (s:=x6) (z:=s7) (by kernel_rfl) (by kernel_rfl) (by kernel_rfl) (by kernel_rfl) hx) (DA.tP 8 (some 28) (Value.pointer (some q5)) (DA.tP 9 (some 29) (Value.pointer (some (Addr.add q5 2))) ?_)))
    obtain ⟨H11,hx,h⟩:=bind_some h
    refine DA.on 10 (DA.aH (H':=H11) 10 none undef (Abs.run_store1 (t:=59) (x:=.tmp 29) (y:=.tmp 27) (a:=(Addr.add q5 2)) (v:=(Sl3.v s9)) (by kernel_rfl) (by kernel_rfl) (by kernel_rfl) (by kernel_rfl) (by kernel_rfl) hx) (DA.dn (WS.nxt ?_)))
    obtain ⟨H12,hx,h⟩:=bind_some h
    refine WS.sq ?_
    refine WS.join ([]) ([some (91,[(Value.int .i64 a1_0),(Value.int .i64 a1_1),(Value.int .i64 a1_2),(Value.bool a1_3)])]) H12 ?_ (fun a w hs=>WS.nxt ?_ a w hs)
    ·clear h; rename _=>h
     refine WS.sq (WS.rg (RS.mS 3 [kB 32 (!a1_3),kB 31 a1_3,kL 30 0 3] (RS.dn (WS.nxt ?_))))
     rcases z9 h with ⟨hp,h⟩ | ⟨hp,h⟩
     ·refine WS.fx 32 false (nb_not hp) (WS.cF (WS.sk ?_))
      cases h
      exact fun a w hs=>(jsN (hs.sb 1))
     ·refine WS.fx 32 true (z34 hp) (WS.cT (WS.rg (RS.mS 8 [kA 40 #[(Value.int .i64 0),(Value.int .i64 a1_2),(Value.int .i64 0),(Value.int .i64 0),(Value.bool false)],kI 39 a1_2,kL 38 0 2,kI 37 a1_1,kL 36 0 1,kI 35 a1_0,kL 34 0 0,kP 33 q5] ?_)))
      obtain ⟨H13,hx,h⟩:=bind_some h
      refine RS.cl (some 41) (v:=(Value.tuple #[])) 58 #[(Value.pointer (some q5)),(Value.int .i64 a1_0),(Value.int .i64 a1_1),(Value.agg #[(Value.int .i64 0),(Value.int .i64 a1_2),(Value.int .i64 0),(Value.int .i64 0),(Value.bool false)])] (z5w hx) (RS.dn ?_)
      cases h
      exact fun a w hs=>(jsN (hs.sb 1))
    ·clear hx
     refine WS.sq (WS.rg (RS.mS 1 [kI 4 0] (RS.dn (WS.nxt (WS.rt ?_)))))
     cases h
     exact fun a w hs=>rtR (rS hs)
 ·refine WS.fx 7 true (z34 hp) (WS.cT (WS.sq (WS.rg (RS.mS 1 [kI 4 4] (RS.dn (WS.nxt (WS.rt ?_)))))))
  cases h
  exact fun a w hs=>sqR (rtR (rS hs))
def z8l:(Int×AH)→Value
 | (r0,_)=>(Value.int .i64 r0)
def z8w (_:AH):(Int×AH)→AH:=fun r=>r.2
noncomputable def B19:Code:=(Tryd.f19.body).getD .skip
noncomputable def z2g (L:LC) (m:Nat) (H:AH) (a0:Option Addr) (a1 a2 a3:Int):Option (Int×AH) :=
 Option.bind (z1y L m H a0 a1 a2 a3 true) fun (x1,H2) =>
 some (x1,H2)
theorem z5v {L:LC} {m:Nat} {H:AH} {a0:Option Addr} {a1 a2 a3:Int} {r:(Int×AH)} (h:z2g L m H a0 a1 a2 a3=some r) :
  CallS Tryd.prog (NE.plain 1000) m 19 #[(Value.pointer a0),(Value.int .i64 a1),(Value.int .i64 a2),(Value.int .i64 a3)] H (z8l r) (z8w H r):=by
 refine CallS.mk (args:=[(Value.pointer a0),(Value.int .i64 a1),(Value.int .i64 a2),(Value.int .i64 a3)]) Tryd.func19 (B:=B19) (by kernel_rfl) (fun E _=>?_)
 unfold z2g at h
 refine WS.sq (WS.rg (RS.mS 1 [kI 8 0] (RS.dn (WS.nxt (WS.sq (WS.rg (RS.mS 5 [kA 13 #[(Value.int .i64 a1),(Value.int .i64 a2),(Value.int .i64 a3),(Value.bool true)],kI 12 a3,kI 11 a2,kI 10 a1,(9,.val (Value.pointer a0))] ?_)))))))
 obtain ⟨⟨x1,H2⟩,hx,h⟩:=bind_some h
 try dsimp only at h
 refine RS.cl (some 14) (v:=(Value.int .i64 x1)) 43 #[(Value.pointer a0),(Value.agg #[(Value.int .i64 a1),(Value.int .i64 a2),(Value.int .i64 a3),(Value.bool true)])] (z6g hx) (RS.mS 1 [kI 8 x1] (RS.dn (WS.nxt (WS.rt ?_))))
 cases h
 exact fun a w hs=>rtR (rS hs)
def z8o:(Int×AH)→Value
 | (r0,_)=>(Value.int .i64 r0)
def z99 (_:AH):(Int×AH)→AH:=fun r=>r.2
noncomputable def B20:Code:=(Tryd.f20.body).getD .skip
noncomputable def z2f (L:LC) (m:Nat) (H:AH) (a0:Option Addr) (a1 a2 a3:Int):Option (Int×AH) :=
 Option.bind (z1y L m H a0 a1 a2 a3 false) fun (x1,H2) =>
 some (x1,H2)
theorem z5j {L:LC} {m:Nat} {H:AH} {a0:Option Addr} {a1 a2 a3:Int} {r:(Int×AH)} (h:z2f L m H a0 a1 a2 a3=some r) :
  CallS Tryd.prog (NE.plain 1000) m 20 #[(Value.pointer a0),(Value.int .i64 a1),(Value.int .i64 a2),(Value.int .i64 a3)] H (z8o r) (z99 H r):=by
 refine CallS.mk (args:=[(Value.pointer a0),(Value.int .i64 a1),(Value.int .i64 a2),(Value.int .i64 a3)]) Tryd.func20 (B:=B20) (by kernel_rfl) (fun E _=>?_)
 unfold z2f at h
 refine WS.sq (WS.rg (RS.mS 1 [kI 8 0] (RS.dn (WS.nxt (WS.sq (WS.rg (RS.mS 5 [kA 13 #[(Value.int .i64 a1),(Value.int .i64 a2),(Value.int .i64 a3),(Value.bool false)],kI 12 a3,kI 11 a2,kI 10 a1,(9,.val (Value.pointer a0))] ?_)))))))
 obtain ⟨⟨x1,H2⟩,hx,h⟩:=bind_some h
 try dsimp only at h
 refine RS.cl (some 14) (v:=(Value.int .i64 x1)) 43 #[(Value.pointer a0),(Value.agg #[(Value.int .i64 a1),(Value.int .i64 a2),(Value.int .i64 a3),(Value.bool false)])] (z6g hx) (RS.mS 1 [kI 8 x1] (RS.dn (WS.nxt (WS.rt ?_))))
 cases h
 exact fun a w hs=>rtR (rS hs)
def zab:Int→Value
 | r0=>(Value.int .i64 r0)
def zb5 (H:AH):Int→AH:=fun _=>H
noncomputable def B21:Code:=(Tryd.f21.body).getD .skip
noncomputable def z2d (L:LC) (H:AH) (a0:Option Addr):Option Int :=
 Option.bind (z1f L H a0) fun x1 =>
 if x1=true then
  Option.bind a0 fun q2 =>
  Option.bind (rd deSl H (Addr.add q2 0)) fun x3 =>
  some (x3.n:Int)
 else
  some 0
theorem z43 {L:LC} {m:Nat} {H:AH} {a0:Option Addr} {r:Int} (h:z2d L H a0=some r) :
  CallS Tryd.prog (NE.plain 1000) m 21 #[(Value.pointer a0)] H (zab r) (zb5 H r):=by
 refine CallS.mk (args:=[(Value.pointer a0)]) Tryd.func21 (B:=B21) (by kernel_rfl) (fun E _=>?_)
 unfold z2d at h
 refine WS.sq (WS.rg (RS.mS 1 [kI 2 0] (RS.dn (WS.nxt (WS.sq (WS.sq (WS.rg (RS.mS 1 [(3,.val (Value.pointer a0))] ?_))))))))
 obtain ⟨x1,hx,h⟩:=bind_some h
 refine RS.cl (some 4) (v:=(Value.bool x1)) 38 #[(Value.pointer a0)] (z1z hx) (RS.mS 1 [kB 5 (!x1)] (RS.dn (WS.nxt ?_)))
 rcases z9 h with ⟨hp,h⟩ | ⟨hp,h⟩
 ·refine WS.fx 5 false (nb_not hp) (WS.cF (WS.sk (WS.nxt (WS.sq (WS.rg (RS.mS 1 [(6,.val (Value.pointer a0))] ?_))))))
  obtain ⟨q2,hx,hq2⟩:=bind_some h
  subst hx
  have h:=hq2
  refine RS.mS 2 [(8,.val (Value.pointer (some (Addr.add q2 0)))),kP 7 q2] ?_
  obtain ⟨x3,hx,h⟩:=bind_some h
  refine RS.ld 9 57 (.tmp 8) (z0 hx zb) (RS.mS 2 [kI 2 (x3.n:Int),kI 10 (x3.n:Int)] (RS.dn (WS.nxt (WS.rt ?_))))
  cases h
  exact fun a w hs=>rtR (rS hs)
 ·refine WS.fx 5 true (z34 hp) (WS.cT (WS.sq (WS.rg (RS.mS 1 [kI 2 0] (RS.dn (WS.nxt (WS.rt ?_)))))))
  cases h
  exact fun a w hs=>sqR (rtR (rS hs))
end Go.Proofs.YtgkhbmoidenjaaaDoor
namespace Go.Proofs.YtgkhbmoidenjaaaDoor
open Go Go.Abs
set_option maxRecDepth 100000
def z2m:(Int×Int×Int×Bool×Bool)→Value
 | (r0,r1,r2,r3,r4)=>(Value.tuple #[(Value.agg #[(Value.int .i64 r0),(Value.int .i64 r1),(Value.int .i64 r2),(Value.bool r3)]),(Value.bool r4)])
def z2s (H:AH):(Int×Int×Int×Bool×Bool)→AH:=fun _=>H
noncomputable def B44:Code:=(Tryd.f44.body).getD .skip
noncomputable def zj (_L:LC) (H:AH) (q1:Addr) (x2:Sl3):(Int×Int×Int×Int×Bool)→Option (Lp (Int×Int×Int×Int×Bool) (Int×Int×Int×Bool×Bool)):=fun (v13_3,w0_4,w0_5,w0_6,w0_7) =>
 if v13_3<(x2.n:Int) then
  Option.bind (idxA 4 x2 v13_3) fun p8 =>
  Option.bind (rd (deI .i64) H (Addr.add p8 0)) fun x9_0 =>
  Option.bind (rd (deI .i64) H (Addr.add p8 1)) fun x9_1 =>
  Option.bind (rd (deI .i64) H (Addr.add p8 2)) fun x9_2 =>
  Option.bind (rd deB H (Addr.add p8 3)) fun x9_3 =>
  Option.bind (α:=Bool) (
   if x9_3=true then
    Option.bind (rd deSl H (Addr.add q1 4)) fun x11 =>
    Option.bind (idxA 1 x11 x9_0) fun p12 =>
    Option.bind (rd (deI .i64) H p12) fun x13 =>
    Option.bind (rd deSl H (Addr.add q1 4)) fun x14 =>
    Option.bind (idxA 1 x14 x9_1) fun p15 =>
    Option.bind (rd (deI .i64) H p15) fun x16 =>
    some (decide (x13=x16))
   else
    some false) fun v37_10 =>
  if v37_10=true then
   some (.ret (x9_0,x9_1,x9_2,x9_3,true))
  else
   some (.next ((IntKind.i64.wrap (v13_3+1)),w0_4,w0_5,w0_6,w0_7))
 else
  some (.brk (v13_3,w0_4,w0_5,w0_6,w0_7))
def z5e (_L:LC) (_H:AH) (q1:Addr) (x2:Sl3):(Int×Int×Int×Int×Bool)→KN×Lcs:=fun (v13_3,w0_4,w0_5,w0_6,w0_7)=>([kI 13 v13_3,kP 0 q1,kL 2 0 0,kS 11 x2,kI 12 (x2.n:Int)],[some (91,[(Value.int .i64 w0_4),(Value.int .i64 w0_5),(Value.int .i64 w0_6),(Value.bool w0_7)])])
noncomputable def zk (_L:LC) (H:AH) (q1:Addr) (x22:Sl3):(Int×Int×Int×Int×Bool)→Option (Lp (Int×Int×Int×Int×Bool) (Int×Int×Int×Bool×Bool)):=fun (v45_23,w0_24,w0_25,w0_26,w0_27) =>
 if v45_23<(x22.n:Int) then
  Option.bind (idxA 1 x22 v45_23) fun p28 =>
  Option.bind (rd deP H p28) fun x29 =>
  Option.bind (α:=Bool) (
   Option.bind x29 fun q31 =>
   Option.bind (rd deSl H (Addr.add q31 2)) fun x32 =>
   if (x32.n:Int) > 1 then
    Option.bind (rd deSl H (Addr.add q1 4)) fun x33 =>
    Option.bind (rd deSl H (Addr.add q31 2)) fun x34 =>
    Option.bind (idxA 1 x34 0) fun p35 =>
    Option.bind (rd (deI .i64) H p35) fun x36 =>
    Option.bind (idxA 1 x33 x36) fun p37 =>
    Option.bind (rd (deI .i64) H p37) fun x38 =>
    some (decide (x38=v45_23))
   else
    some false) fun v71_30 =>
  if v71_30=true then
   Option.bind x29 fun q39 =>
   Option.bind (rd deSl H (Addr.add q39 2)) fun x40 =>
   Option.bind (idxA 1 x40 0) fun p41 =>
   Option.bind (rd (deI .i64) H p41) fun x42 =>
   Option.bind (rd deSl H (Addr.add q39 2)) fun x43 =>
   Option.bind (idxA 1 x43 1) fun p44 =>
   Option.bind (rd (deI .i64) H p44) fun x45 =>
   some (.ret (x42,x45,0,false,true))
  else
   some (.next ((IntKind.i64.wrap (v45_23+1)),w0_24,w0_25,w0_26,w0_27))
 else
  some (.brk (v45_23,w0_24,w0_25,w0_26,w0_27))
def z5f (_L:LC) (_H:AH) (q1:Addr) (x22:Sl3):(Int×Int×Int×Int×Bool)→KN×Lcs:=fun (v45_23,w0_24,w0_25,w0_26,w0_27)=>([kI 45 v45_23,kP 0 q1,kL 2 0 0,kS 43 x22,kI 44 (x22.n:Int)],[some (91,[(Value.int .i64 w0_24),(Value.int .i64 w0_25),(Value.int .i64 w0_26),(Value.bool w0_27)])])
noncomputable def z1t (L:LC) (H:AH) (a0:Option Addr):Option (Int×Int×Int×Bool×Bool) :=
 Option.bind a0 fun q1 =>
 Option.bind (rd deSl H (Addr.add q1 2)) fun x2 =>
 Option.bind (L.run (zj L H q1 x2) (0,0,0,0,false)) fun o=>match o with
 | .inl (_,w0_18,w0_19,w0_20,w0_21) =>
  Option.bind (rd deSl H (Addr.add q1 5)) fun x22 =>
  Option.bind (L.run (zk L H q1 x22) (0,w0_18,w0_19,w0_20,w0_21)) fun o=>match o with
  | .inl (_,_,_,_,_) =>
   some (0,0,0,false,false)
  | .inr r=>some r
 | .inr r=>some r
theorem z3e {E m L H q1 x2} :LoopF Tryd.prog (NE.plain 1000) m E Tryd.f44 ((cfst (csnd (cfst (csnd B44))))) (z5e L H q1 x2) (fun _=>H) 0 z2m (z2s H) (zj L H q1 x2):=by
 rintro ⟨v13_3,w0_4,w0_5,w0_6,w0_7⟩ o h
 unfold zj at h
 try dsimp only at h
 refine WS.sq (WS.rg (RS.mS 1 [kB 14 (decide (v13_3<(x2.n:Int)))] (RS.dn (WS.nxt (WS.sq ?_)))))
 rcases z9 h with ⟨hp,h⟩ | ⟨hp,h⟩
 ·refine WS.fx 14 true (decide_eq_true hp) (WS.cT (WS.sk (WS.nxt (WS.sq (WS.bk 1 (WS.sq (WS.rg ?_)))))))
  obtain ⟨p8,hx,h⟩:=bind_some h
  refine RS.ix 15 59 91 (.tmp 11) (.tmp 13) hx ?_
  obtain ⟨x9_0,hx0,h⟩:=bind_some h
  obtain ⟨x9_1,hx1,h⟩:=bind_some h
  obtain ⟨x9_2,hx2,h⟩:=bind_some h
  obtain ⟨x9_3,hx3,h⟩:=bind_some h
  refine RS.la 16 91 (.tmp 15) 4 (zi (z0 hx0 zd) (zi (z0 hx1 zd) (zi (z0 hx2 zd) (zi (z0 hx3 z4o) z5n)))) (RS.mL 2 [kL 5 1 0] ([some (91,[(Value.int .i64 w0_4),(Value.int .i64 w0_5),(Value.int .i64 w0_6),(Value.bool w0_7)]),some (91,[(Value.int .i64 x9_0),(Value.int .i64 x9_1),(Value.int .i64 x9_2),(Value.bool x9_3)])]) (RS.dn (WS.nxt ?_)))
  obtain ⟨v37_10,hx,h⟩:=bind_some h
  refine WS.sq ?_
  refine WS.join ([kB 37 v37_10,kP 0 q1,kL 2 0 0,kL 5 1 0,kS 11 x2,kI 12 (x2.n:Int),kI 13 v13_3]) ([some (91,[(Value.int .i64 w0_4),(Value.int .i64 w0_5),(Value.int .i64 w0_6),(Value.bool w0_7)]),some (91,[(Value.int .i64 x9_0),(Value.int .i64 x9_1),(Value.int .i64 x9_2),(Value.bool x9_3)])]) H ?_ (fun a w hs=>WS.nxt ?_ a w hs)
  ·clear h; rename _=>h
   refine WS.dr [0,1,2,3,4,5,6,7,8,9,10,11,12,13,14,15,16,17,18] [0,1,3,7,15,31,63,7,135,511,1023,7,2055,6151,14343,7,32775,129031,260103,524287,1048575] 21 (fun hcl=>?_)
   refine DA.tL 0 (some 17) (.loc 1 3) (DA.tL 1 (some 18) (.val (Value.bool x9_3)) (DA.tK 2 (some 19) (Value.bool x9_3) ?_))
   rcases z9 h with ⟨hp,h⟩ | ⟨hp,h⟩
   ·refine DA.fx 19 true hp (DA.tK 3 (some 20) (Value.pointer (some q1)) (DA.tK 4 (some 21) (Value.pointer (some q1)) (DA.tK 5 (some 22) (Value.pointer (some (Addr.add q1 4))) ?_)))
    obtain ⟨x11,hx,h⟩:=bind_some h
    refine DA.tD 6 (some 23) (Sl3.v x11) (Abs.det_load (t:=27) (x:=.tmp 22) (a:=(Addr.add q1 4)) (by kernel_rfl) (by kernel_rfl) (by kernel_rfl) (by kernel_rfl) (z0 hx zb)) (DA.tL 7 (some 24) (.loc 1 0) (DA.tL 8 (some 25) (.val (Value.int .i64 x9_0)) ?_))
    obtain ⟨p12,hx,h⟩:=bind_some h
    refine DA.tD 9 (some 26) (Value.pointer (some p12)) (Abs.det_idx (s:=x11) (k:=.i64) (t:=27) (e:=3) (x:=.tmp 23) (y:=.tmp 25) (by kernel_rfl) (by kernel_rfl) (by kernel_rfl) (by kernel_rfl) (by kernel_rfl) hx) ?_
    obtain ⟨x13,hx,h⟩:=bind_some h
    refine DA.tD 10 (some 27) (Value.int .i64 x13) (Abs.det_load (t:=3) (x:=.tmp 26) (a:=p12) (by kernel_rfl) (by kernel_rfl) (by kernel_rfl) (by kernel_rfl) (z0 hx zd)) (DA.tK 11 (some 28) (Value.pointer (some q1)) (DA.tK 12 (some 29) (Value.pointer (some q1)) (DA.tK 13 (some 30) (Value.pointer (some (Addr.add q1 4))) ?_)))
    obtain ⟨x14,hx,h⟩:=bind_some h
    refine DA.tD 14 (some 31) (Sl3.v x14) (Abs.det_load (t:=27) (x:=.tmp 30) (a:=(Addr.add q1 4)) (by kernel_rfl) (by kernel_rfl) (by kernel_rfl) (by kernel_rfl) (z0 hx zb)) (DA.tL 15 (some 32) (.loc 1 1) (DA.tL 16 (some 33) (.val (Value.int .i64 x9_1)) ?_))
    obtain ⟨p15,hx,h⟩:=bind_some h
    refine DA.tD 17 (some 34) (Value.pointer (some p15)) (Abs.det_idx (s:=x14) (k:=.i64) (t:=27) (e:=3) (x:=.tmp 31) (y:=.tmp 33) (by kernel_rfl) (by kernel_rfl) (by kernel_rfl) (by kernel_rfl) (by kernel_rfl) hx) ?_
    obtain ⟨x16,hx,h⟩:=bind_some h
    refine DA.tD 18 (some 35) (Value.int .i64 x16) (Abs.det_load (t:=3) (x:=.tmp 34) (a:=p15) (by kernel_rfl) (by kernel_rfl) (by kernel_rfl) (by kernel_rfl) (z0 hx zd)) (DA.tP 19 (some 36) (Value.bool (decide (x13=x16))) (DA.tP 20 (some 37) (Value.bool (decide (x13=x16))) (DA.dn ?_)))
    cases h
    exact fun a w hs=>(jsN (hs.sb 2))
   ·refine DA.fx 19 false (b_not hp) ?_
    refine DA.tskipD 3 (some 20) (by kernel_rfl) (by kernel_rfl) (by kernel_rfl) hcl (fun _ _ _ h=>h) (by kernel_rfl) ?_
    refine DA.tskipD 4 (some 21) (by kernel_rfl) (by kernel_rfl) (by kernel_rfl) hcl (fun _ _ _ h=>h) (by kernel_rfl) ?_
    refine DA.tskipD 5 (some 22) (by kernel_rfl) (by kernel_rfl) (by kernel_rfl) hcl (fun _ _ _ h=>h) (by kernel_rfl) ?_
    refine DA.tskipD 6 (some 23) (by kernel_rfl) (by kernel_rfl) (by kernel_rfl) hcl (fun _ _ _ h=>h) (by kernel_rfl) ?_
    refine DA.tskipD 7 (some 24) (by kernel_rfl) (by kernel_rfl) (by kernel_rfl) hcl (fun _ _ _ h=>h) (by kernel_rfl) ?_
    refine DA.tskipD 8 (some 25) (by kernel_rfl) (by kernel_rfl) (by kernel_rfl) hcl (fun _ _ _ h=>h) (by kernel_rfl) ?_
    refine DA.tskipD 9 (some 26) (by kernel_rfl) (by kernel_rfl) (by kernel_rfl) hcl (fun _ _ _ h=>h) (by kernel_rfl) ?_
    refine DA.tskipD 10 (some 27) (by kernel_rfl) (by kernel_rfl) (by kernel_rfl) hcl (fun _ _ _ h=>h) (by kernel_rfl) ?_
    refine DA.tskipD 11 (some 28) (by kernel_rfl) (by kernel_rfl) (by kernel_rfl) hcl (fun _ _ _ h=>h) (by kernel_rfl) ?_
    refine DA.tskipD 12 (some 29) (by kernel_rfl) (by kernel_rfl) (by kernel_rfl) hcl (fun _ _ _ h=>h) (by kernel_rfl) ?_
    refine DA.tskipD 13 (some 30) (by kernel_rfl) (by kernel_rfl) (by kernel_rfl) hcl (fun _ _ _ h=>h) (by kernel_rfl) ?_
    refine DA.tskipD 14 (some 31) (by kernel_rfl) (by kernel_rfl) (by kernel_rfl) hcl (fun _ _ _ h=>h) (by kernel_rfl) ?_
    refine DA.tskipD 15 (some 32) (by kernel_rfl) (by kernel_rfl) (by kernel_rfl) hcl (fun _ _ _ h=>h) (by kernel_rfl) ?_
    refine DA.tskipD 16 (some 33) (by kernel_rfl) (by kernel_rfl) (by kernel_rfl) hcl (fun _ _ _ h=>h) (by kernel_rfl) ?_
    refine DA.tskipD 17 (some 34) (by kernel_rfl) (by kernel_rfl) (by kernel_rfl) hcl (fun _ _ _ h=>h) (by kernel_rfl) ?_
    refine DA.tskipD 18 (some 35) (by kernel_rfl) (by kernel_rfl) (by kernel_rfl) hcl (fun _ _ _ h=>h) (by kernel_rfl) ?_
    refine DA.tskipP 19 (some 36) (by kernel_rfl) (by kernel_rfl) (by kernel_rfl) hcl (fun _ _ _ h=>h) (by kernel_rfl) ?_
    refine DA.tP 20 (some 37) (Value.bool false) (DA.dn ?_)
    cases h
    exact fun a w hs=>(jsN (hs.sb 2))
  ·clear hx
   rcases z9 h with ⟨hp,h⟩ | ⟨hp,h⟩
   ·refine WS.fx 37 true hp (WS.cT (WS.sq (WS.rg (RS.mL 3 [kB 3 true,kA 38 #[(Value.int .i64 x9_0),(Value.int .i64 x9_1),(Value.int .i64 x9_2),(Value.bool x9_3)]] ([some (91,[(Value.int .i64 x9_0),(Value.int .i64 x9_1),(Value.int .i64 x9_2),(Value.bool x9_3)]),some (91,[(Value.int .i64 x9_0),(Value.int .i64 x9_1),(Value.int .i64 x9_2),(Value.bool x9_3)])]) (RS.dn (WS.nxt (WS.rt ?_)))))))
    cases h
    exact fun a w hs=>bkR (sqR (lsR rfl (rS hs)))
   ·refine WS.fx 37 false (b_not hp) (WS.cF (WS.sk ?_))
    refine fun a w hs=>bkN ((WS.nxt ?_ a w hs))
    refine WS.rg (RS.mS 2 [kI 13 (IntKind.i64.wrap (v13_3+1)),kI 39 (IntKind.i64.wrap (v13_3+1))] (RS.dn ?_))
    cases h
    exact fun a w hs=>lsN rfl (hs.sb 1)
 ·refine WS.fx 14 false (decide_eq_false hp) (WS.cF (WS.ex 0 ?_))
  cases h
  exact fun a w hs=>sqE (lsB rfl (hs.sb 1))
theorem z3d {E m L H q1 x22} :LoopF Tryd.prog (NE.plain 1000) m E Tryd.f44 ((cfst (csnd (cfst (csnd (csnd B44)))))) (z5f L H q1 x22) (fun _=>H) 2 z2m (z2s H) (zk L H q1 x22):=by
 rintro ⟨v45_23,w0_24,w0_25,w0_26,w0_27⟩ o h
 unfold zk at h
 try dsimp only at h
 refine WS.sq (WS.rg (RS.mS 1 [kB 46 (decide (v45_23<(x22.n:Int)))] (RS.dn (WS.nxt (WS.sq ?_)))))
 rcases z9 h with ⟨hp,h⟩ | ⟨hp,h⟩
 ·refine WS.fx 46 true (decide_eq_true hp) (WS.cT (WS.sk (WS.nxt (WS.sq (WS.bk 3 (WS.sq (WS.rg (RS.mS 1 [kI 47 v45_23] ?_))))))))
  obtain ⟨p28,hx,h⟩:=bind_some h
  refine RS.ix 48 60 79 (.tmp 43) (.tmp 45) hx ?_
  obtain ⟨x29,hx,h⟩:=bind_some h
  refine RS.ld 49 79 (.tmp 48) (z0 hx z3h) (RS.mS 2 [(7,.val (Value.pointer x29)),kI 6 v45_23] (RS.dn (WS.nxt ?_)))
  obtain ⟨v71_30,hx,h⟩:=bind_some h
  refine WS.sq ?_
  refine WS.join ([kB 71 v71_30,kP 0 q1,kL 2 0 0,(7,.val (Value.pointer x29)),kS 43 x22,kI 44 (x22.n:Int),kI 45 v45_23]) ([some (91,[(Value.int .i64 w0_24),(Value.int .i64 w0_25),(Value.int .i64 w0_26),(Value.bool w0_27)])]) H ?_ (fun a w hs=>WS.nxt ?_ a w hs)
  ·clear h; rename _=>h
   refine WS.dr [0,1,2,3,4,5,6,7,8,9,10,11,12,13,14,15,16,17,18] [0,1,3,7,15,31,63,127,255,511,1023,127,2175,6271,14463,30847,63615,131071,262143,127,1048575,2097151] 22 (fun hcl=>?_)
   refine DA.tK 0 (some 50) (Value.pointer x29) ?_
   obtain ⟨q31,hx,hq31⟩:=bind_some h
   subst hx
   have h:=hq31
   refine DA.tK 1 (some 51) (Value.pointer (some q31)) (DA.tK 2 (some 52) (Value.pointer (some (Addr.add q31 2))) ?_)
   obtain ⟨x32,hx,h⟩:=bind_some h
   refine DA.tD 3 (some 53) (Sl3.v x32) (Abs.det_load (t:=27) (x:=.tmp 52) (a:=(Addr.add q31 2)) (by kernel_rfl) (by kernel_rfl) (by kernel_rfl) (by kernel_rfl) (z0 hx zb)) (DA.tK 4 (some 54) (Value.int .i64 (x32.n:Int)) (DA.tK 5 (some 55) (Value.bool (decide ((x32.n:Int) > 1))) (DA.tK 6 (some 56) (Value.bool (decide ((x32.n:Int) > 1))) ?_)))
   rcases z9 h with ⟨hp,h⟩ | ⟨hp,h⟩
   ·refine DA.fx 56 true (decide_eq_true hp) (DA.tK 7 (some 57) (Value.pointer (some q1)) (DA.tK 8 (some 58) (Value.pointer (some q1)) (DA.tK 9 (some 59) (Value.pointer (some (Addr.add q1 4))) ?_)))
    obtain ⟨x33,hx,h⟩:=bind_some h
    refine DA.tD 10 (some 60) (Sl3.v x33) (Abs.det_load (t:=27) (x:=.tmp 59) (a:=(Addr.add q1 4)) (by kernel_rfl) (by kernel_rfl) (by kernel_rfl) (by kernel_rfl) (z0 hx zb)) (DA.tK 11 (some 61) (Value.pointer (some q31)) (DA.tK 12 (some 62) (Value.pointer (some q31)) (DA.tK 13 (some 63) (Value.pointer (some (Addr.add q31 2))) ?_)))
    obtain ⟨x34,hx,h⟩:=bind_some h
    refine DA.tD 14 (some 64) (Sl3.v x34) (Abs.det_load (t:=27) (x:=.tmp 63) (a:=(Addr.add q31 2)) (by kernel_rfl) (by kernel_rfl) (by kernel_rfl) (by kernel_rfl) (z0 hx zb)) ?_
    obtain ⟨p35,hx,h⟩:=bind_some h
    refine DA.tD 15 (some 65) (Value.pointer (some p35)) (Abs.det_idx (s:=x34) (k:=.i64) (t:=27) (e:=3) (x:=.tmp 64) (y:=.const (Value.int .i64 0)) (by kernel_rfl) (by kernel_rfl) (by kernel_rfl) (by kernel_rfl) (by kernel_rfl) hx) ?_
    obtain ⟨x36,hx,h⟩:=bind_some h
    refine DA.tD 16 (some 66) (Value.int .i64 x36) (Abs.det_load (t:=3) (x:=.tmp 65) (a:=p35) (by kernel_rfl) (by kernel_rfl) (by kernel_rfl) (by kernel_rfl) (z0 hx zd)) ?_
    obtain ⟨p37,hx,h⟩:=bind_some h
    refine DA.tD 17 (some 67) (Value.pointer (some p37)) (Abs.det_idx (s:=x33) (k:=.i64) (t:=27) (e:=3) (x:=.tmp 60) (y:=.tmp 66) (by kernel_rfl) (by kernel_rfl) (by kernel_rfl) (by kernel_rfl) (by kernel_rfl) hx) ?_
    obtain ⟨x38,hx,h⟩:=bind_some h
    refine DA.tD 18 (some 68) (Value.int .i64 x38) (Abs.det_load (t:=3) (x:=.tmp 67) (a:=p37) (by kernel_rfl) (by kernel_rfl) (by kernel_rfl) (by kernel_rfl) (z0 hx zd)) (DA.tP 19 (some 69) (Value.int .i64 v45_23) (DA.tP 20 (some 70) (Value.bool (decide (x38=v45_23))) (DA.tP 21 (some 71) (Value.bool (decide (x38=v45_23))) (DA.dn ?_))))
    cases h
    exact fun a w hs=>(jsN (hs.sb 1))
   ·refine DA.fx 56 false (decide_eq_false hp) ?_
    refine DA.tskipD 7 (some 57) (by kernel_rfl) (by kernel_rfl) (by kernel_rfl) hcl (fun _ _ _ h=>h) (by kernel_rfl) ?_
    refine DA.tskipD 8 (some 58) (by kernel_rfl) (by kernel_rfl) (by kernel_rfl) hcl (fun _ _ _ h=>h) (by kernel_rfl) ?_
    refine DA.tskipD 9 (some 59) (by kernel_rfl) (by kernel_rfl) (by kernel_rfl) hcl (fun _ _ _ h=>h) (by kernel_rfl) ?_
    refine DA.tskipD 10 (some 60) (by kernel_rfl) (by kernel_rfl) (by kernel_rfl) hcl (fun _ _ _ h=>h) (by kernel_rfl) ?_
    refine DA.tskipD 11 (some 61) (by kernel_rfl) (by kernel_rfl) (by kernel_rfl) hcl (fun _ _ _ h=>h) (by kernel_rfl) ?_
    refine DA.tskipD 12 (some 62) (by kernel_rfl) (by kernel_rfl) (by kernel_rfl) hcl (fun _ _ _ h=>h) (by kernel_rfl) ?_
    refine DA.tskipD 13 (some 63) (by kernel_rfl) (by kernel_rfl) (by kernel_rfl) hcl (fun _ _ _ h=>h) (by kernel_rfl) ?_
    refine DA.tskipD 14 (some 64) (by kernel_rfl) (by kernel_rfl) (by kernel_rfl) hcl (fun _ _ _ h=>h) (by kernel_rfl) ?_
    refine DA.tskipD 15 (some 65) (by kernel_rfl) (by kernel_rfl) (by kernel_rfl) hcl (fun _ _ _ h=>h) (by kernel_rfl) ?_
    refine DA.tskipD 16 (some 66) (by kernel_rfl) (by kernel_rfl) (by kernel_rfl) hcl (fun _ _ _ h=>h) (by kernel_rfl) ?_
    refine DA.tskipD 17 (some 67) (by kernel_rfl) (by kernel_rfl) (by kernel_rfl) hcl (fun _ _ _ h=>h) (by kernel_rfl) ?_
    refine DA.tskipD 18 (some 68) (by kernel_rfl) (by kernel_rfl) (by kernel_rfl) hcl (fun _ _ _ h=>h) (by kernel_rfl) ?_
    refine DA.tskipP 19 (some 69) (by kernel_rfl) (by kernel_rfl) (by kernel_rfl) hcl (fun _ _ _ h=>h) (by kernel_rfl) ?_
    refine DA.tskipP 20 (some 70) (by kernel_rfl) (by kernel_rfl) (by kernel_rfl) hcl (fun _ _ _ h=>h) (by kernel_rfl) ?_
    refine DA.tP 21 (some 71) (Value.bool false) (DA.dn ?_)
    cases h
    exact fun a w hs=>(jsN (hs.sb 1))
  ·clear hx
   rcases z9 h with ⟨hp,h⟩ | ⟨hp,h⟩
   ·refine WS.fx 71 true hp (WS.cT (WS.sq ?_))
    refine WS.dr [0,1,2,3,4,5,6,7,8,9,10,11] [0,1,3,7,15,31,0,64,192,448,960,1984,4095,8191,16383] 15 (fun hcl=>?_)
    refine DA.tK 0 (some 72) (Value.pointer x29) ?_
    obtain ⟨q39,hx,hq39⟩:=bind_some h
    subst hx
    have h:=hq39
    refine DA.tK 1 (some 73) (Value.pointer (some q39)) (DA.tK 2 (some 74) (Value.pointer (some (Addr.add q39 2))) ?_)
    obtain ⟨x40,hx,h⟩:=bind_some h
    refine DA.tD 3 (some 75) (Sl3.v x40) (Abs.det_load (t:=27) (x:=.tmp 74) (a:=(Addr.add q39 2)) (by kernel_rfl) (by kernel_rfl) (by kernel_rfl) (by kernel_rfl) (z0 hx zb)) ?_
    obtain ⟨p41,hx,h⟩:=bind_some h
    refine DA.tD 4 (some 76) (Value.pointer (some p41)) (Abs.det_idx (s:=x40) (k:=.i64) (t:=27) (e:=3) (x:=.tmp 75) (y:=.const (Value.int .i64 0)) (by kernel_rfl) (by kernel_rfl) (by kernel_rfl) (by kernel_rfl) (by kernel_rfl) hx) ?_
    obtain ⟨x42,hx,h⟩:=bind_some h
    refine DA.tD 5 (some 77) (Value.int .i64 x42) (Abs.det_load (t:=3) (x:=.tmp 76) (a:=p41) (by kernel_rfl) (by kernel_rfl) (by kernel_rfl) (by kernel_rfl) (z0 hx zd)) (DA.tK 6 (some 78) (Value.pointer (some q39)) (DA.tK 7 (some 79) (Value.pointer (some q39)) (DA.tK 8 (some 80) (Value.pointer (some (Addr.add q39 2))) ?_)))
    obtain ⟨x43,hx,h⟩:=bind_some h
    refine DA.tD 9 (some 81) (Sl3.v x43) (Abs.det_load (t:=27) (x:=.tmp 80) (a:=(Addr.add q39 2)) (by kernel_rfl) (by kernel_rfl) (by kernel_rfl) (by kernel_rfl) (z0 hx zb)) ?_
    obtain ⟨p44,hx,h⟩:=bind_some h
    refine DA.tD 10 (some 82) (Value.pointer (some p44)) (Abs.det_idx (s:=x43) (k:=.i64) (t:=27) (e:=3) (x:=.tmp 81) (y:=.const (Value.int .i64 1)) (by kernel_rfl) (by kernel_rfl) (by kernel_rfl) (by kernel_rfl) (by kernel_rfl) hx) ?_
    obtain ⟨x45,hx,h⟩:=bind_some h
    refine DA.tD 11 (some 83) (Value.int .i64 x45) (Abs.det_load (t:=3) (x:=.tmp 82) (a:=p44) (by kernel_rfl) (by kernel_rfl) (by kernel_rfl) (by kernel_rfl) (z0 hx zd)) (DA.tP 12 (some 84) (Value.agg #[(Value.int .i64 x42),(Value.int .i64 x45),(Value.int .i64 0),(Value.bool false)]) (DA.on 13 (DA.aL 13 none (.val undef) ([some (91,[(Value.int .i64 x42),(Value.int .i64 x45),(Value.int .i64 0),(Value.bool false)])]) false (DA.tP 14 (some 3) (Value.bool true) (DA.dn (WS.nxt (WS.rt ?_)))))))
    cases h
    exact fun a w hs=>bkR (sqR (lsR rfl (rS hs)))
   ·refine WS.fx 71 false (b_not hp) (WS.cF (WS.sk ?_))
    refine fun a w hs=>bkN ((WS.nxt ?_ a w hs))
    refine WS.rg (RS.mS 2 [kI 45 (IntKind.i64.wrap (v45_23+1)),kI 85 (IntKind.i64.wrap (v45_23+1))] (RS.dn ?_))
    cases h
    exact fun a w hs=>lsN rfl (hs.sb 1)
 ·refine WS.fx 46 false (decide_eq_false hp) (WS.cF (WS.ex 2 ?_))
  cases h
  exact fun a w hs=>sqE (lsB rfl (hs.sb 1))
theorem z6b {L:LC} {m:Nat} {H:AH} {a0:Option Addr} {r:(Int×Int×Int×Bool×Bool)} (h:z1t L H a0=some r) :
  CallS Tryd.prog (NE.plain 1000) m 44 #[(Value.pointer a0)] H (z2m r) (z2s H r):=by
 refine CallS.mk (args:=[(Value.pointer a0)]) Tryd.func44 (B:=B44) (by kernel_rfl) (fun E _=>?_)
 unfold z1t at h
 refine WS.sq (WS.rg (RS.mL 2 [kB 3 false,kL 2 0 0] ([some (91,[(Value.int .i64 0),(Value.int .i64 0),(Value.int .i64 0),(Value.bool false)])]) (RS.dn (WS.nxt (WS.sq (WS.sq (WS.rg (RS.mS 1 [(8,.val (Value.pointer a0))] ?_))))))))
 obtain ⟨q1,hx,hq1⟩:=bind_some h
 subst hx
 have h:=hq1
 refine RS.mS 2 [(10,.val (Value.pointer (some (Addr.add q1 2)))),kP 9 q1] ?_
 obtain ⟨x2,hx,h⟩:=bind_some h
 refine RS.ld 11 59 (.tmp 10) (z0 hx zb) (RS.mS 2 [kI 13 0,kI 12 (x2.n:Int)] (RS.dn (WS.nxt (WS.bk 0 ?_))))
 obtain ⟨o,hl,h⟩:=bind_some h
 rcases o with ⟨v13_17,w0_18,w0_19,w0_20,w0_21⟩ | r
 ·try dsimp only at h
  refine WS.lI (z3e (L:=L) (E:=E) (m:=m) (H:=H)) (L.ok hl) 1 ?_
  clear hl
  refine fun a w hs=>bkE ((WS.nxt ?_ a w hs))
  refine WS.sq (WS.sq (WS.rg (RS.mS 3 [(42,.val (Value.pointer (some (Addr.add q1 5)))),kP 41 q1,kP 40 q1] ?_)))
  obtain ⟨x22,hx,h⟩:=bind_some h
  refine RS.ld 43 60 (.tmp 42) (z0 hx zb) (RS.mS 2 [kI 45 0,kI 44 (x22.n:Int)] (RS.dn (WS.nxt (WS.bk 2 ?_))))
  obtain ⟨o,hl,h⟩:=bind_some h
  rcases o with ⟨v45_46,w0_47,w0_48,w0_49,w0_50⟩ | r
  ·try dsimp only at h
   refine WS.lI (z3d (L:=L) (E:=E) (m:=m) (H:=H)) (L.ok hl) 1 ?_
   clear hl
   refine fun a w hs=>bkE ((WS.nxt ?_ a w hs))
   refine WS.sq (WS.rg (RS.mL 3 [kB 3 false,kA 86 #[(Value.int .i64 0),(Value.int .i64 0),(Value.int .i64 0),(Value.bool false)]] ([some (91,[(Value.int .i64 0),(Value.int .i64 0),(Value.int .i64 0),(Value.bool false)])]) (RS.dn (WS.nxt (WS.rt ?_)))))
   cases h
   exact fun a w hs=>rtR (rS hs)
  ·try dsimp only at h
   refine WS.lR (z3d (L:=L) (E:=E) (m:=m) (H:=H)) (L.ok hl) 1 ?_
   cases h
   exact fun a w hq=>bkR (sqR (rtR hq))
 ·try dsimp only at h
  refine WS.lR (z3e (L:=L) (E:=E) (m:=m) (H:=H)) (L.ok hl) 1 ?_
  cases h
  exact fun a w hq=>bkR (sqR (rtR hq))
def z8p:Bool→Value
 | r0=>(Value.bool r0)
def z8z (H:AH):Bool→AH:=fun _=>H
noncomputable def B22:Code:=(Tryd.f22.body).getD .skip
noncomputable def z1v (L:LC) (H:AH) (a0:Option Addr):Option Bool :=
 Option.bind (z1f L H a0) fun x1 =>
 if x1=true then
  Option.bind (z1t L H a0) fun (_,_,_,_,x3) =>
  some (!x3)
 else
  some false
theorem z5s {L:LC} {m:Nat} {H:AH} {a0:Option Addr} {r:Bool} (h:z1v L H a0=some r) :
  CallS Tryd.prog (NE.plain 1000) m 22 #[(Value.pointer a0)] H (z8p r) (z8z H r):=by
 refine CallS.mk (args:=[(Value.pointer a0)]) Tryd.func22 (B:=B22) (by kernel_rfl) (fun E _=>?_)
 unfold z1v at h
 refine WS.sq (WS.rg (RS.mS 1 [kB 2 false] (RS.dn (WS.nxt (WS.sq (WS.sq (WS.rg (RS.mS 1 [(5,.val (Value.pointer a0))] ?_))))))))
 obtain ⟨x1,hx,h⟩:=bind_some h
 refine RS.cl (some 6) (v:=(Value.bool x1)) 38 #[(Value.pointer a0)] (z1z hx) (RS.mS 1 [kB 7 (!x1)] (RS.dn (WS.nxt ?_)))
 rcases z9 h with ⟨hp,h⟩ | ⟨hp,h⟩
 ·refine WS.fx 7 false (nb_not hp) (WS.cF (WS.sk (WS.nxt (WS.sq (WS.rg (RS.mS 1 [(9,.val (Value.pointer a0))] ?_))))))
  obtain ⟨⟨x2_0,x2_1,x2_2,x2_3,x3⟩,hx,h⟩:=bind_some h
  try dsimp only at h
  refine RS.cl (some 10) (v:=(Value.tuple #[(Value.agg #[(Value.int .i64 x2_0),(Value.int .i64 x2_1),(Value.int .i64 x2_2),(Value.bool x2_3)]),(Value.bool x3)])) 44 #[(Value.pointer a0)] (z6b hx) (RS.mL 6 [kB 4 x3,kL 3 0 0,kB 12 x3,kA 11 #[(Value.int .i64 x2_0),(Value.int .i64 x2_1),(Value.int .i64 x2_2),(Value.bool x2_3)],(8,.val (Value.tuple #[(Value.agg #[(Value.int .i64 x2_0),(Value.int .i64 x2_1),(Value.int .i64 x2_2),(Value.bool x2_3)]),(Value.bool x3)]))] ([some (91,[(Value.int .i64 x2_0),(Value.int .i64 x2_1),(Value.int .i64 x2_2),(Value.bool x2_3)])]) (RS.dn (WS.nxt (WS.sq (WS.rg (RS.mS 3 [kB 2 (!x3),kB 14 (!x3),kB 13 x3] (RS.dn (WS.nxt (WS.rt ?_)))))))))
  cases h
  exact fun a w hs=>rtR (rS hs)
 ·refine WS.fx 7 true (z34 hp) (WS.cT (WS.sq (WS.rg (RS.mS 1 [kB 2 false] (RS.dn (WS.nxt (WS.rt ?_)))))))
  cases h
  exact fun a w hs=>sqR (rtR (rS hs))
end Go.Proofs.YtgkhbmoidenjaaaDoor
