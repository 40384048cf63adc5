/- SortMore is proved where what it reads is of bulk at most 1048576: it returns true and its arguments read as before. No condition beyond the row's own (five listed tables of Go's library as the text lays them). -/
import Derived.Test.YtccbilfbhecdaaaDoorMo5
namespace Go.Proofs.YtccbilfbhecdaaaDoor
open Go Go.Abs
set_option maxRecDepth 100000
def moreG (g:Sg) (u:ByteArray):Sg:=⟨g.users++[u],g.datas,g.funs⟩
theorem zhf (g:Sg) (u:ByteArray):∀r i,tcD (moreG g u) r i=tcD g r i
 | 0,_=>rfl
 | r+1,i=>by
  have:tcD (moreG g u) r=tcD g r:=funext (zhf g u r)
  show (if h:i<g.datas.length then cD g.datas (tcD (moreG g u) r) (g.datas[i]).cons else none)=(if h:i<g.datas.length then cD g.datas (tcD g r) (g.datas[i]).cons else none)
  rw [this]
theorem zka (g:Sg) (u:ByteArray):Tc (moreG g u)=Tc g:=funext (zhf g u _)
theorem zgh {us:List ByteArray} {u n:ByteArray} (h:hasU us n=true):hasU (us++[u]) n=true:=by
 unfold hasU at h ⊢
 rw [List.any_append,h]; rfl
theorem zdu {us:List ByteArray} {ds:List Dat} {u:ByteArray}:∀{a:Fo},knF us ds a=true→knF (us++[u]) ds a=true
 | .nil,_=>rfl
 | .cons k w n a r,h=>by
  simp only [knF,Bool.and_eq_true] at h ⊢
  refine ⟨?_,zdu h.2⟩
  have h1:=h.1
  by_cases h5:k=5
  ·rw [if_pos h5] at h1 ⊢; exact zgh h1
  ·rw [if_neg h5] at h1 ⊢
   by_cases h6:k=6
   ·rw [if_pos h6] at h1 ⊢; exact h1
   ·rw [if_neg h6] at h1 ⊢; exact zdu h1
theorem zog {us:List ByteArray} {ds:List Dat} {u:ByteArray} {k:Int} {n:ByteArray} {a:Fo} (h:knS us ds k n a=true):knS (us++[u]) ds k n a=true:=by
 unfold knS at h ⊢
 by_cases h5:k=5
 ·rw [if_pos h5] at h ⊢; exact zgh h
 ·rw [if_neg h5] at h ⊢
  by_cases h6:k=6
  ·rw [if_pos h6] at h ⊢; exact h
  ·rw [if_neg h6] at h ⊢; exact zdu h
theorem za8 {g:Sg} {u:ByteArray} {k w:Int} {n:ByteArray} {a:Fo} (h:checkS g k w n a=0):checkS (moreG g u) k w n a=0:=by
 unfold checkS at h ⊢
 split at h
 ·rename_i hw
  rw [if_pos hw]
  split at h
  ·rename_i hk
   rw [if_pos (show knS (moreG g u).users (moreG g u).datas k n a=true from zog hk)]
  ·omega
 ·rename_i hw; exact absurd h hw
theorem zj2 {g:Sg} {u:ByteArray} {k w:Int} {n:ByteArray} {a:Fo} (mo:Int) (h1:sigS g=0) (h2:sigS (moreG g u)=0) (h:checkS g k w n a=0):countS (moreG g u) k w n a mo=countS g k w n a mo:=by
 by_cases h0:mo<1
 ·unfold countS
  rw [if_pos (.inl h0),if_pos (.inl h0)]
 ·rw [zft h0 h1 h,zft h0 h2 (za8 h),zka]
  rfl
theorem zml {g:Sg} {u:ByteArray} {k w:Int} {n:ByteArray} {a:Fo} (h1:sigS g=0) (h2:sigS (moreG g u)=0) (h:checkS g k w n a=0):finS (moreG g u) k w n a=finS g k w n a:=by
 unfold finS
 rw [decide_eq_true (show sigS (moreG g u)=0∧checkS (moreG g u) k w n a=0 from ⟨h2,za8 h⟩),decide_eq_true (show sigS g=0∧checkS g k w n a=0 from ⟨h1,h⟩),zka]
 rfl
theorem zqd {m:Nat} {H:AH} {l:List ByteArray} {s:Sl3} (h:VecA strE 9 m H l s) (hN:l.length≤maxN) (hl:∀x∈l,x.size≤maxS):SlL StrM 1 H s l:=by
 have h1:SlL StrA 1 H s l:=VecA.sl h hN fun x q hx=>by
  have:=hx 0 (.string x) rfl
  rwa [add_zero] at this
 refine ⟨h1.n,h1.2,h1.3,h1.4,LAt.of fun j hj=>?_⟩
 obtain ⟨a,e1,e2⟩:=h1.at_.get j hj
 exact ⟨a,e1,e2,hl _ (List.getElem_mem hj)⟩
theorem zou {H:AH} {l:List ByteArray} {s:Sl3} (h:SlL StrM 1 H s l):∀x∈l,x.size≤maxS:=fun x hx=>by
 obtain ⟨i,hi,rfl⟩:=List.getElem_of_mem hx
 obtain ⟨a,_,e2⟩:=h.at_.get i hi
 exact e2.2
section
variable {H:AH} {s1 s2 s3:Sl3} {g:Sg} {L0 fuel:Nat}
theorem zns (hS:SigA H s1 s2 s3 g) (hU:g.users.length≤1048576) {u:ByteArray} (hu:u.size≤maxS):∃z H3 z5 H5 k6 H7 z8 H9,newR 9 0 #[] H=some (z,H3)∧appS H.next 9 1 16 H3 z s1=some (z5,H5)∧newS 9 [(Value.string u)] H5=some (k6,H7) ∧
  appS H.next 9 1 16 H7 z5 (⟨some ⟨k6,0,none⟩,1,1⟩:Sl3)=some (z8,H9)∧SigA H9 z8 s2 s3 (moreG g u)∧Ext H H9:=by
 have hN:=z2y
 have hp:Ext H (H.push { obj:=.cells #[] 9 (0,0),opn:=false,esz:=0,ro:=false }):=Fm.push _ _ _
 obtain ⟨x1,H1,a1,a2,a3⟩:=VecA.app (E:=strE) (e:=9) (bytes:=16) (l:=[]) (l':=g.users) (m:=H.next) (VecA.zero _ _ _ _ ⟨H.next,0,none⟩ ⟨by simp,rfl⟩) (zju hS.str _ hp) (by simp only [List.length_nil,Nat.zero_add]; omega) (by simp only [List.length_nil,Nat.zero_add]; omega) (by simp)
 rw [List.nil_append] at a2
 obtain ⟨xx,oo⟩:=a3.ext hp fun id h=>absurd h zc9
 have hp2:Ext H1 (H1.push (pubB 9 [.string u])):=Fm.push _ _ _
 have hz:=zh2 (e:=9) (H:=H1) (k:=1) (sz:=1) (cells:=[Value.string u]) rfl rfl
 have a2':VecA strE 9 H.next (H1.push (pubB 9 [.string u])) g.users x1:=VecV.ext a2 hp2
 obtain ⟨x2,H2,b1,b2,b3⟩:=VecA.app (E:=strE) (e:=9) (bytes:=16) (l':=[u]) a2' hz (by show (2*(g.users.length+1)+1000)*16≤_; omega) (by show g.users.length+1≤_; omega) (Nat.le_trans xx.1 hp2.1)
 obtain ⟨yy,_⟩:=b3.ext (xx.trans hp2) oo
 refine ⟨_,_,x1,H1,_,_,x2,H2,rfl,a1,rfl,b1,⟨?_,(hS.ext yy).d,(hS.ext yy).f⟩,yy⟩
 refine zqd b2 (by show (g.users++[u]).length≤_; rw [List.length_append,List.length_singleton]; omega) fun x hx=>?_
 rcases List.mem_append.1 hx with hx | hx
 ·exact zou hS.u x hx
 ·rw [List.mem_singleton] at hx; subst hx; exact hu
theorem zmz (hF:L0=fuel+1) (hfu:15≤fuel) (hd:g.dep≤fuel) (hT:HasT H) (hS:SigA H s1 s2 s3 g) (hb:SgB g) (hU:g.users.length≤1048576) {k w:Int} {n:ByteArray} {s:Sl3} {a:Fo} (h:SlF H s a) (hn:n.size≤maxS) (hda:a.dep≤fuel) (hfn:40*(g.datas.length+1)+31≤L0)
  {u:ByteArray} (hu:u.size≤maxS) {mo:Int} (hmo:mo<9223372036854775808) :
  ∃H',z62 (LCo L0) H.next H k w n s s1 s2 s3 u mo=some (true,H'):=by
 have eS:maxS=140737488351232:=rfl
 obtain ⟨z,H3,z5,H5,k6,H7,z8,H9,a1,a2,a3,a4,hS9,x9⟩:=zns hS hU hu
 have hd':(moreG g u).dep≤fuel:=hd
 have hb':SgB (moreG g u):=⟨by show (g.users++[u]).length≤_; simp; omega,hb.d,hb.f⟩
 have hfn':40*((moreG g u).datas.length+1)+31≤L0:=hfn
 have hG9:=hS.ext x9
 have h9:=h.ext x9
 unfold z62
 rw [zmf _ hT]
 simp only [Option.bind_some,if_true,show Nat.max H.next H.next=H.next from Nat.max_self _,a1,a2,a3,a4]
 refine zic (fun x=>Ext H9 x.1∧(x.2=false→sigS g=0∧sigS (moreG g u)=0)) ?_ ?_
 ·obtain ⟨H13,b1,b2⟩:=z6h (m:=H.next) hF hfu hd hb hG9 x9.1
  rw [b1]
  simp only [Option.bind_some]
  by_cases g0:sigS g=0
  ·rw [if_pos g0]
   obtain ⟨H15,c1,c2⟩:=z6h (m:=H.next) hF hfu hd' hb' (hS9.ext b2) (x9.trans b2).1
   rw [c1]
   simp only [Option.bind_some]
   by_cases m0:sigS (moreG g u)=0
   ·rw [if_pos m0]
    by_cases h5:k=5
    ·rw [if_pos h5]; exact ⟨_,rfl,b2.trans c2,fun _=>⟨g0,m0⟩⟩
    ·rw [if_neg h5]; exact ⟨_,rfl,b2.trans c2,fun _=>⟨g0,m0⟩⟩
   ·rw [if_neg m0]; exact ⟨_,rfl,b2.trans c2,fun h=>by cases h⟩
  ·rw [if_neg g0]; exact ⟨_,rfl,b2,fun h=>by cases h⟩
 rintro ⟨H10,v⟩ ⟨x10,hv⟩
 simp only at x10 hv
 cases v with
 | true=>exact ⟨H10,rfl⟩
 | false =>
 obtain ⟨g0,m0⟩:=hv rfl
 simp only [Bool.false_eq_true,if_false]
 have y10:=x9.trans x10
 obtain ⟨H18,b1,b2⟩:=zeh (m:=H.next) hF hfu hd hb (hS.ext y10) y10.1 (h.ext y10) hn hda hfn (k:=k) (w:=w) hmo
 have y18:=y10.trans b2
 obtain ⟨H21,c1,c2⟩:=zeh (m:=H.next) hF hfu hd' hb' (hS9.ext (x10.trans b2)) y18.1 (h.ext y18) hn hda hfn' (k:=k) (w:=w) hmo
 have y21:=y18.trans c2
 rw [b1]
 simp only [Option.bind_some]
 rw [c1]
 simp only [Option.bind_some]
 have hS21:=hS9.ext ((x10.trans b2).trans c2)
 refine zic (fun x=>Ext H21 x.1∧x.2=false) ?_ ?_
 ·obtain ⟨H25,d1,d2⟩:=z6v L0 fuel hF (m:=H.next) (hS.ext y21) y21.1 (h.ext y21) hn hda (k:=k) (w:=w)
  rw [d1]
  simp only [Option.bind_some]
  by_cases c0:checkS g k w n a=0
  ·rw [if_pos c0]
   obtain ⟨H27,e1,e2⟩:=z6v L0 fuel hF (m:=H.next) (hS21.ext d2) (y21.trans d2).1 (h.ext (y21.trans d2)) hn hda (k:=k) (w:=w)
   rw [e1]
   exact ⟨_,rfl,d2.trans e2,by rw [za8 c0]; rfl⟩
  ·rw [if_neg c0]; exact ⟨_,rfl,d2,rfl⟩
 rintro ⟨H22,v⟩ ⟨x22,hv⟩
 simp only at x22 hv
 subst hv
 simp only [Bool.false_eq_true,if_false]
 have y22:=y21.trans x22
 obtain ⟨H29,d1,d2⟩:=z6v L0 fuel hF (m:=H.next) (hS.ext y22) y22.1 (h.ext y22) hn hda (k:=k) (w:=w)
 have y29:=y22.trans d2
 rw [d1]
 simp only [Option.bind_some]
 by_cases c0:checkS g k w n a=0
 ·rw [if_pos c0,zj2 mo g0 m0 c0]
  rw [if_pos rfl]
  simp only [beq_self_eq_true,if_true]
  have hmx:Nat.max H.next H29.next=H29.next:=Nat.max_eq_right y29.1
  rw [hmx]
  obtain ⟨H31,e1,e2⟩:=zde (m:=H29.next) hF hfu hd hb (hS.ext y29) (Nat.le_refl _) (h.ext y29) hn hda hfn (k:=k) (w:=w)
  rw [e1]
  simp only [Option.bind_some]
  have y31:=y29.trans e2
  obtain ⟨H33,f1,f2⟩:=zde (m:=H.next) hF hfu hd' hb' (hS21.ext ((x22.trans d2).trans e2)) y31.1 (h.ext y31) hn hda hfn' (k:=k) (w:=w)
  rw [f1]
  simp only [Option.bind_some]
  rw [zml g0 m0 c0]
  exact ⟨H33,by simp⟩
 ·rw [if_neg c0]
  exact ⟨H29,rfl⟩
end
end Go.Proofs.YtccbilfbhecdaaaDoor
namespace Go.Proofs.YtccbilfbhecdaaaDoor
open Go Go.Abs Go.ChangeShapes Go.WideShapes
set_option maxRecDepth 100000
theorem zm0 {H:Type} {enc:TypeId×Value→H} {W:World} {base:Nat} {args:Array Value} {ds:List (DataW H)} {ps:List MemPlace} (hg:Tryd.prog.globals.size≤W.heap.size)
  (hval:∀(j:Nat) t v,Tryd.f8.params[j]? = some t→args[j]? = some v→Value.okWide Tryd.prog W .any base t v)
  (hA:DataW.TrodAll enc Tryd.prog W 0 (fun _=>true) true Tryd.f8.params.toList args.toList ds ps) (hk:Rows.uptoSmall H ds=true) (hL:laidMet Tryd.prog Rows.sortMoreUptoRow.laid W) (hsh:W.ShapedOpen Tryd.prog)
  (hwt:(DataW.weightsEach Tryd.prog (Tryd.f8.params.toList++[]) ds).all (·≤reachBytes)=true) :
  Calls Tryd.prog 8 args W fun e W'=>e=.returned (.bool true)∧RowKit.Below W.heap.size W W':=by
 rw [Tryd.params8] at hA hval hwt
 obtain ⟨v0,vs0,d0,ds0,p0,q0,hargs,rfl,rfl,h0,r0⟩:=trodAll_cons hA
 obtain ⟨v1,vs1,d1,ds1,p1,q1,rfl,rfl,rfl,h1,r1⟩:=trodAll_cons r0
 obtain ⟨v2,vs2,d2,ds2,p2,q2,rfl,rfl,rfl,h2,r2⟩:=trodAll_cons r1
 obtain ⟨v3,vs3,d3,ds3,p3,q3,rfl,rfl,rfl,h3,r3⟩:=trodAll_cons r2
 obtain ⟨rfl,rfl,rfl⟩:=trodAll_nil r3
 obtain rfl:args=#[v0,v1,v2,v3]:=by cases args; simp_all
 have hb:=bulks.bound hk
 simp only [Rows.uptoBulkAll] at hb
 simp only [List.append_nil,DataW.weightsEach,List.all_append,Bool.and_eq_true] at hwt
 obtain ⟨φ0,H0x,k0,w0,n0,s0,a0,i0,le0,e0,vr0,sl0,hn0⟩:=zii (zow hg hL hsh) h0 (hval 0 28 v0 rfl rfl) hwt.1
 obtain ⟨φ1,H1x,s1u,s1d,s1f,g1,i1,le1,e1,vr1,sg1,hb1,hl1⟩:=zls i0 h1 (hval 1 33 v1 rfl rfl) hwt.2.1 (by omega)
 obtain ⟨n2,rfl,hn2⟩:=zo1 Tryd.underlying9 (hval 2 9 v2 rfl rfl) h2 hwt.2.2.1
 obtain ⟨z3,rfl,_,_,hz3⟩:=open_int Tryd.underlying3 (hval 3 3 v3 rfl rfl) h3
 obtain ⟨H',hr⟩:=zmz (L0:=max 15 g1.dep+a0.dep+40*g1.datas.length+101) (fuel:=max 15 g1.dep+a0.dep+40*g1.datas.length+100) rfl (by omega) (by omega) (zlu.ext (e0.trans e1)) sg1 hb1 hl1.u (k:=k0) (w:=w0) (sl0.ext e1) hn0 (by omega) (by omega) hn2 (mo:=z3) (wf_i64 hz3).2
 exact zgv (ne:=NE.plain 1000) sane (zd4 hr) i1 (ar4 (vr0.mono le1) vr1 (.string n2) (.int .i64 z3))
theorem zl5 (os:Os) {H:Type} (enc:TypeId×Value→H):∃x,DataW.whole enc Tryd.prog ((laidW2 Tryd.prog Rows.sortMoreUptoRow.laid os).forCall (fun _ _=>0) ⟨#[],#[.agg #[.int .i64 0,.int .i64 0,.string ⟨#[]⟩,.slice none 0 0],.agg #[.slice none 0 0,.slice none 0 0,.slice none 0 0],.string ⟨#[]⟩,.int .i64 0],[]⟩).memory Tryd.f8.params.toList Rows.sortMoreSpec.vars false (#[.agg #[.int .i64 0,.int .i64 0,.string ⟨#[]⟩,.slice none 0 0],.agg #[.slice none 0 0,.slice none 0 0,.slice none 0 0],.string ⟨#[]⟩,.int .i64 0]:Array Value).toList 8=some ([.agg [.lit (.int .i64 0),.lit (.int .i64 0),.lit (.string []),.nil],.agg [.nil,.nil,.nil],.lit (.string []),.lit (.int .i64 0)],[],x) :=
 ⟨[],by kernel_rfl⟩
theorem zis (os:Os) (started:os.Started) (H:Type) (enc:TypeId×Value→H) (F:Stop.Interp) :
  ReturnsInHanded {} Tryd.checked os 8 .any ((Rows.OpenSpec.upto Rows.sortMoreSpec).preRow enc Tryd.prog Tryd.f8 Rows.sortMoreUptoRow.domain false Rows.sortMoreUptoRow.laid) (((Rows.OpenSpec.upto Rows.sortMoreSpec).at F).post enc Tryd.prog Tryd.f8 false true false false):=by
 obtain ⟨x,hx⟩:=zl5 os enc
 exact zf5 (C:=Tryd.checked) (s:=Rows.OpenSpec.upto Rows.sortMoreSpec) (k:=Rows.uptoSmall) rfl own started (by kernel_rfl) Tryd.func8 zl7 laidOut (by kernel_rfl) rfl (by kernel_rfl)
  (fun ds hds=>by
   have h1:ds.length=4:=hds
   match ds,h1 with
   | [d0,d1,d2,d3],_=>exact ⟨rfl,rfl,rfl⟩)
  rfl (by kernel_rfl)
  (witness_row_atRef (enc:=enc) (C:=Tryd.checked) false (laidW2 Tryd.prog Rows.sortMoreUptoRow.laid os) #[.agg #[.int .i64 0,.int .i64 0,.string ⟨#[]⟩,.slice none 0 0],.agg #[.slice none 0 0,.slice none 0 0,.slice none 0 0],.string ⟨#[]⟩,.int .i64 0] rfl (by kernel_rfl) (by kernel_rfl) (by kernel_rfl)
   (OpenSpec.preRow_of_cond 8 hx (by kernel_rfl) (fun k hk=>by cases hk; kernel_rfl) (by kernel_rfl) (znu os _)))
  (fun W base args ds ps hg hval hA hk hL hsh hwt=>zm0 hg hval hA hk hL hsh hwt)
theorem zng:Rows.SortMoreUptoSaid :=
 OpenClaim.holds_of_cond 8 Tryd.f8 rfl rfl rfl rfl rfl rfl rfl ⟨rfl,rfl,rfl,rfl,rfl⟩ rfl rfl rfl rfl rfl (by kernel_rfl) Tryd.func8 (by kernel_rfl)
  (of_decide_eq_true (by kernel_rfl)) (by unfold Func.isWrapper; first | (rw [if_pos (by decide +kernel)]; kernel_rfl) | (rw [if_neg (by decide +kernel)]; exact ⟨rfl,rfl⟩))
  (fun os started H enc _ F=>by rw [OpenClaim.pre_eq_preRow]; exact zis os started H enc F)
theorem zkq (f:FuncId) (fn:Func) (hf:Tryd.pinned.checked.prog.funcNamed "tribunal/tribunallaw04.SortMore"=some f) (hfn:Tryd.pinned.checked.prog.funcs[f]? = some fn) :
  false=Tryd.pinned.checked.prog.looks []∧∀(j:Nat) t,fn.params[j]? = some t→Tryd.pinned.checked.prog.wantsStandIn t=false:=by
 obtain rfl:f=8:=Option.some.inj ((show Tryd.prog.funcNamed "tribunal/tribunallaw04.SortMore"=some 8 by kernel_rfl).symm.trans hf) |>.symm
 obtain rfl:fn=Tryd.f8:=(Option.some.inj (Tryd.func8.symm.trans hfn)).symm
 exact ⟨by kernel_rfl,fun j t ht=>by
  have hall:(Tryd.f8.params.toList.all fun u=>!Tryd.prog.wantsStandIn u)=true:=by kernel_rfl
  have hm:t∈Tryd.f8.params.toList:=by simpa using Array.mem_of_getElem? ht
  exact (show Tryd.prog.wantsStandIn t=false by simpa using List.all_eq_true.1 hall t hm)⟩
theorem sortMore_holds:Rows.SortMoreUptoCardSaid :=
 Claim7.holds_tied_plain_at .later [] _ _ _ _ zng (fun _ h=>by cases h) (by kernel_rfl) (fun _ h=>by cases h) sortMoreUpto_row_tie rfl ⟨rfl,rfl⟩ (by kernel_rfl) rfl zkq (by kernel_rfl)
#print axioms sortMore_holds
end Go.Proofs.YtccbilfbhecdaaaDoor
