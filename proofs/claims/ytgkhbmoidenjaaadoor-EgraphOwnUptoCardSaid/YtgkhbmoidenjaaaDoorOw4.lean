/- Parts of the proof: an abstract interpreter of the loaded program and its soundness, printed functions, the law's own texts; part 4. No condition. -/
import Derived.Test.YtgkhbmoidenjaaaDoorOw3
import Derived.RangeFuncBox
import Derived.RangeFuncLeaves
import Derived.Shelf.Abstract
import Derived.WalkKit
import Derived.OwnWalkIn
import Derived.TacticsInMore
import Derived.LoopNIn
import Derived.LoopIn
import Derived.Maps.AppendAt
namespace Go.Proofs.YtgkhbmoidenjaaaDoor
open Go Go.Abs
set_option maxRecDepth 100000
theorem z7x {es:List MapEntry} (hn:(es.map (·.born)).Nodup) {e:MapEntry} (he:e∈es):es.find? (fun x=>x.born == e.born)=some e:=by
 induction es with
 | nil=>cases he
 | cons x l ih =>
  rw [List.map_cons,List.nodup_cons] at hn;rw [List.find?_cons];rcases List.mem_cons.1 he with rfl | he
  ·simp
  ·have:¬x.born=e.born:=fun h=>hn.1 (by rw [h]; exact List.mem_map.2 ⟨e,he,rfl⟩);simp only [beq_iff_eq,this,Bool.false_eq_true,beq_eq_false_iff_ne.2 this];exact ih hn.2 he
theorem zjp {es:List MapEntry} (hn:(es.map (·.born)).Nodup) {x y:MapEntry} (hx:x∈es) (hy:y∈es) (h:x.born=y.born):x=y:=by
 have h1:=z7x hn hx;have h2:=z7x hn hy;rw [h,h2] at h1;exact (Option.some.inj h1).symm
theorem z7o {es:List MapEntry} (h:(es.map (·.born)).Nodup):es.Nodup:=by
 induction es with
 | nil=>simp
 | cons x l ih =>
  rw [List.map_cons,List.nodup_cons] at h;exact List.nodup_cons.2 ⟨fun hx=>h.1 (List.mem_map.2 ⟨x,hx,rfl⟩),ih h.2⟩
theorem zc3:∀{l l':List Nat},l.Nodup→(∀b∈l,b∈l')→l.length≤l'.length
 | [],_,_,_=>Nat.zero_le _
 | x :: l,l',hn,hs=>by
  rw [List.nodup_cons] at hn;have h1:=zc3 hn.2 (l':=l'.erase x) fun b hb=>(List.mem_erase_of_ne (fun e:b=x=>hn.1 (by rw [← e]; exact hb))).2 (hs b (List.mem_cons_of_mem _ hb));have h2:=List.length_erase_of_mem (hs x List.mem_cons_self);have h3:=List.length_pos_of_mem (hs x List.mem_cons_self);simp only [List.length_cons];omega
noncomputable def BX:Code:=(Tryd.f32.body).getD .skip
theorem zhj {m:Nat} {E:Ent} {H:AH} {p1:Nat} {r:Sl3×AH} (h:keysS 3 m H p1=some r) :
  WS Tryd.prog (NE.plain 1000) m E Tryd.f32.ntmps (csnd (csnd (csnd (csnd (csnd (csnd BX)))))) [(7,.val (Value.map (some p1))),kS 18 Sl3.nil] [] H (retS Tryd.prog (NE.plain 1000) m E Tryd.f32 (Sl3.v r.1) r.2):=by
 intro a0 w0 hs0;have hlt:∀id b,H.get id=some b→id<H.next:=fun id b hb=>by
  obtain ⟨φ,cs,hh⟩:=hs0;exact hh.inv.get_lt hb
 revert a0 w0
 suffices hW:WS Tryd.prog (NE.plain 1000) m E Tryd.f32.ntmps (csnd (csnd (csnd (csnd (csnd (csnd BX)))))) [(7,.val (Value.map (some p1))),kS 18 Sl3.nil] [] H (retS Tryd.prog (NE.plain 1000) m E Tryd.f32 (Sl3.v r.1) r.2) from fun a w hs=>hW a w hs
 unfold keysS at h;split at h
 ·rename_i es clock opn esz ro hb;split at h
  ·rename_i zs hz;split at h
   ·rename_i hc;obtain ⟨hnd,hbc,hzl,hm⟩:=hc;cases h;have hlen:=z3j hz;have hp1:=hlt _ _ hb;refine B0 (B0 (WS.rg (u0 1 [(141,.val (.map (some p1)))] ?_)));refine RS.o (H':=H.push (iterB p1 clock)) (some 142) (.pointer (some ⟨H.next,0,none⟩)) (zij (t:=110) (k:=3) (e:=3) (x:=.tmp 141) (by kernel_rfl) (by kernel_rfl) (by kernel_rfl) hb rfl) (RS.dn (A0 (M0 8 ?_)));refine WS.sub [(142,.val (.pointer (some ⟨H.next,0,none⟩))),kS 18 Sl3.nil] 0 [] (SubV.of (by kernel_rfl)) rfl (by kernel_rfl) ?_;refine WS.loopRel (S:=AH×Sl3×List MapEntry) (fun s=>[(142,.val (.pointer (some ⟨H.next,0,none⟩))),kS 18 s.2.1]) (fun _=>[]) (fun s=>s.1) 8 (KeyI 3 H p1 clock es) (fun s=>KeyI 3 H p1 clock es s∧∀x∈es,x.born∈s.2.2.map (·.born)) (fun s=>es.size - s.2.2.length) ?_ (s:=(H.push (iterB p1 clock),Sl3.nil,[])) ?_ ?_
    ·rintro ⟨Hj,out,seen⟩ hI
     have hr:Hj.get p1=some _:=(hI.low p1 hp1).trans hb;have hok:(!((seen.map (·.born)).toArray).isEmpty&&!es.isEmpty&&es.all fun e=>decide (e.born≥clock))=false:=by
      cases he:es.isEmpty with
      | true=>simp
      | false =>
       have:(es.all fun e=>decide (e.born≥clock))=false:=by
        have hne:es.toList≠[]:=fun e=>by
         have:es=#[]:=by simpa using e
         rw [this] at he; simp at he
        obtain ⟨x,l,hx⟩:=List.exists_cons_of_ne_nil hne;rw [← Array.all_toList,hx,List.all_cons];have:=hbc x (by rw [hx]; exact List.mem_cons_self);simp;omega
       rw [this]; simp
     refine B0 (WS.rg (RS.nx 143 142 hI.iter rfl rfl hm hr rfl hok (fun e he=>hbc e (by simpa using he)) (fun hall=>?_) (fun e he hne=>?_)))
     ·refine u0 1 [kB 144 false] (RS.dn (A0 (B0 (J0 (WS.ex 8 ?_)))));exact fun a w hs=>sqE (Q:=relS Tryd.prog (NE.plain 1000) m E Tryd.f32.ntmps _ _ _ 8 _ _ _ _) ⟨(Hj,out,seen),⟨hI,fun x hx=>by simpa using hall x hx⟩,rfl,hs.sb 0⟩
     ·obtain ⟨z,hkz⟩:=z7g hz e (by simpa using he);have hsl:seen.length<es.size:=by
       have h1:(e.born :: seen.map (·.born)).Nodup:=List.nodup_cons.2 ⟨fun hh=>hne (by simpa using hh),hI.nd⟩;have h2:(e.born :: seen.map (·.born)).length≤(es.toList.map (·.born)).length:=zc3 h1 (fun b hb'=>by
        rcases List.mem_cons.1 hb' with rfl | hb'
        ·exact List.mem_map.2 ⟨e,by simpa using he,rfl⟩
        ·obtain ⟨x,hx,rfl⟩:=List.mem_map.1 hb';exact List.mem_map.2 ⟨x,by simpa using hI.sub x hx,rfl⟩)
       simp only [List.length_cons,List.length_map,Array.length_toList] at h2;omega
      obtain ⟨row,H2,out',H3,q1,q2,q3⟩:=hI.step hm he hne hkz (by show seen.length≤_; have:=Array.length_toList (xs:=es); omega);have hkey:=zhk hkz;refine u0 1 [kB 144 true] (RS.dn (A0 (B0 (I0 (K0 (A0 (M0 9 (B0 (WS.rg ?_)))))))));refine RS.o (H':=Hj.put H.next { obj:=.mapIter (some p1) clock ((seen.map (·.born)).toArray.push e.born) clock,opn:=false,esz:=0,ro:=false }) (some 145) (.tuple #[.int .i64 z,e.val]) ?_ (u0 2 [kI 19 z,kI 146 z] (RS.dn (A0 (WS.rg (u0 2 [kI 148 z,kS 147 out] ?_)))))
      ·rw [← hkey];refine zix (x:=.tmp 142) (by kernel_rfl) (by kernel_rfl) (AH.get_put_same _ _ _) rfl ((AH.get_put_other _ _ (by omega)).trans hr) rfl (stamp:=e.born) (by simp) ?_;have:=z7x hnd (e:=e) (by simpa using he);rw [Array.find?_toList] at this;exact this
      refine RS.o (H':=H2) (some 149) (Sl3.v row) (Abs.run_newR (by kernel_rfl) (by kernel_rfl) q1) ?_;refine RS.o (H':=H3) (some 150) (Sl3.v out') (Abs.run_app (x:=.tmp 147) (y:=.tmp 149) (ts:=#[27,27]) (s:=out) (z:=row) (by kernel_rfl) (by kernel_rfl) (by kernel_rfl) (by kernel_rfl) q2) (u0 1 [kS 18 out'] (RS.dn ?_));exact fun a w hs=>bkN (Q:=relS Tryd.prog (NE.plain 1000) m E Tryd.f32.ntmps _ _ _ 8 _ _ _ _) ⟨(H3,out',seen++[e]),q3,by show es.size - (seen++[e]).length<es.size - seen.length; rw [List.length_append]; simp only [List.length_singleton]; omega,hs.sb 0⟩
    ·refine ⟨rfl,fun id hid=>AH.get_push_other _ _ (by omega),AH.get_push_same _ _,by simp,fun x hx=>(by cases hx),[],rfl,.inl ⟨rfl,rfl⟩⟩
    ·rintro ⟨Hf,out,seen⟩ ⟨hI,hall⟩ a w hs
     have hsn:seen.Nodup:=z7o hI.nd;have hen:es.toList.Nodup:=z7o hnd;have hperm:seen.Perm es.toList:=(List.perm_ext_iff_of_nodup hsn hen).2 fun x=>⟨fun hx=>by simpa using hI.sub x hx,fun hx=>by
      obtain ⟨y,hy,hyb⟩:=List.mem_map.1 (hall x (by simpa using hx));rw [← zjp hnd (by simpa using hI.sub y hy) hx hyb]; exact hy⟩
     obtain ⟨ys,hys,hcase⟩:=hI.keys;have hpz:=zgj hperm _ _ hys hz;have hyl:ys.length=zs.length:=hpz.length_eq;have hsl:seen.length=zs.length:=by rw [← hyl]; exact (z3j hys).symm
     refine bkE ((A0 (kn:=[(142,.val (.pointer (some ⟨H.next,0,none⟩))),kS 18 out]) (ls:=[]) (H:=Hf) ?_ a w hs));refine B0 (WS.rg (u0 1 [kS 151 out] ?_));rcases hcase with ⟨h0,hout⟩ | ⟨h0,hout,hget⟩
     ·have hzs:zs=[]:=by rw [h0] at hyl; exact List.length_eq_zero_iff.1 hyl.symm
      have hout:out=Sl3.nil:=hout;subst hout;refine RS.cl (H':=Hf) (some 152) (v:=.tuple #[]) 55 _ (ze0 sortLays z3l) (RS.dn (A0 (B0 (WS.rg (u0 2 [kS 6 Sl3.nil,kS 153 Sl3.nil] (RS.dn (A0 (G0 ?_))))))));have hr:outS 3 H zs=(Sl3.nil,{ H with next:=H.next+1 }):=by unfold outS; rw [if_pos hzs]
      rw [hr];intro a w hs;refine rtR (rS (SS.forget hs ?_ fun id b hb'=>?_))
      ·show H.next+1=Hf.next;have:=hI.next;rw [show Hf.next=_ from this,hsl,hzs]; rfl
      ·have hb':H.get id=some b:=hb';exact (hI.low id (hlt id b hb')).trans hb'
     ·have hzn:zs≠[]:=fun e=>h0 (by rw [e] at hyl; exact List.length_eq_zero_iff.1 hyl);have hout:out=⟨some ⟨H.next+2*ys.length,0,none⟩,ys.length,OPEN⟩:=hout;subst hout;have hget:Hf.get (H.next+2*ys.length)=some (rowB 3 ys):=hget;refine RS.cl (H':=Hf.put (H.next+2*ys.length) (rowB 3 (sortI ys))) (some 152) (v:=.tuple #[]) 55 _ (zbu (c:=OPEN) sortLays z3l hget (by omega) (List.length_pos_iff.2 h0) (by omega)) (RS.dn (A0 (B0 (WS.rg (u0 2 [kS 6 ⟨some ⟨H.next+2*ys.length,0,none⟩,ys.length,OPEN⟩,kS 153 ⟨some ⟨H.next+2*ys.length,0,none⟩,ys.length,OPEN⟩] (RS.dn (A0 (G0 ?_))))))));have hr:outS 3 H zs=(⟨some ⟨H.next+2*ys.length,0,none⟩,ys.length,OPEN⟩,AH.push { H with next:=H.next+2*ys.length } (rowB 3 (sortI ys))):=by
       unfold outS;rw [if_neg hzn,← hyl,← zgi hpz]
      rw [hr];intro a w hs;refine rtR (rS (SS.forget hs ?_ fun id b hb'=>?_))
      ·show H.next+2*ys.length+1=Hf.next;rw [show Hf.next=_ from hI.next];show _=H.next+1+2*seen.length;omega
      ·by_cases e:id=H.next+2*ys.length
       ·subst e;rw [show (AH.push { H with next:=H.next+2*ys.length } (rowB 3 (sortI ys))).get (H.next+2*ys.length)=some (rowB 3 (sortI ys)) from AH.get_push_same _ _] at hb';rw [AH.get_put_same];exact hb'
       ·rw [show (AH.push { H with next:=H.next+2*ys.length } (rowB 3 (sortI ys))).get id=H.get id from AH.get_push_other _ _ e] at hb';rw [AH.get_put_other _ _ e];exact (hI.low id (hlt id b hb')).trans hb'
   ·cases h
  ·cases h
 ·cases h
def itoaRen:Go.Shelf.Ren:=⟨fun | 171=>76 | 243=>89 | 246=>96 | 283=>98 | 284=>99 | 285=>100 | 286=>101 | 129=>88 | 317=>102 | 318=>103 | 319=>104 | 320=>105 | 337=>106 | 338=>107 | n=>n,fun | 3=>3 | 9=>9 | 2=>2 | 4=>4 | 171=>149 | 0=>0 | 53=>138 | 37=>151 | 5=>5 | 173=>152 | 212=>155 | 51=>136 | 20=>20 | 213=>156 | 46=>118 | 232=>157 | 233=>158 | n=>n,fun | 17=>0 | 18=>1 | 19=>2 | n=>n⟩
theorem itoaLays:Go.Proofs.LaysM.n171 Tryd.prog itoaRen:={
 mixed:=by kernel_rfl,
 f129:=Tryd.func88.trans (congrArg some (by kernel_rfl)),
 f171:=Tryd.func76.trans (congrArg some (by kernel_rfl)),
 f243:=Tryd.func89.trans (congrArg some (by kernel_rfl)),
 f246:=Tryd.func96.trans (congrArg some (by kernel_rfl)),
 f283:=Tryd.func98.trans (congrArg some (by kernel_rfl)),
 f284:=Tryd.func99.trans (congrArg some (by kernel_rfl)),
 f285:=Tryd.func100.trans (congrArg some (by kernel_rfl)),
 f286:=Tryd.func101.trans (congrArg some (by kernel_rfl)),
 f317:=Tryd.func102.trans (congrArg some (by kernel_rfl)),
 f318:=Tryd.func103.trans (congrArg some (by kernel_rfl)),
 f319:=Tryd.func104.trans (congrArg some (by kernel_rfl)),
 f320:=Tryd.func105.trans (congrArg some (by kernel_rfl)),
 f337:=Tryd.func106.trans (congrArg some (by kernel_rfl)),
 f338:=Tryd.func107.trans (congrArg some (by kernel_rfl)),
 t0:=by kernel_rfl,
 a0:=fun _=>by kernel_rfl,
 z0:=fun _=>by kernel_rfl,
 v0:=fun _=>by kernel_rfl,
 t2:=by kernel_rfl,
 a2:=fun _=>by kernel_rfl,
 z2:=fun _=>by kernel_rfl,
 v2:=fun _=>by kernel_rfl,
 t3:=by kernel_rfl,
 a3:=fun _=>by kernel_rfl,
 z3:=fun _=>by kernel_rfl,
 v3:=fun _=>by kernel_rfl,
 t4:=by kernel_rfl,
 a4:=fun _=>by kernel_rfl,
 z4:=fun _=>by kernel_rfl,
 v4:=fun _=>by kernel_rfl,
 t5:=by kernel_rfl,
 a5:=fun _=>by kernel_rfl,
 z5:=fun _=>by kernel_rfl,
 v5:=fun _=>by kernel_rfl,
 t9:=by kernel_rfl,
 a9:=fun _=>by kernel_rfl,
 z9:=fun _=>by kernel_rfl,
 v9:=fun _=>by kernel_rfl,
 t20:=by kernel_rfl,
 a20:=fun _=>by kernel_rfl,
 z20:=fun _=>by kernel_rfl,
 v20:=fun _=>by kernel_rfl,
 t37:=by kernel_rfl,
 a37:=fun _=>by kernel_rfl,
 z37:=fun _=>by kernel_rfl,
 v37:=fun _=>by kernel_rfl,
 t46:=by kernel_rfl,
 a46:=fun _=>by kernel_rfl,
 z46:=fun _=>by kernel_rfl,
 v46:=fun _=>by kernel_rfl,
 t51:=by kernel_rfl,
 a51:=fun _=>by kernel_rfl,
 z51:=fun _=>by kernel_rfl,
 v51:=fun _=>by kernel_rfl,
 t53:=by kernel_rfl,
 a53:=fun _=>by kernel_rfl,
 z53:=fun _=>by kernel_rfl,
 v53:=fun _=>by kernel_rfl,
 t171:=by kernel_rfl,
 a171:=fun _=>by kernel_rfl,
 z171:=fun _=>by kernel_rfl,
 v171:=fun _=>by kernel_rfl,
 t173:=by kernel_rfl,
 a173:=fun _=>by kernel_rfl,
 z173:=fun _=>by kernel_rfl,
 v173:=fun _=>by kernel_rfl,
 t212:=by kernel_rfl,
 a212:=fun _=>by kernel_rfl,
 z212:=fun _=>by kernel_rfl,
 v212:=fun _=>by kernel_rfl,
 t213:=by kernel_rfl,
 a213:=fun _=>by kernel_rfl,
 z213:=fun _=>by kernel_rfl,
 t232:=by kernel_rfl,
 a232:=fun _=>by kernel_rfl,
 z232:=fun _=>by kernel_rfl,
 v232:=fun _=>by kernel_rfl,
 t233:=by kernel_rfl,
 a233:=fun _=>by kernel_rfl,
 z233:=fun _=>by kernel_rfl,
 v233:=fun _=>by kernel_rfl,
 g17:=by kernel_rfl,
 g18:=by kernel_rfl,
 g19:=by kernel_rfl,
 i0:=by kernel_rfl,
 i2:=by kernel_rfl,
 i3:=by kernel_rfl,
 i4:=by kernel_rfl,
 i5:=by kernel_rfl,
 i9:=by kernel_rfl,
 i20:=by kernel_rfl,
 i37:=by kernel_rfl,
 i46:=by kernel_rfl,
 i51:=by kernel_rfl,
 i53:=by kernel_rfl,
 i171:=by kernel_rfl,
 i173:=by kernel_rfl,
 i212:=by kernel_rfl,
 i232:=by kernel_rfl,
 i233:=by kernel_rfl,
 m17:=by kernel_rfl,
 m18:=by kernel_rfl,
 m19:=by kernel_rfl }
open Classical in
noncomputable def strconv_Itoa (_L:LC) (_m:Nat) (H:AH) (a0:Int):Option (ByteArray×AH):=if HasT H∧-9223372036854775808≤a0∧a0≤9223372036854775807 then some (⟨(Go.Lib.itoa a0).toArray⟩,H) else none
def z97:(ByteArray×AH)→Value
 | (r0,_)=>(Value.string r0)
def zas (_:AH):(ByteArray×AH)→AH:=fun r=>r.2
theorem z3s {L:LC} {m:Nat} {H:AH} {a0:Int} {r:(ByteArray×AH)} (h:strconv_Itoa L m H a0=some r):CallS Tryd.prog (NE.plain 1000) m 76 #[(Value.int .i64 a0)] H (z97 r) (zas H r):=by
 unfold strconv_Itoa at h;split at h
 ·rename_i hh;obtain ⟨hT,h0,h1⟩:=hh;cases h;exact zik itoaLays ⟨Tryd.f76,(Tryd.f76.body).getD .skip,Tryd.func76,by kernel_rfl⟩ (g:=0) (by kernel_rfl) z2z (hT _ (List.mem_cons_self)).1 (by kernel_rfl) h0 h1
 ·cases h
end Go.Proofs.YtgkhbmoidenjaaaDoor
namespace Go.Proofs.YtgkhbmoidenjaaaDoor
open Go Go.RowKit Go.Shelf Go.Proofs
attribute [local go_sem] Oper.semAt_some
def upF (f:Nat→Int) (k:Nat):List Int:=(List.range k).map f
theorem zcy (f:Nat→Int) (k:Nat):upF f (k+1)=upF f k++[f k]:=by simp [upF,List.range_succ]
theorem zg6 (f:Nat→Int) (k:Nat):(upF f k).length=k:=by simp [upF]
theorem zd2 (zs:List Int) {k:Nat} (hk:k≤zs.length):upF (fun j=>zs[j]?.getD 0) k=zs.take k:=by
 apply List.ext_getElem
 ·simp [upF,hk]
 ·intro i h1 h2;have:i<zs.length:=by simp [upF] at h1; omega
  simp [upF,this]
set_option maxRecDepth 100000 in
set_option maxHeartbeats 2000000 in
theorem zj0 (F:Fence) (n:Nat) (h7:F.fn 62) (hro:F.round=none) (hn:1≤n) (l Bs n₀ b off len cap:Nat) (zs:List Int) (hreach:len*8≤140737488351232) (hb:b<n₀) (J Jx:List Int→World→Prop)
  (hY:∀pre x W,J pre W→pre.length<len→YieldAt F (n - 1) Tryd.prog l #[.int .i64 x] W fun e W' =>
   (e=.returned (.bool true)∧J (pre++[x]) W'∧Below n₀ W W')∨(e=.returned (.bool false)∧Jx (pre++[x]) W'))
  (W:World) (hBs:W.cell? ⟨Bs,0,none⟩=some (.slice (some ⟨b,off,none⟩) len cap)) (hc:∀j,j<len→W.cell? ⟨b,off+j,none⟩=some (.int .i64 (zs[j]?.getD 0))) (h0:J [] W) :
  CallsIn F n Tryd.prog 62 #[.func (.yield l) #[] #[],.pointer (some ⟨Bs,0,none⟩)] W fun e W'=>(∃v,e=.returned v) ∧
   ((∃ys,ys=upF (fun j=>zs[j]?.getD 0) len∧J ys W')∨(∃pre,(∃k,k≤len∧pre=upF (fun j=>zs[j]?.getD 0) k)∧Jx pre W')):=by
 refine callsIn_of_wp Tryd.func62 rfl h7 ?_ hro;simp only [show Tryd.f62.ntmps=16 from rfl,List.size_toArray,List.length_cons,List.length_nil,Nat.reduceAdd,Nat.reduceSub,Array.replicate_succ,Array.replicate_zero,List.push_toArray,List.append_toArray,List.nil_append,List.cons_append]
 gi_wp2
 gi_loopw [7] (fun i wr=>∃k:Nat,k≤len∧i=.int .i64 k∧J (upF (fun j=>zs[j]?.getD 0) k) wr∧Below n₀ W wr)
  (fun i _=>len - (intOf i).toNat)
 case atStart=>exact ⟨0,Nat.zero_le _,rfl,h0,Below.refl _ _⟩
 case round =>
  obtain ⟨k,hk,rfl,hJs,hnx⟩:=hrel;have hcx:k<len→wr.cell? ⟨b,off+k,none⟩=some (.int .i64 (zs[k]?.getD 0)):=fun h=>(hnx.cell (p:=⟨b,off+k,none⟩) hb).trans (hc k h);by_cases hlt:k<len
  ·obtain ⟨fn,tmps,assign,body,hy,hR⟩:=hY _ (zs[k]?.getD 0) wr hJs (by rw [zg6]; exact hlt);have hcx':=hcx hlt
   gi_wp2
   refine hR.mono ?_
   rintro e W3 (⟨rfl,hJ3,hk3⟩ | ⟨rfl,hJx3⟩)
   ·gi_wp2
    go_roundw
    case rel=>exact ⟨k+1,by omega,by simp,by rw [zcy]; exact hJ3,hnx.trans hk3⟩
    case measure=>simp [intOf]; omega
   ·gi_wp2
    refine bodyPost_ret (results_none rfl _ _ _) rfl ?_;exact ⟨⟨_,rfl⟩,.inr ⟨_,⟨k+1,by omega,(zcy _ _).symm⟩,hJx3⟩⟩
  ·obtain rfl:k=len:=by omega
   gi_wp2
   go_end0
   exact ⟨⟨_,rfl⟩,.inl ⟨_,rfl,hJs⟩⟩
theorem zgx (F:Fence) (n:Nat) (h7:F.fn 62) (hro:F.round=none) (hn:1≤n) (Bs n₀ b off cap:Nat) (zs:List Int) (hreach:zs.length*8≤140737488351232) (w:World) (hBs:Bs<w.heap.size) (hn₀:n₀≤w.heap.size)
  (hc:w.cell? ⟨Bs,0,none⟩=some (.slice (some ⟨b,off,none⟩) zs.length cap)) (hb:b<n₀) (hI:∀j,j<zs.length→w.cell? ⟨b,off+j,none⟩=some (.int .i64 (zs[j]?.getD 0))) :
  SeqStopsK F n Tryd.prog 62 #[.pointer (some ⟨Bs,0,none⟩)] (fun x:Int=>#[Value.int .i64 x]) (Below n₀) (fun ys=>ys=zs) (fun pre=>pre <+: zs) zs.length w:=fun l J Jx W hW _ _ hY h0=>by
 have hc':=(hW.cell (p:=⟨Bs,0,none⟩) hBs).trans hc;have hW0:=hW.mono hn₀;refine (zj0 F n h7 hro hn l Bs n₀ b off zs.length cap zs hreach hb J Jx hY W hc' (fun j hj=>(hW0.cell (p:=⟨b,off+j,none⟩) hb).trans (hI j hj)) h0).mono ?_
 rintro e W' ⟨he,⟨ys,rfl,hj⟩ | ⟨pre,⟨k,hk,rfl⟩,hj⟩⟩
 ·exact ⟨he,.inl ⟨_,by rw [zd2 zs (Nat.le_refl _),List.take_length],hj⟩⟩
 ·exact ⟨he,.inr ⟨_,by rw [zd2 zs hk]; exact List.take_prefix _ _,hj⟩⟩
theorem info3I:(Tryd.prog.info? 3).map (fun i=>(i.zero,i.size,i.bytes))=some (some (.int .i64 0),1,8):=by kernel_rfl
theorem und27I:Tryd.prog.underlying 27=some (.slice 3):=by kernel_rfl
set_option maxRecDepth 100000 in
set_option maxHeartbeats 2000000 in
theorem zg7 (F:Fence) (n:Nat) (h5:F.fn 75) (h7:F.fn 62) (hro:F.round=none) (hn:2≤n) (Bs b off cap:Nat) (zs:List Int) (hreach:zs.length*8≤70368744175616) (w:World) (hBs:Bs<w.heap.size)
  (hc:w.cell? ⟨Bs,0,none⟩=some (.slice (some ⟨b,off,none⟩) zs.length cap)) (hb:b<w.heap.size) (hI:∀j,j<zs.length→w.cell? ⟨b,off+j,none⟩=some (.int .i64 (zs[j]?.getD 0))) :
  CallsIn F n Tryd.prog 75 #[.slice none 0 0,.func (.func 62) #[] #[.pointer (some ⟨Bs,0,none⟩)]] w fun e W'=>∃v,e=.returned v∧W'.ownsRow w.heap.size 3 1 v zs.length (zs.map (Value.int .i64))∧(v=.slice none 0 0↔zs=[])∧Below w.heap.size w W':=by
 have h1:1≤n:=by omega
 have hml:zs.length≤maxLen:=by unfold maxLen; omega
 have hby:zs.length*8≤140737488355328:=by omega
 obtain ⟨i0,hi,hz0,hz1,hz2⟩:=info_parts info3I;refine callsIn_of_wp_marks Tryd.func75 rfl h5 ?_ hro;simp only [show Tryd.f75.ntmps=13 from rfl,List.size_toArray,List.length_cons,List.length_nil,Nat.reduceAdd,Nat.reduceSub,Array.replicate_succ,Array.replicate_zero,List.push_toArray,List.append_toArray,List.nil_append,List.cons_append]
 gi_wp2
 have bO:=Boxed.new w 27 (.slice none 0 0);have hB0:Below w.heap.size w (w.alloc (.cells #[.slice none 0 0] 27)):=(Below.refl _ w).alloc (Nat.le_refl _) _;refine wpIn_rangeFunc_ownG hro h1 (gf:=62) (lb:=#[.pointer (some ⟨Bs,0,none⟩)]) rfl h7 (enters_of Tryd.func62 (by kernel_rfl) rfl)
  (zgx F (n - 1) h7 hro (by omega) Bs w.heap.size b off cap zs (by omega) _ (by simp; omega) (by simp) ((hB0.cell (p:=⟨Bs,0,none⟩) hBs).trans hc) hb (fun j hj=>(hB0.cell (p:=⟨b,off+j,none⟩) hb).trans (hI j hj))) belowK_t (belowK_b (by simp)) (Below.refl _ _) (fun _=>rfl)
  (fun pre W=>(∃v,Boxed W w.heap.size 27 v∧W.ownsRow w.heap.size 3 1 v pre.length (pre.map (Value.int .i64))∧(v=.slice none 0 0↔pre=[]))∧Below w.heap.size w W)
  (fun _ _ _=>False)
  (OwnFrom.and (Own.from (holdsRow_own w.heap.size w.heap.size 27 3 1 (fun pre=>pre.length) (fun pre=>pre.map (Value.int .i64)) (fun pre v=>v=.slice none 0 0↔pre=[])) _) (ownFrom_below (Nat.le_refl _) (by simp)))
  (fun _ _ _ _ _ hs _ _=>hs)
  ⟨⟨_,bO,World.ownsRow_nil _ _ _ _,by simp⟩,hB0⟩
  (fun x=>{ tmps:=#[.slice none 0 0,.func (.func 62) #[] #[.pointer (some ⟨Bs,0,none⟩)],.pointer (some ⟨w.heap.size,0,none⟩),undef,.slice none 0 0,.int .i64 x,.func (.func 62) #[] #[.pointer (some ⟨Bs,0,none⟩)],.int .i64 x,undef,undef,undef,undef,undef],defers:=[] }) ?assign ?body ?done ?stop
 case assign =>
  intro l x W K hK
  gi_wp2
  exact hK
 case body =>
  rintro l pre x W ⟨⟨v,hv,hrow,hnil⟩,hB⟩ hlt
  have hc:=hv.cell
  gi_wp2_with (gi_at_builtin; refine wpListIn_append_own _ rfl _ _ 27 rfl w.heap.size 3 i0 (.int .i64 0) 1 8 und27I hi hz0 hz1 hz2 rfl (by decide) _ _ _ rfl (hrow.alloc _) ⟨W.heap.size,0,none⟩ 1 1 [.int .i64 x] rfl rfl (cell_one_new _ _ _) (by simp [Value.oneCell']) (by omega) (by omega) (by have:=hB.size; simp; omega) ?_; intro v' w1 hown' hgrow _; obtain ⟨g',cap',rfl⟩:=ownsRow_succ hown'; obtain ⟨hv1,hv2,hr2,hk2,hb2⟩:=hv.appended (by decide) hrow hB.size (Nat.le_refl _) hown' hgrow; have hc1:=hv1.cell; have hf1:=hv1.frozen)
  exact ⟨hk2.from _,hb2,⟨_,hv2,by simpa using hr2,by simp⟩,hB.trans hb2⟩
 case done =>
  rintro D ys W hD rfl ⟨⟨v,hv,hrow,hnil⟩,hB⟩ hK
  have hc:=hv.cell
  gi_wp2
  refine ⟨by simp,.inl ⟨_,_,rfl,run_takeDeferred hK,?_⟩⟩;exact ⟨_,results_tmp rfl _ _ _,v,rfl,ownsRow_putObj hrow _ hK rfl,hnil,hB.trans (belowK_b (w:=w) (Nat.le_refl _) W D _ _ (by simp at hD; omega) hK rfl rfl)⟩
 case stop =>
  rintro D c pre W _ _ h _
  exact h.elim
open Go.Abs in
def seqOf:Value→Option Nat
 | .func (.func f) fs gs=>if f=62∧fs.size=0 then match gs.toList with
  | [.pointer (some ⟨p,0,none⟩)]=>some p
  | _=>none
  else none
 | _=>none
theorem zjy {v:Value} {p:Nat} (h:seqOf v=some p):v=.func (.func 62) #[] #[.pointer (some ⟨p,0,none⟩)]:=by
 unfold seqOf at h;split at h
 ·split at h
  ·rename_i hh;obtain ⟨rfl,h2⟩:=hh;split at h
   ·rename_i gs _ p' hg;cases h;have h3:=Array.eq_empty_of_size_eq_zero h2;subst h3;have:gs=#[.pointer (some ⟨p,0,none⟩)]:=by
     apply Array.ext';rw [hg]
    rw [this]
   ·cases h
  ·cases h
 ·cases h
open Go.Abs in
noncomputable def P6 (_L:LC) (_m:Nat) (H:AH) (a0:Sl3) (a1:Value):Option (Sl3×AH) :=
 match a0.p,seqOf a1 with
 | none,some p=>if a0.n=0∧a0.c=0 then match H.get p with
  | some { obj:=.cells c _ (0,0),opn:=false,.. }=>match c[0]? with
   | some (Value.slice (some a) n _)=>match rdCells H a 0 n with
    | some l=>match intsZ l with
     | some zs=>if a.spot=none∧zs.length=n∧0<n∧n≤1099511627776 then some (⟨some ⟨H.next,0,none⟩,n,OPEN⟩,H.push (rowB 3 zs)) else none
     | none=>none
    | none=>none
   | _=>none
  | _=>none
  else none
 | _,_=>none
open Go.Abs in
def z65:(Sl3×AH)→Value
 | (r0,_)=>(Sl3.v r0)
open Go.Abs in
def z75 (_:AH):(Sl3×AH)→AH:=fun r=>r.2
open Go.Abs in
theorem zkr {H:AH} {a:Addr}:∀(n i:Nat) (l:List Value),rdCells H a i n=some l→∀j,j<n→H.cell (a.add (i+j))=l[j]? := by
 intro n;induction n with
 | zero=>intro i l _ j hj; omega
 | succ n ih =>
  intro i l h j hj;unfold rdCells at h;split at h
  ·rename_i v r h1 h2;cases h;cases j with
   | zero=>rw [Nat.add_zero,h1]; rfl
   | succ j =>
    have:=ih (i+1) _ h2 j (by omega);rw [show i+(j+1)=i+1+j by omega,this];rfl
  ·cases h
open Go.Abs in
theorem z73 {L:LC} {m:Nat} {H:AH} {a0:Sl3} {a1:Value} {r:(Sl3×AH)} (h:P6 L m H a0 a1=some r):CallS Tryd.prog (NE.plain 1000) m 75 #[(Sl3.v a0),a1] H (z65 r) (z75 H r):=by
 obtain ⟨q,n0,cp0⟩:=a0;unfold P6 at h;split at h
 ·rename_i p hq hs;simp only at hq;subst hq;split at h
  ·rename_i hh;simp only at hh;obtain ⟨rfl,rfl⟩:=hh;have hv:=zjy hs;subst hv;split at h
   ·rename_i c e esz ro hb;split at h
    ·rename_i a n cp hc;split at h
     ·rename_i l hl;split at h
      ·rename_i zs hz;split at h
       ·rename_i hh;obtain ⟨k1,rfl,k3,k4⟩:=hh;cases h;have hlz:=z9h hz;refine zec ⟨Tryd.f75,(Tryd.f75.body).getD .skip,Tryd.func75,by kernel_rfl⟩ k3 (fun Bs b off cap w h1 h2 h3 h4=>?_) hb hc k1 fun j hj=>?_
        ·exact callsIn_wide.1 (zg7 Fence.wide 2 trivial trivial rfl (Nat.le_refl _) Bs b off cap zs (by omega) w h1 h2 h3 h4)
        ·have:=zkr zs.length 0 l hl j hj;rw [Nat.zero_add,hlz,List.getElem?_map,List.getElem?_eq_getElem (by simpa using hj)] at this
         simpa [List.getElem?_eq_getElem hj] using this
       ·cases h
      ·cases h
     ·cases h
    ·cases h
   ·cases h
  ·cases h
 ·cases h
end Go.Proofs.YtgkhbmoidenjaaaDoor
namespace Go.Proofs.YtgkhbmoidenjaaaDoor
open Go Go.Abs
open Go.Value renaming int → vI, string → vS, pointer → vP, agg → vA, bool → vB
set_option maxRecDepth 100000
def z5a:Bool→Value
 | r0=>(vB r0)
def z5p (H:AH):Bool→AH:=fun _=>H
noncomputable def B38:Code:=(Tryd.f38.body).getD .skip
noncomputable def K2 (_L:LC) (H:AH) (a0:Option Addr):Option Bool :=
 match a0 with
 | none =>
  some false
 | some q1 =>
  (rd deM H (Addr.add q1 1)).bind fun x2 => match x2 with
  | none =>
   some false
  | some _ =>
   some true
theorem G3 {L:LC} {m:Nat} {H:AH} {a0:Option Addr} {r:Bool} (h:K2 L H a0=some r) :
  CallS Tryd.prog (NE.plain 1000) m 38 #[(vP a0)] H (z5a r) (z5p H r):=by
 refine CallS.mk (args:=[(vP a0)]) Tryd.func38 (B:=B38) (by kernel_rfl) (fun E _=>?_);unfold K2 at h;refine B0 (WS.rg (u0 1 [kB 2 false] (RS.dn (A0 (B0 (WS.rg (u0 1 [(3,.val (vP a0))] ?_)))))));rcases a0 with _ | q1
 ·try dsimp only at h
  refine u0 9 [kB 2 false,kB 11 false,kU 10,kU 9,kU 8,kU 7,kU 6,kB 5 false,kB 4 false] (RS.dn (A0 (G0 ?_)));cases h;exact fun a w hs=>rtR (rS hs)
 ·try dsimp only at h
  refine u0 5 [(8,.val (vP (some (Addr.add q1 1)))),kP 7 q1,kP 6 q1,kB 5 true,kB 4 true] ?_;obtain ⟨x2,hx,h⟩:=bind_some h;refine P0 9 58 (.tmp 8) (X0 hx E8) ?_;rcases x2 with _ | q3
  ·try dsimp only at h
   refine u0 3 [kB 2 false,kB 11 false,kB 10 false] (RS.dn (A0 (G0 ?_)));cases h;exact fun a w hs=>rtR (rS hs)
  ·try dsimp only at h
   refine u0 3 [kB 2 true,kB 11 true,kB 10 true] (RS.dn (A0 (G0 ?_)));cases h;exact fun a w hs=>rtR (rS hs)
def z5o:Bool→Value
 | r0=>(vB r0)
def z6v (H:AH):Bool→AH:=fun _=>H
noncomputable def B31:Code:=(Tryd.f31.body).getD .skip
noncomputable def Q2 (L:LC) (H:AH) (a0:Option Addr) (a1:Int):Option Bool :=
 (K2 L H a0).bind fun x1 => if x1=true then
  if a1≥0 then
   a0.bind fun q2 => (rd deSl H (Addr.add q2 0)).bind fun x3 => some (decide (a1<(x3.n:Int)))
  else
   some false
 else
  some false
theorem M3 {L:LC} {m:Nat} {H:AH} {a0:Option Addr} {a1:Int} {r:Bool} (h:Q2 L H a0 a1=some r) :
  CallS Tryd.prog (NE.plain 1000) m 31 #[(vP a0),(vI .i64 a1)] H (z5o r) (z6v H r):=by
 refine CallS.mk (args:=[(vP a0),(vI .i64 a1)]) Tryd.func31 (B:=B31) (by kernel_rfl) (fun E _=>?_);unfold Q2 at h;refine B0 (WS.rg (u0 1 [kB 4 false] (RS.dn (A0 (B0 (WS.rg (u0 1 [(5,.val (vP a0))] ?_)))))));obtain ⟨x1,hx,h⟩:=bind_some h;refine RS.cl (some 6) (v:=(vB x1)) 38 _ (G3 hx) (u0 1 [kB 7 x1] ?_);rcases Y0 h with ⟨hp,h⟩ | ⟨hp,h⟩
 ·refine O0 7 true hp (u0 4 [kB 11 (decide (a1≥0)),kB 10 (decide (a1≥0)),kB 9 (decide (a1≥0)),kI 8 a1] ?_);rcases Y0 h with ⟨hp,h⟩ | ⟨hp,h⟩
  ·refine O0 11 true (decide_eq_true hp) (u0 2 [(13,.val (vP a0)),kI 12 a1] ?_);obtain ⟨q2,hx,hq2⟩:=bind_some h;subst hx;have h:=hq2;refine u0 2 [(15,.val (vP (some (Addr.add q2 0)))),kP 14 q2] ?_;obtain ⟨x3,hx,h⟩:=bind_some h;refine P0 16 57 (.tmp 15) (X0 hx A1) (u0 4 [kB 4 (decide (a1<(x3.n:Int))),kB 19 (decide (a1<(x3.n:Int))),kB 18 (decide (a1<(x3.n:Int))),kI 17 (x3.n:Int)] (RS.dn (A0 (G0 ?_))));cases h;exact fun a w hs=>rtR (rS hs)
  ·refine O0 11 false (decide_eq_false hp) (u0 9 [kB 4 false,kB 19 false,kU 18,kU 17,kU 16,kU 15,kU 14,kU 13,kU 12] (RS.dn (A0 (G0 ?_))));cases h;exact fun a w hs=>rtR (rS hs)
 ·refine O0 7 false (b_not hp) (u0 13 [kB 4 false,kB 19 false,kU 18,kU 17,kU 16,kU 15,kU 14,kU 13,kU 12,kB 11 false,kB 10 false,kU 9,kU 8] (RS.dn (A0 (G0 ?_))));cases h;exact fun a w hs=>rtR (rS hs)
def Q9:(Sl3×AH)→Value
 | (r0,_)=>(Sl3.v r0)
def zk (_:AH):(Sl3×AH)→AH:=fun r=>r.2
noncomputable def B59:Code:=(Tryd.f59.body).getD .skip
noncomputable def M2 (_L:LC) (m:Nat) (a0:Option Addr):(AH×Int×Sl3)→Option (Lp (AH×Int×Sl3) (Sl3×AH)):=fun (H3,v1_4,v5_5) =>
 a0.bind fun q6 => (rd deSl H3 (Addr.add q6 6)).bind fun x7 => (idxA 5 x7 v1_4).bind fun p8 => (rd (deI .i64) H3 (Addr.add p8 0)).bind fun x9 => if x9≥0 then
  (rd deSl H3 (Addr.add q6 6)).bind fun x10 => (idxA 5 x10 v1_4).bind fun p11 => (rd (deI .i64) H3 (Addr.add p11 0)).bind fun x12 => (newR 3 1 #[(vI .i64 x12)] H3).bind fun (s13,H14) => (appS m 3 1 8 H14 v5_5 s13).bind fun (s15,H16) => some (.next (H16,x12,s15))
 else
  some (.brk (H3,v1_4,v5_5))
def z3d (_L:LC) (_m:Nat) (a0:Option Addr):(AH×Int×Sl3)→KN×Lcs:=fun (_,v1_4,v5_5)=>([kI 1 v1_4,kS 5 v5_5,(0,.val (vP a0))],[])
noncomputable def u5 (L:LC) (m:Nat) (H:AH) (a0:Option Addr) (a1:Int):Option (Sl3×AH) :=
 (newR 3 1 #[(vI .i64 a1)] H).bind fun (s1,H2) => (L.run (M2 L m a0) (H2,a1,s1)).bind fun o=>match o with
 | .inl (H17,_,v5_19) =>
  some (v5_19,H17)
 | .inr r=>some r
theorem R8 {E H L m a0} :LoopF Tryd.prog (NE.plain 1000) m E Tryd.f59 ((cfst (cfst (csnd (csnd B59))))) (z3d L m a0) (fun s=>s.1) 0 Q9 (zk H) (M2 L m a0):=by
 rintro ⟨H3,v1_4,v5_5⟩ o h
 unfold M2 at h;try dsimp only at h
 refine B0 (B0 (WS.rg (u0 1 [(8,.val (vP a0))] ?_)));obtain ⟨q6,hx,hq6⟩:=bind_some h;subst hx;have h:=hq6;refine u0 2 [(10,.val (vP (some (Addr.add q6 6)))),kP 9 q6] ?_;obtain ⟨x7,hx,h⟩:=bind_some h;refine P0 11 61 (.tmp 10) (X0 hx A1) (u0 1 [kI 12 v1_4] ?_);obtain ⟨p8,hx,h⟩:=bind_some h;refine T0 13 61 109 (.tmp 11) (.tmp 12) hx (u0 1 [(14,.val (vP (some (Addr.add p8 0))))] ?_);obtain ⟨x9,hx,h⟩:=bind_some h;refine P0 15 3 (.tmp 14) (X0 hx Z0) (u0 1 [kB 16 (decide (x9≥0))] (RS.dn (A0 ?_)));rcases Y0 h with ⟨hp,h⟩ | ⟨hp,h⟩
 ·refine D0 16 true (decide_eq_true hp) (I0 (K0 (A0 (M0 1 (B0 (WS.rg (u0 3 [(19,.val (vP (some (Addr.add q6 6)))),kP 18 q6,kP 17 q6] ?_)))))));obtain ⟨x10,hx,h⟩:=bind_some h;refine P0 20 61 (.tmp 19) (X0 hx A1) (u0 1 [kI 21 v1_4] ?_);obtain ⟨p11,hx,h⟩:=bind_some h;refine T0 22 61 109 (.tmp 20) (.tmp 21) hx (u0 1 [(23,.val (vP (some (Addr.add p11 0))))] ?_);obtain ⟨x12,hx,h⟩:=bind_some h;refine P0 24 3 (.tmp 23) (X0 hx Z0) (u0 1 [kI 1 x12] (RS.dn (A0 (WS.rg (u0 2 [kI 26 x12,kS 25 v5_5] ?_)))));obtain ⟨⟨s13,H14⟩,hx,h⟩:=bind_some h;try dsimp only at h
  refine RS.o (H':=H14) (some 27) (Sl3.v s13) (Abs.run_newR (by kernel_rfl) (by kernel_rfl) hx) ?_;obtain ⟨⟨s15,H16⟩,hx,h⟩:=bind_some h;try dsimp only at h
  refine RS.o (H':=H16) (some 28) (Sl3.v s15) (Abs.run_app (x:=.tmp 25) (y:=.tmp 27) (ts:=#[27,27]) (s:=v5_5) (z:=s13) (by kernel_rfl) (by kernel_rfl) (by kernel_rfl) (by kernel_rfl) hx) (u0 1 [kS 5 s15] (RS.dn ?_));cases h;exact fun a w hs=>bkN (lsN rfl (hs.sb 0))
 ·refine D0 16 false (decide_eq_false hp) (J0 (WS.ex 0 ?_));cases h;exact fun a w hs=>sqE (lsB rfl (hs.sb 0))
theorem u6 {L:LC} {m:Nat} {H:AH} {a0:Option Addr} {a1:Int} {r:(Sl3×AH)} (h:u5 L m H a0 a1=some r) :
  CallS Tryd.prog (NE.plain 1000) m 59 #[(vP a0),(vI .i64 a1)] H (Q9 r) (zk H r):=by
 refine CallS.mk (args:=[(vP a0),(vI .i64 a1)]) Tryd.func59 (B:=B59) (by kernel_rfl) (fun E _=>?_);unfold u5 at h;refine B0 (WS.rg (u0 1 [kS 4 Sl3.nil] (RS.dn (A0 (B0 (WS.rg (u0 1 [kI 6 a1] ?_)))))));obtain ⟨⟨s1,H2⟩,hx,h⟩:=bind_some h;try dsimp only at h
 refine RS.o (H':=H2) (some 7) (Sl3.v s1) (Abs.run_newR (by kernel_rfl) (by kernel_rfl) hx) (u0 1 [kS 5 s1] (RS.dn (A0 (B0 (M0 0 ?_)))));obtain ⟨o,hl,h⟩:=bind_some h;rcases o with ⟨H17,v1_18,v5_19⟩ | r
 ·try dsimp only at h
  refine S0 (R8 (L:=L) (E:=E) (m:=m) (H:=H)) (L.ok hl) 0 ?_;clear hl;refine fun a w hs=>bkE ((A0 ?_ a w hs));refine B0 (WS.rg (u0 2 [kS 4 v5_19,kS 29 v5_19] (RS.dn (A0 (G0 ?_)))));cases h;exact fun a w hs=>rtR (rS hs)
 ·try dsimp only at h
  refine R0 (R8 (L:=L) (E:=E) (m:=m) (H:=H)) (L.ok hl) 0 ?_;cases h;exact fun a w hq=>bkR (sqR (rtR hq))
def z9v:(Sl3×AH)→Value
 | (r0,_)=>(Sl3.v r0)
def zb4 (_:AH):(Sl3×AH)→AH:=fun r=>r.2
noncomputable def B74:Code:=(Tryd.f74.body).getD .skip
noncomputable def g9 (_L:LC) (m:Nat) (H:AH) (a0:Sl3) (a1:Int):Option (Sl3×AH) :=
 if a1<0 then
  none
 else
  Option.bind (α:=(AH×Sl3)) (
   Option.bind (gOp1 Tryd.prog (opsOf (cfst (cfst (csnd (csnd B74))))) 2 [(9,.val (Sl3.v a0))] (deI .i64) H) fun x3 => if (IntKind.i64.wrap (a1 - (IntKind.i64.wrap (x3 - (a0.n:Int))))) > 0 then
    Option.bind (gOp1 Tryd.prog (opsOf (cfst (csnd (csnd (cfst (csnd (csnd B74))))))) 2 [(18,.val (Sl3.v a0))] (deI .i64) H) fun x4 => (slc 1 H a0 none (some x4) none).bind fun s5 => Option.bind (gOp Tryd.prog m (opsOf (cfst (csnd (csnd (cfst (csnd (csnd B74))))))) 5 [(20,.val (Sl3.v s5)),(21,.val (vI .i64 (IntKind.i64.wrap (a1 - (IntKind.i64.wrap (x3 - (a0.n:Int)))))))] deSl H) fun (x6,H7) => (slc 1 H7 x6 none (some (a0.n:Int)) none).bind fun s8 => some (H7,s8)
   else
    some (H,a0)) fun (H1,v0_2) =>
  some (v0_2,H1)
theorem zb5 {L:LC} {m:Nat} {H:AH} {a0:Sl3} {a1:Int} {r:(Sl3×AH)} (h:g9 L m H a0 a1=some r) :
  CallS Tryd.prog (NE.plain 1000) m 74 #[(Sl3.v a0),(vI .i64 a1)] H (z9v r) (zb4 H r):=by
 refine CallS.mk (args:=[(Sl3.v a0),(vI .i64 a1)]) Tryd.func74 (B:=B74) (by kernel_rfl) (fun E _=>?_);unfold g9 at h;refine B0 (WS.rg (u0 1 [kS 4 Sl3.nil] (RS.dn (A0 (B0 (B0 (WS.rg (u0 2 [kB 6 (decide (a1<0)),kI 5 a1] (RS.dn ?_)))))))));refine A0 ?_;rcases Y0 h with ⟨hp,h⟩ | ⟨hp,h⟩
 ·refine D0 6 true (decide_eq_true hp) (I0 ?_);cases h
 ·refine D0 6 false (decide_eq_false hp) (J0 (K0 (A0 ?_)));obtain ⟨⟨H1,v0_2⟩,hx,h⟩:=bind_some h;try dsimp only at h
  refine B0 ?_;refine WS.join ([kS 0 v0_2]) ([]) H1 ?_ (fun a w hs=>A0 ?_ a w hs)
  ·clear h; rename _=>h;refine B0 (WS.rg (u0 2 [kS 9 a0,kI 8 a1] ?_));obtain ⟨x3,hx,h⟩:=bind_some h;refine RS.o (H':=H) (some 10) (vI .i64 x3) (z91 hx Z0 (by kernel_rfl) (by kernel_rfl)) (u0 5 [kI 1 (IntKind.i64.wrap (a1 - (IntKind.i64.wrap (x3 - (a0.n:Int))))),kI 14 (IntKind.i64.wrap (a1 - (IntKind.i64.wrap (x3 - (a0.n:Int))))),kI 13 (IntKind.i64.wrap (x3 - (a0.n:Int))),kI 12 (a0.n:Int),kS 11 a0] (RS.dn (A0 (B0 (WS.rg (u0 2 [kB 16 (decide ((IntKind.i64.wrap (a1 - (IntKind.i64.wrap (x3 - (a0.n:Int))))) > 0)),kI 15 (IntKind.i64.wrap (a1 - (IntKind.i64.wrap (x3 - (a0.n:Int)))))] (RS.dn (A0 ?_))))))));rcases Y0 h with ⟨hp,h⟩ | ⟨hp,h⟩
   ·refine D0 16 true (decide_eq_true hp) (I0 (WS.rg (u0 2 [kS 18 a0,kS 17 a0] ?_)));obtain ⟨x4,hx,h⟩:=bind_some h;refine RS.o (H':=H) (some 19) (vI .i64 x4) (z91 hx Z0 (by kernel_rfl) (by kernel_rfl)) ?_;obtain ⟨s5,hx,h⟩:=bind_some h;refine RS.o (H':=H) (some 20) (Sl3.v s5) (Abs.run_slice (t:=27) (e:=3) (x:=.tmp 17) (lo:=none) (hi:=(some (.tmp 19))) (mx:=none) (s:=a0) (k1:=.i64) (k2:=.i64) (k3:=.i64) (by kernel_rfl) (by kernel_rfl) (by kernel_rfl) (by kernel_rfl) (by kernel_rfl) (by kernel_rfl) (by kernel_rfl) hx) (u0 1 [kI 21 (IntKind.i64.wrap (a1 - (IntKind.i64.wrap (x3 - (a0.n:Int)))))] ?_);obtain ⟨⟨x6,H7⟩,hx,h⟩:=bind_some h;try dsimp only at h
    refine RS.o (H':=H7) (some 22) (Sl3.v x6) (zb6 hx A1 (by kernel_rfl)) (u0 2 [kI 24 (a0.n:Int),kS 23 a0] ?_);obtain ⟨s8,hx,h⟩:=bind_some h;refine RS.o (H':=H7) (some 25) (Sl3.v s8) (Abs.run_slice (t:=27) (e:=3) (x:=.tmp 22) (lo:=none) (hi:=(some (.tmp 24))) (mx:=none) (s:=x6) (k1:=.i64) (k2:=.i64) (k3:=.i64) (by kernel_rfl) (by kernel_rfl) (by kernel_rfl) (by kernel_rfl) (by kernel_rfl) (by kernel_rfl) (by kernel_rfl) hx) (u0 1 [kS 0 s8] (RS.dn ?_));cases h;exact fun a w hs=>(jsN (hs.sb 0))
   ·refine D0 16 false (decide_eq_false hp) (J0 (K0 ?_));cases h;exact fun a w hs=>(jsN (hs.sb 0))
  ·clear hx;refine B0 (WS.rg (u0 2 [kS 4 v0_2,kS 26 v0_2] (RS.dn (A0 (G0 ?_)))));cases h;exact fun a w hs=>rtR (rS hs)
def Z8:(Sl3×AH)→Value
 | (r0,_)=>(Sl3.v r0)
def J9 (_:AH):(Sl3×AH)→AH:=fun r=>r.2
noncomputable def B60:Code:=(Tryd.f60.body).getD .skip
noncomputable def J4 (_L:LC) (H:AH) (a0:Sl3):(Int×Int)→Option (Lp (Int×Int) (Sl3×AH)):=fun (v3_1,v11_2) =>
 if v11_2<(a0.n:Int) then
  (idxA 1 a0 v11_2).bind fun p3 => (rd deSl H p3).bind fun x4 => if (IntKind.i64.wrap (v3_1+(x4.n:Int)))<0 then
   none
  else
   some (.next ((IntKind.i64.wrap (v3_1+(x4.n:Int))),(IntKind.i64.wrap (v11_2+1))))
 else
  some (.brk (v3_1,v11_2))
def z6x (_L:LC) (_H:AH) (a0:Sl3):(Int×Int)→KN×Lcs:=fun (v3_1,v11_2)=>([kI 3 v3_1,kI 11 v11_2,kS 0 a0,kS 9 a0,kI 10 (a0.n:Int)],[])
noncomputable def K4 (_L:LC) (m:Nat) (a0:Sl3):(AH×Sl3×Int)→Option (Lp (AH×Sl3×Int) (Sl3×AH)):=fun (H9,v6_10,v27_11) =>
 if v27_11<(a0.n:Int) then
  (idxA 1 a0 v27_11).bind fun p12 => (rd deSl H9 p12).bind fun x13 => (appS m 3 1 8 H9 v6_10 x13).bind fun (s14,H15) => some (.next (H15,s14,(IntKind.i64.wrap (v27_11+1))))
 else
  some (.brk (H9,v6_10,v27_11))
def z78 (_L:LC) (_m:Nat) (a0:Sl3):(AH×Sl3×Int)→KN×Lcs:=fun (_,v6_10,v27_11)=>([kS 6 v6_10,kI 27 v27_11,kS 25 a0,kI 26 (a0.n:Int)],[])
noncomputable def K7 (L:LC) (m:Nat) (H:AH) (a0:Sl3):Option (Sl3×AH) :=
 (L.run (J4 L H a0) (0,0)).bind fun o=>match o with
 | .inl (v3_5,_) =>
  (g9 L m H Sl3.nil v3_5).bind fun (x7,H8) => (L.run (K4 L m a0) (H8,x7,0)).bind fun o=>match o with
  | .inl (H16,v6_17,_) =>
   some (v6_17,H16)
  | .inr r=>some r
 | .inr r=>some r
theorem z14 {E m L H a0} :LoopF Tryd.prog (NE.plain 1000) m E Tryd.f60 ((cfst (csnd (cfst (csnd (csnd B60)))))) (z6x L H a0) (fun _=>H) 0 Z8 (J9 H) (J4 L H a0):=by
 rintro ⟨v3_1,v11_2⟩ o h
 unfold J4 at h;try dsimp only at h
 refine B0 (WS.rg (u0 1 [kB 12 (decide (v11_2<(a0.n:Int)))] (RS.dn (A0 (B0 ?_)))));rcases Y0 h with ⟨hp,h⟩ | ⟨hp,h⟩
 ·refine D0 12 true (decide_eq_true hp) (I0 (K0 (A0 (B0 (M0 1 (B0 (WS.rg ?_)))))));obtain ⟨p3,hx,h⟩:=bind_some h;refine T0 13 125 27 (.tmp 9) (.tmp 11) hx ?_;obtain ⟨x4,hx,h⟩:=bind_some h;refine P0 14 27 (.tmp 13) (X0 hx A1) (u0 1 [kS 5 x4] (RS.dn (A0 (B0 (WS.rg (u0 5 [kI 3 (IntKind.i64.wrap (v3_1+(x4.n:Int))),kI 18 (IntKind.i64.wrap (v3_1+(x4.n:Int))),kI 17 (x4.n:Int),kS 16 x4,kI 15 v3_1] (RS.dn (A0 (B0 ?_)))))))));refine WS.rg (u0 2 [kB 20 (decide ((IntKind.i64.wrap (v3_1+(x4.n:Int)))<0)),kI 19 (IntKind.i64.wrap (v3_1+(x4.n:Int)))] (RS.dn (A0 ?_)));rcases Y0 h with ⟨hp,h⟩ | ⟨hp,h⟩
  ·refine D0 20 true (decide_eq_true hp) (I0 ?_);cases h
  ·refine D0 20 false (decide_eq_false hp) (J0 (K0 ?_));refine fun a w hs=>bkN ((A0 ?_ a w hs));refine WS.rg (u0 2 [kI 11 (IntKind.i64.wrap (v11_2+1)),kI 22 (IntKind.i64.wrap (v11_2+1))] (RS.dn ?_));cases h;exact fun a w hs=>lsN rfl (hs.sb 0)
 ·refine D0 12 false (decide_eq_false hp) (J0 (WS.ex 0 ?_));cases h;exact fun a w hs=>sqE (lsB rfl (hs.sb 0))
theorem z11 {E H L m a0} :LoopF Tryd.prog (NE.plain 1000) m E Tryd.f60 ((cfst (csnd (cfst (csnd (csnd (csnd (csnd B60)))))))) (z78 L m a0) (fun s=>s.1) 2 Z8 (J9 H) (K4 L m a0):=by
 rintro ⟨H9,v6_10,v27_11⟩ o h
 unfold K4 at h;try dsimp only at h
 refine B0 (WS.rg (u0 1 [kB 28 (decide (v27_11<(a0.n:Int)))] (RS.dn (A0 (B0 ?_)))));rcases Y0 h with ⟨hp,h⟩ | ⟨hp,h⟩
 ·refine D0 28 true (decide_eq_true hp) (I0 (K0 (A0 (B0 (M0 3 (B0 (WS.rg ?_)))))));obtain ⟨p12,hx,h⟩:=bind_some h;refine T0 29 125 27 (.tmp 25) (.tmp 27) hx ?_;obtain ⟨x13,hx,h⟩:=bind_some h;refine P0 30 27 (.tmp 29) (X0 hx A1) (u0 1 [kS 8 x13] (RS.dn (A0 (WS.rg (u0 2 [kS 32 x13,kS 31 v6_10] ?_)))));obtain ⟨⟨s14,H15⟩,hx,h⟩:=bind_some h;try dsimp only at h
  refine RS.o (H':=H15) (some 33) (Sl3.v s14) (Abs.run_app (x:=.tmp 31) (y:=.tmp 32) (ts:=#[27,27]) (s:=v6_10) (z:=x13) (by kernel_rfl) (by kernel_rfl) (by kernel_rfl) (by kernel_rfl) hx) (u0 1 [kS 6 s14] (RS.dn ?_));refine fun a w hs=>bkN ((A0 ?_ a w hs));refine WS.rg (u0 2 [kI 27 (IntKind.i64.wrap (v27_11+1)),kI 34 (IntKind.i64.wrap (v27_11+1))] (RS.dn ?_));cases h;exact fun a w hs=>lsN rfl (hs.sb 0)
 ·refine D0 28 false (decide_eq_false hp) (J0 (WS.ex 2 ?_));cases h;exact fun a w hs=>sqE (lsB rfl (hs.sb 0))
theorem z9s {L:LC} {m:Nat} {H:AH} {a0:Sl3} {r:(Sl3×AH)} (h:K7 L m H a0=some r) :
  CallS Tryd.prog (NE.plain 1000) m 60 #[(Sl3.v a0)] H (Z8 r) (J9 H r):=by
 refine CallS.mk (args:=[(Sl3.v a0)]) Tryd.func60 (B:=B60) (by kernel_rfl) (fun E _=>?_);unfold K7 at h;refine B0 (WS.rg (u0 1 [kS 2 Sl3.nil] (RS.dn (A0 (B0 (WS.rg (u0 1 [kI 3 0] (RS.dn (A0 ?_)))))))));refine B0 (B0 (WS.rg (u0 3 [kI 11 0,kI 10 (a0.n:Int),kS 9 a0] (RS.dn (A0 (M0 0 ?_))))));obtain ⟨o,hl,h⟩:=bind_some h;rcases o with ⟨v3_5,v11_6⟩ | r
 ·try dsimp only at h
  refine S0 (z14 (L:=L) (E:=E) (m:=m) (H:=H)) (L.ok hl) 0 ?_;clear hl;refine fun a w hs=>bkE ((A0 ?_ a w hs));refine B0 (WS.rg (u0 1 [kI 23 v3_5] ?_));obtain ⟨⟨x7,H8⟩,hx,h⟩:=bind_some h;try dsimp only at h
  refine RS.cl (some 24) (v:=(Sl3.v x7)) 74 _ (zb5 hx) (u0 1 [kS 6 x7] (RS.dn (A0 (B0 (B0 (WS.rg (u0 3 [kI 27 0,kI 26 (a0.n:Int),kS 25 a0] (RS.dn (A0 ?_)))))))));refine M0 2 ?_;obtain ⟨o,hl,h⟩:=bind_some h;rcases o with ⟨H16,v6_17,v27_18⟩ | r
  ·try dsimp only at h
   refine S0 (z11 (L:=L) (E:=E) (m:=m) (H:=H)) (L.ok hl) 0 ?_;clear hl;refine fun a w hs=>bkE ((A0 ?_ a w hs));refine B0 (WS.rg (u0 2 [kS 2 v6_17,kS 35 v6_17] (RS.dn (A0 (G0 ?_)))));cases h;exact fun a w hs=>rtR (rS hs)
  ·try dsimp only at h
   refine R0 (z11 (L:=L) (E:=E) (m:=m) (H:=H)) (L.ok hl) 0 ?_;cases h;exact fun a w hq=>bkR (sqR (rtR hq))
 ·try dsimp only at h
  refine R0 (z14 (L:=L) (E:=E) (m:=m) (H:=H)) (L.ok hl) 0 ?_;cases h;exact fun a w hq=>bkR (sqR (rtR hq))
def S3:(Sl3×AH)→Value
 | (r0,_)=>(Sl3.v r0)
def X3 (_:AH):(Sl3×AH)→AH:=fun r=>r.2
noncomputable def B32:Code:=(Tryd.f32.body).getD .skip
noncomputable def J2 (_L:LC) (_a0:Option Addr) (_p1 _p3:Nat) (_x10_0 _x10_1 _x10_2:Int) (_x10_3:Bool) (_s11:Sl3) (H15:AH):(Sl3×Sl3)→Option (Lp (Sl3×Sl3) (Sl3×AH)):=fun (v11_16,v12_17) =>
 Option.bind (α:=Bool) (
  if (v11_16.n:Int) > 0 then
   if (v12_17.n:Int) > 0 then
    (idxA 1 v11_16 (IntKind.i64.wrap ((v11_16.n:Int) - 1))).bind fun p19 => (rd (deI .i64) H15 p19).bind fun x20 => (idxA 1 v12_17 (IntKind.i64.wrap ((v12_17.n:Int) - 1))).bind fun p21 => (rd (deI .i64) H15 p21).bind fun x22 => some (decide (x20=x22))
   else
    some false
  else
   some false) fun v64_18 =>
 if v64_18=true then
  Option.bind (slc 1 H15 v11_16 none (some (IntKind.i64.wrap ((v11_16.n:Int) - 1))) none) fun s23 => Option.bind (slc 1 H15 v12_17 none (some (IntKind.i64.wrap ((v12_17.n:Int) - 1))) none) fun s24 => some (.next (s23,s24))
 else
  some (.brk (v11_16,v12_17))
def z1r (_L:LC) (a0:Option Addr) (p1 p3:Nat) (x10_0 x10_1 x10_2:Int) (x10_3:Bool) (s11:Sl3) (_H15:AH):(Sl3×Sl3)→KN×Lcs:=fun (v11_16,v12_17)=>([kS 11 v11_16,kS 12 v12_17,(0,.val (vP a0)),(7,.val (Value.map (some p1))),(8,.val (Value.map (some p3))),kS 9 s11],[some (91,[(vI .i64 x10_0),(vI .i64 x10_1),(vI .i64 x10_2),(vB x10_3)])])
noncomputable def W2 (_L:LC) (m _p1 _p3:Nat) (_x10_0 _x10_1 _x10_2:Int) (_x10_3:Bool) (_x29:Sl3) (_v80_33:Int) (q41:Addr) (_x44_0 _x44_1:Int) (_x44_2 x44_3:Int) (_x44_4:Bool) (x49:Sl3):(AH×Sl3×Int)→Option (Lp (AH×Sl3×Int) (Sl3×AH)):=fun (H50,v9_51,v117_52) =>
 if v117_52<(x49.n:Int) then
  (idxA 1 x49 v117_52).bind fun p53 => (rd (deI .i64) H50 p53).bind fun x54 => (rd deSl H50 (Addr.add q41 0)).bind fun x55 => (idxA 3 x55 x44_3).bind fun p56 => (rd deSl H50 (Addr.add p56 1)).bind fun x57 => (idxA 1 x57 v117_52).bind fun p58 => (rd (deI .i64) H50 p58).bind fun x59 => (newR 91 1 #[(vI .i64 x54),(vI .i64 x59),(vI .i64 0),(vB false)] H50).bind fun (s60,H61) => (appS m 91 4 32 H61 v9_51 s60).bind fun (s62,H63) => some (.next (H63,s62,(IntKind.i64.wrap (v117_52+1))))
 else
  some (.brk (H50,v9_51,v117_52))
def z1q (_L:LC) (_m p1 p3:Nat) (x10_0 x10_1 x10_2:Int) (x10_3:Bool) (x29:Sl3) (v80_33:Int) (q41:Addr) (x44_0 x44_1:Int) (x44_2 x44_3:Int) (x44_4:Bool) (x49:Sl3):(AH×Sl3×Int)→KN×Lcs:=fun (_,v9_51,v117_52)=>([kS 9 v9_51,kI 117 v117_52,kP 0 q41,(7,.val (Value.map (some p1))),(8,.val (Value.map (some p3))),kL 15 1 0,kS 78 x29,kI 79 (x29.n:Int),kI 80 v80_33,kS 115 x49,kI 116 (x49.n:Int)],[some (91,[(vI .i64 x10_0),(vI .i64 x10_1),(vI .i64 x10_2),(vB x10_3)]),some (109,[(vI .i64 x44_0),(vI .i64 x44_1),(vI .i64 x44_2),(vI .i64 x44_3),(vB x44_4)])])
noncomputable def Z1 (L:LC) (m:Nat) (a0:Option Addr) (p1 p3:Nat) (x10_0 x10_1 x10_2:Int) (x10_3:Bool) (x29:Sl3):(AH×Sl3×Int)→Option (Lp (AH×Sl3×Int) (Sl3×AH)):=fun (H31,v9_32,v80_33) =>
 if v80_33<(x29.n:Int) then
  Option.bind (α:=(AH×Sl3)) (
   (idxA 1 x29 v80_33).bind fun p36 => (rd (deI .i64) H31 p36).bind fun x37 => (lk1 Tryd.prog 110 (deI .i64) H31 (some p3) (vI .i64 x37)).bind fun x38 => (upM Tryd.prog m 110 H31 (some p3) (vI .i64 x37) (vI .i64 (IntKind.i64.wrap (x38+1)))).bind fun H39 => (lk1 Tryd.prog 110 (deI .i64) H39 (some p3) (vI .i64 x37)).bind fun x40 => if x40 > 1 then
    some (H39,v9_32)
   else
    a0.bind fun q41 => (rd deSl H39 (Addr.add q41 6)).bind fun x42 => (idxA 5 x42 x37).bind fun p43 => (rd (deI .i64) H39 (Addr.add p43 0)).bind fun x44_0 => (rd (deI .i64) H39 (Addr.add p43 1)).bind fun x44_1 => (rd (deI .i64) H39 (Addr.add p43 2)).bind fun x44_2 => (rd (deI .i64) H39 (Addr.add p43 3)).bind fun x44_3 => (rd deB H39 (Addr.add p43 4)).bind fun x44_4 => if x44_4=true then
     (rd deSl H39 (Addr.add q41 0)).bind fun x47 => (idxA 3 x47 x44_2).bind fun p48 => (rd deSl H39 (Addr.add p48 1)).bind fun x49 => (L.run (W2 L m p1 p3 x10_0 x10_1 x10_2 x10_3 x29 v80_33 q41 x44_0 x44_1 x44_2 x44_3 x44_4 x49) (H39,v9_32,0)).bind fun o=>match o with
     | .inl (H64,v9_65,_) =>
      some (H64,v9_65)
     | .inr _=>none
    else
     (lk1 Tryd.prog 110 (deI .i64) H39 (some p1) (vI .i64 x44_1)).bind fun x45 => (upM Tryd.prog m 110 H39 (some p1) (vI .i64 x44_1) (vI .i64 (IntKind.i64.wrap (x45+1)))).bind fun H46 => some (H46,v9_32)) fun (H34,v9_35) =>
  some (.next (H34,v9_35,(IntKind.i64.wrap (v80_33+1))))
 else
  some (.brk (H31,v9_32,v80_33))
def z1p (_L:LC) (_m:Nat) (a0:Option Addr) (p1 p3:Nat) (x10_0 x10_1 x10_2:Int) (x10_3:Bool) (x29:Sl3):(AH×Sl3×Int)→KN×Lcs:=fun (_,v9_32,v80_33)=>([kS 9 v9_32,kI 80 v80_33,(0,.val (vP a0)),(7,.val (Value.map (some p1))),(8,.val (Value.map (some p3))),kS 78 x29,kI 79 (x29.n:Int)],[some (91,[(vI .i64 x10_0),(vI .i64 x10_1),(vI .i64 x10_2),(vB x10_3)])])
noncomputable def X2 (L:LC) (m:Nat) (a0:Option Addr) (p1 p3:Nat):(AH×Sl3)→Option (Lp (AH×Sl3) (Sl3×AH)):=fun (H7,v9_8) =>
 if (v9_8.n:Int) > 0 then
  (idxA 4 v9_8 0).bind fun p9 => (rd (deI .i64) H7 (Addr.add p9 0)).bind fun x10_0 => (rd (deI .i64) H7 (Addr.add p9 1)).bind fun x10_1 => (rd (deI .i64) H7 (Addr.add p9 2)).bind fun x10_2 => (rd deB H7 (Addr.add p9 3)).bind fun x10_3 => (slc 4 H7 v9_8 (some 1) none none).bind fun s11 => (u5 L (Nat.max m H7.next) H7 a0 x10_0).bind fun (x12,H13) => (u5 L m H13 a0 x10_1).bind fun (x14,H15) => (L.run (J2 L a0 p1 p3 x10_0 x10_1 x10_2 x10_3 s11 H15) (x12,x14)).bind fun o=>match o with
  | .inl (v11_25,v12_26) =>
   (newR 27 2 #[(Sl3.v v11_25),(Sl3.v v12_26)] H15).bind fun (s27,H28) => (K7 L m H28 s27).bind fun (x29,H30) => (L.run (Z1 L m a0 p1 p3 x10_0 x10_1 x10_2 x10_3 x29) (H30,s11,0)).bind fun o=>match o with
   | .inl (H67,v9_68,_) =>
    some (.next (H67,v9_68))
   | .inr r=>some (.ret r)
  | .inr r=>some (.ret r)
 else
  some (.brk (H7,v9_8))
def z1t (_L:LC) (_m:Nat) (a0:Option Addr) (p1 p3:Nat):(AH×Sl3)→KN×Lcs:=fun (_,v9_8)=>([kS 9 v9_8,(0,.val (vP a0)),(7,.val (Value.map (some p1))),(8,.val (Value.map (some p3)))],[])
noncomputable def V3 (L:LC) (m:Nat) (H:AH) (a0:Option Addr) (a1 a2:Int):Option (Sl3×AH) :=
 (newM H).bind fun (p1,H2) => (newM H2).bind fun (p3,H4) => (newR 91 1 #[(vI .i64 a1),(vI .i64 a2),(vI .i64 0),(vB false)] H4).bind fun (s5,H6) => (L.run (X2 L m a0 p1 p3) (H6,s5)).bind fun o=>match o with
 | .inl (H70,_) =>
  keysS 3 m H70 p1
 | .inr r=>some r
theorem I7 {E m H L a0 p1 p3 x10_0 x10_1 x10_2 x10_3 s11 H15} :LoopF Tryd.prog (NE.plain 1000) m E Tryd.f32 ((cfst (cfst (csnd (csnd (csnd (cfst (csnd (cfst (cfst (cfst (csnd (csnd (csnd (csnd B32))))))))))))))) (z1r L a0 p1 p3 x10_0 x10_1 x10_2 x10_3 s11 H15) (fun _=>H15) 2 S3 (X3 H) (J2 L a0 p1 p3 x10_0 x10_1 x10_2 x10_3 s11 H15):=by
 rintro ⟨v11_16,v12_17⟩ o h
 unfold J2 at h;try dsimp only at h
 refine B0 ?_;obtain ⟨v64_18,hx,h⟩:=bind_some h;refine B0 ?_;refine WS.join ([kB 64 v64_18,(0,.val (vP a0)),(7,.val (Value.map (some p1))),(8,.val (Value.map (some p3))),kS 9 s11,kS 11 v11_16,kS 12 v12_17]) ([some (91,[(vI .i64 x10_0),(vI .i64 x10_1),(vI .i64 x10_2),(vB x10_3)])]) H15 ?_ (fun a w hs=>A0 ?_ a w hs)
 ·clear h; rename _=>h;refine Q0 [0,1,2,3,4,5,6,7,8,9,10,11,12,13,14,15,16,17,18,19,20] [0,1,3,7,15,31,63,127,255,511,511,1535,3583,8191,16383,511,511,66047,197119,492031,1016319,2097151,4194303] 23 (fun hcl=>?_);refine C0 0 (some 42) (Sl3.v v11_16) (C0 1 (some 43) (vI .i64 (v11_16.n:Int)) (C0 2 (some 44) (vB (decide ((v11_16.n:Int) > 0))) (C0 3 (some 45) (vB (decide ((v11_16.n:Int) > 0))) ?_)));rcases Y0 h with ⟨hp,h⟩ | ⟨hp,h⟩
  ·refine U0 45 true (decide_eq_true hp) (C0 4 (some 46) (Sl3.v v12_17) (C0 5 (some 47) (vI .i64 (v12_17.n:Int)) (C0 6 (some 48) (vB (decide ((v12_17.n:Int) > 0))) (C0 7 (some 49) (vB (decide ((v12_17.n:Int) > 0))) (C0 8 (some 50) (vB (decide ((v12_17.n:Int) > 0))) ?_)))));rcases Y0 h with ⟨hp,h⟩ | ⟨hp,h⟩
   ·refine U0 50 true (decide_eq_true hp) (C0 9 (some 51) (Sl3.v v11_16) (C0 10 (some 52) (Sl3.v v11_16) (C0 11 (some 53) (vI .i64 (v11_16.n:Int)) (C0 12 (some 54) (vI .i64 (IntKind.i64.wrap ((v11_16.n:Int) - 1))) ?_))));obtain ⟨p19,hx,h⟩:=bind_some h;refine E0 13 (some 55) (vP (some p19)) (Abs.det_idx (s:=v11_16) (k:=.i64) (t:=27) (e:=3) (x:=.tmp 51) (y:=.tmp 54) (by kernel_rfl) (by kernel_rfl) (by kernel_rfl) (by kernel_rfl) (by kernel_rfl) hx) ?_;obtain ⟨x20,hx,h⟩:=bind_some h;refine E0 14 (some 56) (vI .i64 x20) (Abs.det_load (t:=3) (x:=.tmp 55) (a:=p19) (by kernel_rfl) (by kernel_rfl) (by kernel_rfl) (by kernel_rfl) (X0 hx Z0)) (C0 15 (some 57) (Sl3.v v12_17) (C0 16 (some 58) (Sl3.v v12_17) (C0 17 (some 59) (vI .i64 (v12_17.n:Int)) (C0 18 (some 60) (vI .i64 (IntKind.i64.wrap ((v12_17.n:Int) - 1))) ?_))));obtain ⟨p21,hx,h⟩:=bind_some h;refine E0 19 (some 61) (vP (some p21)) (Abs.det_idx (s:=v12_17) (k:=.i64) (t:=27) (e:=3) (x:=.tmp 57) (y:=.tmp 60) (by kernel_rfl) (by kernel_rfl) (by kernel_rfl) (by kernel_rfl) (by kernel_rfl) hx) ?_;obtain ⟨x22,hx,h⟩:=bind_some h;refine E0 20 (some 62) (vI .i64 x22) (Abs.det_load (t:=3) (x:=.tmp 61) (a:=p21) (by kernel_rfl) (by kernel_rfl) (by kernel_rfl) (by kernel_rfl) (X0 hx Z0)) (DA.tP 21 (some 63) (vB (decide (x20=x22))) (DA.tP 22 (some 64) (vB (decide (x20=x22))) (DA.dn ?_)));cases h;exact fun a w hs=>(jsN (hs.sb 1))
   ·refine U0 50 false (decide_eq_false hp) ?_;refine F0 9 (some 51) (by kernel_rfl) (by kernel_rfl) (by kernel_rfl) hcl (fun _ _ _ h=>h) (by kernel_rfl) ?_;refine F0 10 (some 52) (by kernel_rfl) (by kernel_rfl) (by kernel_rfl) hcl (fun _ _ _ h=>h) (by kernel_rfl) ?_;refine F0 11 (some 53) (by kernel_rfl) (by kernel_rfl) (by kernel_rfl) hcl (fun _ _ _ h=>h) (by kernel_rfl) ?_;refine F0 12 (some 54) (by kernel_rfl) (by kernel_rfl) (by kernel_rfl) hcl (fun _ _ _ h=>h) (by kernel_rfl) ?_;refine F0 13 (some 55) (by kernel_rfl) (by kernel_rfl) (by kernel_rfl) hcl (fun _ _ _ h=>h) (by kernel_rfl) ?_;refine F0 14 (some 56) (by kernel_rfl) (by kernel_rfl) (by kernel_rfl) hcl (fun _ _ _ h=>h) (by kernel_rfl) ?_;refine F0 15 (some 57) (by kernel_rfl) (by kernel_rfl) (by kernel_rfl) hcl (fun _ _ _ h=>h) (by kernel_rfl) ?_;refine F0 16 (some 58) (by kernel_rfl) (by kernel_rfl) (by kernel_rfl) hcl (fun _ _ _ h=>h) (by kernel_rfl) ?_;refine F0 17 (some 59) (by kernel_rfl) (by kernel_rfl) (by kernel_rfl) hcl (fun _ _ _ h=>h) (by kernel_rfl) ?_;refine F0 18 (some 60) (by kernel_rfl) (by kernel_rfl) (by kernel_rfl) hcl (fun _ _ _ h=>h) (by kernel_rfl) ?_;refine F0 19 (some 61) (by kernel_rfl) (by kernel_rfl) (by kernel_rfl) hcl (fun _ _ _ h=>h) (by kernel_rfl) ?_;refine F0 20 (some 62) (by kernel_rfl) (by kernel_rfl) (by kernel_rfl) hcl (fun _ _ _ h=>h) (by kernel_rfl) ?_;refine N0 21 (some 63) (by kernel_rfl) (by kernel_rfl) (by kernel_rfl) hcl (fun _ _ _ h=>h) (by kernel_rfl) ?_;refine DA.tP 22 (some 64) (vB false) (DA.dn ?_);cases h;exact fun a w hs=>(jsN (hs.sb 1))
  ·refine U0 45 false (decide_eq_false hp) ?_;refine F0 4 (some 46) (by kernel_rfl) (by kernel_rfl) (by kernel_rfl) hcl (fun _ _ _ h=>h) (by kernel_rfl) ?_;refine F0 5 (some 47) (by kernel_rfl) (by kernel_rfl) (by kernel_rfl) hcl (fun _ _ _ h=>h) (by kernel_rfl) ?_;refine F0 6 (some 48) (by kernel_rfl) (by kernel_rfl) (by kernel_rfl) hcl (fun _ _ _ h=>h) (by kernel_rfl) ?_;refine C0 7 (some 49) (vB false) (C0 8 (some 50) (vB false) ?_);refine F0 9 (some 51) (by kernel_rfl) (by kernel_rfl) (by kernel_rfl) hcl (fun _ _ _ h=>h) (by kernel_rfl) ?_;refine F0 10 (some 52) (by kernel_rfl) (by kernel_rfl) (by kernel_rfl) hcl (fun _ _ _ h=>h) (by kernel_rfl) ?_;refine F0 11 (some 53) (by kernel_rfl) (by kernel_rfl) (by kernel_rfl) hcl (fun _ _ _ h=>h) (by kernel_rfl) ?_;refine F0 12 (some 54) (by kernel_rfl) (by kernel_rfl) (by kernel_rfl) hcl (fun _ _ _ h=>h) (by kernel_rfl) ?_;refine F0 13 (some 55) (by kernel_rfl) (by kernel_rfl) (by kernel_rfl) hcl (fun _ _ _ h=>h) (by kernel_rfl) ?_;refine F0 14 (some 56) (by kernel_rfl) (by kernel_rfl) (by kernel_rfl) hcl (fun _ _ _ h=>h) (by kernel_rfl) ?_;refine F0 15 (some 57) (by kernel_rfl) (by kernel_rfl) (by kernel_rfl) hcl (fun _ _ _ h=>h) (by kernel_rfl) ?_;refine F0 16 (some 58) (by kernel_rfl) (by kernel_rfl) (by kernel_rfl) hcl (fun _ _ _ h=>h) (by kernel_rfl) ?_;refine F0 17 (some 59) (by kernel_rfl) (by kernel_rfl) (by kernel_rfl) hcl (fun _ _ _ h=>h) (by kernel_rfl) ?_;refine F0 18 (some 60) (by kernel_rfl) (by kernel_rfl) (by kernel_rfl) hcl (fun _ _ _ h=>h) (by kernel_rfl) ?_;refine F0 19 (some 61) (by kernel_rfl) (by kernel_rfl) (by kernel_rfl) hcl (fun _ _ _ h=>h) (by kernel_rfl) ?_;refine F0 20 (some 62) (by kernel_rfl) (by kernel_rfl) (by kernel_rfl) hcl (fun _ _ _ h=>h) (by kernel_rfl) ?_;refine N0 21 (some 63) (by kernel_rfl) (by kernel_rfl) (by kernel_rfl) hcl (fun _ _ _ h=>h) (by kernel_rfl) ?_;refine DA.tP 22 (some 64) (vB false) (DA.dn ?_);cases h;exact fun a w hs=>(jsN (hs.sb 1))
 ·clear hx;rcases Y0 h with ⟨hp,h⟩ | ⟨hp,h⟩
  ·refine D0 64 true hp (I0 (K0 (A0 (M0 3 ?_))));obtain ⟨s23,hx_4,h⟩:=bind_some h;obtain ⟨s24,hx_9,h⟩:=bind_some h;refine WS.toone ([(0,.val (vP a0)),(7,.val (Value.map (some p1))),(8,.val (Value.map (some p3))),kS 9 s11,kS 11 s23,kS 12 s24]) ([some (91,[(vI .i64 x10_0),(vI .i64 x10_1),(vI .i64 x10_2),(vB x10_3)])]) H15 ?_ ?_
   ·clear h;refine Q0 [] [0,0,2,6,15,0,0,64,192,480,31,2047] 12 (fun hcl=>?_);refine DA.tP 0 (some 65) (Sl3.v v11_16) (DA.tP 1 (some 66) (Sl3.v v11_16) (DA.tP 2 (some 67) (vI .i64 (v11_16.n:Int)) (DA.tP 3 (some 68) (vI .i64 (IntKind.i64.wrap ((v11_16.n:Int) - 1))) (DA.tP 5 (some 70) (Sl3.v v12_17) (DA.tP 6 (some 71) (Sl3.v v12_17) (DA.tP 7 (some 72) (vI .i64 (v12_17.n:Int)) (DA.tP 8 (some 73) (vI .i64 (IntKind.i64.wrap ((v12_17.n:Int) - 1))) ?_)))))));refine DA.two 4 9 (by kernel_rfl) ?_ ?_
    ·refine W0 (H':=H15) 4 (some 69) (Sl3.v s23) (Abs.run_slice (t:=27) (e:=3) (x:=.tmp 65) (lo:=none) (hi:=(some (.tmp 68))) (mx:=none) (s:=v11_16) (k1:=.i64) (k2:=.i64) (k3:=.i64) (by kernel_rfl) (by kernel_rfl) (by kernel_rfl) (by kernel_rfl) (by kernel_rfl) (by kernel_rfl) (by kernel_rfl) hx_4) (DA.tP 10 (some 11) (Sl3.v s23) (DA.on 9 (W0 (H':=H15) 9 (some 74) (Sl3.v s24) (Abs.run_slice (t:=27) (e:=3) (x:=.tmp 70) (lo:=none) (hi:=(some (.tmp 73))) (mx:=none) (s:=v12_17) (k1:=.i64) (k2:=.i64) (k3:=.i64) (by kernel_rfl) (by kernel_rfl) (by kernel_rfl) (by kernel_rfl) (by kernel_rfl) (by kernel_rfl) (by kernel_rfl) hx_9) (DA.tP 11 (some 12) (Sl3.v s24) (DA.dn ?_)))));exact fun a w hs=>jsN (hs.sb 1)
    ·refine W0 (H':=H15) 9 (some 74) (Sl3.v s24) (Abs.run_slice (t:=27) (e:=3) (x:=.tmp 70) (lo:=none) (hi:=(some (.tmp 73))) (mx:=none) (s:=v12_17) (k1:=.i64) (k2:=.i64) (k3:=.i64) (by kernel_rfl) (by kernel_rfl) (by kernel_rfl) (by kernel_rfl) (by kernel_rfl) (by kernel_rfl) (by kernel_rfl) hx_9) (DA.on 4 (W0 (H':=H15) 4 (some 69) (Sl3.v s23) (Abs.run_slice (t:=27) (e:=3) (x:=.tmp 65) (lo:=none) (hi:=(some (.tmp 68))) (mx:=none) (s:=v11_16) (k1:=.i64) (k2:=.i64) (k3:=.i64) (by kernel_rfl) (by kernel_rfl) (by kernel_rfl) (by kernel_rfl) (by kernel_rfl) (by kernel_rfl) (by kernel_rfl) hx_4) (DA.tP 10 (some 11) (Sl3.v s23) (DA.tP 11 (some 12) (Sl3.v s24) (DA.dn ?_)))));exact fun a w hs=>jsN (hs.sb 1)
   ·cases h;exact fun a w hs=>bkN (lsN rfl (hs.sb 1))
  ·refine D0 64 false (b_not hp) (J0 (WS.ex 2 ?_));cases h;exact fun a w hs=>sqE (lsB rfl (hs.sb 1))
theorem J7 {E H L m p1 p3 x10_0 x10_1 x10_2 x10_3 x29 v80_33 q41 x44_0 x44_1 x44_2 x44_3 x44_4 x49} :LoopF Tryd.prog (NE.plain 1000) m E Tryd.f32 ((cfst (csnd (csnd (csnd (csnd (csnd (cfst (cfst (csnd (csnd (cfst (cfst (csnd (csnd (csnd (csnd (csnd (cfst (csnd (cfst (cfst (cfst (csnd (csnd (csnd (csnd B32))))))))))))))))))))))))))) (z1q L m p1 p3 x10_0 x10_1 x10_2 x10_3 x29 v80_33 q41 x44_0 x44_1 x44_2 x44_3 x44_4 x49) (fun s=>s.1) 6 S3 (X3 H) (W2 L m p1 p3 x10_0 x10_1 x10_2 x10_3 x29 v80_33 q41 x44_0 x44_1 x44_2 x44_3 x44_4 x49):=by
 rintro ⟨H50,v9_51,v117_52⟩ o h
 unfold W2 at h;try dsimp only at h
 refine B0 (WS.rg (u0 1 [kB 118 (decide (v117_52<(x49.n:Int)))] (RS.dn (A0 (B0 ?_)))));rcases Y0 h with ⟨hp,h⟩ | ⟨hp,h⟩
 ·refine D0 118 true (decide_eq_true hp) (I0 (K0 (A0 (B0 (M0 7 (B0 (WS.rg (u0 1 [kI 119 v117_52] ?_))))))));obtain ⟨p53,hx,h⟩:=bind_some h;refine T0 120 27 3 (.tmp 115) (.tmp 117) hx ?_;obtain ⟨x54,hx,h⟩:=bind_some h;refine P0 121 3 (.tmp 120) (X0 hx Z0) (u0 2 [kI 17 x54,kI 16 v117_52] (RS.dn (A0 ?_)));refine Q0 [2,3,4,5,6,7,8,9,10,11,12,13] [0,0,0,4,12,28,0,64,252,508,1020,0,4092,8188,16382,32766,65535,131071] 18 (fun hcl=>?_);refine C0 2 (some 124) (vP (some q41)) (C0 3 (some 125) (vP (some q41)) (C0 4 (some 126) (vP (some (Addr.add q41 0))) ?_));obtain ⟨x55,hx,h⟩:=bind_some h;refine E0 5 (some 127) (Sl3.v x55) (Abs.det_load (t:=57) (x:=.tmp 126) (a:=(Addr.add q41 0)) (by kernel_rfl) (by kernel_rfl) (by kernel_rfl) (by kernel_rfl) (X0 hx A1)) (DA.tL 6 (some 128) (.loc 1 3) (DA.tL 7 (some 129) (.val (vI .i64 x44_3)) ?_));obtain ⟨p56,hx,h⟩:=bind_some h;refine E0 8 (some 130) (vP (some p56)) (Abs.det_idx (s:=x55) (k:=.i64) (t:=57) (e:=86) (x:=.tmp 127) (y:=.tmp 129) (by kernel_rfl) (by kernel_rfl) (by kernel_rfl) (by kernel_rfl) (by kernel_rfl) hx) (C0 9 (some 131) (vP (some (Addr.add p56 1))) ?_);obtain ⟨x57,hx,h⟩:=bind_some h;refine E0 10 (some 132) (Sl3.v x57) (Abs.det_load (t:=27) (x:=.tmp 131) (a:=(Addr.add p56 1)) (by kernel_rfl) (by kernel_rfl) (by kernel_rfl) (by kernel_rfl) (X0 hx A1)) (C0 11 (some 133) (vI .i64 v117_52) ?_);obtain ⟨p58,hx,h⟩:=bind_some h;refine E0 12 (some 134) (vP (some p58)) (Abs.det_idx (s:=x57) (k:=.i64) (t:=27) (e:=3) (x:=.tmp 132) (y:=.tmp 133) (by kernel_rfl) (by kernel_rfl) (by kernel_rfl) (by kernel_rfl) (by kernel_rfl) hx) ?_;obtain ⟨x59,hx,h⟩:=bind_some h;refine E0 13 (some 135) (vI .i64 x59) (Abs.det_load (t:=3) (x:=.tmp 134) (a:=p58) (by kernel_rfl) (by kernel_rfl) (by kernel_rfl) (by kernel_rfl) (X0 hx Z0)) (DA.tP 0 (some 122) (Sl3.v v9_51) (DA.tP 1 (some 123) (vI .i64 x54) (DA.tP 14 (some 136) (vA #[(vI .i64 x54),(vI .i64 x59),(vI .i64 0),(vB false)]) ?_)));obtain ⟨⟨s60,H61⟩,hx,h⟩:=bind_some h;try dsimp only at h
  refine DA.on 15 (W0 (H':=H61) 15 (some 137) (Sl3.v s60) (Abs.run_newR (by kernel_rfl) (by kernel_rfl) hx) ?_);obtain ⟨⟨s62,H63⟩,hx,h⟩:=bind_some h;try dsimp only at h
  refine DA.on 16 (W0 (H':=H63) 16 (some 138) (Sl3.v s62) (Abs.run_app (x:=.tmp 122) (y:=.tmp 137) (ts:=#[59,59]) (s:=v9_51) (z:=s60) (by kernel_rfl) (by kernel_rfl) (by kernel_rfl) (by kernel_rfl) hx) (DA.tP 17 (some 9) (Sl3.v s62) (DA.dn ?_)));refine fun a w hs=>bkN ((A0 ?_ a w hs));refine WS.rg (u0 2 [kI 117 (IntKind.i64.wrap (v117_52+1)),kI 139 (IntKind.i64.wrap (v117_52+1))] (RS.dn ?_));cases h;exact fun a w hs=>lsN rfl (hs.sb 2)
 ·refine D0 118 false (decide_eq_false hp) (J0 (WS.ex 6 ?_));cases h;exact fun a w hs=>sqE (lsB rfl (hs.sb 2))
theorem L7 {E H L m a0 p1 p3 x10_0 x10_1 x10_2 x10_3 x29} :LoopF Tryd.prog (NE.plain 1000) m E Tryd.f32 ((cfst (csnd (csnd (csnd (csnd (csnd (cfst (csnd (cfst (cfst (cfst (csnd (csnd (csnd (csnd B32)))))))))))))))) (z1p L m a0 p1 p3 x10_0 x10_1 x10_2 x10_3 x29) (fun s=>s.1) 4 S3 (X3 H) (Z1 L m a0 p1 p3 x10_0 x10_1 x10_2 x10_3 x29):=by
 rintro ⟨H31,v9_32,v80_33⟩ o h
 unfold Z1 at h;try dsimp only at h
 refine B0 (WS.rg (u0 1 [kB 81 (decide (v80_33<(x29.n:Int)))] (RS.dn (A0 (B0 ?_)))));rcases Y0 h with ⟨hp,h⟩ | ⟨hp,h⟩
 ·refine D0 81 true (decide_eq_true hp) (I0 (K0 (A0 ?_)));obtain ⟨⟨H34,v9_35⟩,hx,h⟩:=bind_some h;try dsimp only at h
  refine B0 ?_;refine WS.join ([kS 9 v9_35,(0,.val (vP a0)),(7,.val (Value.map (some p1))),(8,.val (Value.map (some p3))),kS 78 x29,kI 79 (x29.n:Int),kI 80 v80_33]) ([some (91,[(vI .i64 x10_0),(vI .i64 x10_1),(vI .i64 x10_2),(vB x10_3)])]) H34 ?_ (fun a w hs=>A0 ?_ a w hs)
  ·clear h; rename _=>h;refine M0 5 (B0 (WS.rg ?_));obtain ⟨p36,hx,h⟩:=bind_some h;refine T0 82 27 3 (.tmp 78) (.tmp 80) hx ?_;obtain ⟨x37,hx,h⟩:=bind_some h;refine P0 83 3 (.tmp 82) (X0 hx Z0) (u0 1 [kI 14 x37] (RS.dn (A0 (B0 (B0 (WS.rg (u0 2 [kI 85 x37,(84,.val (Value.map (some p3)))] ?_)))))));obtain ⟨x38,hx,h⟩:=bind_some h;refine RS.o (H':=H31) (some 86) (vI .i64 x38) (Abs.run_look (t:=110) (x:=.tmp 84) (y:=.tmp 85) (mm:=(some p3)) (k:=(vI .i64 x37)) (by kernel_rfl) (by kernel_rfl) (by kernel_rfl) (by kernel_rfl) (lk1_eq hx Z0)) (u0 1 [kI 87 (IntKind.i64.wrap (x38+1))] ?_);obtain ⟨H39,hx,h⟩:=bind_some h;refine RS.o (H':=H39) none undef (Abs.run_upM (t:=110) (x:=.tmp 84) (y:=.tmp 85) (z:=.tmp 87) (mm:=(some p3)) (k:=(vI .i64 x37)) (v:=(vI .i64 (IntKind.i64.wrap (x38+1)))) (by kernel_rfl) (by kernel_rfl) (by kernel_rfl) (by kernel_rfl) (by kernel_rfl) hx) (RS.dn (A0 (B0 (WS.rg (u0 2 [kI 89 x37,(88,.val (Value.map (some p3)))] ?_)))));obtain ⟨x40,hx,h⟩:=bind_some h;refine RS.o (H':=H39) (some 90) (vI .i64 x40) (Abs.run_look (t:=110) (x:=.tmp 88) (y:=.tmp 89) (mm:=(some p3)) (k:=(vI .i64 x37)) (by kernel_rfl) (by kernel_rfl) (by kernel_rfl) (by kernel_rfl) (lk1_eq hx Z0)) (u0 1 [kB 91 (decide (x40 > 1))] (RS.dn (A0 ?_)));rcases Y0 h with ⟨hp,h⟩ | ⟨hp,h⟩
   ·refine D0 91 true (decide_eq_true hp) (I0 (WS.ex 5 ?_));cases h;exact fun a w hs=>sqE (bkE ((jsN (hs.sb 1))))
   ·refine D0 91 false (decide_eq_false hp) (J0 (K0 (A0 (B0 (WS.rg (u0 1 [(92,.val (vP a0))] ?_))))));obtain ⟨q41,hx,hq41⟩:=bind_some h;subst hx;have h:=hq41;refine u0 2 [(94,.val (vP (some (Addr.add q41 6)))),kP 93 q41] ?_;obtain ⟨x42,hx,h⟩:=bind_some h;refine P0 95 61 (.tmp 94) (X0 hx A1) (u0 1 [kI 96 x37] ?_);obtain ⟨p43,hx,h⟩:=bind_some h;refine T0 97 61 109 (.tmp 95) (.tmp 96) hx ?_;obtain ⟨x44_0,hx0,h⟩:=bind_some h;obtain ⟨x44_1,hx1,h⟩:=bind_some h;obtain ⟨x44_2,hx2,h⟩:=bind_some h;obtain ⟨x44_3,hx3,h⟩:=bind_some h;obtain ⟨x44_4,hx4,h⟩:=bind_some h;refine RS.la 98 109 (.tmp 97) 5 (J1 (X0 hx0 Z0) (J1 (X0 hx1 Z0) (J1 (X0 hx2 Z0) (J1 (X0 hx3 Z0) (J1 (X0 hx4 o5) U6))))) (V0 2 [kL 15 1 0] ([some (91,[(vI .i64 x10_0),(vI .i64 x10_1),(vI .i64 x10_2),(vB x10_3)]),some (109,[(vI .i64 x44_0),(vI .i64 x44_1),(vI .i64 x44_2),(vI .i64 x44_3),(vB x44_4)])]) (RS.dn (A0 (B0 (B0 (WS.rg (u0 3 [kB 101 (!x44_4),kB 100 x44_4,kL 99 1 4] (RS.dn (A0 ?_)))))))));rcases Y0 h with ⟨hp,h⟩ | ⟨hp,h⟩
    ·refine D0 101 false (nb_not hp) (J0 (K0 (A0 (B0 ?_))));refine Q0 [0,1,2,3,4,5,6,7,8] [0,1,3,7,0,16,63,127,255,511,0] 11 (fun hcl=>?_);refine C0 0 (some 107) (vP (some q41)) (C0 1 (some 108) (vP (some q41)) (C0 2 (some 109) (vP (some (Addr.add q41 0))) ?_));obtain ⟨x47,hx,h⟩:=bind_some h;refine E0 3 (some 110) (Sl3.v x47) (Abs.det_load (t:=57) (x:=.tmp 109) (a:=(Addr.add q41 0)) (by kernel_rfl) (by kernel_rfl) (by kernel_rfl) (by kernel_rfl) (X0 hx A1)) (DA.tL 4 (some 111) (.loc 1 2) (DA.tL 5 (some 112) (.val (vI .i64 x44_2)) ?_));obtain ⟨p48,hx,h⟩:=bind_some h;refine E0 6 (some 113) (vP (some p48)) (Abs.det_idx (s:=x47) (k:=.i64) (t:=57) (e:=86) (x:=.tmp 110) (y:=.tmp 112) (by kernel_rfl) (by kernel_rfl) (by kernel_rfl) (by kernel_rfl) (by kernel_rfl) hx) (C0 7 (some 114) (vP (some (Addr.add p48 1))) ?_);obtain ⟨x49,hx,h⟩:=bind_some h;refine E0 8 (some 115) (Sl3.v x49) (Abs.det_load (t:=27) (x:=.tmp 114) (a:=(Addr.add p48 1)) (by kernel_rfl) (by kernel_rfl) (by kernel_rfl) (by kernel_rfl) (X0 hx A1)) (DA.tP 9 (some 116) (vI .i64 (x49.n:Int)) (DA.tP 10 (some 117) (vI .i64 0) (DA.dn (A0 (M0 6 ?_)))));obtain ⟨o,hl,h⟩:=bind_some h;rcases o with ⟨H64,v9_65,v117_66⟩ | r
     ·try dsimp only at h
      refine S0 (J7 (L:=L) (E:=E) (m:=m) (H:=H)) (L.ok hl) 2 ?_;clear hl;cases h;exact fun a w hs=>bkE (bkN ((jsN (hs.sb 1))))
     ·try dsimp only at h
      refine R0 (J7 (L:=L) (E:=E) (m:=m) (H:=H)) (L.ok hl) 2 ?_;cases h
    ·refine D0 101 true (D3 hp) (I0 (B0 (WS.rg (u0 3 [kI 104 x44_1,kL 103 1 1,(102,.val (Value.map (some p1)))] ?_))));obtain ⟨x45,hx,h⟩:=bind_some h;refine RS.o (H':=H39) (some 105) (vI .i64 x45) (Abs.run_look (t:=110) (x:=.tmp 102) (y:=.tmp 104) (mm:=(some p1)) (k:=(vI .i64 x44_1)) (by kernel_rfl) (by kernel_rfl) (by kernel_rfl) (by kernel_rfl) (lk1_eq hx Z0)) (u0 1 [kI 106 (IntKind.i64.wrap (x45+1))] ?_);obtain ⟨H46,hx,h⟩:=bind_some h;refine RS.o (H':=H46) none undef (Abs.run_upM (t:=110) (x:=.tmp 102) (y:=.tmp 104) (z:=.tmp 106) (mm:=(some p1)) (k:=(vI .i64 x44_1)) (v:=(vI .i64 (IntKind.i64.wrap (x45+1)))) (by kernel_rfl) (by kernel_rfl) (by kernel_rfl) (by kernel_rfl) (by kernel_rfl) hx) (RS.dn (A0 (WS.ex 5 ?_)));cases h;exact fun a w hs=>sqE (bkE ((jsN (hs.sb 1))))
  ·clear hx;refine WS.rg (u0 2 [kI 80 (IntKind.i64.wrap (v80_33+1)),kI 140 (IntKind.i64.wrap (v80_33+1))] (RS.dn ?_));cases h;exact fun a w hs=>lsN rfl (hs.sb 1)
 ·refine D0 81 false (decide_eq_false hp) (J0 (WS.ex 4 ?_));cases h;exact fun a w hs=>sqE (lsB rfl (hs.sb 1))
theorem P7 {E H L m a0 p1 p3} :LoopF Tryd.prog (NE.plain 1000) m E Tryd.f32 ((cfst (cfst (csnd (csnd (csnd (csnd B32))))))) (z1t L m a0 p1 p3) (fun s=>s.1) 0 S3 (X3 H) (X2 L m a0 p1 p3):=by
 rintro ⟨H7,v9_8⟩ o h
 unfold X2 at h;try dsimp only at h
 refine B0 (B0 (WS.rg (u0 3 [kB 28 (decide ((v9_8.n:Int) > 0)),kI 27 (v9_8.n:Int),kS 26 v9_8] (RS.dn (A0 ?_)))));rcases Y0 h with ⟨hp,h⟩ | ⟨hp,h⟩
 ·refine D0 28 true (decide_eq_true hp) (I0 (K0 (A0 (M0 1 (B0 (WS.rg (u0 1 [kS 29 v9_8] ?_)))))));obtain ⟨p9,hx,h⟩:=bind_some h;refine T0 30 59 91 (.tmp 29) (.const (vI .i64 0)) hx ?_;obtain ⟨x10_0,hx0,h⟩:=bind_some h;obtain ⟨x10_1,hx1,h⟩:=bind_some h;obtain ⟨x10_2,hx2,h⟩:=bind_some h;obtain ⟨x10_3,hx3,h⟩:=bind_some h;refine RS.la 31 91 (.tmp 30) 4 (J1 (X0 hx0 Z0) (J1 (X0 hx1 Z0) (J1 (X0 hx2 Z0) (J1 (X0 hx3 o5) U6)))) (V0 2 [kL 10 0 0] ([some (91,[(vI .i64 x10_0),(vI .i64 x10_1),(vI .i64 x10_2),(vB x10_3)])]) (RS.dn (A0 (B0 (WS.rg (u0 1 [kS 32 v9_8] ?_))))));obtain ⟨s11,hx,h⟩:=bind_some h;refine RS.o (H':=H7) (some 33) (Sl3.v s11) (Abs.run_slice (t:=59) (e:=91) (x:=.tmp 32) (lo:=(some (.const (vI .i64 1)))) (hi:=none) (mx:=none) (s:=v9_8) (k1:=.i64) (k2:=.i64) (k3:=.i64) (by kernel_rfl) (by kernel_rfl) (by kernel_rfl) (by kernel_rfl) (by kernel_rfl) (by kernel_rfl) (by kernel_rfl) hx) (u0 1 [kS 9 s11] (RS.dn (A0 (B0 ?_))));obtain ⟨⟨x12,H13⟩,hx_3,h⟩:=bind_some h;try dsimp only at h
  obtain ⟨⟨x14,H15⟩,hx_7,h⟩:=bind_some h;try dsimp only at h
  refine WS.toone ([(0,.val (vP a0)),(7,.val (Value.map (some p1))),(8,.val (Value.map (some p3))),kS 9 s11,kS 11 x12,kS 12 x14]) ([some (91,[(vI .i64 x10_0),(vI .i64 x10_1),(vI .i64 x10_2),(vB x10_3)])]) H15 ?_ ?_
  ·clear h;refine Q0 [1,2] [0,0,2,7,0,0,32,127,255,511] 10 (fun hcl=>?_);refine DA.tL 1 (some 35) (.loc 0 0) (DA.tL 2 (some 36) (.val (vI .i64 x10_0)) (DA.tP 0 (some 34) (vP a0) (DA.tP 4 (some 38) (vP a0) (DA.restart [1,2,5] (by kernel_rfl) (DA.tL 5 (some 39) (.loc 0 1) ?_)))));refine DA.two 3 6 (by kernel_rfl) ?_ ?_
   ·refine DA.aCj 3 (some 37) true (v:=(Sl3.v x12)) 59 _ (u6 hx_3) (DA.on 6 (DA.aL 6 (some 40) (.val (vI .i64 x10_1)) ([some (91,[(vI .i64 x10_0),(vI .i64 x10_1),(vI .i64 x10_2),(vB x10_3)])]) false (DA.on 7 (DA.aC 7 (some 41) (v:=(Sl3.v x14)) 59 #[(vP a0),(vI .i64 x10_1)] (u6 hx_7) (DA.tP 8 (some 11) (Sl3.v x12) (DA.tP 9 (some 12) (Sl3.v x14) (DA.dn ?_)))))));exact fun a w hs=>jsN (hs.sb 1)
   ·refine DA.aL 6 (some 40) (.val (vI .i64 x10_1)) ([some (91,[(vI .i64 x10_0),(vI .i64 x10_1),(vI .i64 x10_2),(vB x10_3)])]) true (DA.on 3 (DA.aCj 3 (some 37) false (v:=(Sl3.v x12)) 59 #[(vP a0),(vI .i64 x10_0)] (u6 hx_3) (DA.on 7 (DA.aC 7 (some 41) (v:=(Sl3.v x14)) 59 #[(vP a0),(vI .i64 x10_1)] (u6 hx_7) (DA.tP 8 (some 11) (Sl3.v x12) (DA.tP 9 (some 12) (Sl3.v x14) (DA.dn ?_)))))));exact fun a w hs=>jsN (hs.sb 1)
  ·refine A0 (B0 (M0 2 ?_));obtain ⟨o,hl,h⟩:=bind_some h;rcases o with ⟨v11_25,v12_26⟩ | r
   ·try dsimp only at h
    refine S0 (I7 (L:=L) (E:=E) (m:=m) (H:=H)) (L.ok hl) 1 ?_;clear hl;refine fun a w hs=>bkE ((A0 ?_ a w hs));refine B0 (WS.rg (u0 2 [kS 76 v12_26,kS 75 v11_25] ?_));obtain ⟨⟨s27,H28⟩,hx,h⟩:=bind_some h;try dsimp only at h
    refine RS.o (H':=H28) (some 77) (Sl3.v s27) (Abs.run_newR (by kernel_rfl) (by kernel_rfl) hx) ?_;obtain ⟨⟨x29,H30⟩,hx,h⟩:=bind_some h;try dsimp only at h
    refine RS.cl (some 78) (v:=(Sl3.v x29)) 60 _ (z9s hx) (u0 2 [kI 80 0,kI 79 (x29.n:Int)] (RS.dn (A0 (M0 4 ?_))));obtain ⟨o,hl,h⟩:=bind_some h;rcases o with ⟨H67,v9_68,v80_69⟩ | r
    ·try dsimp only at h
     refine S0 (L7 (L:=L) (E:=E) (m:=m) (H:=H)) (L.ok hl) 1 ?_;clear hl;cases h;exact fun a w hs=>bkE (bkN (lsN rfl (hs.sb 0)))
    ·try dsimp only at h
     refine R0 (L7 (L:=L) (E:=E) (m:=m) (H:=H)) (L.ok hl) 1 ?_;cases h;exact fun a w hq=>bkR (bkR (lsR rfl hq))
   ·try dsimp only at h
    refine R0 (I7 (L:=L) (E:=E) (m:=m) (H:=H)) (L.ok hl) 1 ?_;cases h;exact fun a w hq=>bkR (sqR (bkR (lsR rfl hq)))
 ·refine D0 28 false (decide_eq_false hp) (J0 (WS.ex 0 ?_));cases h;exact fun a w hs=>sqE (lsB rfl (hs.sb 0))
theorem U8 {L:LC} {m:Nat} {H:AH} {a0:Option Addr} {a1 a2:Int} {r:(Sl3×AH)} (h:V3 L m H a0 a1 a2=some r) :
  CallS Tryd.prog (NE.plain 1000) m 32 #[(vP a0),(vI .i64 a1),(vI .i64 a2)] H (S3 r) (X3 H r):=by
 refine CallS.mk (args:=[(vP a0),(vI .i64 a1),(vI .i64 a2)]) Tryd.func32 (B:=B32) (by kernel_rfl) (fun E _=>?_);unfold V3 at h;refine B0 (WS.rg (u0 1 [kS 6 Sl3.nil] (RS.dn (A0 (B0 (WS.rg ?_))))));obtain ⟨⟨p1,H2⟩,hx,h⟩:=bind_some h;try dsimp only at h
 refine RS.o (H':=H2) (some 20) (Value.map (some p1)) (Abs.run_newM (by kernel_rfl) hx) (u0 1 [(7,.val (Value.map (some p1)))] (RS.dn (A0 (B0 (WS.rg ?_)))));obtain ⟨⟨p3,H4⟩,hx,h⟩:=bind_some h;try dsimp only at h
 refine RS.o (H':=H4) (some 21) (Value.map (some p3)) (Abs.run_newM (by kernel_rfl) hx) (u0 1 [(8,.val (Value.map (some p3)))] (RS.dn (A0 (B0 (WS.rg (u0 3 [kA 24 #[(vI .i64 a1),(vI .i64 a2),(vI .i64 0),(vB false)],kI 23 a2,kI 22 a1] ?_))))));obtain ⟨⟨s5,H6⟩,hx,h⟩:=bind_some h;try dsimp only at h
 refine RS.o (H':=H6) (some 25) (Sl3.v s5) (Abs.run_newR (by kernel_rfl) (by kernel_rfl) hx) (u0 1 [kS 9 s5] (RS.dn (A0 (B0 (M0 0 ?_)))));obtain ⟨o,hl,h⟩:=bind_some h;rcases o with ⟨H70,v9_71⟩ | r
 ·try dsimp only at h
  refine S0 (P7 (L:=L) (E:=E) (m:=m) (H:=H)) (L.ok hl) 0 ?_;clear hl;refine fun a w hs=>bkE ((A0 ?_ a w hs));refine B0 (WS.rg (u0 1 [kS 18 Sl3.nil] (RS.dn (A0 ?_))));exact WS.sub [(7,.val (Value.map (some p1))),kS 18 Sl3.nil] 0 [] (SubV.of (by kernel_rfl)) rfl (by kernel_rfl) (zhj h)
 ·try dsimp only at h
  refine R0 (P7 (L:=L) (E:=E) (m:=m) (H:=H)) (L.ok hl) 0 ?_;cases h;exact fun a w hq=>bkR (sqR (rtR hq))
def z5y:(Sl3×Bool×AH)→Value
 | (r0,r1,_)=>(Value.tuple #[(Sl3.v r0),(vB r1)])
def z79 (_:AH):(Sl3×Bool×AH)→AH:=fun r=>r.2.2
noncomputable def B11:Code:=(Tryd.f11.body).getD .skip
noncomputable def F3 (L:LC) (m:Nat) (H:AH) (a0:Option Addr) (a1 a2:Int):Option (Sl3×Bool×AH) :=
 Option.bind (α:=Bool) (
  (Q2 L H a0 a1).bind fun x2 => if x2=true then
   (Q2 L H a0 a2).bind fun x3 => if x3=true then
    a0.bind fun q4 => (rd deSl H (Addr.add q4 4)).bind fun x5 => (idxA 1 x5 a1).bind fun p6 => (rd (deI .i64) H p6).bind fun x7 => (rd deSl H (Addr.add q4 4)).bind fun x8 => (idxA 1 x8 a2).bind fun p9 => (rd (deI .i64) H p9).bind fun x10 => some (!decide (x7=x10))
   else
    some true
  else
   some true) fun v34_1 =>
 if v34_1=true then
  some (Sl3.nil,false,H)
 else
  (V3 L m H a0 a1 a2).bind fun (x11,H12) => some (x11,true,H12)
theorem z16 {L:LC} {m:Nat} {H:AH} {a0:Option Addr} {a1 a2:Int} {r:(Sl3×Bool×AH)} (h:F3 L m H a0 a1 a2=some r) :
  CallS Tryd.prog (NE.plain 1000) m 11 #[(vP a0),(vI .i64 a1),(vI .i64 a2)] H (z5y r) (z79 H r):=by
 refine CallS.mk (args:=[(vP a0),(vI .i64 a1),(vI .i64 a2)]) Tryd.func11 (B:=B11) (by kernel_rfl) (fun E _=>?_);unfold F3 at h;refine B0 (WS.rg (u0 2 [kB 7 false,kS 6 Sl3.nil] (RS.dn (A0 (B0 ?_)))));obtain ⟨v34_1,hx,h⟩:=bind_some h;refine B0 ?_;refine WS.join ([kB 34 v34_1,(0,.val (vP a0)),kI 1 a1,kI 2 a2]) ([]) H ?_ (fun a w hs=>A0 ?_ a w hs)
 ·clear h; rename _=>h;refine Q0 [] [0,0,3,7,15,31,31,127,255,511,1023,2047,4095,8191,16383,2047,65535,131071,2047,264191,788479,1837055,2047,8128511,16517119,33554431,67108863] 27 (fun hcl=>?_);refine DA.tP 0 (some 8) (vP a0) (DA.tP 1 (some 9) (vI .i64 a1) ?_);obtain ⟨x2,hx,h⟩:=bind_some h;refine DA.on 2 (DA.aC 2 (some 10) (v:=(vB x2)) 31 #[(vP a0),(vI .i64 a1)] (M3 hx) (DA.tP 3 (some 11) (vB (!x2)) (DA.tP 4 (some 12) (vB (!x2)) ?_)));rcases Y0 h with ⟨hp,h⟩ | ⟨hp,h⟩
  ·refine U0 12 false (nb_not hp) (DA.tP 5 (some 13) (vP a0) (DA.tP 6 (some 14) (vI .i64 a2) ?_));obtain ⟨x3,hx,h⟩:=bind_some h;refine DA.on 7 (DA.aC 7 (some 15) (v:=(vB x3)) 31 #[(vP a0),(vI .i64 a2)] (M3 hx) (DA.tP 8 (some 16) (vB (!x3)) (DA.tP 9 (some 17) (vB (!x3)) (DA.tP 10 (some 18) (vB (!x3)) ?_))));rcases Y0 h with ⟨hp,h⟩ | ⟨hp,h⟩
   ·refine U0 18 false (nb_not hp) (DA.tP 11 (some 19) (vP a0) ?_);obtain ⟨q4,hx,hq4⟩:=bind_some h;subst hx;have h:=hq4;refine DA.tP 12 (some 20) (vP (some q4)) (DA.tP 13 (some 21) (vP (some (Addr.add q4 4))) (DA.tP 15 (some 23) (vI .i64 a1) (DA.tP 18 (some 26) (vP (some q4)) (DA.tP 19 (some 27) (vP (some q4)) (DA.tP 20 (some 28) (vP (some (Addr.add q4 4))) (DA.tP 22 (some 30) (vI .i64 a2) (DA.restart [14,16,17,21,23,24] (by kernel_rfl) ?_)))))));obtain ⟨x5,hx,h⟩:=bind_some h;refine E0 14 (some 22) (Sl3.v x5) (Abs.det_load (t:=27) (x:=.tmp 21) (a:=(Addr.add q4 4)) (by kernel_rfl) (by kernel_rfl) (by kernel_rfl) (by kernel_rfl) (X0 hx A1)) ?_;obtain ⟨p6,hx,h⟩:=bind_some h;refine E0 16 (some 24) (vP (some p6)) (Abs.det_idx (s:=x5) (k:=.i64) (t:=27) (e:=3) (x:=.tmp 22) (y:=.tmp 23) (by kernel_rfl) (by kernel_rfl) (by kernel_rfl) (by kernel_rfl) (by kernel_rfl) hx) ?_;obtain ⟨x7,hx,h⟩:=bind_some h;refine E0 17 (some 25) (vI .i64 x7) (Abs.det_load (t:=3) (x:=.tmp 24) (a:=p6) (by kernel_rfl) (by kernel_rfl) (by kernel_rfl) (by kernel_rfl) (X0 hx Z0)) ?_;obtain ⟨x8,hx,h⟩:=bind_some h;refine E0 21 (some 29) (Sl3.v x8) (Abs.det_load (t:=27) (x:=.tmp 28) (a:=(Addr.add q4 4)) (by kernel_rfl) (by kernel_rfl) (by kernel_rfl) (by kernel_rfl) (X0 hx A1)) ?_;obtain ⟨p9,hx,h⟩:=bind_some h;refine E0 23 (some 31) (vP (some p9)) (Abs.det_idx (s:=x8) (k:=.i64) (t:=27) (e:=3) (x:=.tmp 29) (y:=.tmp 30) (by kernel_rfl) (by kernel_rfl) (by kernel_rfl) (by kernel_rfl) (by kernel_rfl) hx) ?_;obtain ⟨x10,hx,h⟩:=bind_some h;refine E0 24 (some 32) (vI .i64 x10) (Abs.det_load (t:=3) (x:=.tmp 31) (a:=p9) (by kernel_rfl) (by kernel_rfl) (by kernel_rfl) (by kernel_rfl) (X0 hx Z0)) (DA.tP 25 (some 33) (vB (!decide (x7=x10))) (DA.tP 26 (some 34) (vB (!decide (x7=x10))) (DA.dn ?_)));cases h;exact fun a w hs=>(jsN (hs.sb 0))
   ·refine U0 18 true (D3 hp) ?_;refine N0 11 (some 19) (by kernel_rfl) (by kernel_rfl) (by kernel_rfl) hcl (fun _ _ _ h=>h) (by kernel_rfl) ?_;refine N0 12 (some 20) (by kernel_rfl) (by kernel_rfl) (by kernel_rfl) hcl (fun _ _ _ h=>h) (by kernel_rfl) ?_;refine N0 13 (some 21) (by kernel_rfl) (by kernel_rfl) (by kernel_rfl) hcl (fun _ _ _ h=>h) (by kernel_rfl) ?_;refine N0 14 (some 22) (by kernel_rfl) (by kernel_rfl) (by kernel_rfl) hcl (fun _ _ _ h=>h) (by kernel_rfl) ?_;refine N0 15 (some 23) (by kernel_rfl) (by kernel_rfl) (by kernel_rfl) hcl (fun _ _ _ h=>h) (by kernel_rfl) ?_;refine N0 16 (some 24) (by kernel_rfl) (by kernel_rfl) (by kernel_rfl) hcl (fun _ _ _ h=>h) (by kernel_rfl) ?_;refine N0 17 (some 25) (by kernel_rfl) (by kernel_rfl) (by kernel_rfl) hcl (fun _ _ _ h=>h) (by kernel_rfl) ?_;refine N0 18 (some 26) (by kernel_rfl) (by kernel_rfl) (by kernel_rfl) hcl (fun _ _ _ h=>h) (by kernel_rfl) ?_;refine N0 19 (some 27) (by kernel_rfl) (by kernel_rfl) (by kernel_rfl) hcl (fun _ _ _ h=>h) (by kernel_rfl) ?_;refine N0 20 (some 28) (by kernel_rfl) (by kernel_rfl) (by kernel_rfl) hcl (fun _ _ _ h=>h) (by kernel_rfl) ?_;refine N0 21 (some 29) (by kernel_rfl) (by kernel_rfl) (by kernel_rfl) hcl (fun _ _ _ h=>h) (by kernel_rfl) ?_;refine N0 22 (some 30) (by kernel_rfl) (by kernel_rfl) (by kernel_rfl) hcl (fun _ _ _ h=>h) (by kernel_rfl) ?_;refine N0 23 (some 31) (by kernel_rfl) (by kernel_rfl) (by kernel_rfl) hcl (fun _ _ _ h=>h) (by kernel_rfl) ?_;refine N0 24 (some 32) (by kernel_rfl) (by kernel_rfl) (by kernel_rfl) hcl (fun _ _ _ h=>h) (by kernel_rfl) ?_;refine N0 25 (some 33) (by kernel_rfl) (by kernel_rfl) (by kernel_rfl) hcl (fun _ _ _ h=>h) (by kernel_rfl) ?_;refine DA.tP 26 (some 34) (vB true) (DA.dn ?_);cases h;exact fun a w hs=>(jsN (hs.sb 0))
  ·refine U0 12 true (D3 hp) ?_;refine N0 5 (some 13) (by kernel_rfl) (by kernel_rfl) (by kernel_rfl) hcl (fun _ _ _ h=>h) (by kernel_rfl) ?_;refine N0 6 (some 14) (by kernel_rfl) (by kernel_rfl) (by kernel_rfl) hcl (fun _ _ _ h=>h) (by kernel_rfl) ?_;refine N0 7 (some 15) (by kernel_rfl) (by kernel_rfl) (by kernel_rfl) hcl (fun _ _ _ h=>h) (by kernel_rfl) ?_;refine N0 8 (some 16) (by kernel_rfl) (by kernel_rfl) (by kernel_rfl) hcl (fun _ _ _ h=>h) (by kernel_rfl) ?_;refine DA.tP 9 (some 17) (vB true) (DA.tP 10 (some 18) (vB true) ?_);refine N0 11 (some 19) (by kernel_rfl) (by kernel_rfl) (by kernel_rfl) hcl (fun _ _ _ h=>h) (by kernel_rfl) ?_;refine N0 12 (some 20) (by kernel_rfl) (by kernel_rfl) (by kernel_rfl) hcl (fun _ _ _ h=>h) (by kernel_rfl) ?_;refine N0 13 (some 21) (by kernel_rfl) (by kernel_rfl) (by kernel_rfl) hcl (fun _ _ _ h=>h) (by kernel_rfl) ?_;refine N0 14 (some 22) (by kernel_rfl) (by kernel_rfl) (by kernel_rfl) hcl (fun _ _ _ h=>h) (by kernel_rfl) ?_;refine N0 15 (some 23) (by kernel_rfl) (by kernel_rfl) (by kernel_rfl) hcl (fun _ _ _ h=>h) (by kernel_rfl) ?_;refine N0 16 (some 24) (by kernel_rfl) (by kernel_rfl) (by kernel_rfl) hcl (fun _ _ _ h=>h) (by kernel_rfl) ?_;refine N0 17 (some 25) (by kernel_rfl) (by kernel_rfl) (by kernel_rfl) hcl (fun _ _ _ h=>h) (by kernel_rfl) ?_;refine N0 18 (some 26) (by kernel_rfl) (by kernel_rfl) (by kernel_rfl) hcl (fun _ _ _ h=>h) (by kernel_rfl) ?_;refine N0 19 (some 27) (by kernel_rfl) (by kernel_rfl) (by kernel_rfl) hcl (fun _ _ _ h=>h) (by kernel_rfl) ?_;refine N0 20 (some 28) (by kernel_rfl) (by kernel_rfl) (by kernel_rfl) hcl (fun _ _ _ h=>h) (by kernel_rfl) ?_;refine N0 21 (some 29) (by kernel_rfl) (by kernel_rfl) (by kernel_rfl) hcl (fun _ _ _ h=>h) (by kernel_rfl) ?_;refine N0 22 (some 30) (by kernel_rfl) (by kernel_rfl) (by kernel_rfl) hcl (fun _ _ _ h=>h) (by kernel_rfl) ?_;refine N0 23 (some 31) (by kernel_rfl) (by kernel_rfl) (by kernel_rfl) hcl (fun _ _ _ h=>h) (by kernel_rfl) ?_;refine N0 24 (some 32) (by kernel_rfl) (by kernel_rfl) (by kernel_rfl) hcl (fun _ _ _ h=>h) (by kernel_rfl) ?_;refine N0 25 (some 33) (by kernel_rfl) (by kernel_rfl) (by kernel_rfl) hcl (fun _ _ _ h=>h) (by kernel_rfl) ?_;refine DA.tP 26 (some 34) (vB true) (DA.dn ?_);cases h;exact fun a w hs=>(jsN (hs.sb 0))
 ·clear hx;rcases Y0 h with ⟨hp,h⟩ | ⟨hp,h⟩
  ·refine D0 34 true hp (I0 (B0 (WS.rg (u0 2 [kB 7 false,kS 6 Sl3.nil] (RS.dn (A0 (G0 ?_)))))));cases h;exact fun a w hs=>sqR (rtR (rS hs))
  ·refine D0 34 false (b_not hp) (J0 (K0 (A0 (B0 (WS.rg (u0 3 [kI 37 a2,kI 36 a1,(35,.val (vP a0))] ?_))))));obtain ⟨⟨x11,H12⟩,hx,h⟩:=bind_some h;try dsimp only at h
   refine RS.cl (some 38) (v:=(Sl3.v x11)) 32 _ (U8 hx) (u0 2 [kB 7 true,kS 6 x11] (RS.dn (A0 (G0 ?_))));cases h;exact fun a w hs=>rtR (rS hs)
def z4e:(Int×Bool)→Value
 | (r0,r1)=>(Value.tuple #[(vI .i64 r0),(vB r1)])
def z5l (H:AH):(Int×Bool)→AH:=fun _=>H
noncomputable def B14:Code:=(Tryd.f14.body).getD .skip
noncomputable def K3 (L:LC) (H:AH) (a0:Option Addr) (a1:Int):Option (Int×Bool) :=
 (Q2 L H a0 a1).bind fun x1 => if x1=true then
  a0.bind fun q2 => (rd deSl H (Addr.add q2 5)).bind fun x3 => (rd deSl H (Addr.add q2 4)).bind fun x4 => (idxA 1 x4 a1).bind fun p5 => (rd (deI .i64) H p5).bind fun x6 => (idxA 1 x3 x6).bind fun p7 => (rd deP H p7).bind fun x8 => x8.bind fun q9 => (rd (deI .i64) H (Addr.add q9 3)).bind fun x10 => some (x10,true)
 else
  some (0,false)
theorem zx {L:LC} {m:Nat} {H:AH} {a0:Option Addr} {a1:Int} {r:(Int×Bool)} (h:K3 L H a0 a1=some r) :
  CallS Tryd.prog (NE.plain 1000) m 14 #[(vP a0),(vI .i64 a1)] H (z4e r) (z5l H r):=by
 refine CallS.mk (args:=[(vP a0),(vI .i64 a1)]) Tryd.func14 (B:=B14) (by kernel_rfl) (fun E _=>?_);unfold K3 at h;refine B0 (WS.rg (u0 2 [kB 5 false,kI 4 0] (RS.dn (A0 (B0 (B0 (WS.rg (u0 2 [kI 7 a1,(6,.val (vP a0))] ?_))))))));obtain ⟨x1,hx,h⟩:=bind_some h;refine RS.cl (some 8) (v:=(vB x1)) 31 _ (M3 hx) (u0 1 [kB 9 (!x1)] (RS.dn (A0 ?_)));rcases Y0 h with ⟨hp,h⟩ | ⟨hp,h⟩
 ·refine D0 9 false (nb_not hp) (J0 (K0 (A0 (B0 ?_))));refine Q0 [0,1,2,3,4,5,6,7,8,9,10,11,12,13,14,15] [0,1,3,7,0,16,48,112,0,496,1008,2047,4095,8191,16383,32767,65535,131071] 18 (fun hcl=>?_);refine C0 0 (some 10) (vP a0) ?_;obtain ⟨q2,hx,hq2⟩:=bind_some h;subst hx;have h:=hq2;refine C0 1 (some 11) (vP (some q2)) (C0 2 (some 12) (vP (some (Addr.add q2 5))) ?_);obtain ⟨x3,hx,h⟩:=bind_some h;refine E0 3 (some 13) (Sl3.v x3) (Abs.det_load (t:=60) (x:=.tmp 12) (a:=(Addr.add q2 5)) (by kernel_rfl) (by kernel_rfl) (by kernel_rfl) (by kernel_rfl) (X0 hx A1)) (C0 4 (some 14) (vP (some q2)) (C0 5 (some 15) (vP (some q2)) (C0 6 (some 16) (vP (some (Addr.add q2 4))) ?_)));obtain ⟨x4,hx,h⟩:=bind_some h;refine E0 7 (some 17) (Sl3.v x4) (Abs.det_load (t:=27) (x:=.tmp 16) (a:=(Addr.add q2 4)) (by kernel_rfl) (by kernel_rfl) (by kernel_rfl) (by kernel_rfl) (X0 hx A1)) (C0 8 (some 18) (vI .i64 a1) ?_);obtain ⟨p5,hx,h⟩:=bind_some h;refine E0 9 (some 19) (vP (some p5)) (Abs.det_idx (s:=x4) (k:=.i64) (t:=27) (e:=3) (x:=.tmp 17) (y:=.tmp 18) (by kernel_rfl) (by kernel_rfl) (by kernel_rfl) (by kernel_rfl) (by kernel_rfl) hx) ?_;obtain ⟨x6,hx,h⟩:=bind_some h;refine E0 10 (some 20) (vI .i64 x6) (Abs.det_load (t:=3) (x:=.tmp 19) (a:=p5) (by kernel_rfl) (by kernel_rfl) (by kernel_rfl) (by kernel_rfl) (X0 hx Z0)) ?_;obtain ⟨p7,hx,h⟩:=bind_some h;refine E0 11 (some 21) (vP (some p7)) (Abs.det_idx (s:=x3) (k:=.i64) (t:=60) (e:=79) (x:=.tmp 13) (y:=.tmp 20) (by kernel_rfl) (by kernel_rfl) (by kernel_rfl) (by kernel_rfl) (by kernel_rfl) hx) ?_;obtain ⟨x8,hx,h⟩:=bind_some h;refine E0 12 (some 22) (vP x8) (Abs.det_load (t:=79) (x:=.tmp 21) (a:=p7) (by kernel_rfl) (by kernel_rfl) (by kernel_rfl) (by kernel_rfl) (X0 hx A7)) ?_;obtain ⟨q9,hx,hq9⟩:=bind_some h;subst hx;have h:=hq9;refine C0 13 (some 23) (vP (some q9)) (C0 14 (some 24) (vP (some (Addr.add q9 3))) ?_);obtain ⟨x10,hx,h⟩:=bind_some h;refine E0 15 (some 25) (vI .i64 x10) (Abs.det_load (t:=3) (x:=.tmp 24) (a:=(Addr.add q9 3)) (by kernel_rfl) (by kernel_rfl) (by kernel_rfl) (by kernel_rfl) (X0 hx Z0)) (DA.tP 16 (some 4) (vI .i64 x10) (DA.tP 17 (some 5) (vB true) (DA.dn (A0 (G0 ?_)))));cases h;exact fun a w hs=>rtR (rS hs)
 ·refine D0 9 true (D3 hp) (I0 (B0 (WS.rg (u0 2 [kB 5 false,kI 4 0] (RS.dn (A0 (G0 ?_)))))));cases h;exact fun a w hs=>sqR (rtR (rS hs))
def zbg:((Option Addr)×AH)→Value
 | (r0,_)=>(vP r0)
def zcj (_:AH):((Option Addr)×AH)→AH:=fun r=>r.2
noncomputable def B16:Code:=(Tryd.f16.body).getD .skip
noncomputable def zo (_L:LC) (_m:Nat) (H:AH):Option ((Option Addr)×AH) :=
 (newM H).bind fun (p1,H2) => (newM H2).bind fun (p3,H4) => (newB 63 [(Sl3.v Sl3.nil),(Value.map (some p1)),(Sl3.v Sl3.nil),(Sl3.v Sl3.nil),(Sl3.v Sl3.nil),(Sl3.v Sl3.nil),(Sl3.v Sl3.nil),(Value.map (some p3))] H4).bind fun (p5,H6) => some ((some p5),H6)
theorem z6k {L:LC} {m:Nat} {H:AH} {r:((Option Addr)×AH)} (h:zo L m H=some r) :
  CallS Tryd.prog (NE.plain 1000) m 16 #[] H (zbg r) (zcj H r):=by
 refine CallS.mk (args:=[]) Tryd.func16 (B:=B16) (by kernel_rfl) (fun E _=>?_);unfold zo at h;refine B0 (WS.rg (u0 1 [(0,.val (vP none))] (RS.dn (A0 (B0 (WS.rg ?_))))));obtain ⟨⟨p1,H2⟩,hx,h⟩:=bind_some h;try dsimp only at h
 refine RS.o (H':=H2) (some 1) (Value.map (some p1)) (Abs.run_newM (by kernel_rfl) hx) ?_;obtain ⟨⟨p3,H4⟩,hx,h⟩:=bind_some h;try dsimp only at h
 refine RS.o (H':=H4) (some 2) (Value.map (some p3)) (Abs.run_newM (by kernel_rfl) hx) (u0 1 [kA 3 #[(Sl3.v Sl3.nil),(Value.map (some p1)),(Sl3.v Sl3.nil),(Sl3.v Sl3.nil),(Sl3.v Sl3.nil),(Sl3.v Sl3.nil),(Sl3.v Sl3.nil),(Value.map (some p3))]] ?_);obtain ⟨⟨p5,H6⟩,hx,h⟩:=bind_some h;try dsimp only at h
 refine RS.o (H':=H6) (some 4) (vP (some p5)) (Abs.run_newB (by kernel_rfl) hx) (u0 1 [kP 0 p5] (RS.dn (A0 (G0 ?_))));cases h;exact fun a w hs=>rtR (rS hs)
def T8:AH→Value
 | _=>(Value.tuple #[])
def A9 (_:AH):AH→AH:=fun r=>r
noncomputable def B72:Code:=(Tryd.f72.body).getD .skip
noncomputable def R1 (_L:LC) (m:Nat) (a0:Option Addr):(AH×Int×Int×Int×Int×Int×Int×Bool)→Option (Lp (AH×Int×Int×Int×Int×Int×Int×Bool) AH):=fun (H1,v1_2,v4_3,w0_4,w0_5,w0_6,w0_7,w0_8) =>
 if v1_2≥0 then
  a0.bind fun q9 => (rd deSl H1 (Addr.add q9 6)).bind fun x10 => (idxA 5 x10 v1_2).bind fun p11 => (rd (deI .i64) H1 (Addr.add p11 0)).bind fun x12_0 => (rd (deI .i64) H1 (Addr.add p11 1)).bind fun x12_1 => (rd (deI .i64) H1 (Addr.add p11 2)).bind fun x12_2 => (rd (deI .i64) H1 (Addr.add p11 3)).bind fun x12_3 => (rd deB H1 (Addr.add p11 4)).bind fun x12_4 => Option.bind (α:=(AH×Int×Int×Int×Int×Bool)) (
   if v4_3<0 then
    (rd deSl H1 (Addr.add q9 6)).bind fun x19 => (idxA 5 x19 v1_2).bind fun p20 => (wrCells m p20 0 [(vI .i64 (-1)),(vI .i64 0),(vI .i64 0),(vI .i64 0),(vB false)] H1).bind fun H21 => some (H21,w0_4,w0_5,w0_6,w0_7,w0_8)
   else
    (rd deSl H1 (Addr.add q9 6)).bind fun x22 => (idxA 5 x22 v1_2).bind fun p23 => (wrCells m p23 0 [(vI .i64 v4_3),(vI .i64 w0_5),(vI .i64 w0_6),(vI .i64 w0_7),(vB w0_8)] H1).bind fun H24 => some (H24,v4_3,w0_5,w0_6,w0_7,w0_8)) fun (H13,_,_,_,_,_) =>
  some (.next (H13,x12_0,v1_2,x12_0,x12_1,x12_2,x12_3,x12_4))
 else
  some (.brk (H1,v1_2,v4_3,w0_4,w0_5,w0_6,w0_7,w0_8))
def z2j (_L:LC) (_m:Nat) (a0:Option Addr):(AH×Int×Int×Int×Int×Int×Int×Bool)→KN×Lcs:=fun (_,v1_2,v4_3,w0_4,w0_5,w0_6,w0_7,w0_8)=>([kI 1 v1_2,kI 4 v4_3,(0,.val (vP a0)),kL 5 0 0],[some (109,[(vI .i64 w0_4),(vI .i64 w0_5),(vI .i64 w0_6),(vI .i64 w0_7),(vB w0_8)])])
noncomputable def G4 (L:LC) (m:Nat) (H:AH) (a0:Option Addr) (a1:Int):Option AH :=
 (L.run (R1 L m a0) (H,a1,(-1),0,0,0,0,false)).bind fun o=>match o with
 | .inl (H25,_,_,_,_,_,_,_) =>
  some H25
 | .inr r=>some r
theorem m8 {E H L m a0} :LoopF Tryd.prog (NE.plain 1000) m E Tryd.f72 ((cfst (csnd B72))) (z2j L m a0) (fun s=>s.1) 0 T8 (A9 H) (R1 L m a0):=by
 rintro ⟨H1,v1_2,v4_3,w0_4,w0_5,w0_6,w0_7,w0_8⟩ o h
 unfold R1 at h;try dsimp only at h
 refine B0 (B0 (WS.rg (u0 2 [kB 9 (decide (v1_2≥0)),kI 8 v1_2] (RS.dn (A0 ?_)))));rcases Y0 h with ⟨hp,h⟩ | ⟨hp,h⟩
 ·refine D0 9 true (decide_eq_true hp) (I0 (K0 (A0 (M0 1 (B0 (WS.rg (u0 1 [(10,.val (vP a0))] ?_)))))));obtain ⟨q9,hx,hq9⟩:=bind_some h;subst hx;have h:=hq9;refine u0 2 [(12,.val (vP (some (Addr.add q9 6)))),kP 11 q9] ?_;obtain ⟨x10,hx,h⟩:=bind_some h;refine P0 13 61 (.tmp 12) (X0 hx A1) (u0 1 [kI 14 v1_2] ?_);obtain ⟨p11,hx,h⟩:=bind_some h;refine T0 15 61 109 (.tmp 13) (.tmp 14) hx ?_;obtain ⟨x12_0,hx0,h⟩:=bind_some h;obtain ⟨x12_1,hx1,h⟩:=bind_some h;obtain ⟨x12_2,hx2,h⟩:=bind_some h;obtain ⟨x12_3,hx3,h⟩:=bind_some h;obtain ⟨x12_4,hx4,h⟩:=bind_some h;refine RS.la 16 109 (.tmp 15) 5 (J1 (X0 hx0 Z0) (J1 (X0 hx1 Z0) (J1 (X0 hx2 Z0) (J1 (X0 hx3 Z0) (J1 (X0 hx4 o5) U6))))) (V0 2 [kL 6 1 0] ([some (109,[(vI .i64 w0_4),(vI .i64 w0_5),(vI .i64 w0_6),(vI .i64 w0_7),(vB w0_8)]),some (109,[(vI .i64 x12_0),(vI .i64 x12_1),(vI .i64 x12_2),(vI .i64 x12_3),(vB x12_4)])]) (RS.dn (A0 ?_)));obtain ⟨⟨H13,w0_14,w0_15,w0_16,w0_17,w0_18⟩,hx,h⟩:=bind_some h;try dsimp only at h
  refine B0 ?_;refine WS.join ([kP 0 q9,kI 1 v1_2,kL 5 0 0,kL 6 1 0]) ([some (109,[(vI .i64 w0_14),(vI .i64 w0_15),(vI .i64 w0_16),(vI .i64 w0_17),(vB w0_18)]),some (109,[(vI .i64 x12_0),(vI .i64 x12_1),(vI .i64 x12_2),(vI .i64 x12_3),(vB x12_4)])]) H13 ?_ (fun a w hs=>A0 ?_ a w hs)
  ·clear h; rename _=>h;refine B0 (WS.rg (u0 2 [kB 18 (decide (v4_3<0)),kI 17 v4_3] (RS.dn (A0 ?_))));rcases Y0 h with ⟨hp,h⟩ | ⟨hp,h⟩
   ·refine D0 18 true (decide_eq_true hp) (I0 (WS.rg (u0 3 [(21,.val (vP (some (Addr.add q9 6)))),kP 20 q9,kP 19 q9] ?_)));obtain ⟨x19,hx,h⟩:=bind_some h;refine P0 22 61 (.tmp 21) (X0 hx A1) (u0 2 [kA 24 #[(vI .i64 (-1)),(vI .i64 0),(vI .i64 0),(vI .i64 0),(vB false)],kI 23 v1_2] ?_);obtain ⟨p20,hx,h⟩:=bind_some h;refine T0 25 61 109 (.tmp 22) (.tmp 23) hx ?_;obtain ⟨H21,hx,h⟩:=bind_some h;refine RS.o (H':=H21) none undef (Abs.run_storeA (t:=109) (x:=.tmp 25) (y:=.tmp 24) (a:=p20) (v:=(vA #[(vI .i64 (-1)),(vI .i64 0),(vI .i64 0),(vI .i64 0),(vB false)])) (by kernel_rfl) (by kernel_rfl) (by kernel_rfl) (by kernel_rfl) (by kernel_rfl) hx) (RS.dn ?_);cases h;exact fun a w hs=>(jsN (hs.sb 2))
   ·refine D0 18 false (decide_eq_false hp) (J0 (B0 (WS.rg (V0 3 [kL 27 0 0,kI 26 v4_3] ([some (109,[(vI .i64 v4_3),(vI .i64 w0_5),(vI .i64 w0_6),(vI .i64 w0_7),(vB w0_8)]),some (109,[(vI .i64 x12_0),(vI .i64 x12_1),(vI .i64 x12_2),(vI .i64 x12_3),(vB x12_4)])]) (RS.dn (A0 ?_))))));refine Q0 [0,1,2,3,5] [0,1,3,7,0,0,63,127] 8 (fun hcl=>?_);refine C0 0 (some 28) (vP (some q9)) (C0 1 (some 29) (vP (some q9)) (C0 2 (some 30) (vP (some (Addr.add q9 6))) ?_));obtain ⟨x22,hx,h⟩:=bind_some h;refine E0 3 (some 31) (Sl3.v x22) (Abs.det_load (t:=61) (x:=.tmp 30) (a:=(Addr.add q9 6)) (by kernel_rfl) (by kernel_rfl) (by kernel_rfl) (by kernel_rfl) (X0 hx A1)) (DA.tL 5 (some 33) (.val (vA #[(vI .i64 v4_3),(vI .i64 w0_5),(vI .i64 w0_6),(vI .i64 w0_7),(vB w0_8)])) (DA.tP 4 (some 32) (vI .i64 v1_2) ?_));obtain ⟨p23,hx,h⟩:=bind_some h;refine DA.tPx 6 (some 34) (vP (some p23)) (Abs.det_idx (s:=x22) (k:=.i64) (t:=61) (e:=109) (x:=.tmp 31) (y:=.tmp 32) (by kernel_rfl) (by kernel_rfl) (by kernel_rfl) (by kernel_rfl) (by kernel_rfl) hx) ?_;obtain ⟨H24,hx,h⟩:=bind_some h;refine DA.on 7 (W0 (H':=H24) 7 none undef (Abs.run_storeA (t:=109) (x:=.tmp 34) (y:=.tmp 33) (a:=p23) (v:=(vA #[(vI .i64 v4_3),(vI .i64 w0_5),(vI .i64 w0_6),(vI .i64 w0_7),(vB w0_8)])) (by kernel_rfl) (by kernel_rfl) (by kernel_rfl) (by kernel_rfl) (by kernel_rfl) hx) (DA.dn ?_));cases h;exact fun a w hs=>(jsN (hs.sb 2))
  ·clear hx;refine B0 ?_;refine Q0 [1] [0,0,1,7] 4 (fun hcl=>?_);refine DA.tL 1 (some 36) (.val (vA #[(vI .i64 x12_0),(vI .i64 x12_1),(vI .i64 x12_2),(vI .i64 x12_3),(vB x12_4)])) (DA.tP 0 (some 35) (vI .i64 v1_2) (DA.tP 2 (some 4) (vI .i64 v1_2) (DA.on 3 (DA.aL 3 none (.val undef) ([some (109,[(vI .i64 x12_0),(vI .i64 x12_1),(vI .i64 x12_2),(vI .i64 x12_3),(vB x12_4)]),some (109,[(vI .i64 x12_0),(vI .i64 x12_1),(vI .i64 x12_2),(vI .i64 x12_3),(vB x12_4)])]) false (DA.dn (A0 (WS.rg (u0 3 [kI 1 x12_0,kI 38 x12_0,kL 37 1 0] (RS.dn ?_)))))))));cases h;exact fun a w hs=>bkN (lsN rfl (hs.sb 1))
 ·refine D0 9 false (decide_eq_false hp) (J0 (WS.ex 0 ?_));cases h;exact fun a w hs=>sqE (lsB rfl (hs.sb 1))
theorem z42 {L:LC} {m:Nat} {H:AH} {a0:Option Addr} {a1:Int} {r:AH} (h:G4 L m H a0 a1=some r) :
  CallS Tryd.prog (NE.plain 1000) m 72 #[(vP a0),(vI .i64 a1)] H (T8 r) (A9 H r):=by
 refine CallS.mk (args:=[(vP a0),(vI .i64 a1)]) Tryd.func72 (B:=B72) (by kernel_rfl) (fun E _=>?_);unfold G4 at h;refine B0 (WS.rg (V0 4 [kI 4 (-1),kL 5 0 0,kA 7 #[(vI .i64 0),(vI .i64 0),(vI .i64 0),(vI .i64 0),(vB false)]] ([some (109,[(vI .i64 0),(vI .i64 0),(vI .i64 0),(vI .i64 0),(vB false)])]) (RS.dn (A0 (M0 0 ?_)))));obtain ⟨o,hl,h⟩:=bind_some h;rcases o with ⟨H25,v1_26,v4_27,w0_28,w0_29,w0_30,w0_31,w0_32⟩ | r
 ·try dsimp only at h
  refine S0 (m8 (L:=L) (E:=E) (m:=m) (H:=H)) (L.ok hl) 1 ?_;clear hl;cases h;exact fun a w hs=>bkE (rtN (rS hs))
 ·try dsimp only at h
  refine R0 (m8 (L:=L) (E:=E) (m:=m) (H:=H)) (L.ok hl) 1 ?_;cases h;exact fun a w hq=>bkR (rtR hq)
def z71:AH→Value
 | _=>(Value.tuple #[])
def z7p (_:AH):AH→AH:=fun r=>r
noncomputable def B70:Code:=(Tryd.f70.body).getD .skip
noncomputable def X4 (_L:LC) (m:Nat) (H:AH) (a0:Option Addr) (a1:Sl3):Option AH :=
 a0.bind fun q1 => (rd deSl H (Addr.add q1 0)).bind fun x2 => (appS m 3 1 8 H x2 a1).bind fun (s3,H4) => (H4.setCell m (Addr.add q1 0) (Sl3.v s3)).bind fun H5 => some H5
theorem z1k {L:LC} {m:Nat} {H:AH} {a0:Option Addr} {a1:Sl3} {r:AH} (h:X4 L m H a0 a1=some r) :
  CallS Tryd.prog (NE.plain 1000) m 70 #[(vP a0),(Sl3.v a1)] H (z71 r) (z7p H r):=by
 refine CallS.mk (args:=[(vP a0),(Sl3.v a1)]) Tryd.func70 (B:=B70) (by kernel_rfl) (fun E _=>?_);unfold X4 at h;refine WS.rg (u0 2 [(5,.val (vP a0)),(4,.val (vP a0))] ?_);obtain ⟨q1,hx,hq1⟩:=bind_some h;subst hx;have h:=hq1;refine u0 2 [(7,.val (vP (some (Addr.add q1 0)))),kP 6 q1] ?_;obtain ⟨x2,hx,h⟩:=bind_some h;refine P0 8 27 (.tmp 7) (X0 hx A1) (u0 1 [kS 9 a1] ?_);obtain ⟨⟨s3,H4⟩,hx,h⟩:=bind_some h;try dsimp only at h
 refine RS.o (H':=H4) (some 10) (Sl3.v s3) (Abs.run_app (x:=.tmp 8) (y:=.tmp 9) (ts:=#[27,27]) (s:=x2) (z:=a1) (by kernel_rfl) (by kernel_rfl) (by kernel_rfl) (by kernel_rfl) hx) (u0 2 [(12,.val (vP (some (Addr.add q1 0)))),kP 11 q1] ?_);obtain ⟨H5,hx,h⟩:=bind_some h;refine RS.o (H':=H5) none undef (Abs.run_store1 (t:=27) (x:=.tmp 12) (y:=.tmp 10) (a:=(Addr.add q1 0)) (v:=(Sl3.v s3)) (by kernel_rfl) (by kernel_rfl) (by kernel_rfl) (by kernel_rfl) (by kernel_rfl) hx) (RS.dn ?_);cases h;exact fun a w hs=>rtN (rS hs)
def z3r:(ByteArray×AH)→Value
 | (r0,_)=>(vS r0)
def z52 (_:AH):(ByteArray×AH)→AH:=fun r=>r.2
noncomputable def B63:Code:=(Tryd.f63.body).getD .skip
noncomputable def E5 (L:LC) (m:Nat) (a2:Sl3):(AH×ByteArray×Int)→Option (Lp (AH×ByteArray×Int) (ByteArray×AH)):=fun (H5,v7_6,v17_7) =>
 if v17_7<(a2.n:Int) then
  (idxA 1 a2 v17_7).bind fun p8 => (rd (deI .i64) H5 p8).bind fun x9 => (strconv_Itoa L m H5 x9).bind fun (x10,H11) => (strcat (⟨#[32]⟩:ByteArray) x10).bind fun s12 => (strcat v7_6 s12).bind fun s13 => some (.next (H11,s13,(IntKind.i64.wrap (v17_7+1))))
 else
  some (.brk (H5,v7_6,v17_7))
def z8k (_L:LC) (_m:Nat) (a2:Sl3):(AH×ByteArray×Int)→KN×Lcs:=fun (_,v7_6,v17_7)=>([kT 7 v7_6,kI 17 v17_7,kS 15 a2,kI 16 (a2.n:Int)],[])
noncomputable def S7 (L:LC) (m:Nat) (H:AH) (a0:Bool) (a1:Int) (a2:Sl3):Option (ByteArray×AH) :=
 Option.bind (α:=ByteArray) (
  if a0=true then
   some (⟨#[118]⟩:ByteArray)
  else
   some (⟨#[115]⟩:ByteArray)) fun v7_1 =>
 (strconv_Itoa L m H a1).bind fun (x2,H3) => (strcat v7_1 x2).bind fun s4 => (L.run (E5 L m a2) (H3,s4,0)).bind fun o=>match o with
 | .inl (H14,v7_15,_) =>
  some (v7_15,H14)
 | .inr r=>some r
theorem z2b {E H L m a2} :LoopF Tryd.prog (NE.plain 1000) m E Tryd.f63 ((cfst (csnd (cfst (csnd (csnd (csnd (csnd B63)))))))) (z8k L m a2) (fun s=>s.1) 0 z3r (z52 H) (E5 L m a2):=by
 rintro ⟨H5,v7_6,v17_7⟩ o h
 unfold E5 at h;try dsimp only at h
 refine B0 (WS.rg (u0 1 [kB 18 (decide (v17_7<(a2.n:Int)))] (RS.dn (A0 (B0 ?_)))));rcases Y0 h with ⟨hp,h⟩ | ⟨hp,h⟩
 ·refine D0 18 true (decide_eq_true hp) (I0 (K0 (A0 (B0 (M0 1 (B0 (WS.rg ?_)))))));obtain ⟨p8,hx,h⟩:=bind_some h;refine T0 19 27 3 (.tmp 15) (.tmp 17) hx ?_;obtain ⟨x9,hx,h⟩:=bind_some h;refine P0 20 3 (.tmp 19) (X0 hx Z0) (u0 1 [kI 9 x9] (RS.dn (A0 (WS.rg (u0 2 [kI 22 x9,kT 21 v7_6] ?_)))));obtain ⟨⟨x10,H11⟩,hx,h⟩:=bind_some h;try dsimp only at h
  refine RS.cl (some 23) (v:=(vS x10)) 76 _ (z3s hx) ?_;obtain ⟨s12,hx,h⟩:=bind_some h;refine RS.o (H':=H11) (some 24) (vS s12) (Abs.run_strcat (t:=9) (u:=9) (x:=.const (vS (⟨#[32]⟩:ByteArray))) (y:=.tmp 23) (a:=(⟨#[32]⟩:ByteArray)) (b:=x10) (by kernel_rfl) (by kernel_rfl) (by kernel_rfl) hx) ?_;obtain ⟨s13,hx,h⟩:=bind_some h;refine RS.o (H':=H11) (some 25) (vS s13) (Abs.run_strcat (t:=9) (u:=9) (x:=.tmp 21) (y:=.tmp 24) (a:=v7_6) (b:=s12) (by kernel_rfl) (by kernel_rfl) (by kernel_rfl) hx) (u0 1 [kT 7 s13] (RS.dn ?_));refine fun a w hs=>bkN ((A0 ?_ a w hs));refine WS.rg (u0 2 [kI 17 (IntKind.i64.wrap (v17_7+1)),kI 26 (IntKind.i64.wrap (v17_7+1))] (RS.dn ?_));cases h;exact fun a w hs=>lsN rfl (hs.sb 0)
 ·refine D0 18 false (decide_eq_false hp) (J0 (WS.ex 0 ?_));cases h;exact fun a w hs=>sqE (lsB rfl (hs.sb 0))
theorem z4u {L:LC} {m:Nat} {H:AH} {a0:Bool} {a1:Int} {a2:Sl3} {r:(ByteArray×AH)} (h:S7 L m H a0 a1 a2=some r) :
  CallS Tryd.prog (NE.plain 1000) m 63 #[(vB a0),(vI .i64 a1),(Sl3.v a2)] H (z3r r) (z52 H r):=by
 refine CallS.mk (args:=[(vB a0),(vI .i64 a1),(Sl3.v a2)]) Tryd.func63 (B:=B63) (by kernel_rfl) (fun E _=>?_);unfold S7 at h;refine B0 (WS.rg (u0 1 [kT 6 (⟨#[]⟩:ByteArray)] (RS.dn (A0 (B0 (WS.rg (u0 1 [kT 7 (⟨#[115]⟩:ByteArray)] (RS.dn (A0 ?_)))))))));obtain ⟨v7_1,hx,h⟩:=bind_some h;refine B0 ?_;refine WS.join ([kT 7 v7_1,kI 1 a1,kS 2 a2]) ([]) H ?_ (fun a w hs=>A0 ?_ a w hs)
 ·clear h; rename _=>h;refine B0 (WS.rg (u0 1 [kB 10 a0] (RS.dn (A0 ?_))));rcases Y0 h with ⟨hp,h⟩ | ⟨hp,h⟩
  ·refine D0 10 true hp (I0 (WS.rg (u0 1 [kT 7 (⟨#[118]⟩:ByteArray)] (RS.dn ?_))));cases h;exact fun a w hs=>(jsN (hs.sb 0))
  ·refine D0 10 false (b_not hp) (J0 (K0 ?_));cases h;exact fun a w hs=>(jsN (hs.sb 0))
 ·clear hx;refine B0 (WS.rg (u0 2 [kI 12 a1,kT 11 v7_1] ?_));obtain ⟨⟨x2,H3⟩,hx,h⟩:=bind_some h;try dsimp only at h
  refine RS.cl (some 13) (v:=(vS x2)) 76 _ (z3s hx) ?_;obtain ⟨s4,hx,h⟩:=bind_some h;refine RS.o (H':=H3) (some 14) (vS s4) (Abs.run_strcat (t:=9) (u:=9) (x:=.tmp 11) (y:=.tmp 13) (a:=v7_1) (b:=x2) (by kernel_rfl) (by kernel_rfl) (by kernel_rfl) hx) (u0 1 [kT 7 s4] (RS.dn (A0 (B0 (B0 (WS.rg (u0 3 [kI 17 0,kI 16 (a2.n:Int),kS 15 a2] (RS.dn (A0 ?_)))))))));refine M0 0 ?_;obtain ⟨o,hl,h⟩:=bind_some h;rcases o with ⟨H14,v7_15,v17_16⟩ | r
  ·try dsimp only at h
   refine S0 (z2b (L:=L) (E:=E) (m:=m) (H:=H)) (L.ok hl) 0 ?_;clear hl;refine fun a w hs=>bkE ((A0 ?_ a w hs));refine B0 (WS.rg (u0 2 [kT 6 v7_15,kT 27 v7_15] (RS.dn (A0 (G0 ?_)))));cases h;exact fun a w hs=>rtR (rS hs)
  ·try dsimp only at h
   refine R0 (z2b (L:=L) (E:=E) (m:=m) (H:=H)) (L.ok hl) 0 ?_;cases h;exact fun a w hq=>bkR (sqR (rtR hq))
def N7:(ByteArray×AH)→Value
 | (r0,_)=>(vS r0)
def l8 (_:AH):(ByteArray×AH)→AH:=fun r=>r.2
noncomputable def B71:Code:=(Tryd.f71.body).getD .skip
noncomputable def B2 (_L:LC) (m:Nat) (q1:Addr) (_x4_0:Int) (x4_1:Sl3) (_x4_2:Bool):(AH×Sl3×Int)→Option (Lp (AH×Sl3×Int) (ByteArray×AH)):=fun (H5,v6_6,v19_7) =>
 if v19_7<(x4_1.n:Int) then
  (idxA 1 x4_1 v19_7).bind fun p8 => (rd (deI .i64) H5 p8).bind fun x9 => (rd deSl H5 (Addr.add q1 4)).bind fun x10 => (idxA 1 x10 x9).bind fun p11 => (rd (deI .i64) H5 p11).bind fun x12 => (newR 3 1 #[(vI .i64 x12)] H5).bind fun (s13,H14) => (appS m 3 1 8 H14 v6_6 s13).bind fun (s15,H16) => some (.next (H16,s15,(IntKind.i64.wrap (v19_7+1))))
 else
  some (.brk (H5,v6_6,v19_7))
def z18 (_L:LC) (_m:Nat) (q1:Addr) (x4_0:Int) (x4_1:Sl3) (x4_2:Bool):(AH×Sl3×Int)→KN×Lcs:=fun (_,v6_6,v19_7)=>([kS 6 v6_6,kI 19 v19_7,kP 0 q1,kL 5 0 0,kS 17 x4_1,kI 18 (x4_1.n:Int)],[some (86,[(vI .i64 x4_0),(Sl3.v x4_1),(vB x4_2)])])
noncomputable def P1 (L:LC) (m:Nat) (H:AH) (a0:Option Addr) (a1:Int):Option (ByteArray×AH) :=
 a0.bind fun q1 => (rd deSl H (Addr.add q1 0)).bind fun x2 => (idxA 3 x2 a1).bind fun p3 => (rd (deI .i64) H (Addr.add p3 0)).bind fun x4_0 => (rd deSl H (Addr.add p3 1)).bind fun x4_1 => (rd deB H (Addr.add p3 2)).bind fun x4_2 => (L.run (B2 L m q1 x4_0 x4_1 x4_2) (H,Sl3.nil,0)).bind fun o=>match o with
 | .inl (H17,v6_18,_) =>
  (S7 L m H17 x4_2 x4_0 v6_18).bind fun (x20,H21) => some (x20,H21)
 | .inr r=>some r
theorem u7 {E H L m q1 x4_0 x4_1 x4_2} :LoopF Tryd.prog (NE.plain 1000) m E Tryd.f71 ((cfst (csnd (cfst (csnd (csnd (csnd B71))))))) (z18 L m q1 x4_0 x4_1 x4_2) (fun s=>s.1) 0 N7 (l8 H) (B2 L m q1 x4_0 x4_1 x4_2):=by
 rintro ⟨H5,v6_6,v19_7⟩ o h
 unfold B2 at h;try dsimp only at h
 refine B0 (WS.rg (u0 1 [kB 20 (decide (v19_7<(x4_1.n:Int)))] (RS.dn (A0 (B0 ?_)))));rcases Y0 h with ⟨hp,h⟩ | ⟨hp,h⟩
 ·refine D0 20 true (decide_eq_true hp) (I0 (K0 (A0 (B0 (M0 1 (B0 (WS.rg ?_)))))));obtain ⟨p8,hx,h⟩:=bind_some h;refine T0 21 27 3 (.tmp 17) (.tmp 19) hx ?_;obtain ⟨x9,hx,h⟩:=bind_some h;refine P0 22 3 (.tmp 21) (X0 hx Z0) (u0 1 [kI 8 x9] (RS.dn (A0 (WS.rg (u0 4 [(26,.val (vP (some (Addr.add q1 4)))),kP 25 q1,kP 24 q1,kS 23 v6_6] ?_)))));obtain ⟨x10,hx,h⟩:=bind_some h;refine P0 27 27 (.tmp 26) (X0 hx A1) (u0 1 [kI 28 x9] ?_);obtain ⟨p11,hx,h⟩:=bind_some h;refine T0 29 27 3 (.tmp 27) (.tmp 28) hx ?_;obtain ⟨x12,hx,h⟩:=bind_some h;refine P0 30 3 (.tmp 29) (X0 hx Z0) ?_;obtain ⟨⟨s13,H14⟩,hx,h⟩:=bind_some h;try dsimp only at h
  refine RS.o (H':=H14) (some 31) (Sl3.v s13) (Abs.run_newR (by kernel_rfl) (by kernel_rfl) hx) ?_;obtain ⟨⟨s15,H16⟩,hx,h⟩:=bind_some h;try dsimp only at h
  refine RS.o (H':=H16) (some 32) (Sl3.v s15) (Abs.run_app (x:=.tmp 23) (y:=.tmp 31) (ts:=#[27,27]) (s:=v6_6) (z:=s13) (by kernel_rfl) (by kernel_rfl) (by kernel_rfl) (by kernel_rfl) hx) (u0 1 [kS 6 s15] (RS.dn ?_));refine fun a w hs=>bkN ((A0 ?_ a w hs));refine WS.rg (u0 2 [kI 19 (IntKind.i64.wrap (v19_7+1)),kI 33 (IntKind.i64.wrap (v19_7+1))] (RS.dn ?_));cases h;exact fun a w hs=>lsN rfl (hs.sb 1)
 ·refine D0 20 false (decide_eq_false hp) (J0 (WS.ex 0 ?_));cases h;exact fun a w hs=>sqE (lsB rfl (hs.sb 1))
theorem T4 {L:LC} {m:Nat} {H:AH} {a0:Option Addr} {a1:Int} {r:(ByteArray×AH)} (h:P1 L m H a0 a1=some r) :
  CallS Tryd.prog (NE.plain 1000) m 71 #[(vP a0),(vI .i64 a1)] H (N7 r) (l8 H r):=by
 refine CallS.mk (args:=[(vP a0),(vI .i64 a1)]) Tryd.func71 (B:=B71) (by kernel_rfl) (fun E _=>?_);unfold P1 at h;refine B0 (WS.rg (u0 1 [kT 4 (⟨#[]⟩:ByteArray)] (RS.dn (A0 (B0 (WS.rg (u0 1 [(9,.val (vP a0))] ?_)))))));obtain ⟨q1,hx,hq1⟩:=bind_some h;subst hx;have h:=hq1;refine u0 2 [(11,.val (vP (some (Addr.add q1 0)))),kP 10 q1] ?_;obtain ⟨x2,hx,h⟩:=bind_some h;refine P0 12 57 (.tmp 11) (X0 hx A1) (u0 1 [kI 13 a1] ?_);obtain ⟨p3,hx,h⟩:=bind_some h;refine T0 14 57 86 (.tmp 12) (.tmp 13) hx ?_;obtain ⟨x4_0,hx0,h⟩:=bind_some h;obtain ⟨x4_1,hx1,h⟩:=bind_some h;obtain ⟨x4_2,hx2,h⟩:=bind_some h;refine RS.la 15 86 (.tmp 14) 3 (J1 (X0 hx0 Z0) (J1 (X0 hx1 A1) (J1 (X0 hx2 o5) U6))) (V0 2 [kL 5 0 0] ([some (86,[(vI .i64 x4_0),(Sl3.v x4_1),(vB x4_2)])]) (RS.dn (A0 (B0 (WS.rg (u0 1 [kS 6 Sl3.nil] (RS.dn (A0 (B0 ?_)))))))));refine B0 (WS.rg (u0 4 [kI 19 0,kI 18 (x4_1.n:Int),kS 17 x4_1,kL 16 0 1] (RS.dn (A0 (M0 0 ?_)))));obtain ⟨o,hl,h⟩:=bind_some h;rcases o with ⟨H17,v6_18,v19_19⟩ | r
 ·try dsimp only at h
  refine S0 (u7 (L:=L) (E:=E) (m:=m) (H:=H)) (L.ok hl) 1 ?_;clear hl;refine fun a w hs=>bkE ((A0 ?_ a w hs));refine B0 (WS.rg (u0 5 [kS 38 v6_18,kI 37 x4_0,kL 36 0 0,kB 35 x4_2,kL 34 0 2] ?_));obtain ⟨⟨x20,H21⟩,hx,h⟩:=bind_some h;try dsimp only at h
  refine RS.cl (some 39) (v:=(vS x20)) 63 _ (z4u hx) (u0 1 [kT 4 x20] (RS.dn (A0 (G0 ?_))));cases h;exact fun a w hs=>rtR (rS hs)
 ·try dsimp only at h
  refine R0 (u7 (L:=L) (E:=E) (m:=m) (H:=H)) (L.ok hl) 1 ?_;cases h;exact fun a w hq=>bkR (sqR (rtR hq))
def Y5:(Sl3×AH)→Value
 | (r0,_)=>(Sl3.v r0)
def A6 (_:AH):(Sl3×AH)→AH:=fun r=>r.2
noncomputable def B73:Code:=(Tryd.f73.body).getD .skip
noncomputable def E2 (L:LC) (m:Nat) (_a2:Int) (q1:Addr) (_x7:Option Addr) (_q8:Addr) (x9:Sl3):(AH×Int)→Option (Lp (AH×Int) (Sl3×AH)):=fun (H10,v41_11) =>
 if v41_11<(x9.n:Int) then
  Option.bind (α:=AH) (
   (idxA 1 x9 v41_11).bind fun p13 => (rd (deI .i64) H10 p13).bind fun x14 => (rd deM H10 (Addr.add q1 7)).bind fun x15 => (P1 L (Nat.max m H10.next) H10 (some q1) x14).bind fun (x16,H17) => (lkM Tryd.prog 58 (deI .i64) H17 x15 (vS x16)).bind fun (x18,b19) => Option.bind (α:=Bool) (
    if b19=true then
     some (decide (x18=x14))
    else
     some false) fun v61_20 =>
   if v61_20=true then
    (rd deM H17 (Addr.add q1 7)).bind fun x21 => (P1 L (Nat.max m H17.next) H17 (some q1) x14).bind fun (x22,H23) => Option.bind (gOp Tryd.prog m (opsOf (cfst (csnd (csnd (csnd (cfst (cfst (csnd (csnd (cfst (cfst (csnd (cfst (csnd (csnd B73))))))))))))))) 7 [(65,.val (Value.map x21)),(68,.val (vS x22))] deV H23) fun (_,H25) => some H25
   else
    some H17) fun H12 =>
  some (.next (H12,(IntKind.i64.wrap (v41_11+1))))
 else
  some (.brk (H10,v41_11))
def z3c (_L:LC) (_m:Nat) (a2:Int) (q1:Addr) (x7:Option Addr) (q8:Addr) (x9:Sl3):(AH×Int)→KN×Lcs:=fun (_,v41_11)=>([kI 41 v41_11,kP 0 q1,kI 2 a2,kP 7 q8,(8,.val (vP x7)),kS 39 x9,kI 40 (x9.n:Int)],[])
noncomputable def A3 (_L:LC) (m:Nat) (a2:Int) (q1:Addr) (_x7:Option Addr) (_q8:Addr) (x28:Sl3):(AH×Int)→Option (Lp (AH×Int) (Sl3×AH)):=fun (H29,v75_30) =>
 if v75_30<(x28.n:Int) then
  (idxA 1 x28 v75_30).bind fun p31 => (rd (deI .i64) H29 p31).bind fun x32 => (rd deSl H29 (Addr.add q1 4)).bind fun x33 => (idxA 1 x33 x32).bind fun p34 => (H29.setCell m p34 (vI .i64 a2)).bind fun H35 => some (.next (H35,(IntKind.i64.wrap (v75_30+1))))
 else
  some (.brk (H29,v75_30))
def z39 (_L:LC) (_m:Nat) (a2:Int) (q1:Addr) (x7:Option Addr) (q8:Addr) (x28:Sl3):(AH×Int)→KN×Lcs:=fun (_,v75_30)=>([kI 75 v75_30,kP 0 q1,kI 2 a2,kP 7 q8,(8,.val (vP x7)),kS 73 x28,kI 74 (x28.n:Int)],[])
noncomputable def C2 (L:LC) (m:Nat) (q1:Addr) (_x7:Option Addr) (_q8:Addr) (x38:Sl3):(AH×Sl3×Int)→Option (Lp (AH×Sl3×Int) (Sl3×AH)):=fun (H39,v15_40,v93_41) =>
 if v93_41<(x38.n:Int) then
  Option.bind (α:=(AH×Sl3)) (
   (idxA 1 x38 v93_41).bind fun p44 => (rd (deI .i64) H39 p44).bind fun x45 => (P1 L m H39 (some q1) x45).bind fun (x46,H47) => (rd deM H47 (Addr.add q1 7)).bind fun x48 => (lkM Tryd.prog 58 (deI .i64) H47 x48 (vS x46)).bind fun (x49,b50) => if b50=true then
    if x49=x45 then
     some (H47,v15_40)
    else
     (newR 122 1 #[(vI .i64 x45),(vI .i64 x49),(vI .i64 0),(vI .i64 0),(vI .i64 x45),(vI .i64 x49),(vB true)] H47).bind fun (s51,H52) => (appS m 122 7 56 H52 v15_40 s51).bind fun (s53,H54) => some (H54,s53)
   else
    (rd deM H47 (Addr.add q1 7)).bind fun x55 => (upM Tryd.prog m 58 H47 x55 (vS x46) (vI .i64 x45)).bind fun H56 => some (H56,v15_40)) fun (H42,v15_43) =>
  some (.next (H42,v15_43,(IntKind.i64.wrap (v93_41+1))))
 else
  some (.brk (H39,v15_40,v93_41))
def z3a (_L:LC) (_m:Nat) (q1:Addr) (x7:Option Addr) (q8:Addr) (x38:Sl3):(AH×Sl3×Int)→KN×Lcs:=fun (_,v15_40,v93_41)=>([kS 15 v15_40,kI 93 v93_41,kP 0 q1,kP 7 q8,(8,.val (vP x7)),kS 91 x38,kI 92 (x38.n:Int)],[])
noncomputable def A5 (L:LC) (m:Nat) (H:AH) (a0:Option Addr) (a1 a2:Int):Option (Sl3×AH) :=
 a0.bind fun q1 => (rd deSl H (Addr.add q1 5)).bind fun x2 => (idxA 1 x2 a1).bind fun p3 => (rd deP H p3).bind fun x4 => (rd deSl H (Addr.add q1 5)).bind fun x5 => (idxA 1 x5 a2).bind fun p6 => (rd deP H p6).bind fun x7 => x4.bind fun q8 => (rd deSl H (Addr.add (Addr.add q8 0) 0)).bind fun x9 => (L.run (E2 L m a2 q1 x7 q8 x9) (H,0)).bind fun o=>match o with
 | .inl (H26,_) =>
  (rd deSl H26 (Addr.add q8 1)).bind fun x28 => (L.run (A3 L m a2 q1 x7 q8 x28) (H26,0)).bind fun o=>match o with
  | .inl (H36,_) =>
   (rd deSl H36 (Addr.add (Addr.add q8 0) 0)).bind fun x38 => (L.run (C2 L m q1 x7 q8 x38) (H36,Sl3.nil,0)).bind fun o=>match o with
   | .inl (H57,v15_58,_) =>
    (rd deSl H57 (Addr.add (Addr.add q8 0) 0)).bind fun x60 => x7.bind fun q61 => (X4 L m H57 (some (Addr.add q61 0)) x60).bind fun H62 => (rd deSl H62 (Addr.add q61 1)).bind fun x63 => (rd deSl H62 (Addr.add q8 1)).bind fun x64 => (appS m 3 1 8 H62 x63 x64).bind fun (s65,H66) => (H66.setCell m (Addr.add q61 1) (Sl3.v s65)).bind fun H67 => (rd deSl H67 (Addr.add q61 2)).bind fun x68 => (rd deSl H67 (Addr.add q8 2)).bind fun x69 => (appS m 3 1 8 H67 x68 x69).bind fun (s70,H71) => (H71.setCell m (Addr.add q61 2) (Sl3.v s70)).bind fun H72 => (rd (deI .i64) H72 (Addr.add q61 3)).bind fun x73 => (rd (deI .i64) H72 (Addr.add q8 3)).bind fun x74 => Option.bind (gOp1 Tryd.prog (opsOf (cfst (csnd (csnd (csnd (csnd (csnd (csnd (csnd (csnd (csnd B73))))))))))) 9 [(166,.val (vI .i64 x73)),(170,.val (vI .i64 x74))] (deI .i64) H72) fun x75 => (H72.setCell m (Addr.add q61 3) (vI .i64 x75)).bind fun H76 => some (v15_58,H76)
   | .inr r=>some r
  | .inr r=>some r
 | .inr r=>some r
theorem Q8 {E H L m a2 q1 x7 q8 x9} :LoopF Tryd.prog (NE.plain 1000) m E Tryd.f73 ((cfst (csnd (cfst (csnd (csnd B73)))))) (z3c L m a2 q1 x7 q8 x9) (fun s=>s.1) 0 Y5 (A6 H) (E2 L m a2 q1 x7 q8 x9):=by
 rintro ⟨H10,v41_11⟩ o h
 unfold E2 at h;try dsimp only at h
 refine B0 (WS.rg (u0 1 [kB 42 (decide (v41_11<(x9.n:Int)))] (RS.dn (A0 (B0 ?_)))));rcases Y0 h with ⟨hp,h⟩ | ⟨hp,h⟩
 ·refine D0 42 true (decide_eq_true hp) (I0 (K0 (A0 ?_)));obtain ⟨H12,hx,h⟩:=bind_some h;refine B0 ?_;refine WS.join ([kP 0 q1,kI 2 a2,kP 7 q8,(8,.val (vP x7)),kS 39 x9,kI 40 (x9.n:Int),kI 41 v41_11]) ([]) H12 ?_ (fun a w hs=>A0 ?_ a w hs)
  ·clear h; rename _=>h;refine M0 1 (B0 (WS.rg ?_));obtain ⟨p13,hx,h⟩:=bind_some h;refine T0 43 27 3 (.tmp 39) (.tmp 41) hx ?_;obtain ⟨x14,hx,h⟩:=bind_some h;refine P0 44 3 (.tmp 43) (X0 hx Z0) (u0 1 [kI 10 x14] (RS.dn (A0 (B0 ?_))));refine Q0 [0,1,2,3] [0,1,3,7,0,0,48,127,255,511,511,1023,4095] 13 (fun hcl=>?_);refine C0 0 (some 46) (vP (some q1)) (C0 1 (some 47) (vP (some q1)) (C0 2 (some 48) (vP (some (Addr.add q1 7))) ?_));obtain ⟨x15,hx,h⟩:=bind_some h;refine E0 3 (some 49) (Value.map x15) (Abs.det_load (t:=58) (x:=.tmp 48) (a:=(Addr.add q1 7)) (by kernel_rfl) (by kernel_rfl) (by kernel_rfl) (by kernel_rfl) (X0 hx E8)) (DA.tP 4 (some 50) (vP (some q1)) (DA.tP 5 (some 51) (vI .i64 x14) ?_));obtain ⟨⟨x16,H17⟩,hx,h⟩:=bind_some h;try dsimp only at h
   refine DA.on 6 (DA.aCj 6 (some 52) false (v:=(vS x16)) 71 #[(vP (some q1)),(vI .i64 x14)] (T4 hx) ?_);obtain ⟨⟨x18,b19⟩,hx,h⟩:=bind_some h;try dsimp only at h
   refine DA.on 7 (W0 (H':=H17) 7 (some 53) (Value.tuple #[(vI .i64 x18),(vB b19)]) (Abs.run_look (t:=58) (x:=.tmp 49) (y:=.tmp 52) (mm:=x15) (k:=(vS x16)) (by kernel_rfl) (by kernel_rfl) (by kernel_rfl) (by kernel_rfl) (lkM_eq hx Z0)) (DA.tP 8 (some 45) (Value.tuple #[(vI .i64 x18),(vB b19)]) (DA.tP 9 (some 54) (vI .i64 x18) (DA.tP 10 (some 55) (vB b19) (DA.tP 11 (some 11) (vI .i64 x18) (DA.tP 12 (some 12) (vB b19) (DA.dn (A0 ?_))))))));obtain ⟨v61_20,hx,h⟩:=bind_some h;refine B0 ?_;refine WS.join ([kB 61 v61_20,kP 0 q1,kI 2 a2,kP 7 q8,(8,.val (vP x7)),kI 10 x14,kS 39 x9,kI 40 (x9.n:Int),kI 41 v41_11]) ([]) H17 ?_ (fun a w hs=>A0 ?_ a w hs)
   ·clear h; rename _=>h;refine WS.rg (u0 2 [kB 57 b19,kB 56 b19] ?_);rcases Y0 h with ⟨hp,h⟩ | ⟨hp,h⟩
    ·refine O0 57 true hp (u0 4 [kB 61 (decide (x18=x14)),kB 60 (decide (x18=x14)),kI 59 x14,kI 58 x18] (RS.dn ?_));cases h;exact fun a w hs=>(jsN (hs.sb 0))
    ·refine O0 57 false (b_not hp) (u0 4 [kB 61 false,kU 60,kU 59,kU 58] (RS.dn ?_));cases h;exact fun a w hs=>(jsN (hs.sb 0))
   ·clear hx;rcases Y0 h with ⟨hp,h⟩ | ⟨hp,h⟩
    ·refine D0 61 true hp (I0 ?_);refine Q0 [0,1,2,3] [0,1,3,7,0,0,48,127] 8 (fun hcl=>?_);refine C0 0 (some 62) (vP (some q1)) (C0 1 (some 63) (vP (some q1)) (C0 2 (some 64) (vP (some (Addr.add q1 7))) ?_));obtain ⟨x21,hx,h⟩:=bind_some h;refine E0 3 (some 65) (Value.map x21) (Abs.det_load (t:=58) (x:=.tmp 64) (a:=(Addr.add q1 7)) (by kernel_rfl) (by kernel_rfl) (by kernel_rfl) (by kernel_rfl) (X0 hx E8)) (DA.tP 4 (some 66) (vP (some q1)) (DA.tP 5 (some 67) (vI .i64 x14) ?_));obtain ⟨⟨x22,H23⟩,hx,h⟩:=bind_some h;try dsimp only at h
     refine DA.on 6 (DA.aCj 6 (some 68) false (v:=(vS x22)) 71 #[(vP (some q1)),(vI .i64 x14)] (T4 hx) ?_);obtain ⟨⟨x24,H25⟩,hx,h⟩:=bind_some h;try dsimp only at h
     refine DA.on 7 (W0 (H':=H25) 7 none x24 (zb6 hx zla (by kernel_rfl)) (DA.dn ?_));cases h;exact fun a w hs=>bkN ((jsN (hs.sb 0)))
    ·refine D0 61 false (b_not hp) (J0 (K0 ?_));cases h;exact fun a w hs=>bkN ((jsN (hs.sb 0)))
  ·clear hx;refine WS.rg (u0 2 [kI 41 (IntKind.i64.wrap (v41_11+1)),kI 69 (IntKind.i64.wrap (v41_11+1))] (RS.dn ?_));cases h;exact fun a w hs=>lsN rfl (hs.sb 0)
 ·refine D0 42 false (decide_eq_false hp) (J0 (WS.ex 0 ?_));cases h;exact fun a w hs=>sqE (lsB rfl (hs.sb 0))
theorem V8 {E H L m a2 q1 x7 q8 x28} :LoopF Tryd.prog (NE.plain 1000) m E Tryd.f73 ((cfst (csnd (cfst (csnd (csnd (csnd B73))))))) (z39 L m a2 q1 x7 q8 x28) (fun s=>s.1) 2 Y5 (A6 H) (A3 L m a2 q1 x7 q8 x28):=by
 rintro ⟨H29,v75_30⟩ o h
 unfold A3 at h;try dsimp only at h
 refine B0 (WS.rg (u0 1 [kB 76 (decide (v75_30<(x28.n:Int)))] (RS.dn (A0 (B0 ?_)))));rcases Y0 h with ⟨hp,h⟩ | ⟨hp,h⟩
 ·refine D0 76 true (decide_eq_true hp) (I0 (K0 (A0 (B0 (M0 3 (B0 (WS.rg ?_)))))));obtain ⟨p31,hx,h⟩:=bind_some h;refine T0 77 27 3 (.tmp 73) (.tmp 75) hx ?_;obtain ⟨x32,hx,h⟩:=bind_some h;refine P0 78 3 (.tmp 77) (X0 hx Z0) (u0 1 [kI 14 x32] (RS.dn (A0 (WS.rg (u0 3 [(81,.val (vP (some (Addr.add q1 4)))),kP 80 q1,kP 79 q1] ?_)))));obtain ⟨x33,hx,h⟩:=bind_some h;refine P0 82 27 (.tmp 81) (X0 hx A1) (u0 2 [kI 84 a2,kI 83 x32] ?_);obtain ⟨p34,hx,h⟩:=bind_some h;refine T0 85 27 3 (.tmp 82) (.tmp 83) hx ?_;obtain ⟨H35,hx,h⟩:=bind_some h;refine RS.o (H':=H35) none undef (Abs.run_store1 (t:=3) (x:=.tmp 85) (y:=.tmp 84) (a:=p34) (v:=(vI .i64 a2)) (by kernel_rfl) (by kernel_rfl) (by kernel_rfl) (by kernel_rfl) (by kernel_rfl) hx) (RS.dn ?_);refine fun a w hs=>bkN ((A0 ?_ a w hs));refine WS.rg (u0 2 [kI 75 (IntKind.i64.wrap (v75_30+1)),kI 86 (IntKind.i64.wrap (v75_30+1))] (RS.dn ?_));cases h;exact fun a w hs=>lsN rfl (hs.sb 0)
 ·refine D0 76 false (decide_eq_false hp) (J0 (WS.ex 2 ?_));cases h;exact fun a w hs=>sqE (lsB rfl (hs.sb 0))
theorem W8 {E H L m q1 x7 q8 x38} :LoopF Tryd.prog (NE.plain 1000) m E Tryd.f73 ((cfst (csnd (cfst (csnd (csnd (csnd (csnd (csnd B73))))))))) (z3a L m q1 x7 q8 x38) (fun s=>s.1) 4 Y5 (A6 H) (C2 L m q1 x7 q8 x38):=by
 rintro ⟨H39,v15_40,v93_41⟩ o h
 unfold C2 at h;try dsimp only at h
 refine B0 (WS.rg (u0 1 [kB 94 (decide (v93_41<(x38.n:Int)))] (RS.dn (A0 (B0 ?_)))));rcases Y0 h with ⟨hp,h⟩ | ⟨hp,h⟩
 ·refine D0 94 true (decide_eq_true hp) (I0 (K0 (A0 ?_)));obtain ⟨⟨H42,v15_43⟩,hx,h⟩:=bind_some h;try dsimp only at h
  refine B0 ?_;refine WS.join ([kS 15 v15_43,kP 0 q1,kP 7 q8,(8,.val (vP x7)),kS 91 x38,kI 92 (x38.n:Int),kI 93 v93_41]) ([]) H42 ?_ (fun a w hs=>A0 ?_ a w hs)
  ·clear h; rename _=>h;refine M0 5 (B0 (WS.rg ?_));obtain ⟨p44,hx,h⟩:=bind_some h;refine T0 95 27 3 (.tmp 91) (.tmp 93) hx ?_;obtain ⟨x45,hx,h⟩:=bind_some h;refine P0 96 3 (.tmp 95) (X0 hx Z0) (u0 1 [kI 17 x45] (RS.dn (A0 (B0 (WS.rg (u0 2 [kI 98 x45,kP 97 q1] ?_))))));obtain ⟨⟨x46,H47⟩,hx,h⟩:=bind_some h;try dsimp only at h
   refine RS.cl (some 99) (v:=(vS x46)) 71 _ (T4 hx) (u0 1 [kT 18 x46] (RS.dn (A0 (B0 (WS.rg (u0 3 [(103,.val (vP (some (Addr.add q1 7)))),kP 102 q1,kP 101 q1] ?_))))));obtain ⟨x48,hx,h⟩:=bind_some h;refine P0 104 58 (.tmp 103) (X0 hx E8) (u0 1 [kT 105 x46] ?_);obtain ⟨⟨x49,b50⟩,hx,h⟩:=bind_some h;try dsimp only at h
   refine RS.o (H':=H47) (some 106) (Value.tuple #[(vI .i64 x49),(vB b50)]) (Abs.run_look (t:=58) (x:=.tmp 104) (y:=.tmp 105) (mm:=x48) (k:=(vS x46)) (by kernel_rfl) (by kernel_rfl) (by kernel_rfl) (by kernel_rfl) (lkM_eq hx Z0)) (u0 5 [kB 20 b50,kI 19 x49,kB 108 b50,kI 107 x49,(100,.val (Value.tuple #[(vI .i64 x49),(vB b50)]))] (RS.dn (A0 (B0 (WS.rg (u0 1 [kB 109 b50] (RS.dn (A0 ?_))))))));rcases Y0 h with ⟨hp,h⟩ | ⟨hp,h⟩
   ·refine D0 109 true hp (I0 (B0 (WS.rg (u0 3 [kB 112 (!decide (x49=x45)),kI 111 x45,kI 110 x49] (RS.dn (A0 ?_))))));rcases Y0 h with ⟨hp,h⟩ | ⟨hp,h⟩
    ·refine D0 112 false (U7 hp) (J0 (K0 ?_));cases h;exact fun a w hs=>bkN ((jsN (hs.sb 0)))
    ·refine D0 112 true (Z6 hp) (I0 (WS.rg (u0 7 [kA 119 #[(vI .i64 x45),(vI .i64 x49),(vI .i64 0),(vI .i64 0),(vI .i64 x45),(vI .i64 x49),(vB true)],kA 118 #[(vI .i64 0),(vI .i64 0),(vI .i64 x45),(vI .i64 x49),(vB true)],kI 117 x49,kI 116 x45,kI 115 x49,kI 114 x45,kS 113 v15_40] ?_)));obtain ⟨⟨s51,H52⟩,hx,h⟩:=bind_some h;try dsimp only at h
     refine RS.o (H':=H52) (some 120) (Sl3.v s51) (Abs.run_newR (by kernel_rfl) (by kernel_rfl) hx) ?_;obtain ⟨⟨s53,H54⟩,hx,h⟩:=bind_some h;try dsimp only at h
     refine RS.o (H':=H54) (some 121) (Sl3.v s53) (Abs.run_app (x:=.tmp 113) (y:=.tmp 120) (ts:=#[123,123]) (s:=v15_40) (z:=s51) (by kernel_rfl) (by kernel_rfl) (by kernel_rfl) (by kernel_rfl) hx) (u0 1 [kS 15 s53] (RS.dn ?_));cases h;exact fun a w hs=>bkN ((jsN (hs.sb 0)))
   ·refine D0 109 false (b_not hp) (J0 (WS.rg (u0 3 [(124,.val (vP (some (Addr.add q1 7)))),kP 123 q1,kP 122 q1] ?_)));obtain ⟨x55,hx,h⟩:=bind_some h;refine P0 125 58 (.tmp 124) (X0 hx E8) (u0 2 [kI 127 x45,kT 126 x46] ?_);obtain ⟨H56,hx,h⟩:=bind_some h;refine RS.o (H':=H56) none undef (Abs.run_upM (t:=58) (x:=.tmp 125) (y:=.tmp 126) (z:=.tmp 127) (mm:=x55) (k:=(vS x46)) (v:=(vI .i64 x45)) (by kernel_rfl) (by kernel_rfl) (by kernel_rfl) (by kernel_rfl) (by kernel_rfl) hx) (RS.dn ?_);cases h;exact fun a w hs=>bkN ((jsN (hs.sb 0)))
  ·clear hx;refine WS.rg (u0 2 [kI 93 (IntKind.i64.wrap (v93_41+1)),kI 128 (IntKind.i64.wrap (v93_41+1))] (RS.dn ?_));cases h;exact fun a w hs=>lsN rfl (hs.sb 0)
 ·refine D0 94 false (decide_eq_false hp) (J0 (WS.ex 4 ?_));cases h;exact fun a w hs=>sqE (lsB rfl (hs.sb 0))
theorem z61 {L:LC} {m:Nat} {H:AH} {a0:Option Addr} {a1 a2:Int} {r:(Sl3×AH)} (h:A5 L m H a0 a1 a2=some r) :
  CallS Tryd.prog (NE.plain 1000) m 73 #[(vP a0),(vI .i64 a1),(vI .i64 a2)] H (Y5 r) (A6 H r):=by
 refine CallS.mk (args:=[(vP a0),(vI .i64 a1),(vI .i64 a2)]) Tryd.func73 (B:=B73) (by kernel_rfl) (fun E _=>?_);unfold A5 at h;refine B0 (WS.rg (u0 1 [kS 6 Sl3.nil] (RS.dn (A0 (B0 ?_)))));refine Q0 [0,1,2,3,4,5,6,7,8,9,10,11,12,13] [0,1,3,7,0,31,63,0,128,384,896,0,3968,8064,127,32767] 16 (fun hcl=>?_);refine C0 0 (some 21) (vP a0) ?_;obtain ⟨q1,hx,hq1⟩:=bind_some h;subst hx;have h:=hq1;refine C0 1 (some 22) (vP (some q1)) (C0 2 (some 23) (vP (some (Addr.add q1 5))) ?_);obtain ⟨x2,hx,h⟩:=bind_some h;refine E0 3 (some 24) (Sl3.v x2) (Abs.det_load (t:=60) (x:=.tmp 23) (a:=(Addr.add q1 5)) (by kernel_rfl) (by kernel_rfl) (by kernel_rfl) (by kernel_rfl) (X0 hx A1)) (C0 4 (some 25) (vI .i64 a1) ?_);obtain ⟨p3,hx,h⟩:=bind_some h;refine E0 5 (some 26) (vP (some p3)) (Abs.det_idx (s:=x2) (k:=.i64) (t:=60) (e:=79) (x:=.tmp 24) (y:=.tmp 25) (by kernel_rfl) (by kernel_rfl) (by kernel_rfl) (by kernel_rfl) (by kernel_rfl) hx) ?_;obtain ⟨x4,hx,h⟩:=bind_some h;refine E0 6 (some 27) (vP x4) (Abs.det_load (t:=79) (x:=.tmp 26) (a:=p3) (by kernel_rfl) (by kernel_rfl) (by kernel_rfl) (by kernel_rfl) (X0 hx A7)) (C0 7 (some 28) (vP (some q1)) (C0 8 (some 29) (vP (some q1)) (C0 9 (some 30) (vP (some (Addr.add q1 5))) ?_)));obtain ⟨x5,hx,h⟩:=bind_some h;refine E0 10 (some 31) (Sl3.v x5) (Abs.det_load (t:=60) (x:=.tmp 30) (a:=(Addr.add q1 5)) (by kernel_rfl) (by kernel_rfl) (by kernel_rfl) (by kernel_rfl) (X0 hx A1)) (C0 11 (some 32) (vI .i64 a2) ?_);obtain ⟨p6,hx,h⟩:=bind_some h;refine E0 12 (some 33) (vP (some p6)) (Abs.det_idx (s:=x5) (k:=.i64) (t:=60) (e:=79) (x:=.tmp 31) (y:=.tmp 32) (by kernel_rfl) (by kernel_rfl) (by kernel_rfl) (by kernel_rfl) (by kernel_rfl) hx) ?_;obtain ⟨x7,hx,h⟩:=bind_some h;refine E0 13 (some 34) (vP x7) (Abs.det_load (t:=79) (x:=.tmp 33) (a:=p6) (by kernel_rfl) (by kernel_rfl) (by kernel_rfl) (by kernel_rfl) (X0 hx A7)) (DA.tP 14 (some 7) (vP x4) (DA.tP 15 (some 8) (vP x7) (DA.dn (A0 (B0 (B0 (WS.rg (u0 1 [(35,.val (vP x4))] ?_))))))));obtain ⟨q8,hx,hq8⟩:=bind_some h;subst hx;have h:=hq8;refine u0 3 [(38,.val (vP (some (Addr.add (Addr.add q8 0) 0)))),(37,.val (vP (some (Addr.add q8 0)))),kP 36 q8] ?_;obtain ⟨x9,hx,h⟩:=bind_some h;refine P0 39 27 (.tmp 38) (X0 hx A1) (u0 2 [kI 41 0,kI 40 (x9.n:Int)] (RS.dn (A0 (M0 0 ?_))));obtain ⟨o,hl,h⟩:=bind_some h;rcases o with ⟨H26,v41_27⟩ | r
 ·try dsimp only at h
  refine S0 (Q8 (L:=L) (E:=E) (m:=m) (H:=H)) (L.ok hl) 0 ?_;clear hl;refine fun a w hs=>bkE ((A0 ?_ a w hs));refine B0 (B0 (WS.rg (u0 3 [(72,.val (vP (some (Addr.add q8 1)))),kP 71 q8,kP 70 q8] ?_)));obtain ⟨x28,hx,h⟩:=bind_some h;refine P0 73 27 (.tmp 72) (X0 hx A1) (u0 2 [kI 75 0,kI 74 (x28.n:Int)] (RS.dn (A0 (M0 2 ?_))));obtain ⟨o,hl,h⟩:=bind_some h;rcases o with ⟨H36,v75_37⟩ | r
  ·try dsimp only at h
   refine S0 (V8 (L:=L) (E:=E) (m:=m) (H:=H)) (L.ok hl) 0 ?_;clear hl;refine fun a w hs=>bkE ((A0 ?_ a w hs));refine B0 (WS.rg (u0 1 [kS 15 Sl3.nil] (RS.dn (A0 (B0 (B0 (WS.rg (u0 4 [(90,.val (vP (some (Addr.add (Addr.add q8 0) 0)))),(89,.val (vP (some (Addr.add q8 0)))),kP 88 q8,kP 87 q8] ?_))))))));obtain ⟨x38,hx,h⟩:=bind_some h;refine P0 91 27 (.tmp 90) (X0 hx A1) (u0 2 [kI 93 0,kI 92 (x38.n:Int)] (RS.dn (A0 (M0 4 ?_))));obtain ⟨o,hl,h⟩:=bind_some h;rcases o with ⟨H57,v15_58,v93_59⟩ | r
   ·try dsimp only at h
    refine S0 (W8 (L:=L) (E:=E) (m:=m) (H:=H)) (L.ok hl) 0 ?_;clear hl;refine fun a w hs=>bkE ((A0 ?_ a w hs));refine B0 ?_;refine Q0 [3,4,5,6,7] [0,1,3,0,8,24,56,120,255] 9 (fun hcl=>?_);refine C0 3 (some 132) (vP (some q8)) (C0 4 (some 133) (vP (some q8)) (C0 5 (some 134) (vP (some (Addr.add q8 0))) (C0 6 (some 135) (vP (some (Addr.add (Addr.add q8 0) 0))) ?_)));obtain ⟨x60,hx,h⟩:=bind_some h;refine E0 7 (some 136) (Sl3.v x60) (Abs.det_load (t:=27) (x:=.tmp 135) (a:=(Addr.add (Addr.add q8 0) 0)) (by kernel_rfl) (by kernel_rfl) (by kernel_rfl) (by kernel_rfl) (X0 hx A1)) (DA.tP 0 (some 129) (vP x7) ?_);obtain ⟨q61,hx,hq61⟩:=bind_some h;subst hx;have h:=hq61;refine DA.on 1 (DA.aHj (H':=H57) 1 (some 130) true (vP (some q61)) (by kernel_rfl) (DA.on 2 (DA.aHj (H':=H57) 2 (some 131) false (vP (some (Addr.add q61 0))) (by kernel_rfl) ?_)));obtain ⟨H62,hx,h⟩:=bind_some h;refine DA.on 8 (DA.aC 8 (some 137) (v:=(Value.tuple #[])) 70 #[(vP (some (Addr.add q61 0))),(Sl3.v x60)] (z1k hx) (DA.dn (A0 (B0 ?_))));refine Q0 [1,2,3,4,5,6,7,8] [0,0,2,6,14,0,32,96,224,510,1023,2047,4095] 13 (fun hcl=>?_);refine C0 1 (some 139) (vP (some q61)) (C0 2 (some 140) (vP (some q61)) (C0 3 (some 141) (vP (some (Addr.add q61 1))) ?_));obtain ⟨x63,hx,h⟩:=bind_some h;refine E0 4 (some 142) (Sl3.v x63) (Abs.det_load (t:=27) (x:=.tmp 141) (a:=(Addr.add q61 1)) (by kernel_rfl) (by kernel_rfl) (by kernel_rfl) (by kernel_rfl) (X0 hx A1)) (C0 5 (some 143) (vP (some q8)) (C0 6 (some 144) (vP (some q8)) (C0 7 (some 145) (vP (some (Addr.add q8 1))) ?_)));obtain ⟨x64,hx,h⟩:=bind_some h;refine E0 8 (some 146) (Sl3.v x64) (Abs.det_load (t:=27) (x:=.tmp 145) (a:=(Addr.add q8 1)) (by kernel_rfl) (by kernel_rfl) (by kernel_rfl) (by kernel_rfl) (X0 hx A1)) (DA.tP 0 (some 138) (vP (some q61)) ?_);obtain ⟨⟨s65,H66⟩,hx,h⟩:=bind_some h;try dsimp only at h
    refine DA.on 9 (W0 (H':=H66) 9 (some 147) (Sl3.v s65) (Abs.run_app (x:=.tmp 142) (y:=.tmp 146) (ts:=#[27,27]) (s:=x63) (z:=x64) (by kernel_rfl) (by kernel_rfl) (by kernel_rfl) (by kernel_rfl) hx) (DA.tP 10 (some 148) (vP (some q61)) (DA.tP 11 (some 149) (vP (some (Addr.add q61 1))) ?_)));obtain ⟨H67,hx,h⟩:=bind_some h;refine DA.on 12 (W0 (H':=H67) 12 none undef (Abs.run_store1 (t:=27) (x:=.tmp 149) (y:=.tmp 147) (a:=(Addr.add q61 1)) (v:=(Sl3.v s65)) (by kernel_rfl) (by kernel_rfl) (by kernel_rfl) (by kernel_rfl) (by kernel_rfl) hx) (DA.dn (A0 (B0 ?_))));refine Q0 [1,2,3,4,5,6,7,8] [0,0,2,6,14,0,32,96,224,510,1023,2047,4095] 13 (fun hcl=>?_);refine C0 1 (some 151) (vP (some q61)) (C0 2 (some 152) (vP (some q61)) (C0 3 (some 153) (vP (some (Addr.add q61 2))) ?_));obtain ⟨x68,hx,h⟩:=bind_some h;refine E0 4 (some 154) (Sl3.v x68) (Abs.det_load (t:=27) (x:=.tmp 153) (a:=(Addr.add q61 2)) (by kernel_rfl) (by kernel_rfl) (by kernel_rfl) (by kernel_rfl) (X0 hx A1)) (C0 5 (some 155) (vP (some q8)) (C0 6 (some 156) (vP (some q8)) (C0 7 (some 157) (vP (some (Addr.add q8 2))) ?_)));obtain ⟨x69,hx,h⟩:=bind_some h;refine E0 8 (some 158) (Sl3.v x69) (Abs.det_load (t:=27) (x:=.tmp 157) (a:=(Addr.add q8 2)) (by kernel_rfl) (by kernel_rfl) (by kernel_rfl) (by kernel_rfl) (X0 hx A1)) (DA.tP 0 (some 150) (vP (some q61)) ?_);obtain ⟨⟨s70,H71⟩,hx,h⟩:=bind_some h;try dsimp only at h
    refine DA.on 9 (W0 (H':=H71) 9 (some 159) (Sl3.v s70) (Abs.run_app (x:=.tmp 154) (y:=.tmp 158) (ts:=#[27,27]) (s:=x68) (z:=x69) (by kernel_rfl) (by kernel_rfl) (by kernel_rfl) (by kernel_rfl) hx) (DA.tP 10 (some 160) (vP (some q61)) (DA.tP 11 (some 161) (vP (some (Addr.add q61 2))) ?_)));obtain ⟨H72,hx,h⟩:=bind_some h;refine DA.on 12 (W0 (H':=H72) 12 none undef (Abs.run_store1 (t:=27) (x:=.tmp 161) (y:=.tmp 159) (a:=(Addr.add q61 2)) (v:=(Sl3.v s70)) (by kernel_rfl) (by kernel_rfl) (by kernel_rfl) (by kernel_rfl) (by kernel_rfl) hx) (DA.dn (A0 (B0 ?_))));refine Q0 [1,2,3,4,5,6,7,8] [0,0,2,6,14,0,32,96,224,510,1023,2047,4095] 13 (fun hcl=>?_);refine C0 1 (some 163) (vP (some q61)) (C0 2 (some 164) (vP (some q61)) (C0 3 (some 165) (vP (some (Addr.add q61 3))) ?_));obtain ⟨x73,hx,h⟩:=bind_some h;refine E0 4 (some 166) (vI .i64 x73) (Abs.det_load (t:=3) (x:=.tmp 165) (a:=(Addr.add q61 3)) (by kernel_rfl) (by kernel_rfl) (by kernel_rfl) (by kernel_rfl) (X0 hx Z0)) (C0 5 (some 167) (vP (some q8)) (C0 6 (some 168) (vP (some q8)) (C0 7 (some 169) (vP (some (Addr.add q8 3))) ?_)));obtain ⟨x74,hx,h⟩:=bind_some h;refine E0 8 (some 170) (vI .i64 x74) (Abs.det_load (t:=3) (x:=.tmp 169) (a:=(Addr.add q8 3)) (by kernel_rfl) (by kernel_rfl) (by kernel_rfl) (by kernel_rfl) (X0 hx Z0)) (DA.tP 0 (some 162) (vP (some q61)) ?_);obtain ⟨x75,hx,h⟩:=bind_some h;refine DA.on 9 (W0 (H':=H72) 9 (some 171) (vI .i64 x75) (z91 hx Z0 (by kernel_rfl) (by kernel_rfl)) (DA.tP 10 (some 172) (vP (some q61)) (DA.tP 11 (some 173) (vP (some (Addr.add q61 3))) ?_)));obtain ⟨H76,hx,h⟩:=bind_some h;refine DA.on 12 (W0 (H':=H76) 12 none undef (Abs.run_store1 (t:=3) (x:=.tmp 173) (y:=.tmp 171) (a:=(Addr.add q61 3)) (v:=(vI .i64 x75)) (by kernel_rfl) (by kernel_rfl) (by kernel_rfl) (by kernel_rfl) (by kernel_rfl) hx) (DA.dn (A0 (B0 (WS.rg (u0 2 [kS 6 v15_58,kS 174 v15_58] (RS.dn (A0 (G0 ?_)))))))));cases h;exact fun a w hs=>rtR (rS hs)
   ·try dsimp only at h
    refine R0 (W8 (L:=L) (E:=E) (m:=m) (H:=H)) (L.ok hl) 0 ?_;cases h;exact fun a w hq=>bkR (sqR (rtR hq))
  ·try dsimp only at h
   refine R0 (V8 (L:=L) (E:=E) (m:=m) (H:=H)) (L.ok hl) 0 ?_;cases h;exact fun a w hq=>bkR (sqR (rtR hq))
 ·try dsimp only at h
  refine R0 (Q8 (L:=L) (E:=E) (m:=m) (H:=H)) (L.ok hl) 0 ?_;cases h;exact fun a w hq=>bkR (sqR (rtR hq))
def u9:AH→Value
 | _=>(Value.tuple #[])
def K9 (_:AH):AH→AH:=fun r=>r
noncomputable def B58:Code:=(Tryd.f58.body).getD .skip
noncomputable def V1 (L:LC) (m:Nat) (a0:Option Addr) (_a3_0 _a3_1:Int) (_a3_2 _a3_3:Int) (_a3_4:Bool):(AH×Sl3)→Option (Lp (AH×Sl3) AH):=fun (H3,v8_4) =>
 if (v8_4.n:Int) > 0 then
  (idxA 7 v8_4 0).bind fun p5 => (rd (deI .i64) H3 (Addr.add p5 0)).bind fun x6_0 => (rd (deI .i64) H3 (Addr.add p5 1)).bind fun x6_1 => (rd (deI .i64) H3 (Addr.add p5 2)).bind fun x6_2 => (rd (deI .i64) H3 (Addr.add p5 3)).bind fun x6_3 => (rd (deI .i64) H3 (Addr.add p5 4)).bind fun x6_4 => (rd (deI .i64) H3 (Addr.add p5 5)).bind fun x6_5 => (rd deB H3 (Addr.add p5 6)).bind fun x6_6 => (slc 7 H3 v8_4 (some 1) none none).bind fun s7 => a0.bind fun q8 => (rd deSl H3 (Addr.add q8 4)).bind fun x9 => (idxA 1 x9 x6_0).bind fun p10 => (rd (deI .i64) H3 p10).bind fun x11 => (rd deSl H3 (Addr.add q8 4)).bind fun x12 => (idxA 1 x12 x6_1).bind fun p13 => (rd (deI .i64) H3 p13).bind fun x14 => if x11=x14 then
   some (.next (H3,s7))
  else
   Option.bind (α:=(Int×Int×Int×Int×Int×Int×Int×Int×Bool)) (
    (rd deSl H3 (Addr.add q8 5)).bind fun x24 => (idxA 1 x24 x11).bind fun p25 => (rd deP H3 p25).bind fun x26 => x26.bind fun q27 => (rd deSl H3 (Addr.add q27 1)).bind fun x28 => (rd deSl H3 (Addr.add q8 5)).bind fun x29 => (idxA 1 x29 x14).bind fun p30 => (rd deP H3 p30).bind fun x31 => x31.bind fun q32 => (rd deSl H3 (Addr.add q32 1)).bind fun x33 => if (x28.n:Int) > (x33.n:Int) then
     some (x14,x11,x6_1,x6_0,x6_2,x6_3,x6_4,x6_5,x6_6)
    else
     some (x11,x14,x6_0,x6_1,x6_2,x6_3,x6_4,x6_5,x6_6)) fun (v10_15,v11_16,w1_17,w1_18,_,w1_20,w1_21,w1_22,w1_23) =>
   (G4 L m H3 (some q8) w1_17).bind fun H34 => (rd deSl H34 (Addr.add q8 6)).bind fun x35 => (idxA 5 x35 w1_17).bind fun p36 => (wrCells m p36 0 [(vI .i64 w1_18),(vI .i64 w1_20),(vI .i64 w1_21),(vI .i64 w1_22),(vB w1_23)] H34).bind fun H37 => (A5 L m H37 (some q8) v10_15 v11_16).bind fun (x38,H39) => (appS m 122 7 56 H39 s7 x38).bind fun (s40,H41) => some (.next (H41,s40))
 else
  some (.brk (H3,v8_4))
def z33 (_L:LC) (_m:Nat) (a0:Option Addr) (a3_0 a3_1:Int) (a3_2 a3_3:Int) (a3_4:Bool):(AH×Sl3)→KN×Lcs:=fun (_,v8_4)=>([kS 8 v8_4,(0,.val (vP a0))],[some (109,[(vI .i64 a3_0),(vI .i64 a3_1),(vI .i64 a3_2),(vI .i64 a3_3),(vB a3_4)])])
noncomputable def G2 (L:LC) (m:Nat) (H:AH) (a0:Option Addr) (a1 a2:Int) (a3_0 a3_1:Int) (a3_2 a3_3:Int) (a3_4:Bool):Option AH :=
 (newR 122 1 #[(vI .i64 a1),(vI .i64 a2),(vI .i64 a3_0),(vI .i64 a3_1),(vI .i64 a3_2),(vI .i64 a3_3),(vB a3_4)] H).bind fun (s1,H2) => (L.run (V1 L m a0 a3_0 a3_1 a3_2 a3_3 a3_4) (H2,s1)).bind fun o=>match o with
 | .inl (H42,_) =>
  some H42
 | .inr r=>some r
theorem n8 {E H L m a0 a3_0 a3_1 a3_2 a3_3 a3_4} :LoopF Tryd.prog (NE.plain 1000) m E Tryd.f58 ((cfst (csnd (csnd B58)))) (z33 L m a0 a3_0 a3_1 a3_2 a3_3 a3_4) (fun s=>s.1) 0 u9 (K9 H) (V1 L m a0 a3_0 a3_1 a3_2 a3_3 a3_4):=by
 rintro ⟨H3,v8_4⟩ o h
 unfold V1 at h;try dsimp only at h
 refine B0 (B0 (WS.rg (u0 3 [kB 19 (decide ((v8_4.n:Int) > 0)),kI 18 (v8_4.n:Int),kS 17 v8_4] (RS.dn (A0 ?_)))));rcases Y0 h with ⟨hp,h⟩ | ⟨hp,h⟩
 ·refine D0 19 true (decide_eq_true hp) (I0 (K0 (A0 (M0 1 (B0 (WS.rg (u0 1 [kS 20 v8_4] ?_)))))));obtain ⟨p5,hx,h⟩:=bind_some h;refine T0 21 123 122 (.tmp 20) (.const (vI .i64 0)) hx ?_;obtain ⟨x6_0,hx0,h⟩:=bind_some h;obtain ⟨x6_1,hx1,h⟩:=bind_some h;obtain ⟨x6_2,hx2,h⟩:=bind_some h;obtain ⟨x6_3,hx3,h⟩:=bind_some h;obtain ⟨x6_4,hx4,h⟩:=bind_some h;obtain ⟨x6_5,hx5,h⟩:=bind_some h;obtain ⟨x6_6,hx6,h⟩:=bind_some h;refine RS.la 22 122 (.tmp 21) 7 (J1 (X0 hx0 Z0) (J1 (X0 hx1 Z0) (J1 (X0 hx2 Z0) (J1 (X0 hx3 Z0) (J1 (X0 hx4 Z0) (J1 (X0 hx5 Z0) (J1 (X0 hx6 o5) U6))))))) (V0 2 [kL 9 1 0] ([some (109,[(vI .i64 a3_0),(vI .i64 a3_1),(vI .i64 a3_2),(vI .i64 a3_3),(vB a3_4)]),some (122,[(vI .i64 x6_0),(vI .i64 x6_1),(vI .i64 x6_2),(vI .i64 x6_3),(vI .i64 x6_4),(vI .i64 x6_5),(vB x6_6)])]) (RS.dn (A0 (B0 (WS.rg (u0 1 [kS 23 v8_4] ?_))))));obtain ⟨s7,hx,h⟩:=bind_some h;refine RS.o (H':=H3) (some 24) (Sl3.v s7) (Abs.run_slice (t:=123) (e:=122) (x:=.tmp 23) (lo:=(some (.const (vI .i64 1)))) (hi:=none) (mx:=none) (s:=v8_4) (k1:=.i64) (k2:=.i64) (k3:=.i64) (by kernel_rfl) (by kernel_rfl) (by kernel_rfl) (by kernel_rfl) (by kernel_rfl) (by kernel_rfl) (by kernel_rfl) hx) (u0 1 [kS 8 s7] (RS.dn (A0 (B0 ?_))));refine Q0 [0,1,2,3,4,5,6,7,8,9,10,11,12,13,14,15] [0,1,3,7,0,16,63,127,0,256,768,1792,0,4096,16128,32512,255,131071] 18 (fun hcl=>?_);refine C0 0 (some 25) (vP a0) ?_;obtain ⟨q8,hx,hq8⟩:=bind_some h;subst hx;have h:=hq8;refine C0 1 (some 26) (vP (some q8)) (C0 2 (some 27) (vP (some (Addr.add q8 4))) ?_);obtain ⟨x9,hx,h⟩:=bind_some h;refine E0 3 (some 28) (Sl3.v x9) (Abs.det_load (t:=27) (x:=.tmp 27) (a:=(Addr.add q8 4)) (by kernel_rfl) (by kernel_rfl) (by kernel_rfl) (by kernel_rfl) (X0 hx A1)) (DA.tL 4 (some 29) (.loc 1 0) (DA.tL 5 (some 30) (.val (vI .i64 x6_0)) ?_));obtain ⟨p10,hx,h⟩:=bind_some h;refine E0 6 (some 31) (vP (some p10)) (Abs.det_idx (s:=x9) (k:=.i64) (t:=27) (e:=3) (x:=.tmp 28) (y:=.tmp 30) (by kernel_rfl) (by kernel_rfl) (by kernel_rfl) (by kernel_rfl) (by kernel_rfl) hx) ?_;obtain ⟨x11,hx,h⟩:=bind_some h;refine E0 7 (some 32) (vI .i64 x11) (Abs.det_load (t:=3) (x:=.tmp 31) (a:=p10) (by kernel_rfl) (by kernel_rfl) (by kernel_rfl) (by kernel_rfl) (X0 hx Z0)) (C0 8 (some 33) (vP (some q8)) (C0 9 (some 34) (vP (some q8)) (C0 10 (some 35) (vP (some (Addr.add q8 4))) ?_)));obtain ⟨x12,hx,h⟩:=bind_some h;refine E0 11 (some 36) (Sl3.v x12) (Abs.det_load (t:=27) (x:=.tmp 35) (a:=(Addr.add q8 4)) (by kernel_rfl) (by kernel_rfl) (by kernel_rfl) (by kernel_rfl) (X0 hx A1)) (DA.tL 12 (some 37) (.loc 1 1) (DA.tL 13 (some 38) (.val (vI .i64 x6_1)) ?_));obtain ⟨p13,hx,h⟩:=bind_some h;refine E0 14 (some 39) (vP (some p13)) (Abs.det_idx (s:=x12) (k:=.i64) (t:=27) (e:=3) (x:=.tmp 36) (y:=.tmp 38) (by kernel_rfl) (by kernel_rfl) (by kernel_rfl) (by kernel_rfl) (by kernel_rfl) hx) ?_;obtain ⟨x14,hx,h⟩:=bind_some h;refine E0 15 (some 40) (vI .i64 x14) (Abs.det_load (t:=3) (x:=.tmp 39) (a:=p13) (by kernel_rfl) (by kernel_rfl) (by kernel_rfl) (by kernel_rfl) (X0 hx Z0)) (DA.tP 16 (some 10) (vI .i64 x11) (DA.tP 17 (some 11) (vI .i64 x14) (DA.dn (A0 (B0 (B0 (WS.rg (u0 3 [kB 43 (decide (x11=x14)),kI 42 x14,kI 41 x11] (RS.dn ?_)))))))));refine A0 ?_;rcases Y0 h with ⟨hp,h⟩ | ⟨hp,h⟩
  ·refine D0 43 true (decide_eq_true hp) (I0 (WS.ex 1 ?_));cases h;exact fun a w hs=>sqE (bkE (lsN rfl (hs.sb 1)))
  ·refine D0 43 false (decide_eq_false hp) (J0 (K0 (A0 ?_)));obtain ⟨⟨v10_15,v11_16,w1_17,w1_18,w1_19,w1_20,w1_21,w1_22,w1_23⟩,hx,h⟩:=bind_some h;try dsimp only at h
   refine B0 ?_;refine WS.join ([kI 10 v10_15,kI 11 v11_16,kP 0 q8,kS 8 s7,kL 9 1 0]) ([some (109,[(vI .i64 a3_0),(vI .i64 a3_1),(vI .i64 a3_2),(vI .i64 a3_3),(vB a3_4)]),some (122,[(vI .i64 w1_17),(vI .i64 w1_18),(vI .i64 w1_19),(vI .i64 w1_20),(vI .i64 w1_21),(vI .i64 w1_22),(vB w1_23)])]) H3 ?_ (fun a w hs=>A0 ?_ a w hs)
   ·clear h; rename _=>h;refine B0 ?_;refine Q0 [0,1,2,3,4,5,6,7,8,9,11,12,13,14,15,16,17,18,19,20] [0,1,3,7,0,31,63,127,255,511,1023,0,2048,6144,14336,0,63488,129024,260096,522240,1046528,2095104,4194303] 23 (fun hcl=>?_);refine C0 0 (some 44) (vP (some q8)) (C0 1 (some 45) (vP (some q8)) (C0 2 (some 46) (vP (some (Addr.add q8 5))) ?_));obtain ⟨x24,hx,h⟩:=bind_some h;refine E0 3 (some 47) (Sl3.v x24) (Abs.det_load (t:=60) (x:=.tmp 46) (a:=(Addr.add q8 5)) (by kernel_rfl) (by kernel_rfl) (by kernel_rfl) (by kernel_rfl) (X0 hx A1)) (C0 4 (some 48) (vI .i64 x11) ?_);obtain ⟨p25,hx,h⟩:=bind_some h;refine E0 5 (some 49) (vP (some p25)) (Abs.det_idx (s:=x24) (k:=.i64) (t:=60) (e:=79) (x:=.tmp 47) (y:=.tmp 48) (by kernel_rfl) (by kernel_rfl) (by kernel_rfl) (by kernel_rfl) (by kernel_rfl) hx) ?_;obtain ⟨x26,hx,h⟩:=bind_some h;refine E0 6 (some 50) (vP x26) (Abs.det_load (t:=79) (x:=.tmp 49) (a:=p25) (by kernel_rfl) (by kernel_rfl) (by kernel_rfl) (by kernel_rfl) (X0 hx A7)) ?_;obtain ⟨q27,hx,hq27⟩:=bind_some h;subst hx;have h:=hq27;refine C0 7 (some 51) (vP (some q27)) (C0 8 (some 52) (vP (some (Addr.add q27 1))) ?_);obtain ⟨x28,hx,h⟩:=bind_some h;refine E0 9 (some 53) (Sl3.v x28) (Abs.det_load (t:=27) (x:=.tmp 52) (a:=(Addr.add q27 1)) (by kernel_rfl) (by kernel_rfl) (by kernel_rfl) (by kernel_rfl) (X0 hx A1)) (C0 11 (some 55) (vP (some q8)) (C0 12 (some 56) (vP (some q8)) (C0 13 (some 57) (vP (some (Addr.add q8 5))) ?_)));obtain ⟨x29,hx,h⟩:=bind_some h;refine E0 14 (some 58) (Sl3.v x29) (Abs.det_load (t:=60) (x:=.tmp 57) (a:=(Addr.add q8 5)) (by kernel_rfl) (by kernel_rfl) (by kernel_rfl) (by kernel_rfl) (X0 hx A1)) (C0 15 (some 59) (vI .i64 x14) ?_);obtain ⟨p30,hx,h⟩:=bind_some h;refine E0 16 (some 60) (vP (some p30)) (Abs.det_idx (s:=x29) (k:=.i64) (t:=60) (e:=79) (x:=.tmp 58) (y:=.tmp 59) (by kernel_rfl) (by kernel_rfl) (by kernel_rfl) (by kernel_rfl) (by kernel_rfl) hx) ?_;obtain ⟨x31,hx,h⟩:=bind_some h;refine E0 17 (some 61) (vP x31) (Abs.det_load (t:=79) (x:=.tmp 60) (a:=p30) (by kernel_rfl) (by kernel_rfl) (by kernel_rfl) (by kernel_rfl) (X0 hx A7)) ?_;obtain ⟨q32,hx,hq32⟩:=bind_some h;subst hx;have h:=hq32;refine C0 18 (some 62) (vP (some q32)) (C0 19 (some 63) (vP (some (Addr.add q32 1))) ?_);obtain ⟨x33,hx,h⟩:=bind_some h;refine E0 20 (some 64) (Sl3.v x33) (Abs.det_load (t:=27) (x:=.tmp 63) (a:=(Addr.add q32 1)) (by kernel_rfl) (by kernel_rfl) (by kernel_rfl) (by kernel_rfl) (X0 hx A1)) (DA.restart [0,1,2,3,4,5,6,7,8,9,10,11,12,13,14,15,16,17,18,19,20,21] (by kernel_rfl) (C0 10 (some 54) (vI .i64 (x28.n:Int)) (C0 21 (some 65) (vI .i64 (x33.n:Int)) (DA.tP 22 (some 66) (vB (decide ((x28.n:Int) > (x33.n:Int)))) (DA.dn (A0 ?_))))));rcases Y0 h with ⟨hp,h⟩ | ⟨hp,h⟩
    ·refine D0 66 true (decide_eq_true hp) (I0 (B0 (WS.rg (u0 4 [kI 11 x11,kI 10 x14,kI 68 x11,kI 67 x14] (RS.dn (A0 (WS.rg (V0 8 [kL 74 1 1,kL 73 1 0,kI 72 x6_0,kL 71 1 0,kI 70 x6_1,kL 69 1 1] ([some (109,[(vI .i64 a3_0),(vI .i64 a3_1),(vI .i64 a3_2),(vI .i64 a3_3),(vB a3_4)]),some (122,[(vI .i64 x6_1),(vI .i64 x6_0),(vI .i64 x6_2),(vI .i64 x6_3),(vI .i64 x6_4),(vI .i64 x6_5),(vB x6_6)])]) (RS.dn ?_)))))))));cases h;exact fun a w hs=>(jsN (hs.sb 2))
    ·refine D0 66 false (decide_eq_false hp) (J0 (K0 ?_));cases h;exact fun a w hs=>(jsN (hs.sb 2))
   ·clear hx;refine B0 (WS.rg (u0 3 [kI 77 w1_17,kL 76 1 0,kP 75 q8] ?_));obtain ⟨H34,hx,h⟩:=bind_some h;refine RS.cl (some 78) (v:=(Value.tuple #[])) 72 _ (z42 hx) (RS.dn (A0 (B0 (WS.rg (V0 5 [kL 82 1 2,kL 81 1 2,kI 80 w1_18,kL 79 1 1] ([some (109,[(vI .i64 a3_0),(vI .i64 a3_1),(vI .i64 a3_2),(vI .i64 a3_3),(vB a3_4)]),some (122,[(vI .i64 w1_17),(vI .i64 w1_18),(vI .i64 w1_18),(vI .i64 w1_20),(vI .i64 w1_21),(vI .i64 w1_22),(vB w1_23)])]) (RS.dn (A0 (B0 ?_))))))));refine Q0 [0,1,2,3,4,5,6,7] [0,1,3,7,0,16,0,64,255,511] 10 (fun hcl=>?_);refine C0 0 (some 83) (vP (some q8)) (C0 1 (some 84) (vP (some q8)) (C0 2 (some 85) (vP (some (Addr.add q8 6))) ?_));obtain ⟨x35,hx,h⟩:=bind_some h;refine E0 3 (some 86) (Sl3.v x35) (Abs.det_load (t:=61) (x:=.tmp 85) (a:=(Addr.add q8 6)) (by kernel_rfl) (by kernel_rfl) (by kernel_rfl) (by kernel_rfl) (X0 hx A1)) (DA.tL 4 (some 87) (.loc 1 0) (DA.tL 5 (some 88) (.val (vI .i64 w1_17)) (DA.tL 6 (some 89) (.loc 1 2) (DA.tL 7 (some 90) (.val (vA #[(vI .i64 w1_18),(vI .i64 w1_20),(vI .i64 w1_21),(vI .i64 w1_22),(vB w1_23)])) ?_))));obtain ⟨p36,hx,h⟩:=bind_some h;refine DA.tPx 8 (some 91) (vP (some p36)) (Abs.det_idx (s:=x35) (k:=.i64) (t:=61) (e:=109) (x:=.tmp 86) (y:=.tmp 88) (by kernel_rfl) (by kernel_rfl) (by kernel_rfl) (by kernel_rfl) (by kernel_rfl) hx) ?_;obtain ⟨H37,hx,h⟩:=bind_some h;refine DA.on 9 (W0 (H':=H37) 9 none undef (Abs.run_storeA (t:=109) (x:=.tmp 91) (y:=.tmp 90) (a:=p36) (v:=(vA #[(vI .i64 w1_18),(vI .i64 w1_20),(vI .i64 w1_21),(vI .i64 w1_22),(vB w1_23)])) (by kernel_rfl) (by kernel_rfl) (by kernel_rfl) (by kernel_rfl) (by kernel_rfl) hx) (DA.dn (A0 (WS.rg (u0 4 [kI 95 v11_16,kI 94 v10_15,kP 93 q8,kS 92 s7] ?_)))));obtain ⟨⟨x38,H39⟩,hx,h⟩:=bind_some h;try dsimp only at h
    refine RS.cl (some 96) (v:=(Sl3.v x38)) 73 _ (z61 hx) ?_;obtain ⟨⟨s40,H41⟩,hx,h⟩:=bind_some h;try dsimp only at h
    refine RS.o (H':=H41) (some 97) (Sl3.v s40) (Abs.run_app (x:=.tmp 92) (y:=.tmp 96) (ts:=#[123,123]) (s:=s7) (z:=x38) (by kernel_rfl) (by kernel_rfl) (by kernel_rfl) (by kernel_rfl) hx) (u0 1 [kS 8 s40] (RS.dn ?_));cases h;exact fun a w hs=>bkN (lsN rfl (hs.sb 1))
 ·refine D0 19 false (decide_eq_false hp) (J0 (WS.ex 0 ?_));cases h;exact fun a w hs=>sqE (lsB rfl (hs.sb 1))
theorem Y9 {L:LC} {m:Nat} {H:AH} {a0:Option Addr} {a1 a2:Int} {a3_0 a3_1:Int} {a3_2 a3_3:Int} {a3_4:Bool} {r:AH} (h:G2 L m H a0 a1 a2 a3_0 a3_1 a3_2 a3_3 a3_4=some r) :
  CallS Tryd.prog (NE.plain 1000) m 58 #[(vP a0),(vI .i64 a1),(vI .i64 a2),(vA #[(vI .i64 a3_0),(vI .i64 a3_1),(vI .i64 a3_2),(vI .i64 a3_3),(vB a3_4)])] H (u9 r) (K9 H r):=by
 refine CallS.mk (args:=[(vP a0),(vI .i64 a1),(vI .i64 a2),(vA #[(vI .i64 a3_0),(vI .i64 a3_1),(vI .i64 a3_2),(vI .i64 a3_3),(vB a3_4)])]) Tryd.func58 (B:=B58) (by kernel_rfl) (fun E _=>?_);unfold G2 at h;refine B0 (WS.rg (V0 1 [kL 7 0 0] ([some (109,[(vI .i64 a3_0),(vI .i64 a3_1),(vI .i64 a3_2),(vI .i64 a3_3),(vB a3_4)])]) (RS.dn (A0 (B0 (WS.rg (u0 4 [kA 15 #[(vI .i64 a1),(vI .i64 a2),(vI .i64 a3_0),(vI .i64 a3_1),(vI .i64 a3_2),(vI .i64 a3_3),(vB a3_4)],kA 14 #[(vI .i64 a3_0),(vI .i64 a3_1),(vI .i64 a3_2),(vI .i64 a3_3),(vB a3_4)],kI 13 a2,kI 12 a1] ?_)))))));obtain ⟨⟨s1,H2⟩,hx,h⟩:=bind_some h;try dsimp only at h
 refine RS.o (H':=H2) (some 16) (Sl3.v s1) (Abs.run_newR (by kernel_rfl) (by kernel_rfl) hx) (u0 1 [kS 8 s1] (RS.dn (A0 (M0 0 ?_))));obtain ⟨o,hl,h⟩:=bind_some h;rcases o with ⟨H42,v8_43⟩ | r
 ·try dsimp only at h
  refine S0 (n8 (L:=L) (E:=E) (m:=m) (H:=H)) (L.ok hl) 1 ?_;clear hl;cases h;exact fun a w hs=>bkE (rtN (rS hs))
 ·try dsimp only at h
  refine R0 (n8 (L:=L) (E:=E) (m:=m) (H:=H)) (L.ok hl) 1 ?_;cases h;exact fun a w hq=>bkR (rtR hq)
def w9:AH→Value
 | _=>(Value.tuple #[])
def W9 (_:AH):AH→AH:=fun r=>r
noncomputable def B57:Code:=(Tryd.f57.body).getD .skip
noncomputable def V2 (L:LC) (m:Nat) (a1:Int) (q13:Addr) (x35:Sl3):(AH×Int)→Option (Lp (AH×Int) AH):=fun (H36,v71_37) =>
 if v71_37<(x35.n:Int) then
  (idxA 1 x35 v71_37).bind fun p38 => (rd (deI .i64) H36 p38).bind fun x39 => (rd deSl H36 (Addr.add q13 5)).bind fun x40 => (rd deSl H36 (Addr.add q13 4)).bind fun x41 => (idxA 1 x41 x39).bind fun p42 => (rd (deI .i64) H36 p42).bind fun x43 => (idxA 1 x40 x43).bind fun p44 => (rd deP H36 p44).bind fun x45 => x45.bind fun q46 => (newR 3 1 #[(vI .i64 a1)] H36).bind fun (s47,H48) => (X4 L m H48 (some (Addr.add q46 0)) s47).bind fun H49 => some (.next (H49,(IntKind.i64.wrap (v71_37+1))))
 else
  some (.brk (H36,v71_37))
def z2q (_L:LC) (_m:Nat) (a1:Int) (q13:Addr) (x35:Sl3):(AH×Int)→KN×Lcs:=fun (_,v71_37)=>([kI 71 v71_37,kP 0 q13,kI 1 a1,kS 69 x35,kI 70 (x35.n:Int)],[])
noncomputable def P3 (L:LC) (m:Nat) (H:AH) (a0:Option Addr) (a1:Int):Option AH :=
 (newR 3 1 #[(vI .i64 a1)] H).bind fun (s1,H2) => (newB 78 [(Sl3.v Sl3.nil),(Sl3.v s1),(Sl3.v Sl3.nil),(vI .i64 a1)] H2).bind fun (p3,H4) => Option.bind (α:=AH) (
  a0.bind fun q6 => (rd deSl H4 (Addr.add q6 0)).bind fun x7 => (idxA 3 x7 a1).bind fun p8 => (rd deB H4 (Addr.add p8 2)).bind fun x9 => if x9=true then
   (newR 3 1 #[(vI .i64 a1)] H4).bind fun (s10,H11) => (H11.setCell m (Addr.add p3 2) (Sl3.v s10)).bind fun H12 => some H12
  else
   some H4) fun H5 =>
 a0.bind fun q13 => (rd deSl H5 (Addr.add q13 4)).bind fun x14 => (rd deSl H5 (Addr.add q13 5)).bind fun x15 => (newR 3 1 #[(vI .i64 (x15.n:Int))] H5).bind fun (s16,H17) => (appS m 3 1 8 H17 x14 s16).bind fun (s18,H19) => (H19.setCell m (Addr.add q13 4) (Sl3.v s18)).bind fun H20 => (rd deSl H20 (Addr.add q13 5)).bind fun x21 => (newR 79 1 #[(vP (some p3))] H20).bind fun (s22,H23) => (appS m 79 1 8 H23 x21 s22).bind fun (s24,H25) => (H25.setCell m (Addr.add q13 5) (Sl3.v s24)).bind fun H26 => (rd deSl H26 (Addr.add q13 6)).bind fun x27 => (newR 109 1 #[(vI .i64 (-1)),(vI .i64 0),(vI .i64 0),(vI .i64 0),(vB false)] H26).bind fun (s28,H29) => (appS m 109 5 40 H29 x27 s28).bind fun (s30,H31) => (H31.setCell m (Addr.add q13 6) (Sl3.v s30)).bind fun H32 => (rd deSl H32 (Addr.add q13 0)).bind fun x33 => (idxA 3 x33 a1).bind fun p34 => (rd deSl H32 (Addr.add p34 1)).bind fun x35 => (L.run (V2 L m a1 q13 x35) (H32,0)).bind fun o=>match o with
 | .inl (H50,_) =>
  (P1 L m H50 (some q13) a1).bind fun (x52,H53) => (rd deM H53 (Addr.add q13 7)).bind fun x54 => (lkM Tryd.prog 58 (deI .i64) H53 x54 (vS x52)).bind fun (x55,b56) => if b56=true then
   (G2 L m H53 (some q13) a1 x55 0 0 a1 x55 true).bind fun H57 => some H57
  else
   (rd deM H53 (Addr.add q13 7)).bind fun x58 => (upM Tryd.prog m 58 H53 x58 (vS x52) (vI .i64 a1)).bind fun H59 => some H59
 | .inr r=>some r
theorem o8 {E H L m a1 q13 x35} :LoopF Tryd.prog (NE.plain 1000) m E Tryd.f57 ((cfst (csnd (cfst (csnd (csnd (csnd (csnd (csnd B57))))))))) (z2q L m a1 q13 x35) (fun s=>s.1) 0 w9 (W9 H) (V2 L m a1 q13 x35):=by
 rintro ⟨H36,v71_37⟩ o h
 unfold V2 at h;try dsimp only at h
 refine B0 (WS.rg (u0 1 [kB 72 (decide (v71_37<(x35.n:Int)))] (RS.dn (A0 (B0 ?_)))));rcases Y0 h with ⟨hp,h⟩ | ⟨hp,h⟩
 ·refine D0 72 true (decide_eq_true hp) (I0 (K0 (A0 (B0 (M0 1 (B0 (WS.rg ?_)))))));obtain ⟨p38,hx,h⟩:=bind_some h;refine T0 73 27 3 (.tmp 69) (.tmp 71) hx ?_;obtain ⟨x39,hx,h⟩:=bind_some h;refine P0 74 3 (.tmp 73) (X0 hx Z0) (u0 1 [kI 6 x39] (RS.dn (A0 ?_)));refine Q0 [0,1,2,3,4,5,6,7,8,9,10,11,12] [0,1,3,7,0,16,48,112,0,496,1008,2047,4095,8191,16383,0,32768,131071] 18 (fun hcl=>?_);refine C0 0 (some 75) (vP (some q13)) (C0 1 (some 76) (vP (some q13)) (C0 2 (some 77) (vP (some (Addr.add q13 5))) ?_));obtain ⟨x40,hx,h⟩:=bind_some h;refine E0 3 (some 78) (Sl3.v x40) (Abs.det_load (t:=60) (x:=.tmp 77) (a:=(Addr.add q13 5)) (by kernel_rfl) (by kernel_rfl) (by kernel_rfl) (by kernel_rfl) (X0 hx A1)) (C0 4 (some 79) (vP (some q13)) (C0 5 (some 80) (vP (some q13)) (C0 6 (some 81) (vP (some (Addr.add q13 4))) ?_)));obtain ⟨x41,hx,h⟩:=bind_some h;refine E0 7 (some 82) (Sl3.v x41) (Abs.det_load (t:=27) (x:=.tmp 81) (a:=(Addr.add q13 4)) (by kernel_rfl) (by kernel_rfl) (by kernel_rfl) (by kernel_rfl) (X0 hx A1)) (C0 8 (some 83) (vI .i64 x39) ?_);obtain ⟨p42,hx,h⟩:=bind_some h;refine E0 9 (some 84) (vP (some p42)) (Abs.det_idx (s:=x41) (k:=.i64) (t:=27) (e:=3) (x:=.tmp 82) (y:=.tmp 83) (by kernel_rfl) (by kernel_rfl) (by kernel_rfl) (by kernel_rfl) (by kernel_rfl) hx) ?_;obtain ⟨x43,hx,h⟩:=bind_some h;refine E0 10 (some 85) (vI .i64 x43) (Abs.det_load (t:=3) (x:=.tmp 84) (a:=p42) (by kernel_rfl) (by kernel_rfl) (by kernel_rfl) (by kernel_rfl) (X0 hx Z0)) ?_;obtain ⟨p44,hx,h⟩:=bind_some h;refine E0 11 (some 86) (vP (some p44)) (Abs.det_idx (s:=x40) (k:=.i64) (t:=60) (e:=79) (x:=.tmp 78) (y:=.tmp 85) (by kernel_rfl) (by kernel_rfl) (by kernel_rfl) (by kernel_rfl) (by kernel_rfl) hx) ?_;obtain ⟨x45,hx,h⟩:=bind_some h;refine E0 12 (some 87) (vP x45) (Abs.det_load (t:=79) (x:=.tmp 86) (a:=p44) (by kernel_rfl) (by kernel_rfl) (by kernel_rfl) (by kernel_rfl) (X0 hx A7)) ?_;obtain ⟨q46,hx,hq46⟩:=bind_some h;subst hx;have h:=hq46;refine DA.tP 13 (some 88) (vP (some q46)) (DA.tP 14 (some 89) (vP (some (Addr.add q46 0))) (DA.tP 15 (some 90) (vI .i64 a1) ?_));obtain ⟨⟨s47,H48⟩,hx,h⟩:=bind_some h;try dsimp only at h
  refine DA.on 16 (DA.aHj (H':=H48) 16 (some 91) false (Sl3.v s47) (Abs.run_newR (by kernel_rfl) (by kernel_rfl) hx) ?_);obtain ⟨H49,hx,h⟩:=bind_some h;refine DA.on 17 (DA.aC 17 (some 92) (v:=(Value.tuple #[])) 70 #[(vP (some (Addr.add q46 0))),(Sl3.v s47)] (z1k hx) (DA.dn ?_));refine fun a w hs=>bkN ((A0 ?_ a w hs));refine WS.rg (u0 2 [kI 71 (IntKind.i64.wrap (v71_37+1)),kI 93 (IntKind.i64.wrap (v71_37+1))] (RS.dn ?_));cases h;exact fun a w hs=>lsN rfl (hs.sb 0)
 ·refine D0 72 false (decide_eq_false hp) (J0 (WS.ex 0 ?_));cases h;exact fun a w hs=>sqE (lsB rfl (hs.sb 0))
theorem z5f {L:LC} {m:Nat} {H:AH} {a0:Option Addr} {a1:Int} {r:AH} (h:P3 L m H a0 a1=some r) :
  CallS Tryd.prog (NE.plain 1000) m 57 #[(vP a0),(vI .i64 a1)] H (w9 r) (W9 H r):=by
 refine CallS.mk (args:=[(vP a0),(vI .i64 a1)]) Tryd.func57 (B:=B57) (by kernel_rfl) (fun E _=>?_);unfold P3 at h;refine B0 (WS.rg (u0 1 [kI 10 a1] ?_));obtain ⟨⟨s1,H2⟩,hx,h⟩:=bind_some h;try dsimp only at h
 refine RS.o (H':=H2) (some 11) (Sl3.v s1) (Abs.run_newR (by kernel_rfl) (by kernel_rfl) hx) (u0 2 [kA 13 #[(Sl3.v Sl3.nil),(Sl3.v s1),(Sl3.v Sl3.nil),(vI .i64 a1)],kI 12 a1] ?_);obtain ⟨⟨p3,H4⟩,hx,h⟩:=bind_some h;try dsimp only at h
 refine RS.o (H':=H4) (some 14) (vP (some p3)) (Abs.run_newB (by kernel_rfl) hx) (u0 1 [kP 4 p3] (RS.dn (A0 ?_)));obtain ⟨H5,hx,h⟩:=bind_some h;refine B0 ?_;refine WS.join ([(0,.val (vP a0)),kI 1 a1,kP 4 p3]) ([]) H5 ?_ (fun a w hs=>A0 ?_ a w hs)
 ·clear h; rename _=>h;refine B0 (WS.rg (u0 1 [(15,.val (vP a0))] ?_));obtain ⟨q6,hx,hq6⟩:=bind_some h;subst hx;have h:=hq6;refine u0 2 [(17,.val (vP (some (Addr.add q6 0)))),kP 16 q6] ?_;obtain ⟨x7,hx,h⟩:=bind_some h;refine P0 18 57 (.tmp 17) (X0 hx A1) (u0 1 [kI 19 a1] ?_);obtain ⟨p8,hx,h⟩:=bind_some h;refine T0 20 57 86 (.tmp 18) (.tmp 19) hx (u0 1 [(21,.val (vP (some (Addr.add p8 2))))] ?_);obtain ⟨x9,hx,h⟩:=bind_some h;refine P0 22 4 (.tmp 21) (X0 hx o5) (RS.dn (A0 ?_));rcases Y0 h with ⟨hp,h⟩ | ⟨hp,h⟩
  ·refine D0 22 true hp (I0 (WS.rg (u0 2 [kI 24 a1,kP 23 p3] ?_)));obtain ⟨⟨s10,H11⟩,hx,h⟩:=bind_some h;try dsimp only at h
   refine RS.o (H':=H11) (some 25) (Sl3.v s10) (Abs.run_newR (by kernel_rfl) (by kernel_rfl) hx) (u0 2 [(27,.val (vP (some (Addr.add p3 2)))),kP 26 p3] ?_);obtain ⟨H12,hx,h⟩:=bind_some h;refine RS.o (H':=H12) none undef (Abs.run_store1 (t:=27) (x:=.tmp 27) (y:=.tmp 25) (a:=(Addr.add p3 2)) (v:=(Sl3.v s10)) (by kernel_rfl) (by kernel_rfl) (by kernel_rfl) (by kernel_rfl) (by kernel_rfl) hx) (RS.dn ?_);cases h;exact fun a w hs=>(jsN (hs.sb 0))
  ·refine D0 22 false (b_not hp) (J0 (K0 ?_));cases h;exact fun a w hs=>(jsN (hs.sb 0))
 ·clear hx;refine B0 ?_;refine Q0 [1,2,3,4,5,6,7,8] [0,0,2,6,14,0,32,96,224,480,992,2046,4095,8191,16383] 15 (fun hcl=>?_);refine C0 1 (some 29) (vP a0) ?_;obtain ⟨q13,hx,hq13⟩:=bind_some h;subst hx;have h:=hq13;refine C0 2 (some 30) (vP (some q13)) (C0 3 (some 31) (vP (some (Addr.add q13 4))) ?_);obtain ⟨x14,hx,h⟩:=bind_some h;refine E0 4 (some 32) (Sl3.v x14) (Abs.det_load (t:=27) (x:=.tmp 31) (a:=(Addr.add q13 4)) (by kernel_rfl) (by kernel_rfl) (by kernel_rfl) (by kernel_rfl) (X0 hx A1)) (C0 5 (some 33) (vP (some q13)) (C0 6 (some 34) (vP (some q13)) (C0 7 (some 35) (vP (some (Addr.add q13 5))) ?_)));obtain ⟨x15,hx,h⟩:=bind_some h;refine E0 8 (some 36) (Sl3.v x15) (Abs.det_load (t:=60) (x:=.tmp 35) (a:=(Addr.add q13 5)) (by kernel_rfl) (by kernel_rfl) (by kernel_rfl) (by kernel_rfl) (X0 hx A1)) (DA.tP 0 (some 28) (vP (some q13)) (DA.on 9 (DA.aHj (H':=H5) 9 (some 37) true (vI .i64 (x15.n:Int)) (by kernel_rfl) ?_)));obtain ⟨⟨s16,H17⟩,hx,h⟩:=bind_some h;try dsimp only at h
  refine DA.on 10 (DA.aHj (H':=H17) 10 (some 38) false (Sl3.v s16) (Abs.run_newR (by kernel_rfl) (by kernel_rfl) hx) ?_);obtain ⟨⟨s18,H19⟩,hx,h⟩:=bind_some h;try dsimp only at h
  refine DA.on 11 (W0 (H':=H19) 11 (some 39) (Sl3.v s18) (Abs.run_app (x:=.tmp 32) (y:=.tmp 38) (ts:=#[27,27]) (s:=x14) (z:=s16) (by kernel_rfl) (by kernel_rfl) (by kernel_rfl) (by kernel_rfl) hx) (DA.tP 12 (some 40) (vP (some q13)) (DA.tP 13 (some 41) (vP (some (Addr.add q13 4))) ?_)));obtain ⟨H20,hx,h⟩:=bind_some h;refine DA.on 14 (W0 (H':=H20) 14 none undef (Abs.run_store1 (t:=27) (x:=.tmp 41) (y:=.tmp 39) (a:=(Addr.add q13 4)) (v:=(Sl3.v s18)) (by kernel_rfl) (by kernel_rfl) (by kernel_rfl) (by kernel_rfl) (by kernel_rfl) hx) (DA.dn (A0 (B0 (WS.rg (u0 4 [(45,.val (vP (some (Addr.add q13 5)))),kP 44 q13,kP 43 q13,kP 42 q13] ?_))))));obtain ⟨x21,hx,h⟩:=bind_some h;refine P0 46 60 (.tmp 45) (X0 hx A1) (u0 1 [kP 47 p3] ?_);obtain ⟨⟨s22,H23⟩,hx,h⟩:=bind_some h;try dsimp only at h
  refine RS.o (H':=H23) (some 48) (Sl3.v s22) (Abs.run_newR (by kernel_rfl) (by kernel_rfl) hx) ?_;obtain ⟨⟨s24,H25⟩,hx,h⟩:=bind_some h;try dsimp only at h
  refine RS.o (H':=H25) (some 49) (Sl3.v s24) (Abs.run_app (x:=.tmp 46) (y:=.tmp 48) (ts:=#[60,60]) (s:=x21) (z:=s22) (by kernel_rfl) (by kernel_rfl) (by kernel_rfl) (by kernel_rfl) hx) (u0 2 [(51,.val (vP (some (Addr.add q13 5)))),kP 50 q13] ?_);obtain ⟨H26,hx,h⟩:=bind_some h;refine RS.o (H':=H26) none undef (Abs.run_store1 (t:=60) (x:=.tmp 51) (y:=.tmp 49) (a:=(Addr.add q13 5)) (v:=(Sl3.v s24)) (by kernel_rfl) (by kernel_rfl) (by kernel_rfl) (by kernel_rfl) (by kernel_rfl) hx) (RS.dn (A0 (B0 (WS.rg (u0 4 [(55,.val (vP (some (Addr.add q13 6)))),kP 54 q13,kP 53 q13,kP 52 q13] ?_)))));obtain ⟨x27,hx,h⟩:=bind_some h;refine P0 56 61 (.tmp 55) (X0 hx A1) (u0 1 [kA 57 #[(vI .i64 (-1)),(vI .i64 0),(vI .i64 0),(vI .i64 0),(vB false)]] ?_);obtain ⟨⟨s28,H29⟩,hx,h⟩:=bind_some h;try dsimp only at h
  refine RS.o (H':=H29) (some 58) (Sl3.v s28) (Abs.run_newR (by kernel_rfl) (by kernel_rfl) hx) ?_;obtain ⟨⟨s30,H31⟩,hx,h⟩:=bind_some h;try dsimp only at h
  refine RS.o (H':=H31) (some 59) (Sl3.v s30) (Abs.run_app (x:=.tmp 56) (y:=.tmp 58) (ts:=#[61,61]) (s:=x27) (z:=s28) (by kernel_rfl) (by kernel_rfl) (by kernel_rfl) (by kernel_rfl) hx) (u0 2 [(61,.val (vP (some (Addr.add q13 6)))),kP 60 q13] ?_);obtain ⟨H32,hx,h⟩:=bind_some h;refine RS.o (H':=H32) none undef (Abs.run_store1 (t:=61) (x:=.tmp 61) (y:=.tmp 59) (a:=(Addr.add q13 6)) (v:=(Sl3.v s30)) (by kernel_rfl) (by kernel_rfl) (by kernel_rfl) (by kernel_rfl) (by kernel_rfl) hx) (RS.dn (A0 (B0 (B0 (WS.rg (u0 3 [(64,.val (vP (some (Addr.add q13 0)))),kP 63 q13,kP 62 q13] ?_))))));obtain ⟨x33,hx,h⟩:=bind_some h;refine P0 65 57 (.tmp 64) (X0 hx A1) (u0 1 [kI 66 a1] ?_);obtain ⟨p34,hx,h⟩:=bind_some h;refine T0 67 57 86 (.tmp 65) (.tmp 66) hx (u0 1 [(68,.val (vP (some (Addr.add p34 1))))] ?_);obtain ⟨x35,hx,h⟩:=bind_some h;refine P0 69 27 (.tmp 68) (X0 hx A1) (u0 2 [kI 71 0,kI 70 (x35.n:Int)] (RS.dn (A0 (M0 0 ?_))));obtain ⟨o,hl,h⟩:=bind_some h;rcases o with ⟨H50,v71_51⟩ | r
  ·try dsimp only at h
   refine S0 (o8 (L:=L) (E:=E) (m:=m) (H:=H)) (L.ok hl) 0 ?_;clear hl;refine fun a w hs=>bkE ((A0 ?_ a w hs));refine B0 (WS.rg (u0 2 [kI 95 a1,kP 94 q13] ?_));obtain ⟨⟨x52,H53⟩,hx,h⟩:=bind_some h;try dsimp only at h
   refine RS.cl (some 96) (v:=(vS x52)) 71 _ (T4 hx) (u0 1 [kT 7 x52] (RS.dn (A0 (B0 (B0 (WS.rg (u0 3 [(100,.val (vP (some (Addr.add q13 7)))),kP 99 q13,kP 98 q13] ?_)))))));obtain ⟨x54,hx,h⟩:=bind_some h;refine P0 101 58 (.tmp 100) (X0 hx E8) (u0 1 [kT 102 x52] ?_);obtain ⟨⟨x55,b56⟩,hx,h⟩:=bind_some h;try dsimp only at h
   refine RS.o (H':=H53) (some 103) (Value.tuple #[(vI .i64 x55),(vB b56)]) (Abs.run_look (t:=58) (x:=.tmp 101) (y:=.tmp 102) (mm:=x54) (k:=(vS x52)) (by kernel_rfl) (by kernel_rfl) (by kernel_rfl) (by kernel_rfl) (lkM_eq hx Z0)) (u0 5 [kB 9 b56,kI 8 x55,kB 105 b56,kI 104 x55,(97,.val (Value.tuple #[(vI .i64 x55),(vB b56)]))] (RS.dn (A0 (B0 (WS.rg (u0 1 [kB 106 b56] (RS.dn (A0 ?_))))))));rcases Y0 h with ⟨hp,h⟩ | ⟨hp,h⟩
   ·refine D0 106 true hp (I0 (B0 (WS.rg (u0 6 [kA 112 #[(vI .i64 0),(vI .i64 0),(vI .i64 a1),(vI .i64 x55),(vB true)],kI 111 x55,kI 110 a1,kI 109 x55,kI 108 a1,kP 107 q13] ?_))));obtain ⟨H57,hx,h⟩:=bind_some h;refine RS.cl (some 113) (v:=(Value.tuple #[])) 58 _ (Y9 hx) (RS.dn (A0 (G0 ?_)));cases h;exact fun a w hs=>sqR (rtR (rS hs))
   ·refine D0 106 false (b_not hp) (J0 (K0 (A0 (WS.rg (u0 3 [(116,.val (vP (some (Addr.add q13 7)))),kP 115 q13,kP 114 q13] ?_)))));obtain ⟨x58,hx,h⟩:=bind_some h;refine P0 117 58 (.tmp 116) (X0 hx E8) (u0 2 [kI 119 a1,kT 118 x52] ?_);obtain ⟨H59,hx,h⟩:=bind_some h;refine RS.o (H':=H59) none undef (Abs.run_upM (t:=58) (x:=.tmp 117) (y:=.tmp 118) (z:=.tmp 119) (mm:=x58) (k:=(vS x52)) (v:=(vI .i64 a1)) (by kernel_rfl) (by kernel_rfl) (by kernel_rfl) (by kernel_rfl) (by kernel_rfl) hx) (RS.dn ?_);cases h;exact fun a w hs=>rtN (rS hs)
  ·try dsimp only at h
   refine R0 (o8 (L:=L) (E:=E) (m:=m) (H:=H)) (L.ok hl) 0 ?_;cases h;exact fun a w hq=>bkR (sqR (rtR hq))
def z5v:(Int×Int×AH)→Value
 | (r0,r1,_)=>(Value.tuple #[(vI .i64 r0),(vI .i64 r1)])
def z72 (_:AH):(Int×Int×AH)→AH:=fun r=>r.2.2
noncomputable def B39:Code:=(Tryd.f39.body).getD .skip
noncomputable def P2 (L:LC) (m:Nat) (H:AH) (a0:Option Addr) (a1_0:Int) (a1_1:Sl3) (a1_2:Bool):Option (Int×Int×AH) :=
 (S7 L m H a1_2 a1_0 a1_1).bind fun (x1,H2) => a0.bind fun q3 => (rd deM H2 (Addr.add q3 1)).bind fun x4 => (lkM Tryd.prog 58 (deI .i64) H2 x4 (vS x1)).bind fun (x5,b6) => if b6=true then
  some (x5,0,H2)
 else
  (rd deSl H2 (Addr.add q3 0)).bind fun x7 => if (x7.n:Int)≥1048576 then
   some (0,3,H2)
  else
   (rd deSl H2 (Addr.add q3 0)).bind fun x8 => (rd deM H2 (Addr.add q3 1)).bind fun x9 => (upM Tryd.prog m 58 H2 x9 (vS x1) (vI .i64 (x8.n:Int))).bind fun H10 => (rd deSl H10 (Addr.add q3 0)).bind fun x11 => (newR 86 1 #[(vI .i64 a1_0),(Sl3.v a1_1),(vB a1_2)] H10).bind fun (s12,H13) => (appS m 86 3 40 H13 x11 s12).bind fun (s14,H15) => (H15.setCell m (Addr.add q3 0) (Sl3.v s14)).bind fun H16 => (P3 L m H16 (some q3) (x8.n:Int)).bind fun H17 => some ((x8.n:Int),0,H17)
theorem zy {L:LC} {m:Nat} {H:AH} {a0:Option Addr} {a1_0:Int} {a1_1:Sl3} {a1_2:Bool} {r:(Int×Int×AH)} (h:P2 L m H a0 a1_0 a1_1 a1_2=some r) :
  CallS Tryd.prog (NE.plain 1000) m 39 #[(vP a0),(vA #[(vI .i64 a1_0),(Sl3.v a1_1),(vB a1_2)])] H (z5v r) (z72 H r):=by
 refine CallS.mk (args:=[(vP a0),(vA #[(vI .i64 a1_0),(Sl3.v a1_1),(vB a1_2)])]) Tryd.func39 (B:=B39) (by kernel_rfl) (fun E _=>?_);unfold P2 at h;refine B0 (WS.rg (V0 3 [kI 5 0,kI 4 0,kL 3 0 0] ([some (86,[(vI .i64 a1_0),(Sl3.v a1_1),(vB a1_2)])]) (RS.dn (A0 (B0 (WS.rg (u0 6 [kS 15 a1_1,kL 14 0 1,kI 13 a1_0,kL 12 0 0,kB 11 a1_2,kL 10 0 2] ?_)))))));obtain ⟨⟨x1,H2⟩,hx,h⟩:=bind_some h;try dsimp only at h
 refine RS.cl (some 16) (v:=(vS x1)) 63 _ (z4u hx) (u0 1 [kT 6 x1] (RS.dn (A0 (B0 (B0 (WS.rg (u0 1 [(18,.val (vP a0))] ?_)))))));obtain ⟨q3,hx,hq3⟩:=bind_some h;subst hx;have h:=hq3;refine u0 2 [(20,.val (vP (some (Addr.add q3 1)))),kP 19 q3] ?_;obtain ⟨x4,hx,h⟩:=bind_some h;refine P0 21 58 (.tmp 20) (X0 hx E8) (u0 1 [kT 22 x1] ?_);obtain ⟨⟨x5,b6⟩,hx,h⟩:=bind_some h;try dsimp only at h
 refine RS.o (H':=H2) (some 23) (Value.tuple #[(vI .i64 x5),(vB b6)]) (Abs.run_look (t:=58) (x:=.tmp 21) (y:=.tmp 22) (mm:=x4) (k:=(vS x1)) (by kernel_rfl) (by kernel_rfl) (by kernel_rfl) (by kernel_rfl) (lkM_eq hx Z0)) (u0 5 [kB 8 b6,kI 7 x5,kB 25 b6,kI 24 x5,(17,.val (Value.tuple #[(vI .i64 x5),(vB b6)]))] (RS.dn (A0 (B0 (WS.rg (u0 1 [kB 26 b6] (RS.dn (A0 ?_))))))));rcases Y0 h with ⟨hp,h⟩ | ⟨hp,h⟩
 ·refine D0 26 true hp (I0 (B0 (WS.rg (u0 3 [kI 5 0,kI 4 x5,kI 27 x5] (RS.dn (A0 (G0 ?_)))))));cases h;exact fun a w hs=>sqR (rtR (rS hs))
 ·refine D0 26 false (b_not hp) (J0 (K0 (A0 (B0 (B0 (WS.rg (u0 3 [(30,.val (vP (some (Addr.add q3 0)))),kP 29 q3,kP 28 q3] ?_)))))));obtain ⟨x7,hx,h⟩:=bind_some h;refine P0 31 57 (.tmp 30) (X0 hx A1) (u0 2 [kB 33 (decide ((x7.n:Int)≥1048576)),kI 32 (x7.n:Int)] (RS.dn (A0 ?_)));rcases Y0 h with ⟨hp,h⟩ | ⟨hp,h⟩
  ·refine D0 33 true (decide_eq_true hp) (I0 (B0 (WS.rg (u0 2 [kI 5 3,kI 4 0] (RS.dn (A0 (G0 ?_)))))));cases h;exact fun a w hs=>sqR (rtR (rS hs))
  ·refine D0 33 false (decide_eq_false hp) (J0 (K0 (A0 (B0 (WS.rg (u0 3 [(36,.val (vP (some (Addr.add q3 0)))),kP 35 q3,kP 34 q3] ?_))))));obtain ⟨x8,hx,h⟩:=bind_some h;refine P0 37 57 (.tmp 36) (X0 hx A1) (u0 2 [kI 9 (x8.n:Int),kI 38 (x8.n:Int)] (RS.dn (A0 (B0 (WS.rg (u0 3 [(41,.val (vP (some (Addr.add q3 1)))),kP 40 q3,kP 39 q3] ?_))))));obtain ⟨x9,hx,h⟩:=bind_some h;refine P0 42 58 (.tmp 41) (X0 hx E8) (u0 2 [kI 44 (x8.n:Int),kT 43 x1] ?_);obtain ⟨H10,hx,h⟩:=bind_some h;refine RS.o (H':=H10) none undef (Abs.run_upM (t:=58) (x:=.tmp 42) (y:=.tmp 43) (z:=.tmp 44) (mm:=x9) (k:=(vS x1)) (v:=(vI .i64 (x8.n:Int))) (by kernel_rfl) (by kernel_rfl) (by kernel_rfl) (by kernel_rfl) (by kernel_rfl) hx) (RS.dn (A0 (B0 ?_)));refine Q0 [1,2,3,4,5] [0,0,2,6,14,0,32,126,255,511,1023] 11 (fun hcl=>?_);refine C0 1 (some 46) (vP (some q3)) (C0 2 (some 47) (vP (some q3)) (C0 3 (some 48) (vP (some (Addr.add q3 0))) ?_));obtain ⟨x11,hx,h⟩:=bind_some h;refine E0 4 (some 49) (Sl3.v x11) (Abs.det_load (t:=57) (x:=.tmp 48) (a:=(Addr.add q3 0)) (by kernel_rfl) (by kernel_rfl) (by kernel_rfl) (by kernel_rfl) (X0 hx A1)) (DA.tL 5 (some 50) (.val (vA #[(vI .i64 a1_0),(Sl3.v a1_1),(vB a1_2)])) (DA.tP 0 (some 45) (vP (some q3)) ?_));obtain ⟨⟨s12,H13⟩,hx,h⟩:=bind_some h;try dsimp only at h
   refine DA.on 6 (DA.aHj (H':=H13) 6 (some 51) false (Sl3.v s12) (Abs.run_newR (by kernel_rfl) (by kernel_rfl) hx) ?_);obtain ⟨⟨s14,H15⟩,hx,h⟩:=bind_some h;try dsimp only at h
   refine DA.on 7 (W0 (H':=H15) 7 (some 52) (Sl3.v s14) (Abs.run_app (x:=.tmp 49) (y:=.tmp 51) (ts:=#[57,57]) (s:=x11) (z:=s12) (by kernel_rfl) (by kernel_rfl) (by kernel_rfl) (by kernel_rfl) hx) (DA.tP 8 (some 53) (vP (some q3)) (DA.tP 9 (some 54) (vP (some (Addr.add q3 0))) ?_)));obtain ⟨H16,hx,h⟩:=bind_some h;refine DA.on 10 (W0 (H':=H16) 10 none undef (Abs.run_store1 (t:=57) (x:=.tmp 54) (y:=.tmp 52) (a:=(Addr.add q3 0)) (v:=(Sl3.v s14)) (by kernel_rfl) (by kernel_rfl) (by kernel_rfl) (by kernel_rfl) (by kernel_rfl) hx) (DA.dn (A0 (B0 (WS.rg (u0 2 [kI 56 (x8.n:Int),kP 55 q3] ?_))))));obtain ⟨H17,hx,h⟩:=bind_some h;refine RS.cl (some 57) (v:=(Value.tuple #[])) 57 _ (z5f hx) (RS.dn (A0 (B0 (WS.rg (u0 3 [kI 5 0,kI 4 (x8.n:Int),kI 58 (x8.n:Int)] (RS.dn (A0 (G0 ?_))))))));cases h;exact fun a w hs=>rtR (rS hs)
def z49:Bool→Value
 | r0=>(vB r0)
def z4d (H:AH):Bool→AH:=fun _=>H
noncomputable def B41:Code:=(Tryd.f41.body).getD .skip
noncomputable def T5 (L:LC) (H:AH) (a0:Int) (a1:Option Addr):Option Bool :=
 a1.bind fun q1 => (rd deP H q1).bind fun x2 => (Q2 L H x2 a0).bind fun x3 => some (!x3)
theorem z5c {L:LC} {m:Nat} {H:AH} {a0:Int} {a1:Option Addr} {r:Bool} (h:T5 L H a0 a1=some r) :
  CallS Tryd.prog (NE.plain 1000) m 41 #[(vI .i64 a0),(vP a1)] H (z49 r) (z4d H r):=by
 refine CallS.mk (args:=[(vI .i64 a0),(vP a1)]) Tryd.func41 (B:=B41) (by kernel_rfl) (fun E _=>?_);unfold T5 at h;refine B0 (WS.rg (u0 1 [kB 3 false] (RS.dn (A0 (B0 (WS.rg ?_))))));obtain ⟨q1,hx,hq1⟩:=bind_some h;subst hx;have h:=hq1;obtain ⟨x2,hx,h⟩:=bind_some h;refine P0 4 23 (.tmp 1) (X0 hx A7) (u0 1 [kI 5 a0] ?_);obtain ⟨x3,hx,h⟩:=bind_some h;refine RS.cl (some 6) (v:=(vB x3)) 31 _ (M3 hx) (u0 2 [kB 3 (!x3),kB 7 (!x3)] (RS.dn (A0 (G0 ?_))));cases h;exact fun a w hs=>rtR (rS hs)
def A8:Int→Value
 | r0=>(vI .i64 r0)
def S8 (H:AH):Int→AH:=fun _=>H
noncomputable def B64:Code:=(Tryd.f64.body).getD .skip
noncomputable def A2 (L:LC) (H:AH) (a0:Sl3) (a1_0:Option Addr):Int→Option (Lp Int Int):=fun v8_1 =>
 if v8_1<(a0.n:Int) then
  (idxA 1 a0 v8_1).bind fun p2 => (rd (deI .i64) H p2).bind fun x3 => (T5 L H x3 a1_0).bind fun x4 => if x4=true then
   some (.ret v8_1)
  else
   some (.next (IntKind.i64.wrap (v8_1+1)))
 else
  some (.brk v8_1)
def z1x (_L:LC) (_H:AH) (a0:Sl3) (a1_0:Option Addr):Int→KN×Lcs:=fun v8_1=>([kI 8 v8_1,kS 0 a0,(1,.val (Value.func (.func 41) #[] #[(vP a1_0)])),kI 7 (a0.n:Int)],[])
noncomputable def B6 (L:LC) (H:AH) (a0:Sl3) (a1_0:Option Addr):Option Int :=
 (L.run (A2 L H a0 a1_0) 0).bind fun o=>match o with
 | .inl _ =>
  some (-1)
 | .inr r=>some r
theorem M7 {E m L H a0 a1_0} :LoopF Tryd.prog (NE.plain 1000) m E Tryd.f64 ((cfst (csnd (cfst (csnd B64))))) (z1x L H a0 a1_0) (fun _=>H) 0 A8 (S8 H) (A2 L H a0 a1_0):=by
 rintro v8_1 o h
 unfold A2 at h;try dsimp only at h
 refine B0 (WS.rg (u0 1 [kB 9 (decide (v8_1<(a0.n:Int)))] (RS.dn (A0 (B0 ?_)))));rcases Y0 h with ⟨hp,h⟩ | ⟨hp,h⟩
 ·refine D0 9 true (decide_eq_true hp) (I0 (K0 (A0 (B0 (M0 1 (B0 (WS.rg (u0 2 [kI 5 v8_1,kI 10 v8_1] (RS.dn ?_)))))))));refine A0 (B0 (WS.rg (u0 3 [kI 13 v8_1,kS 12 a0,(11,.val (Value.func (.func 41) #[] #[(vP a1_0)]))] ?_)));obtain ⟨p2,hx,h⟩:=bind_some h;refine T0 14 27 3 (.tmp 12) (.tmp 13) hx ?_;obtain ⟨x3,hx,h⟩:=bind_some h;refine P0 15 3 (.tmp 14) (X0 hx Z0) ?_;obtain ⟨x4,hx,h⟩:=bind_some h;refine RS.cl (some 16) (v:=(vB x4)) 41 _ (z5c hx) (RS.dn (A0 ?_));rcases Y0 h with ⟨hp,h⟩ | ⟨hp,h⟩
  ·refine D0 16 true hp (I0 (B0 (WS.rg (u0 2 [kI 4 v8_1,kI 17 v8_1] (RS.dn (A0 (G0 ?_)))))));cases h;exact fun a w hs=>bkR (sqR (lsR rfl (rS hs)))
  ·refine D0 16 false (b_not hp) (J0 (K0 ?_));refine fun a w hs=>bkN ((A0 ?_ a w hs));refine WS.rg (u0 2 [kI 8 (IntKind.i64.wrap (v8_1+1)),kI 18 (IntKind.i64.wrap (v8_1+1))] (RS.dn ?_));cases h;exact fun a w hs=>lsN rfl (hs.sb 0)
 ·refine D0 9 false (decide_eq_false hp) (J0 (WS.ex 0 ?_));cases h;exact fun a w hs=>sqE (lsB rfl (hs.sb 0))
theorem z3b {L:LC} {m:Nat} {H:AH} {a0:Sl3} {a1_0:Option Addr} {r:Int} (h:B6 L H a0 a1_0=some r) :
  CallS Tryd.prog (NE.plain 1000) m 64 #[(Sl3.v a0),(Value.func (.func 41) #[] #[(vP a1_0)])] H (A8 r) (S8 H r):=by
 refine CallS.mk (args:=[(Sl3.v a0),(Value.func (.func 41) #[] #[(vP a1_0)])]) Tryd.func64 (B:=B64) (by kernel_rfl) (fun E _=>?_);unfold B6 at h;refine B0 (WS.rg (u0 1 [kI 4 0] (RS.dn (A0 (B0 (B0 (WS.rg (u0 3 [kI 8 0,kI 7 (a0.n:Int),kS 6 a0] (RS.dn ?_)))))))));refine A0 (M0 0 ?_);obtain ⟨o,hl,h⟩:=bind_some h;rcases o with v8_5 | r
 ·try dsimp only at h
  refine S0 (M7 (L:=L) (E:=E) (m:=m) (H:=H)) (L.ok hl) 0 ?_;clear hl;refine fun a w hs=>bkE ((A0 ?_ a w hs));refine B0 (WS.rg (u0 1 [kI 4 (-1)] (RS.dn (A0 (G0 ?_)))));cases h;exact fun a w hs=>rtR (rS hs)
 ·try dsimp only at h
  refine R0 (M7 (L:=L) (E:=E) (m:=m) (H:=H)) (L.ok hl) 0 ?_;cases h;exact fun a w hq=>bkR (sqR (rtR hq))
def z1f:Bool→Value
 | r0=>(vB r0)
def z1v (H:AH):Bool→AH:=fun _=>H
noncomputable def B40:Code:=(Tryd.f40.body).getD .skip
noncomputable def Y3 (L:LC) (H:AH) (a0:Sl3) (a1_0:Option Addr):Option Bool :=
 (B6 L H a0 a1_0).bind fun x1 => some (decide (x1≥0))
theorem z1o {L:LC} {m:Nat} {H:AH} {a0:Sl3} {a1_0:Option Addr} {r:Bool} (h:Y3 L H a0 a1_0=some r) :
  CallS Tryd.prog (NE.plain 1000) m 40 #[(Sl3.v a0),(Value.func (.func 41) #[] #[(vP a1_0)])] H (z1f r) (z1v H r):=by
 refine CallS.mk (args:=[(Sl3.v a0),(Value.func (.func 41) #[] #[(vP a1_0)])]) Tryd.func40 (B:=B40) (by kernel_rfl) (fun E _=>?_);unfold Y3 at h;refine B0 (WS.rg (u0 1 [kB 4 false] (RS.dn (A0 (B0 (WS.rg (u0 2 [(6,.val (Value.func (.func 41) #[] #[(vP a1_0)])),kS 5 a0] ?_)))))));obtain ⟨x1,hx,h⟩:=bind_some h;refine RS.cl (some 7) (v:=(vI .i64 x1)) 64 _ (z3b hx) (u0 2 [kB 4 (decide (x1≥0)),kB 8 (decide (x1≥0))] (RS.dn (A0 (G0 ?_))));cases h;exact fun a w hs=>rtR (rS hs)
def z99:(Sl3×AH)→Value
 | (r0,_)=>(Sl3.v r0)
def z9u (_:AH):(Sl3×AH)→AH:=fun r=>r.2
noncomputable def B42:Code:=(Tryd.f42.body).getD .skip
noncomputable def w7 (_L:LC) (m:Nat) (H:AH) (a0:Sl3):Option (Sl3×AH) :=
 if (isNilS a0)=true then
  some (Sl3.nil,H)
 else
  (newR 3 0 #[] H).bind fun (s1,H2) => (appS m 3 1 8 H2 s1 a0).bind fun (s3,H4) => some (s3,H4)
theorem za6 {L:LC} {m:Nat} {H:AH} {a0:Sl3} {r:(Sl3×AH)} (h:w7 L m H a0=some r) :
  CallS Tryd.prog (NE.plain 1000) m 42 #[(Sl3.v a0)] H (z99 r) (z9u H r):=by
 refine CallS.mk (args:=[(Sl3.v a0)]) Tryd.func42 (B:=B42) (by kernel_rfl) (fun E _=>?_);unfold w7 at h;refine B0 (WS.rg (u0 1 [kS 2 Sl3.nil] (RS.dn (A0 (B0 (B0 (WS.rg (u0 1 [kS 3 a0] (RS.o (H':=H) (some 4) (vB (isNilS a0)) (zea (t:=27) (e:=3) (u:=27) (x:=.tmp 3) (y:=.const (Sl3.v Sl3.nil)) (s:=a0) (by kernel_rfl) (by kernel_rfl) (by kernel_rfl) (by kernel_rfl)) ?_)))))))));refine RS.dn (A0 ?_);rcases Y0 h with ⟨hp,h⟩ | ⟨hp,h⟩
 ·refine D0 4 true hp (I0 (B0 (WS.rg (u0 1 [kS 2 Sl3.nil] (RS.dn (A0 (G0 ?_)))))));cases h;exact fun a w hs=>sqR (rtR (rS hs))
 ·refine D0 4 false (b_not hp) (J0 (K0 (A0 (B0 (WS.rg ?_)))));obtain ⟨⟨s1,H2⟩,hx,h⟩:=bind_some h;try dsimp only at h
  refine RS.o (H':=H2) (some 5) (Sl3.v s1) (Abs.run_newR (by kernel_rfl) (by kernel_rfl) hx) (u0 1 [kS 6 a0] ?_);obtain ⟨⟨s3,H4⟩,hx,h⟩:=bind_some h;try dsimp only at h
  refine RS.o (H':=H4) (some 7) (Sl3.v s3) (Abs.run_app (x:=.tmp 5) (y:=.tmp 6) (ts:=#[27,27]) (s:=s1) (z:=a0) (by kernel_rfl) (by kernel_rfl) (by kernel_rfl) (by kernel_rfl) hx) (u0 1 [kS 2 s3] (RS.dn (A0 (G0 ?_))));cases h;exact fun a w hs=>rtR (rS hs)
def z5w:(Int×Int×AH)→Value
 | (r0,r1,_)=>(Value.tuple #[(vI .i64 r0),(vI .i64 r1)])
def z6u (_:AH):(Int×Int×AH)→AH:=fun r=>r.2.2
noncomputable def B18:Code:=(Tryd.f18.body).getD .skip
noncomputable def S2 (L:LC) (m:Nat) (H:AH) (a0:Option Addr) (a1:Int) (a2:Sl3):Option (Int×Int×AH) :=
 (newB 23 [(vP a0)] H).bind fun (p1,H2) => (rd deP H2 p1).bind fun x3 => (K2 L H2 x3).bind fun x4 => if x4=true then
  if (a2.n:Int) > 64 then
   some (0,51,H2)
  else
   (Y3 L H2 a2 (some p1)).bind fun x5 => if x5=true then
    some (0,150,H2)
   else
    (rd deP H2 p1).bind fun x6 => (w7 L (Nat.max m H2.next) H2 a2).bind fun (x7,H8) => (P2 L m H8 x6 a1 x7 false).bind fun (x9,x10,H11) => some (x9,x10,H11)
 else
  some (0,4,H2)
theorem D5 {L:LC} {m:Nat} {H:AH} {a0:Option Addr} {a1:Int} {a2:Sl3} {r:(Int×Int×AH)} (h:S2 L m H a0 a1 a2=some r) :
  CallS Tryd.prog (NE.plain 1000) m 18 #[(vP a0),(vI .i64 a1),(Sl3.v a2)] H (z5w r) (z6u H r):=by
 refine CallS.mk (args:=[(vP a0),(vI .i64 a1),(Sl3.v a2)]) Tryd.func18 (B:=B18) (by kernel_rfl) (fun E _=>?_);unfold S2 at h;refine B0 (WS.rg ?_);obtain ⟨⟨p1,H2⟩,hx,h⟩:=bind_some h;try dsimp only at h
 refine RS.o (H':=H2) (some 3) (vP (some p1)) (Abs.run_newB (by kernel_rfl) hx) (u0 2 [kI 7 0,kI 6 0] (RS.dn (A0 (B0 (B0 (WS.rg ?_))))));obtain ⟨x3,hx,h⟩:=bind_some h;refine P0 8 23 (.tmp 3) (X0 hx A7) ?_;obtain ⟨x4,hx,h⟩:=bind_some h;refine RS.cl (some 9) (v:=(vB x4)) 38 _ (G3 hx) (u0 1 [kB 10 (!x4)] (RS.dn (A0 ?_)));rcases Y0 h with ⟨hp,h⟩ | ⟨hp,h⟩
 ·refine D0 10 false (nb_not hp) (J0 (K0 (A0 (B0 (B0 (WS.rg (u0 3 [kB 13 (decide ((a2.n:Int) > 64)),kI 12 (a2.n:Int),kS 11 a2] (RS.dn (A0 ?_)))))))));rcases Y0 h with ⟨hp,h⟩ | ⟨hp,h⟩
  ·refine D0 13 true (decide_eq_true hp) (I0 (B0 (WS.rg (u0 2 [kI 7 51,kI 6 0] (RS.dn (A0 (G0 ?_)))))));cases h;exact fun a w hs=>sqR (rtR (rS hs))
  ·refine D0 13 false (decide_eq_false hp) (J0 (K0 (A0 (B0 (B0 (WS.rg (u0 2 [(15,.val (Value.func (.func 41) #[] #[(vP (some p1))])),kS 14 a2] ?_)))))));obtain ⟨x5,hx,h⟩:=bind_some h;refine RS.cl (some 16) (v:=(vB x5)) 40 _ (z1o hx) (RS.dn (A0 ?_));rcases Y0 h with ⟨hp,h⟩ | ⟨hp,h⟩
   ·refine D0 16 true hp (I0 (B0 (WS.rg (u0 2 [kI 7 150,kI 6 0] (RS.dn (A0 (G0 ?_)))))));cases h;exact fun a w hs=>sqR (rtR (rS hs))
   ·refine D0 16 false (b_not hp) (J0 (K0 (A0 (B0 ?_))));refine Q0 [0] [0,0,0,4,14,31,63,63,255,511] 10 (fun hcl=>?_);obtain ⟨x6,hx,h⟩:=bind_some h;refine E0 0 (some 17) (vP x6) (Abs.det_load (t:=23) (x:=.tmp 3) (a:=p1) (by kernel_rfl) (by kernel_rfl) (by kernel_rfl) (by kernel_rfl) (X0 hx A7)) (DA.tP 1 (some 18) (vI .i64 a1) (DA.tP 2 (some 19) (Sl3.v a2) ?_));obtain ⟨⟨x7,H8⟩,hx,h⟩:=bind_some h;try dsimp only at h
    refine DA.on 3 (DA.aCj 3 (some 20) true (v:=(Sl3.v x7)) 42 #[(Sl3.v a2)] (za6 hx) (DA.on 4 (DA.aHj (H':=H8) 4 (some 21) false (vA #[(vI .i64 a1),(Sl3.v x7),(vB false)]) (by kernel_rfl) ?_)));obtain ⟨⟨x9,x10,H11⟩,hx,h⟩:=bind_some h;try dsimp only at h
    refine DA.on 5 (DA.aC 5 (some 22) (v:=(Value.tuple #[(vI .i64 x9),(vI .i64 x10)])) 39 #[(vP x6),(vA #[(vI .i64 a1),(Sl3.v x7),(vB false)])] (zy hx) (DA.tP 6 (some 23) (vI .i64 x9) (DA.tP 7 (some 24) (vI .i64 x10) (DA.tP 8 (some 6) (vI .i64 x9) (DA.tP 9 (some 7) (vI .i64 x10) (DA.dn (A0 (G0 ?_))))))));cases h;exact fun a w hs=>rtR (rS hs)
 ·refine D0 10 true (D3 hp) (I0 (B0 (WS.rg (u0 2 [kI 7 4,kI 6 0] (RS.dn (A0 (G0 ?_)))))));cases h;exact fun a w hs=>sqR (rtR (rS hs))
def z68:(Int×AH)→Value
 | (r0,_)=>(vI .i64 r0)
def z6z (_:AH):(Int×AH)→AH:=fun r=>r.2
noncomputable def B43:Code:=(Tryd.f43.body).getD .skip
noncomputable def C3 (L:LC) (m:Nat) (H:AH) (a0:Option Addr) (a1_0 a1_1 a1_2:Int) (a1_3:Bool):Option (Int×AH) :=
 (K2 L H a0).bind fun x1 => if x1=true then
  Option.bind (α:=Bool) (
   (Q2 L H a0 a1_0).bind fun x3 => if x3=true then
    (Q2 L H a0 a1_1).bind fun x4 => some (!x4)
   else
    some true) fun v19_2 =>
  if v19_2=true then
   some (150,H)
  else
   a0.bind fun q5 => (rd deSl H (Addr.add q5 2)).bind fun x6 => (newR 91 1 #[(vI .i64 a1_0),(vI .i64 a1_1),(vI .i64 a1_2),(vB a1_3)] H).bind fun (s7,H8) => (appS m 91 4 32 H8 x6 s7).bind fun (s9,H10) => (H10.setCell m (Addr.add q5 2) (Sl3.v s9)).bind fun H11 => Option.bind (α:=AH) (
    if a1_3=true then
     some H11
    else
     (G2 L m H11 (some q5) a1_0 a1_1 0 a1_2 0 0 false).bind fun H13 => some H13) fun H12 =>
   some (0,H12)
 else
  some (4,H)
theorem z15 {L:LC} {m:Nat} {H:AH} {a0:Option Addr} {a1_0 a1_1 a1_2:Int} {a1_3:Bool} {r:(Int×AH)} (h:C3 L m H a0 a1_0 a1_1 a1_2 a1_3=some r) :
  CallS Tryd.prog (NE.plain 1000) m 43 #[(vP a0),(vA #[(vI .i64 a1_0),(vI .i64 a1_1),(vI .i64 a1_2),(vB a1_3)])] H (z68 r) (z6z H r):=by
 refine CallS.mk (args:=[(vP a0),(vA #[(vI .i64 a1_0),(vI .i64 a1_1),(vI .i64 a1_2),(vB a1_3)])]) Tryd.func43 (B:=B43) (by kernel_rfl) (fun E _=>?_);unfold C3 at h;refine B0 (WS.rg (V0 2 [kI 4 0,kL 3 0 0] ([some (91,[(vI .i64 a1_0),(vI .i64 a1_1),(vI .i64 a1_2),(vB a1_3)])]) (RS.dn (A0 (B0 (B0 (WS.rg (u0 1 [(5,.val (vP a0))] ?_))))))));obtain ⟨x1,hx,h⟩:=bind_some h;refine RS.cl (some 6) (v:=(vB x1)) 38 _ (G3 hx) (u0 1 [kB 7 (!x1)] (RS.dn (A0 ?_)));rcases Y0 h with ⟨hp,h⟩ | ⟨hp,h⟩
 ·refine D0 7 false (nb_not hp) (J0 (K0 (A0 (B0 ?_))));obtain ⟨v19_2,hx,h⟩:=bind_some h;refine B0 ?_;refine WS.join ([kB 19 v19_2,(0,.val (vP a0)),kL 3 0 0]) ([some (91,[(vI .i64 a1_0),(vI .i64 a1_1),(vI .i64 a1_2),(vB a1_3)])]) H ?_ (fun a w hs=>A0 ?_ a w hs)
  ·clear h; rename _=>h;refine WS.rg (u0 3 [kI 10 a1_0,kL 9 0 0,(8,.val (vP a0))] ?_);obtain ⟨x3,hx,h⟩:=bind_some h;refine RS.cl (some 11) (v:=(vB x3)) 31 _ (M3 hx) (u0 2 [kB 13 (!x3),kB 12 (!x3)] ?_);rcases Y0 h with ⟨hp,h⟩ | ⟨hp,h⟩
   ·refine O0 13 false (nb_not hp) (u0 3 [kI 16 a1_1,kL 15 0 1,(14,.val (vP a0))] ?_);obtain ⟨x4,hx,h⟩:=bind_some h;refine RS.cl (some 17) (v:=(vB x4)) 31 _ (M3 hx) (u0 2 [kB 19 (!x4),kB 18 (!x4)] (RS.dn ?_));cases h;exact fun a w hs=>(jsN (hs.sb 1))
   ·refine O0 13 true (D3 hp) (u0 6 [kB 19 true,kU 18,kU 17,kU 16,kU 15,kU 14] (RS.dn ?_));cases h;exact fun a w hs=>(jsN (hs.sb 1))
  ·clear hx;rcases Y0 h with ⟨hp,h⟩ | ⟨hp,h⟩
   ·refine D0 19 true hp (I0 (B0 (WS.rg (u0 1 [kI 4 150] (RS.dn (A0 (G0 ?_)))))));cases h;exact fun a w hs=>sqR (rtR (rS hs))
   ·refine D0 19 false (b_not hp) (J0 (K0 (A0 (B0 ?_))));refine Q0 [1,2,3,4,5] [0,0,2,6,14,0,32,126,255,511,1023] 11 (fun hcl=>?_);refine C0 1 (some 21) (vP a0) ?_;obtain ⟨q5,hx,hq5⟩:=bind_some h;subst hx;have h:=hq5;refine C0 2 (some 22) (vP (some q5)) (C0 3 (some 23) (vP (some (Addr.add q5 2))) ?_);obtain ⟨x6,hx,h⟩:=bind_some h;refine E0 4 (some 24) (Sl3.v x6) (Abs.det_load (t:=59) (x:=.tmp 23) (a:=(Addr.add q5 2)) (by kernel_rfl) (by kernel_rfl) (by kernel_rfl) (by kernel_rfl) (X0 hx A1)) (DA.tL 5 (some 25) (.val (vA #[(vI .i64 a1_0),(vI .i64 a1_1),(vI .i64 a1_2),(vB a1_3)])) (DA.tP 0 (some 20) (vP (some q5)) ?_));obtain ⟨⟨s7,H8⟩,hx,h⟩:=bind_some h;try dsimp only at h
    refine DA.on 6 (DA.aHj (H':=H8) 6 (some 26) false (Sl3.v s7) (Abs.run_newR (by kernel_rfl) (by kernel_rfl) hx) ?_);obtain ⟨⟨s9,H10⟩,hx,h⟩:=bind_some h;try dsimp only at h
    refine DA.on 7 (W0 (H':=H10) 7 (some 27) (Sl3.v s9) (Abs.run_app (x:=.tmp 24) (y:=.tmp 26) (ts:=#[59,59]) (s:=x6) (z:=s7) (by kernel_rfl) (by kernel_rfl) (by kernel_rfl) (by kernel_rfl) hx) (DA.tP 8 (some 28) (vP (some q5)) (DA.tP 9 (some 29) (vP (some (Addr.add q5 2))) ?_)));obtain ⟨H11,hx,h⟩:=bind_some h;refine DA.on 10 (W0 (H':=H11) 10 none undef (Abs.run_store1 (t:=59) (x:=.tmp 29) (y:=.tmp 27) (a:=(Addr.add q5 2)) (v:=(Sl3.v s9)) (by kernel_rfl) (by kernel_rfl) (by kernel_rfl) (by kernel_rfl) (by kernel_rfl) hx) (DA.dn (A0 ?_)));obtain ⟨H12,hx,h⟩:=bind_some h;refine B0 ?_;refine WS.join ([]) ([some (91,[(vI .i64 a1_0),(vI .i64 a1_1),(vI .i64 a1_2),(vB a1_3)])]) H12 ?_ (fun a w hs=>A0 ?_ a w hs)
    ·clear h; rename _=>h;refine B0 (WS.rg (u0 3 [kB 32 (!a1_3),kB 31 a1_3,kL 30 0 3] (RS.dn (A0 ?_))));rcases Y0 h with ⟨hp,h⟩ | ⟨hp,h⟩
     ·refine D0 32 false (nb_not hp) (J0 (K0 ?_));cases h;exact fun a w hs=>(jsN (hs.sb 1))
     ·refine D0 32 true (D3 hp) (I0 (WS.rg (u0 8 [kA 40 #[(vI .i64 0),(vI .i64 a1_2),(vI .i64 0),(vI .i64 0),(vB false)],kI 39 a1_2,kL 38 0 2,kI 37 a1_1,kL 36 0 1,kI 35 a1_0,kL 34 0 0,kP 33 q5] ?_)));obtain ⟨H13,hx,h⟩:=bind_some h;refine RS.cl (some 41) (v:=(Value.tuple #[])) 58 _ (Y9 hx) (RS.dn ?_);cases h;exact fun a w hs=>(jsN (hs.sb 1))
    ·clear hx;refine B0 (WS.rg (u0 1 [kI 4 0] (RS.dn (A0 (G0 ?_)))));cases h;exact fun a w hs=>rtR (rS hs)
 ·refine D0 7 true (D3 hp) (I0 (B0 (WS.rg (u0 1 [kI 4 4] (RS.dn (A0 (G0 ?_)))))));cases h;exact fun a w hs=>sqR (rtR (rS hs))
def z3t:(Int×AH)→Value
 | (r0,_)=>(vI .i64 r0)
def z4g (_:AH):(Int×AH)→AH:=fun r=>r.2
noncomputable def B19:Code:=(Tryd.f19.body).getD .skip
noncomputable def M4 (L:LC) (m:Nat) (H:AH) (a0:Option Addr) (a1 a2 a3:Int):Option (Int×AH) :=
 (C3 L m H a0 a1 a2 a3 true).bind fun (x1,H2) => some (x1,H2)
theorem U9 {L:LC} {m:Nat} {H:AH} {a0:Option Addr} {a1 a2 a3:Int} {r:(Int×AH)} (h:M4 L m H a0 a1 a2 a3=some r) :
  CallS Tryd.prog (NE.plain 1000) m 19 #[(vP a0),(vI .i64 a1),(vI .i64 a2),(vI .i64 a3)] H (z3t r) (z4g H r):=by
 refine CallS.mk (args:=[(vP a0),(vI .i64 a1),(vI .i64 a2),(vI .i64 a3)]) Tryd.func19 (B:=B19) (by kernel_rfl) (fun E _=>?_);unfold M4 at h;refine B0 (WS.rg (u0 1 [kI 8 0] (RS.dn (A0 (B0 (WS.rg (u0 5 [kA 13 #[(vI .i64 a1),(vI .i64 a2),(vI .i64 a3),(vB true)],kI 12 a3,kI 11 a2,kI 10 a1,(9,.val (vP a0))] ?_)))))));obtain ⟨⟨x1,H2⟩,hx,h⟩:=bind_some h;try dsimp only at h
 refine RS.cl (some 14) (v:=(vI .i64 x1)) 43 _ (z15 hx) (u0 1 [kI 8 x1] (RS.dn (A0 (G0 ?_))));cases h;exact fun a w hs=>rtR (rS hs)
def z45:(Int×AH)→Value
 | (r0,_)=>(vI .i64 r0)
def z5b (_:AH):(Int×AH)→AH:=fun r=>r.2
noncomputable def B20:Code:=(Tryd.f20.body).getD .skip
noncomputable def P4 (L:LC) (m:Nat) (H:AH) (a0:Option Addr) (a1 a2 a3:Int):Option (Int×AH) :=
 (C3 L m H a0 a1 a2 a3 false).bind fun (x1,H2) => some (x1,H2)
theorem T9 {L:LC} {m:Nat} {H:AH} {a0:Option Addr} {a1 a2 a3:Int} {r:(Int×AH)} (h:P4 L m H a0 a1 a2 a3=some r) :
  CallS Tryd.prog (NE.plain 1000) m 20 #[(vP a0),(vI .i64 a1),(vI .i64 a2),(vI .i64 a3)] H (z45 r) (z5b H r):=by
 refine CallS.mk (args:=[(vP a0),(vI .i64 a1),(vI .i64 a2),(vI .i64 a3)]) Tryd.func20 (B:=B20) (by kernel_rfl) (fun E _=>?_);unfold P4 at h;refine B0 (WS.rg (u0 1 [kI 8 0] (RS.dn (A0 (B0 (WS.rg (u0 5 [kA 13 #[(vI .i64 a1),(vI .i64 a2),(vI .i64 a3),(vB false)],kI 12 a3,kI 11 a2,kI 10 a1,(9,.val (vP a0))] ?_)))))));obtain ⟨⟨x1,H2⟩,hx,h⟩:=bind_some h;try dsimp only at h
 refine RS.cl (some 14) (v:=(vI .i64 x1)) 43 _ (z15 hx) (u0 1 [kI 8 x1] (RS.dn (A0 (G0 ?_))));cases h;exact fun a w hs=>rtR (rS hs)
def W4:(Int×Int×Int×Bool×Bool)→Value
 | (r0,r1,r2,r3,r4)=>(Value.tuple #[(vA #[(vI .i64 r0),(vI .i64 r1),(vI .i64 r2),(vB r3)]),(vB r4)])
def C5 (H:AH):(Int×Int×Int×Bool×Bool)→AH:=fun _=>H
noncomputable def B44:Code:=(Tryd.f44.body).getD .skip
noncomputable def I1 (_L:LC) (H:AH) (q1:Addr) (x2:Sl3):(Int×Int×Int×Int×Bool)→Option (Lp (Int×Int×Int×Int×Bool) (Int×Int×Int×Bool×Bool)):=fun (v13_3,w0_4,w0_5,w0_6,w0_7) =>
 if v13_3<(x2.n:Int) then
  (idxA 4 x2 v13_3).bind fun p8 => (rd (deI .i64) H (Addr.add p8 0)).bind fun x9_0 => (rd (deI .i64) H (Addr.add p8 1)).bind fun x9_1 => (rd (deI .i64) H (Addr.add p8 2)).bind fun x9_2 => (rd deB H (Addr.add p8 3)).bind fun x9_3 => Option.bind (α:=Bool) (
   if x9_3=true then
    (rd deSl H (Addr.add q1 4)).bind fun x11 => (idxA 1 x11 x9_0).bind fun p12 => (rd (deI .i64) H p12).bind fun x13 => (rd deSl H (Addr.add q1 4)).bind fun x14 => (idxA 1 x14 x9_1).bind fun p15 => (rd (deI .i64) H p15).bind fun x16 => some (decide (x13=x16))
   else
    some false) fun v37_10 =>
  if v37_10=true then
   some (.ret (x9_0,x9_1,x9_2,x9_3,true))
  else
   some (.next ((IntKind.i64.wrap (v13_3+1)),w0_4,w0_5,w0_6,w0_7))
 else
  some (.brk (v13_3,w0_4,w0_5,w0_6,w0_7))
def F9 (_L:LC) (_H:AH) (q1:Addr) (x2:Sl3):(Int×Int×Int×Int×Bool)→KN×Lcs:=fun (v13_3,w0_4,w0_5,w0_6,w0_7)=>([kI 13 v13_3,kP 0 q1,kL 2 0 0,kS 11 x2,kI 12 (x2.n:Int)],[some (91,[(vI .i64 w0_4),(vI .i64 w0_5),(vI .i64 w0_6),(vB w0_7)])])
noncomputable def F1 (_L:LC) (H:AH) (q1:Addr) (x22:Sl3):(Int×Int×Int×Int×Bool)→Option (Lp (Int×Int×Int×Int×Bool) (Int×Int×Int×Bool×Bool)):=fun (v45_23,w0_24,w0_25,w0_26,w0_27) =>
 if v45_23<(x22.n:Int) then
  (idxA 1 x22 v45_23).bind fun p28 => (rd deP H p28).bind fun x29 => Option.bind (α:=Bool) (
   x29.bind fun q31 => (rd deSl H (Addr.add q31 2)).bind fun x32 => if (x32.n:Int) > 1 then
    (rd deSl H (Addr.add q1 4)).bind fun x33 => (rd deSl H (Addr.add q31 2)).bind fun x34 => (idxA 1 x34 0).bind fun p35 => (rd (deI .i64) H p35).bind fun x36 => (idxA 1 x33 x36).bind fun p37 => (rd (deI .i64) H p37).bind fun x38 => some (decide (x38=v45_23))
   else
    some false) fun v71_30 =>
  if v71_30=true then
   x29.bind fun q39 => (rd deSl H (Addr.add q39 2)).bind fun x40 => (idxA 1 x40 0).bind fun p41 => (rd (deI .i64) H p41).bind fun x42 => (rd deSl H (Addr.add q39 2)).bind fun x43 => (idxA 1 x43 1).bind fun p44 => (rd (deI .i64) H p44).bind fun x45 => some (.ret (x42,x45,0,false,true))
  else
   some (.next ((IntKind.i64.wrap (v45_23+1)),w0_24,w0_25,w0_26,w0_27))
 else
  some (.brk (v45_23,w0_24,w0_25,w0_26,w0_27))
def G9 (_L:LC) (_H:AH) (q1:Addr) (x22:Sl3):(Int×Int×Int×Int×Bool)→KN×Lcs:=fun (v45_23,w0_24,w0_25,w0_26,w0_27)=>([kI 45 v45_23,kP 0 q1,kL 2 0 0,kS 43 x22,kI 44 (x22.n:Int)],[some (91,[(vI .i64 w0_24),(vI .i64 w0_25),(vI .i64 w0_26),(vB w0_27)])])
noncomputable def X1 (L:LC) (H:AH) (a0:Option Addr):Option (Int×Int×Int×Bool×Bool) :=
 a0.bind fun q1 => (rd deSl H (Addr.add q1 2)).bind fun x2 => (L.run (I1 L H q1 x2) (0,0,0,0,false)).bind fun o=>match o with
 | .inl (_,w0_18,w0_19,w0_20,w0_21) =>
  (rd deSl H (Addr.add q1 5)).bind fun x22 => (L.run (F1 L H q1 x22) (0,w0_18,w0_19,w0_20,w0_21)).bind fun o=>match o with
  | .inl (_,_,_,_,_) =>
   some (0,0,0,false,false)
  | .inr r=>some r
 | .inr r=>some r
theorem R6 {E m L H q1 x2} :LoopF Tryd.prog (NE.plain 1000) m E Tryd.f44 ((cfst (csnd (cfst (csnd B44))))) (F9 L H q1 x2) (fun _=>H) 0 W4 (C5 H) (I1 L H q1 x2):=by
 rintro ⟨v13_3,w0_4,w0_5,w0_6,w0_7⟩ o h
 unfold I1 at h;try dsimp only at h
 refine B0 (WS.rg (u0 1 [kB 14 (decide (v13_3<(x2.n:Int)))] (RS.dn (A0 (B0 ?_)))));rcases Y0 h with ⟨hp,h⟩ | ⟨hp,h⟩
 ·refine D0 14 true (decide_eq_true hp) (I0 (K0 (A0 (B0 (M0 1 (B0 (WS.rg ?_)))))));obtain ⟨p8,hx,h⟩:=bind_some h;refine T0 15 59 91 (.tmp 11) (.tmp 13) hx ?_;obtain ⟨x9_0,hx0,h⟩:=bind_some h;obtain ⟨x9_1,hx1,h⟩:=bind_some h;obtain ⟨x9_2,hx2,h⟩:=bind_some h;obtain ⟨x9_3,hx3,h⟩:=bind_some h;refine RS.la 16 91 (.tmp 15) 4 (J1 (X0 hx0 Z0) (J1 (X0 hx1 Z0) (J1 (X0 hx2 Z0) (J1 (X0 hx3 o5) U6)))) (V0 2 [kL 5 1 0] ([some (91,[(vI .i64 w0_4),(vI .i64 w0_5),(vI .i64 w0_6),(vB w0_7)]),some (91,[(vI .i64 x9_0),(vI .i64 x9_1),(vI .i64 x9_2),(vB x9_3)])]) (RS.dn (A0 ?_)));obtain ⟨v37_10,hx,h⟩:=bind_some h;refine B0 ?_;refine WS.join ([kB 37 v37_10,kP 0 q1,kL 2 0 0,kL 5 1 0,kS 11 x2,kI 12 (x2.n:Int),kI 13 v13_3]) ([some (91,[(vI .i64 w0_4),(vI .i64 w0_5),(vI .i64 w0_6),(vB w0_7)]),some (91,[(vI .i64 x9_0),(vI .i64 x9_1),(vI .i64 x9_2),(vB x9_3)])]) H ?_ (fun a w hs=>A0 ?_ a w hs)
  ·clear h; rename _=>h;refine Q0 [0,1,2,3,4,5,6,7,8,9,10,11,12,13,14,15,16,17,18] [0,1,3,7,15,31,63,7,135,511,1023,7,2055,6151,14343,7,32775,129031,260103,524287,1048575] 21 (fun hcl=>?_);refine DA.tL 0 (some 17) (.loc 1 3) (DA.tL 1 (some 18) (.val (vB x9_3)) (C0 2 (some 19) (vB x9_3) ?_));rcases Y0 h with ⟨hp,h⟩ | ⟨hp,h⟩
   ·refine U0 19 true hp (C0 3 (some 20) (vP (some q1)) (C0 4 (some 21) (vP (some q1)) (C0 5 (some 22) (vP (some (Addr.add q1 4))) ?_)));obtain ⟨x11,hx,h⟩:=bind_some h;refine E0 6 (some 23) (Sl3.v x11) (Abs.det_load (t:=27) (x:=.tmp 22) (a:=(Addr.add q1 4)) (by kernel_rfl) (by kernel_rfl) (by kernel_rfl) (by kernel_rfl) (X0 hx A1)) (DA.tL 7 (some 24) (.loc 1 0) (DA.tL 8 (some 25) (.val (vI .i64 x9_0)) ?_));obtain ⟨p12,hx,h⟩:=bind_some h;refine E0 9 (some 26) (vP (some p12)) (Abs.det_idx (s:=x11) (k:=.i64) (t:=27) (e:=3) (x:=.tmp 23) (y:=.tmp 25) (by kernel_rfl) (by kernel_rfl) (by kernel_rfl) (by kernel_rfl) (by kernel_rfl) hx) ?_;obtain ⟨x13,hx,h⟩:=bind_some h;refine E0 10 (some 27) (vI .i64 x13) (Abs.det_load (t:=3) (x:=.tmp 26) (a:=p12) (by kernel_rfl) (by kernel_rfl) (by kernel_rfl) (by kernel_rfl) (X0 hx Z0)) (C0 11 (some 28) (vP (some q1)) (C0 12 (some 29) (vP (some q1)) (C0 13 (some 30) (vP (some (Addr.add q1 4))) ?_)));obtain ⟨x14,hx,h⟩:=bind_some h;refine E0 14 (some 31) (Sl3.v x14) (Abs.det_load (t:=27) (x:=.tmp 30) (a:=(Addr.add q1 4)) (by kernel_rfl) (by kernel_rfl) (by kernel_rfl) (by kernel_rfl) (X0 hx A1)) (DA.tL 15 (some 32) (.loc 1 1) (DA.tL 16 (some 33) (.val (vI .i64 x9_1)) ?_));obtain ⟨p15,hx,h⟩:=bind_some h;refine E0 17 (some 34) (vP (some p15)) (Abs.det_idx (s:=x14) (k:=.i64) (t:=27) (e:=3) (x:=.tmp 31) (y:=.tmp 33) (by kernel_rfl) (by kernel_rfl) (by kernel_rfl) (by kernel_rfl) (by kernel_rfl) hx) ?_;obtain ⟨x16,hx,h⟩:=bind_some h;refine E0 18 (some 35) (vI .i64 x16) (Abs.det_load (t:=3) (x:=.tmp 34) (a:=p15) (by kernel_rfl) (by kernel_rfl) (by kernel_rfl) (by kernel_rfl) (X0 hx Z0)) (DA.tP 19 (some 36) (vB (decide (x13=x16))) (DA.tP 20 (some 37) (vB (decide (x13=x16))) (DA.dn ?_)));cases h;exact fun a w hs=>(jsN (hs.sb 2))
   ·refine U0 19 false (b_not hp) ?_;refine F0 3 (some 20) (by kernel_rfl) (by kernel_rfl) (by kernel_rfl) hcl (fun _ _ _ h=>h) (by kernel_rfl) ?_;refine F0 4 (some 21) (by kernel_rfl) (by kernel_rfl) (by kernel_rfl) hcl (fun _ _ _ h=>h) (by kernel_rfl) ?_;refine F0 5 (some 22) (by kernel_rfl) (by kernel_rfl) (by kernel_rfl) hcl (fun _ _ _ h=>h) (by kernel_rfl) ?_;refine F0 6 (some 23) (by kernel_rfl) (by kernel_rfl) (by kernel_rfl) hcl (fun _ _ _ h=>h) (by kernel_rfl) ?_;refine F0 7 (some 24) (by kernel_rfl) (by kernel_rfl) (by kernel_rfl) hcl (fun _ _ _ h=>h) (by kernel_rfl) ?_;refine F0 8 (some 25) (by kernel_rfl) (by kernel_rfl) (by kernel_rfl) hcl (fun _ _ _ h=>h) (by kernel_rfl) ?_;refine F0 9 (some 26) (by kernel_rfl) (by kernel_rfl) (by kernel_rfl) hcl (fun _ _ _ h=>h) (by kernel_rfl) ?_;refine F0 10 (some 27) (by kernel_rfl) (by kernel_rfl) (by kernel_rfl) hcl (fun _ _ _ h=>h) (by kernel_rfl) ?_;refine F0 11 (some 28) (by kernel_rfl) (by kernel_rfl) (by kernel_rfl) hcl (fun _ _ _ h=>h) (by kernel_rfl) ?_;refine F0 12 (some 29) (by kernel_rfl) (by kernel_rfl) (by kernel_rfl) hcl (fun _ _ _ h=>h) (by kernel_rfl) ?_;refine F0 13 (some 30) (by kernel_rfl) (by kernel_rfl) (by kernel_rfl) hcl (fun _ _ _ h=>h) (by kernel_rfl) ?_;refine F0 14 (some 31) (by kernel_rfl) (by kernel_rfl) (by kernel_rfl) hcl (fun _ _ _ h=>h) (by kernel_rfl) ?_;refine F0 15 (some 32) (by kernel_rfl) (by kernel_rfl) (by kernel_rfl) hcl (fun _ _ _ h=>h) (by kernel_rfl) ?_;refine F0 16 (some 33) (by kernel_rfl) (by kernel_rfl) (by kernel_rfl) hcl (fun _ _ _ h=>h) (by kernel_rfl) ?_;refine F0 17 (some 34) (by kernel_rfl) (by kernel_rfl) (by kernel_rfl) hcl (fun _ _ _ h=>h) (by kernel_rfl) ?_;refine F0 18 (some 35) (by kernel_rfl) (by kernel_rfl) (by kernel_rfl) hcl (fun _ _ _ h=>h) (by kernel_rfl) ?_;refine N0 19 (some 36) (by kernel_rfl) (by kernel_rfl) (by kernel_rfl) hcl (fun _ _ _ h=>h) (by kernel_rfl) ?_;refine DA.tP 20 (some 37) (vB false) (DA.dn ?_);cases h;exact fun a w hs=>(jsN (hs.sb 2))
  ·clear hx;rcases Y0 h with ⟨hp,h⟩ | ⟨hp,h⟩
   ·refine D0 37 true hp (I0 (B0 (WS.rg (V0 3 [kB 3 true,kA 38 #[(vI .i64 x9_0),(vI .i64 x9_1),(vI .i64 x9_2),(vB x9_3)]] ([some (91,[(vI .i64 x9_0),(vI .i64 x9_1),(vI .i64 x9_2),(vB x9_3)]),some (91,[(vI .i64 x9_0),(vI .i64 x9_1),(vI .i64 x9_2),(vB x9_3)])]) (RS.dn (A0 (G0 ?_)))))));cases h;exact fun a w hs=>bkR (sqR (lsR rfl (rS hs)))
   ·refine D0 37 false (b_not hp) (J0 (K0 ?_));refine fun a w hs=>bkN ((A0 ?_ a w hs));refine WS.rg (u0 2 [kI 13 (IntKind.i64.wrap (v13_3+1)),kI 39 (IntKind.i64.wrap (v13_3+1))] (RS.dn ?_));cases h;exact fun a w hs=>lsN rfl (hs.sb 1)
 ·refine D0 14 false (decide_eq_false hp) (J0 (WS.ex 0 ?_));cases h;exact fun a w hs=>sqE (lsB rfl (hs.sb 1))
theorem O6 {E m L H q1 x22} :LoopF Tryd.prog (NE.plain 1000) m E Tryd.f44 ((cfst (csnd (cfst (csnd (csnd B44)))))) (G9 L H q1 x22) (fun _=>H) 2 W4 (C5 H) (F1 L H q1 x22):=by
 rintro ⟨v45_23,w0_24,w0_25,w0_26,w0_27⟩ o h
 unfold F1 at h;try dsimp only at h
 refine B0 (WS.rg (u0 1 [kB 46 (decide (v45_23<(x22.n:Int)))] (RS.dn (A0 (B0 ?_)))));rcases Y0 h with ⟨hp,h⟩ | ⟨hp,h⟩
 ·refine D0 46 true (decide_eq_true hp) (I0 (K0 (A0 (B0 (M0 3 (B0 (WS.rg (u0 1 [kI 47 v45_23] ?_))))))));obtain ⟨p28,hx,h⟩:=bind_some h;refine T0 48 60 79 (.tmp 43) (.tmp 45) hx ?_;obtain ⟨x29,hx,h⟩:=bind_some h;refine P0 49 79 (.tmp 48) (X0 hx A7) (u0 2 [(7,.val (vP x29)),kI 6 v45_23] (RS.dn (A0 ?_)));obtain ⟨v71_30,hx,h⟩:=bind_some h;refine B0 ?_;refine WS.join ([kB 71 v71_30,kP 0 q1,kL 2 0 0,(7,.val (vP x29)),kS 43 x22,kI 44 (x22.n:Int),kI 45 v45_23]) ([some (91,[(vI .i64 w0_24),(vI .i64 w0_25),(vI .i64 w0_26),(vB w0_27)])]) H ?_ (fun a w hs=>A0 ?_ a w hs)
  ·clear h; rename _=>h;refine Q0 [0,1,2,3,4,5,6,7,8,9,10,11,12,13,14,15,16,17,18] [0,1,3,7,15,31,63,127,255,511,1023,127,2175,6271,14463,30847,63615,131071,262143,127,1048575,2097151] 22 (fun hcl=>?_);refine C0 0 (some 50) (vP x29) ?_;obtain ⟨q31,hx,hq31⟩:=bind_some h;subst hx;have h:=hq31;refine C0 1 (some 51) (vP (some q31)) (C0 2 (some 52) (vP (some (Addr.add q31 2))) ?_);obtain ⟨x32,hx,h⟩:=bind_some h;refine E0 3 (some 53) (Sl3.v x32) (Abs.det_load (t:=27) (x:=.tmp 52) (a:=(Addr.add q31 2)) (by kernel_rfl) (by kernel_rfl) (by kernel_rfl) (by kernel_rfl) (X0 hx A1)) (C0 4 (some 54) (vI .i64 (x32.n:Int)) (C0 5 (some 55) (vB (decide ((x32.n:Int) > 1))) (C0 6 (some 56) (vB (decide ((x32.n:Int) > 1))) ?_)));rcases Y0 h with ⟨hp,h⟩ | ⟨hp,h⟩
   ·refine U0 56 true (decide_eq_true hp) (C0 7 (some 57) (vP (some q1)) (C0 8 (some 58) (vP (some q1)) (C0 9 (some 59) (vP (some (Addr.add q1 4))) ?_)));obtain ⟨x33,hx,h⟩:=bind_some h;refine E0 10 (some 60) (Sl3.v x33) (Abs.det_load (t:=27) (x:=.tmp 59) (a:=(Addr.add q1 4)) (by kernel_rfl) (by kernel_rfl) (by kernel_rfl) (by kernel_rfl) (X0 hx A1)) (C0 11 (some 61) (vP (some q31)) (C0 12 (some 62) (vP (some q31)) (C0 13 (some 63) (vP (some (Addr.add q31 2))) ?_)));obtain ⟨x34,hx,h⟩:=bind_some h;refine E0 14 (some 64) (Sl3.v x34) (Abs.det_load (t:=27) (x:=.tmp 63) (a:=(Addr.add q31 2)) (by kernel_rfl) (by kernel_rfl) (by kernel_rfl) (by kernel_rfl) (X0 hx A1)) ?_;obtain ⟨p35,hx,h⟩:=bind_some h;refine E0 15 (some 65) (vP (some p35)) (Abs.det_idx (s:=x34) (k:=.i64) (t:=27) (e:=3) (x:=.tmp 64) (y:=.const (vI .i64 0)) (by kernel_rfl) (by kernel_rfl) (by kernel_rfl) (by kernel_rfl) (by kernel_rfl) hx) ?_;obtain ⟨x36,hx,h⟩:=bind_some h;refine E0 16 (some 66) (vI .i64 x36) (Abs.det_load (t:=3) (x:=.tmp 65) (a:=p35) (by kernel_rfl) (by kernel_rfl) (by kernel_rfl) (by kernel_rfl) (X0 hx Z0)) ?_;obtain ⟨p37,hx,h⟩:=bind_some h;refine E0 17 (some 67) (vP (some p37)) (Abs.det_idx (s:=x33) (k:=.i64) (t:=27) (e:=3) (x:=.tmp 60) (y:=.tmp 66) (by kernel_rfl) (by kernel_rfl) (by kernel_rfl) (by kernel_rfl) (by kernel_rfl) hx) ?_;obtain ⟨x38,hx,h⟩:=bind_some h;refine E0 18 (some 68) (vI .i64 x38) (Abs.det_load (t:=3) (x:=.tmp 67) (a:=p37) (by kernel_rfl) (by kernel_rfl) (by kernel_rfl) (by kernel_rfl) (X0 hx Z0)) (DA.tP 19 (some 69) (vI .i64 v45_23) (DA.tP 20 (some 70) (vB (decide (x38=v45_23))) (DA.tP 21 (some 71) (vB (decide (x38=v45_23))) (DA.dn ?_))));cases h;exact fun a w hs=>(jsN (hs.sb 1))
   ·refine U0 56 false (decide_eq_false hp) ?_;refine F0 7 (some 57) (by kernel_rfl) (by kernel_rfl) (by kernel_rfl) hcl (fun _ _ _ h=>h) (by kernel_rfl) ?_;refine F0 8 (some 58) (by kernel_rfl) (by kernel_rfl) (by kernel_rfl) hcl (fun _ _ _ h=>h) (by kernel_rfl) ?_;refine F0 9 (some 59) (by kernel_rfl) (by kernel_rfl) (by kernel_rfl) hcl (fun _ _ _ h=>h) (by kernel_rfl) ?_;refine F0 10 (some 60) (by kernel_rfl) (by kernel_rfl) (by kernel_rfl) hcl (fun _ _ _ h=>h) (by kernel_rfl) ?_;refine F0 11 (some 61) (by kernel_rfl) (by kernel_rfl) (by kernel_rfl) hcl (fun _ _ _ h=>h) (by kernel_rfl) ?_;refine F0 12 (some 62) (by kernel_rfl) (by kernel_rfl) (by kernel_rfl) hcl (fun _ _ _ h=>h) (by kernel_rfl) ?_;refine F0 13 (some 63) (by kernel_rfl) (by kernel_rfl) (by kernel_rfl) hcl (fun _ _ _ h=>h) (by kernel_rfl) ?_;refine F0 14 (some 64) (by kernel_rfl) (by kernel_rfl) (by kernel_rfl) hcl (fun _ _ _ h=>h) (by kernel_rfl) ?_;refine F0 15 (some 65) (by kernel_rfl) (by kernel_rfl) (by kernel_rfl) hcl (fun _ _ _ h=>h) (by kernel_rfl) ?_;refine F0 16 (some 66) (by kernel_rfl) (by kernel_rfl) (by kernel_rfl) hcl (fun _ _ _ h=>h) (by kernel_rfl) ?_;refine F0 17 (some 67) (by kernel_rfl) (by kernel_rfl) (by kernel_rfl) hcl (fun _ _ _ h=>h) (by kernel_rfl) ?_;refine F0 18 (some 68) (by kernel_rfl) (by kernel_rfl) (by kernel_rfl) hcl (fun _ _ _ h=>h) (by kernel_rfl) ?_;refine N0 19 (some 69) (by kernel_rfl) (by kernel_rfl) (by kernel_rfl) hcl (fun _ _ _ h=>h) (by kernel_rfl) ?_;refine N0 20 (some 70) (by kernel_rfl) (by kernel_rfl) (by kernel_rfl) hcl (fun _ _ _ h=>h) (by kernel_rfl) ?_;refine DA.tP 21 (some 71) (vB false) (DA.dn ?_);cases h;exact fun a w hs=>(jsN (hs.sb 1))
  ·clear hx;rcases Y0 h with ⟨hp,h⟩ | ⟨hp,h⟩
   ·refine D0 71 true hp (I0 (B0 ?_));refine Q0 [0,1,2,3,4,5,6,7,8,9,10,11] [0,1,3,7,15,31,0,64,192,448,960,1984,4095,8191,16383] 15 (fun hcl=>?_);refine C0 0 (some 72) (vP x29) ?_;obtain ⟨q39,hx,hq39⟩:=bind_some h;subst hx;have h:=hq39;refine C0 1 (some 73) (vP (some q39)) (C0 2 (some 74) (vP (some (Addr.add q39 2))) ?_);obtain ⟨x40,hx,h⟩:=bind_some h;refine E0 3 (some 75) (Sl3.v x40) (Abs.det_load (t:=27) (x:=.tmp 74) (a:=(Addr.add q39 2)) (by kernel_rfl) (by kernel_rfl) (by kernel_rfl) (by kernel_rfl) (X0 hx A1)) ?_;obtain ⟨p41,hx,h⟩:=bind_some h;refine E0 4 (some 76) (vP (some p41)) (Abs.det_idx (s:=x40) (k:=.i64) (t:=27) (e:=3) (x:=.tmp 75) (y:=.const (vI .i64 0)) (by kernel_rfl) (by kernel_rfl) (by kernel_rfl) (by kernel_rfl) (by kernel_rfl) hx) ?_;obtain ⟨x42,hx,h⟩:=bind_some h;refine E0 5 (some 77) (vI .i64 x42) (Abs.det_load (t:=3) (x:=.tmp 76) (a:=p41) (by kernel_rfl) (by kernel_rfl) (by kernel_rfl) (by kernel_rfl) (X0 hx Z0)) (C0 6 (some 78) (vP (some q39)) (C0 7 (some 79) (vP (some q39)) (C0 8 (some 80) (vP (some (Addr.add q39 2))) ?_)));obtain ⟨x43,hx,h⟩:=bind_some h;refine E0 9 (some 81) (Sl3.v x43) (Abs.det_load (t:=27) (x:=.tmp 80) (a:=(Addr.add q39 2)) (by kernel_rfl) (by kernel_rfl) (by kernel_rfl) (by kernel_rfl) (X0 hx A1)) ?_;obtain ⟨p44,hx,h⟩:=bind_some h;refine E0 10 (some 82) (vP (some p44)) (Abs.det_idx (s:=x43) (k:=.i64) (t:=27) (e:=3) (x:=.tmp 81) (y:=.const (vI .i64 1)) (by kernel_rfl) (by kernel_rfl) (by kernel_rfl) (by kernel_rfl) (by kernel_rfl) hx) ?_;obtain ⟨x45,hx,h⟩:=bind_some h;refine E0 11 (some 83) (vI .i64 x45) (Abs.det_load (t:=3) (x:=.tmp 82) (a:=p44) (by kernel_rfl) (by kernel_rfl) (by kernel_rfl) (by kernel_rfl) (X0 hx Z0)) (DA.tP 12 (some 84) (vA #[(vI .i64 x42),(vI .i64 x45),(vI .i64 0),(vB false)]) (DA.on 13 (DA.aL 13 none (.val undef) ([some (91,[(vI .i64 x42),(vI .i64 x45),(vI .i64 0),(vB false)])]) false (DA.tP 14 (some 3) (vB true) (DA.dn (A0 (G0 ?_)))))));cases h;exact fun a w hs=>bkR (sqR (lsR rfl (rS hs)))
   ·refine D0 71 false (b_not hp) (J0 (K0 ?_));refine fun a w hs=>bkN ((A0 ?_ a w hs));refine WS.rg (u0 2 [kI 45 (IntKind.i64.wrap (v45_23+1)),kI 85 (IntKind.i64.wrap (v45_23+1))] (RS.dn ?_));cases h;exact fun a w hs=>lsN rfl (hs.sb 1)
 ·refine D0 46 false (decide_eq_false hp) (J0 (WS.ex 2 ?_));cases h;exact fun a w hs=>sqE (lsB rfl (hs.sb 1))
theorem o7 {L:LC} {m:Nat} {H:AH} {a0:Option Addr} {r:(Int×Int×Int×Bool×Bool)} (h:X1 L H a0=some r) :
  CallS Tryd.prog (NE.plain 1000) m 44 #[(vP a0)] H (W4 r) (C5 H r):=by
 refine CallS.mk (args:=[(vP a0)]) Tryd.func44 (B:=B44) (by kernel_rfl) (fun E _=>?_);unfold X1 at h;refine B0 (WS.rg (V0 2 [kB 3 false,kL 2 0 0] ([some (91,[(vI .i64 0),(vI .i64 0),(vI .i64 0),(vB false)])]) (RS.dn (A0 (B0 (B0 (WS.rg (u0 1 [(8,.val (vP a0))] ?_))))))));obtain ⟨q1,hx,hq1⟩:=bind_some h;subst hx;have h:=hq1;refine u0 2 [(10,.val (vP (some (Addr.add q1 2)))),kP 9 q1] ?_;obtain ⟨x2,hx,h⟩:=bind_some h;refine P0 11 59 (.tmp 10) (X0 hx A1) (u0 2 [kI 13 0,kI 12 (x2.n:Int)] (RS.dn (A0 (M0 0 ?_))));obtain ⟨o,hl,h⟩:=bind_some h;rcases o with ⟨v13_17,w0_18,w0_19,w0_20,w0_21⟩ | r
 ·try dsimp only at h
  refine S0 (R6 (L:=L) (E:=E) (m:=m) (H:=H)) (L.ok hl) 1 ?_;clear hl;refine fun a w hs=>bkE ((A0 ?_ a w hs));refine B0 (B0 (WS.rg (u0 3 [(42,.val (vP (some (Addr.add q1 5)))),kP 41 q1,kP 40 q1] ?_)));obtain ⟨x22,hx,h⟩:=bind_some h;refine P0 43 60 (.tmp 42) (X0 hx A1) (u0 2 [kI 45 0,kI 44 (x22.n:Int)] (RS.dn (A0 (M0 2 ?_))));obtain ⟨o,hl,h⟩:=bind_some h;rcases o with ⟨v45_46,w0_47,w0_48,w0_49,w0_50⟩ | r
  ·try dsimp only at h
   refine S0 (O6 (L:=L) (E:=E) (m:=m) (H:=H)) (L.ok hl) 1 ?_;clear hl;refine fun a w hs=>bkE ((A0 ?_ a w hs));refine B0 (WS.rg (V0 3 [kB 3 false,kA 86 #[(vI .i64 0),(vI .i64 0),(vI .i64 0),(vB false)]] ([some (91,[(vI .i64 0),(vI .i64 0),(vI .i64 0),(vB false)])]) (RS.dn (A0 (G0 ?_)))));cases h;exact fun a w hs=>rtR (rS hs)
  ·try dsimp only at h
   refine R0 (O6 (L:=L) (E:=E) (m:=m) (H:=H)) (L.ok hl) 1 ?_;cases h;exact fun a w hq=>bkR (sqR (rtR hq))
 ·try dsimp only at h
  refine R0 (R6 (L:=L) (E:=E) (m:=m) (H:=H)) (L.ok hl) 1 ?_;cases h;exact fun a w hq=>bkR (sqR (rtR hq))
def z47:Bool→Value
 | r0=>(vB r0)
def z4h (H:AH):Bool→AH:=fun _=>H
noncomputable def B22:Code:=(Tryd.f22.body).getD .skip
noncomputable def O3 (L:LC) (H:AH) (a0:Option Addr):Option Bool :=
 (K2 L H a0).bind fun x1 => if x1=true then
  (X1 L H a0).bind fun (_,_,_,_,x3) => some (!x3)
 else
  some false
theorem R9 {L:LC} {m:Nat} {H:AH} {a0:Option Addr} {r:Bool} (h:O3 L H a0=some r) :
  CallS Tryd.prog (NE.plain 1000) m 22 #[(vP a0)] H (z47 r) (z4h H r):=by
 refine CallS.mk (args:=[(vP a0)]) Tryd.func22 (B:=B22) (by kernel_rfl) (fun E _=>?_);unfold O3 at h;refine B0 (WS.rg (u0 1 [kB 2 false] (RS.dn (A0 (B0 (B0 (WS.rg (u0 1 [(5,.val (vP a0))] ?_))))))));obtain ⟨x1,hx,h⟩:=bind_some h;refine RS.cl (some 6) (v:=(vB x1)) 38 _ (G3 hx) (u0 1 [kB 7 (!x1)] (RS.dn (A0 ?_)));rcases Y0 h with ⟨hp,h⟩ | ⟨hp,h⟩
 ·refine D0 7 false (nb_not hp) (J0 (K0 (A0 (B0 (WS.rg (u0 1 [(9,.val (vP a0))] ?_))))));obtain ⟨⟨x2_0,x2_1,x2_2,x2_3,x3⟩,hx,h⟩:=bind_some h;try dsimp only at h
  refine RS.cl (some 10) (v:=(Value.tuple #[(vA #[(vI .i64 x2_0),(vI .i64 x2_1),(vI .i64 x2_2),(vB x2_3)]),(vB x3)])) 44 _ (o7 hx) (V0 6 [kB 4 x3,kL 3 0 0,kB 12 x3,kA 11 #[(vI .i64 x2_0),(vI .i64 x2_1),(vI .i64 x2_2),(vB x2_3)],(8,.val (Value.tuple #[(vA #[(vI .i64 x2_0),(vI .i64 x2_1),(vI .i64 x2_2),(vB x2_3)]),(vB x3)]))] ([some (91,[(vI .i64 x2_0),(vI .i64 x2_1),(vI .i64 x2_2),(vB x2_3)])]) (RS.dn (A0 (B0 (WS.rg (u0 3 [kB 2 (!x3),kB 14 (!x3),kB 13 x3] (RS.dn (A0 (G0 ?_)))))))));cases h;exact fun a w hs=>rtR (rS hs)
 ·refine D0 7 true (D3 hp) (I0 (B0 (WS.rg (u0 1 [kB 2 false] (RS.dn (A0 (G0 ?_)))))));cases h;exact fun a w hs=>sqR (rtR (rS hs))
def z4j:Bool→Value
 | r0=>(vB r0)
def z6m (H:AH):Bool→AH:=fun _=>H
noncomputable def B35:Code:=(Tryd.f35.body).getD .skip
noncomputable def T6 (_L:LC) (H:AH) (a0 a1:Sl3):Int→Option (Lp Int Bool):=fun v5_1 =>
 if v5_1<(a0.n:Int) then
  (idxA 1 a0 v5_1).bind fun p2 => (rd (deI .i64) H p2).bind fun x3 => (idxA 1 a1 v5_1).bind fun p4 => (rd (deI .i64) H p4).bind fun x5 => if x3=x5 then
   some (.next (IntKind.i64.wrap (v5_1+1)))
  else
   some (.ret false)
 else
  some (.brk v5_1)
def z93 (_L:LC) (_H:AH) (a0 a1:Sl3):Int→KN×Lcs:=fun v5_1=>([kI 5 v5_1,kS 0 a0,kS 1 a1],[])
noncomputable def ze (L:LC) (H:AH) (a0 a1:Sl3):Option Bool :=
 if (a0.n:Int)=(a1.n:Int) then
  (L.run (T6 L H a0 a1) 0).bind fun o=>match o with
  | .inl _ =>
   some true
  | .inr r=>some r
 else
  some false
theorem z2x {E m L H a0 a1} :LoopF Tryd.prog (NE.plain 1000) m E Tryd.f35 ((cfst (csnd (cfst (csnd (csnd B35)))))) (z93 L H a0 a1) (fun _=>H) 0 z4j (z6m H) (T6 L H a0 a1):=by
 rintro v5_1 o h
 unfold T6 at h;try dsimp only at h
 refine B0 (B0 (WS.rg (u0 4 [kB 14 (decide (v5_1<(a0.n:Int))),kI 13 (a0.n:Int),kS 12 a0,kI 11 v5_1] (RS.dn (A0 ?_)))));rcases Y0 h with ⟨hp,h⟩ | ⟨hp,h⟩
 ·refine D0 14 true (decide_eq_true hp) (I0 (K0 (A0 (B0 (M0 1 (B0 ?_))))));refine Q0 [0,1,2,3,4,5,6,7] [0,0,3,7,0,0,48,112,255] 9 (fun hcl=>?_);refine C0 0 (some 17) (Sl3.v a0) (C0 1 (some 18) (vI .i64 v5_1) ?_);obtain ⟨p2,hx,h⟩:=bind_some h;refine E0 2 (some 19) (vP (some p2)) (Abs.det_idx (s:=a0) (k:=.i64) (t:=27) (e:=3) (x:=.tmp 17) (y:=.tmp 18) (by kernel_rfl) (by kernel_rfl) (by kernel_rfl) (by kernel_rfl) (by kernel_rfl) hx) ?_;obtain ⟨x3,hx,h⟩:=bind_some h;refine E0 3 (some 20) (vI .i64 x3) (Abs.det_load (t:=3) (x:=.tmp 19) (a:=p2) (by kernel_rfl) (by kernel_rfl) (by kernel_rfl) (by kernel_rfl) (X0 hx Z0)) (C0 4 (some 21) (Sl3.v a1) (C0 5 (some 22) (vI .i64 v5_1) ?_));obtain ⟨p4,hx,h⟩:=bind_some h;refine E0 6 (some 23) (vP (some p4)) (Abs.det_idx (s:=a1) (k:=.i64) (t:=27) (e:=3) (x:=.tmp 21) (y:=.tmp 22) (by kernel_rfl) (by kernel_rfl) (by kernel_rfl) (by kernel_rfl) (by kernel_rfl) hx) ?_;obtain ⟨x5,hx,h⟩:=bind_some h;refine E0 7 (some 24) (vI .i64 x5) (Abs.det_load (t:=3) (x:=.tmp 23) (a:=p4) (by kernel_rfl) (by kernel_rfl) (by kernel_rfl) (by kernel_rfl) (X0 hx Z0)) (DA.tP 8 (some 25) (vB (!decide (x3=x5))) (DA.dn (A0 ?_)));rcases Y0 h with ⟨hp,h⟩ | ⟨hp,h⟩
  ·refine D0 25 false (U7 hp) (J0 (K0 ?_));refine fun a w hs=>bkN ((A0 ?_ a w hs));refine WS.rg (u0 3 [kI 5 (IntKind.i64.wrap (v5_1+1)),kI 16 (IntKind.i64.wrap (v5_1+1)),kI 15 v5_1] (RS.dn ?_));cases h;exact fun a w hs=>lsN rfl (hs.sb 0)
  ·refine D0 25 true (Z6 hp) (I0 (B0 (WS.rg (u0 1 [kB 4 false] (RS.dn (A0 (G0 ?_)))))));cases h;exact fun a w hs=>bkR (sqR (lsR rfl (rS hs)))
 ·refine D0 14 false (decide_eq_false hp) (J0 (WS.ex 0 ?_));cases h;exact fun a w hs=>sqE (lsB rfl (hs.sb 0))
theorem zcf {L:LC} {m:Nat} {H:AH} {a0 a1:Sl3} {r:Bool} (h:ze L H a0 a1=some r) :
  CallS Tryd.prog (NE.plain 1000) m 35 #[(Sl3.v a0),(Sl3.v a1)] H (z4j r) (z6m H r):=by
 refine CallS.mk (args:=[(Sl3.v a0),(Sl3.v a1)]) Tryd.func35 (B:=B35) (by kernel_rfl) (fun E _=>?_);unfold ze at h;refine B0 (WS.rg (u0 1 [kB 4 false] (RS.dn (A0 (B0 (B0 (WS.rg (u0 5 [kB 10 (!decide ((a0.n:Int)=(a1.n:Int))),kI 9 (a1.n:Int),kS 8 a1,kI 7 (a0.n:Int),kS 6 a0] (RS.dn ?_)))))))));refine A0 ?_;rcases Y0 h with ⟨hp,h⟩ | ⟨hp,h⟩
 ·refine D0 10 false (U7 hp) (J0 (K0 (A0 (B0 (B0 (WS.rg (u0 1 [kI 5 0] (RS.dn (A0 ?_)))))))));refine M0 0 ?_;obtain ⟨o,hl,h⟩:=bind_some h;rcases o with v5_6 | r
  ·try dsimp only at h
   refine S0 (z2x (L:=L) (E:=E) (m:=m) (H:=H)) (L.ok hl) 0 ?_;clear hl;refine fun a w hs=>bkE ((A0 ?_ a w hs));refine B0 (WS.rg (u0 1 [kB 4 true] (RS.dn (A0 (G0 ?_)))));cases h;exact fun a w hs=>rtR (rS hs)
  ·try dsimp only at h
   refine R0 (z2x (L:=L) (E:=E) (m:=m) (H:=H)) (L.ok hl) 0 ?_;cases h;exact fun a w hq=>bkR (sqR (rtR hq))
 ·refine D0 10 true (Z6 hp) (I0 (B0 (WS.rg (u0 1 [kB 4 false] (RS.dn (A0 (G0 ?_)))))));cases h;exact fun a w hs=>sqR (rtR (rS hs))
def za4:(Bool×AH)→Value
 | (r0,_)=>(vB r0)
def zaw (_:AH):(Bool×AH)→AH:=fun r=>r.2
noncomputable def B13:Code:=(Tryd.f13.body).getD .skip
noncomputable def C9 (L:LC) (m:Nat) (H:AH):Option (Bool×AH) :=
 (zo L m H).bind fun (x1,H2) => match x1 with
 | none =>
  some (false,H2)
 | some q3 =>
  (S2 L m H2 (some q3) 1 Sl3.nil).bind fun (_,_,H6) => (S2 L m H6 (some q3) 2 Sl3.nil).bind fun (_,_,H9) => (newR 3 1 #[(vI .i64 0)] H9).bind fun (s10,H11) => (S2 L m H11 (some q3) 3 s10).bind fun (_,_,H14) => (newR 3 1 #[(vI .i64 1)] H14).bind fun (s15,H16) => (S2 L m H16 (some q3) 3 s15).bind fun (x17,x18,H19) => (P4 L m H19 (some q3) 0 1 7).bind fun (x20,H21) => (K3 L H21 (some q3) 3).bind fun (x22,x23) => (F3 L m H21 (some q3) 2 3).bind fun (x24,x25,H26) => (M4 L m H26 (some q3) 3 2 9).bind fun (x27,H28) => if x18=0 then
   if x20=0 then
    if x27=0 then
     if x17=3 then
      if x23=true then
       if x22=2 then
        if x25=true then
         (newR 3 1 #[(vI .i64 7)] H28).bind fun (s29,H30) => (ze L H30 x24 s29).bind fun x31 => if x31=true then
          (O3 L H30 (some q3)).bind fun x32 => some ((!x32),H30)
         else
          some (false,H30)
        else
         some (false,H28)
       else
        some (false,H28)
      else
       some (false,H28)
     else
      some (false,H28)
    else
     some (false,H28)
   else
    some (false,H28)
  else
   some (false,H28)
theorem zbb {L:LC} {m:Nat} {H:AH} {r:(Bool×AH)} (h:C9 L m H=some r) :
  CallS Tryd.prog (NE.plain 1000) m 13 #[] H (za4 r) (zaw H r):=by
 refine CallS.mk (args:=[]) Tryd.func13 (B:=B13) (by kernel_rfl) (fun E _=>?_);unfold C9 at h;refine B0 (WS.rg (u0 1 [kB 0 false] (RS.dn (A0 (B0 (WS.rg ?_))))));obtain ⟨⟨x1,H2⟩,hx,h⟩:=bind_some h;try dsimp only at h
 refine RS.cl (some 10) (v:=(vP x1)) 16 _ (z6k hx) (u0 1 [(1,.val (vP x1))] (RS.dn (A0 (B0 (B0 (WS.rg (u0 1 [(11,.val (vP x1))] ?_)))))));rcases x1 with _ | q3
 ·try dsimp only at h
  refine u0 1 [kB 12 true] (RS.dn (A0 (I0 (B0 (WS.rg (u0 1 [kB 0 false] (RS.dn (A0 (G0 ?_)))))))));cases h;exact fun a w hs=>sqR (rtR (rS hs))
 ·try dsimp only at h
  refine u0 1 [kB 12 false] (RS.dn (A0 (J0 (K0 (A0 (B0 (WS.rg (u0 1 [kP 13 q3] ?_))))))));obtain ⟨⟨x4,x5,H6⟩,hx,h⟩:=bind_some h;try dsimp only at h
  refine RS.cl (some 14) (v:=(Value.tuple #[(vI .i64 x4),(vI .i64 x5)])) 18 _ (D5 hx) (RS.dn (A0 (B0 (WS.rg (u0 1 [kP 15 q3] ?_)))));obtain ⟨⟨x7,x8,H9⟩,hx,h⟩:=bind_some h;try dsimp only at h
  refine RS.cl (some 16) (v:=(Value.tuple #[(vI .i64 x7),(vI .i64 x8)])) 18 _ (D5 hx) (RS.dn (A0 (B0 (WS.rg (u0 1 [kP 17 q3] ?_)))));obtain ⟨⟨s10,H11⟩,hx,h⟩:=bind_some h;try dsimp only at h
  refine RS.o (H':=H11) (some 18) (Sl3.v s10) (Abs.run_newR (by kernel_rfl) (by kernel_rfl) hx) ?_;obtain ⟨⟨x12,x13,H14⟩,hx,h⟩:=bind_some h;try dsimp only at h
  refine RS.cl (some 19) (v:=(Value.tuple #[(vI .i64 x12),(vI .i64 x13)])) 18 _ (D5 hx) (RS.dn (A0 (B0 (WS.rg (u0 1 [kP 21 q3] ?_)))));obtain ⟨⟨s15,H16⟩,hx,h⟩:=bind_some h;try dsimp only at h
  refine RS.o (H':=H16) (some 22) (Sl3.v s15) (Abs.run_newR (by kernel_rfl) (by kernel_rfl) hx) ?_;obtain ⟨⟨x17,x18,H19⟩,hx,h⟩:=bind_some h;try dsimp only at h
  refine RS.cl (some 23) (v:=(Value.tuple #[(vI .i64 x17),(vI .i64 x18)])) 18 _ (D5 hx) (u0 5 [kI 3 x18,kI 2 x17,kI 25 x18,kI 24 x17,(20,.val (Value.tuple #[(vI .i64 x17),(vI .i64 x18)]))] (RS.dn (A0 (B0 (WS.rg (u0 1 [kP 26 q3] ?_))))));obtain ⟨⟨x20,H21⟩,hx,h⟩:=bind_some h;try dsimp only at h
  refine RS.cl (some 27) (v:=(vI .i64 x20)) 20 _ (T9 hx) (u0 1 [kI 4 x20] (RS.dn (A0 (B0 (WS.rg (u0 1 [kP 29 q3] ?_))))));obtain ⟨⟨x22,x23⟩,hx,h⟩:=bind_some h;try dsimp only at h
  refine RS.cl (some 30) (v:=(Value.tuple #[(vI .i64 x22),(vB x23)])) 14 _ (zx hx) (u0 5 [kB 6 x23,kI 5 x22,kB 32 x23,kI 31 x22,(28,.val (Value.tuple #[(vI .i64 x22),(vB x23)]))] (RS.dn (A0 (B0 (WS.rg (u0 1 [kP 34 q3] ?_))))));obtain ⟨⟨x24,x25,H26⟩,hx,h⟩:=bind_some h;try dsimp only at h
  refine RS.cl (some 35) (v:=(Value.tuple #[(Sl3.v x24),(vB x25)])) 11 _ (z16 hx) (u0 5 [kB 8 x25,kS 7 x24,kB 37 x25,kS 36 x24,(33,.val (Value.tuple #[(Sl3.v x24),(vB x25)]))] (RS.dn (A0 (B0 (WS.rg (u0 1 [kP 38 q3] ?_))))));obtain ⟨⟨x27,H28⟩,hx,h⟩:=bind_some h;try dsimp only at h
  refine RS.cl (some 39) (v:=(vI .i64 x27)) 19 _ (U9 hx) (u0 1 [kI 9 x27] (RS.dn (A0 (B0 (WS.rg (u0 3 [kB 42 (decide (x18=0)),kB 41 (decide (x18=0)),kI 40 x18] ?_))))));rcases Y0 h with ⟨hp,h⟩ | ⟨hp,h⟩
  ·refine O0 42 true (decide_eq_true hp) (u0 4 [kB 46 (decide (x20=0)),kB 45 (decide (x20=0)),kB 44 (decide (x20=0)),kI 43 x20] ?_);rcases Y0 h with ⟨hp,h⟩ | ⟨hp,h⟩
   ·refine O0 46 true (decide_eq_true hp) (u0 4 [kB 50 (decide (x27=0)),kB 49 (decide (x27=0)),kB 48 (decide (x27=0)),kI 47 x27] ?_);rcases Y0 h with ⟨hp,h⟩ | ⟨hp,h⟩
    ·refine O0 50 true (decide_eq_true hp) (u0 4 [kB 54 (decide (x17=3)),kB 53 (decide (x17=3)),kB 52 (decide (x17=3)),kI 51 x17] ?_);rcases Y0 h with ⟨hp,h⟩ | ⟨hp,h⟩
     ·refine O0 54 true (decide_eq_true hp) (u0 3 [kB 57 x23,kB 56 x23,kB 55 x23] ?_);rcases Y0 h with ⟨hp,h⟩ | ⟨hp,h⟩
      ·refine O0 57 true hp (u0 4 [kB 61 (decide (x22=2)),kB 60 (decide (x22=2)),kB 59 (decide (x22=2)),kI 58 x22] ?_);rcases Y0 h with ⟨hp,h⟩ | ⟨hp,h⟩
       ·refine O0 61 true (decide_eq_true hp) (u0 3 [kB 64 x25,kB 63 x25,kB 62 x25] ?_);rcases Y0 h with ⟨hp,h⟩ | ⟨hp,h⟩
        ·refine O0 64 true hp (u0 1 [kS 65 x24] ?_);obtain ⟨⟨s29,H30⟩,hx,h⟩:=bind_some h;try dsimp only at h
         refine RS.o (H':=H30) (some 66) (Sl3.v s29) (Abs.run_newR (by kernel_rfl) (by kernel_rfl) hx) ?_;obtain ⟨x31,hx,h⟩:=bind_some h;refine RS.cl (some 67) (v:=(vB x31)) 35 _ (zcf hx) (u0 2 [kB 69 x31,kB 68 x31] ?_);rcases Y0 h with ⟨hp,h⟩ | ⟨hp,h⟩
         ·refine O0 69 true hp (u0 1 [kP 70 q3] ?_);obtain ⟨x32,hx,h⟩:=bind_some h;refine RS.cl (some 71) (v:=(vB x32)) 22 _ (R9 hx) (u0 3 [kB 0 (!x32),kB 73 (!x32),kB 72 (!x32)] (RS.dn (A0 (G0 ?_))));cases h;exact fun a w hs=>rtR (rS hs)
         ·refine O0 69 false (b_not hp) (u0 5 [kB 0 false,kB 73 false,kU 72,kU 71,kU 70] (RS.dn (A0 (G0 ?_))));cases h;exact fun a w hs=>rtR (rS hs)
        ·refine O0 64 false (b_not hp) (u0 10 [kB 0 false,kB 73 false,kU 72,kU 71,kU 70,kB 69 false,kB 68 false,kU 67,kU 66,kU 65] (RS.dn (A0 (G0 ?_))));cases h;exact fun a w hs=>rtR (rS hs)
       ·refine O0 61 false (decide_eq_false hp) (u0 13 [kB 0 false,kB 73 false,kU 72,kU 71,kU 70,kB 69 false,kB 68 false,kU 67,kU 66,kU 65,kB 64 false,kB 63 false,kU 62] (RS.dn (A0 (G0 ?_))));cases h;exact fun a w hs=>rtR (rS hs)
      ·refine O0 57 false (b_not hp) (u0 17 [kB 0 false,kB 73 false,kU 72,kU 71,kU 70,kB 69 false,kB 68 false,kU 67,kU 66,kU 65,kB 64 false,kB 63 false,kU 62,kB 61 false,kB 60 false,kU 59,kU 58] (RS.dn (A0 (G0 ?_))));cases h;exact fun a w hs=>rtR (rS hs)
     ·refine O0 54 false (decide_eq_false hp) (u0 20 [kB 0 false,kB 73 false,kU 72,kU 71,kU 70,kB 69 false,kB 68 false,kU 67,kU 66,kU 65,kB 64 false,kB 63 false,kU 62,kB 61 false,kB 60 false,kU 59,kU 58,kB 57 false,kB 56 false,kU 55] (RS.dn (A0 (G0 ?_))));cases h;exact fun a w hs=>rtR (rS hs)
    ·refine O0 50 false (decide_eq_false hp) (u0 24 [kB 0 false,kB 73 false,kU 72,kU 71,kU 70,kB 69 false,kB 68 false,kU 67,kU 66,kU 65,kB 64 false,kB 63 false,kU 62,kB 61 false,kB 60 false,kU 59,kU 58,kB 57 false,kB 56 false,kU 55,kB 54 false,kB 53 false,kU 52,kU 51] (RS.dn (A0 (G0 ?_))));cases h;exact fun a w hs=>rtR (rS hs)
   ·refine O0 46 false (decide_eq_false hp) (u0 28 [kB 0 false,kB 73 false,kU 72,kU 71,kU 70,kB 69 false,kB 68 false,kU 67,kU 66,kU 65,kB 64 false,kB 63 false,kU 62,kB 61 false,kB 60 false,kU 59,kU 58,kB 57 false,kB 56 false,kU 55,kB 54 false,kB 53 false,kU 52,kU 51,kB 50 false,kB 49 false,kU 48,kU 47] (RS.dn (A0 (G0 ?_))));cases h;exact fun a w hs=>rtR (rS hs)
  ·refine O0 42 false (decide_eq_false hp) (u0 32 [kB 0 false,kB 73 false,kU 72,kU 71,kU 70,kB 69 false,kB 68 false,kU 67,kU 66,kU 65,kB 64 false,kB 63 false,kU 62,kB 61 false,kB 60 false,kU 59,kU 58,kB 57 false,kB 56 false,kU 55,kB 54 false,kB 53 false,kU 52,kU 51,kB 50 false,kB 49 false,kU 48,kU 47,kB 46 false,kB 45 false,kU 44,kU 43] (RS.dn (A0 (G0 ?_))));cases h;exact fun a w hs=>rtR (rS hs)
def z3w:(Int×Int×AH)→Value
 | (r0,r1,_)=>(Value.tuple #[(vI .i64 r0),(vI .i64 r1)])
def z5i (_:AH):(Int×Int×AH)→AH:=fun r=>r.2.2
noncomputable def B17:Code:=(Tryd.f17.body).getD .skip
noncomputable def R5 (L:LC) (m:Nat) (H:AH) (a0:Option Addr) (a1:Int):Option (Int×Int×AH) :=
 (K2 L H a0).bind fun x1 => if x1=true then
  (P2 L m H a0 a1 Sl3.nil true).bind fun (x2,x3,H4) => some (x2,x3,H4)
 else
  some (0,4,H)
theorem z4w {L:LC} {m:Nat} {H:AH} {a0:Option Addr} {a1:Int} {r:(Int×Int×AH)} (h:R5 L m H a0 a1=some r) :
  CallS Tryd.prog (NE.plain 1000) m 17 #[(vP a0),(vI .i64 a1)] H (z3w r) (z5i H r):=by
 refine CallS.mk (args:=[(vP a0),(vI .i64 a1)]) Tryd.func17 (B:=B17) (by kernel_rfl) (fun E _=>?_);unfold R5 at h;refine B0 (WS.rg (u0 2 [kI 5 0,kI 4 0] (RS.dn (A0 (B0 (B0 (WS.rg (u0 1 [(6,.val (vP a0))] ?_))))))));obtain ⟨x1,hx,h⟩:=bind_some h;refine RS.cl (some 7) (v:=(vB x1)) 38 _ (G3 hx) (u0 1 [kB 8 (!x1)] (RS.dn (A0 ?_)));rcases Y0 h with ⟨hp,h⟩ | ⟨hp,h⟩
 ·refine D0 8 false (nb_not hp) (J0 (K0 (A0 (B0 (WS.rg (u0 3 [kA 11 #[(vI .i64 a1),(Sl3.v Sl3.nil),(vB true)],kI 10 a1,(9,.val (vP a0))] ?_))))));obtain ⟨⟨x2,x3,H4⟩,hx,h⟩:=bind_some h;try dsimp only at h
  refine RS.cl (some 12) (v:=(Value.tuple #[(vI .i64 x2),(vI .i64 x3)])) 39 _ (zy hx) (u0 4 [kI 5 x3,kI 4 x2,kI 14 x3,kI 13 x2] (RS.dn (A0 (G0 ?_))));cases h;exact fun a w hs=>rtR (rS hs)
 ·refine D0 8 true (D3 hp) (I0 (B0 (WS.rg (u0 2 [kI 5 4,kI 4 0] (RS.dn (A0 (G0 ?_)))))));cases h;exact fun a w hs=>sqR (rtR (rS hs))
def z6a:Int→Value
 | r0=>(vI .i64 r0)
def z6y (H:AH):Int→AH:=fun _=>H
noncomputable def B21:Code:=(Tryd.f21.body).getD .skip
noncomputable def J5 (L:LC) (H:AH) (a0:Option Addr):Option Int :=
 (K2 L H a0).bind fun x1 => if x1=true then
  a0.bind fun q2 => (rd deSl H (Addr.add q2 0)).bind fun x3 => some (x3.n:Int)
 else
  some 0
theorem zz {L:LC} {m:Nat} {H:AH} {a0:Option Addr} {r:Int} (h:J5 L H a0=some r) :
  CallS Tryd.prog (NE.plain 1000) m 21 #[(vP a0)] H (z6a r) (z6y H r):=by
 refine CallS.mk (args:=[(vP a0)]) Tryd.func21 (B:=B21) (by kernel_rfl) (fun E _=>?_);unfold J5 at h;refine B0 (WS.rg (u0 1 [kI 2 0] (RS.dn (A0 (B0 (B0 (WS.rg (u0 1 [(3,.val (vP a0))] ?_))))))));obtain ⟨x1,hx,h⟩:=bind_some h;refine RS.cl (some 4) (v:=(vB x1)) 38 _ (G3 hx) (u0 1 [kB 5 (!x1)] (RS.dn (A0 ?_)));rcases Y0 h with ⟨hp,h⟩ | ⟨hp,h⟩
 ·refine D0 5 false (nb_not hp) (J0 (K0 (A0 (B0 (WS.rg (u0 1 [(6,.val (vP a0))] ?_))))));obtain ⟨q2,hx,hq2⟩:=bind_some h;subst hx;have h:=hq2;refine u0 2 [(8,.val (vP (some (Addr.add q2 0)))),kP 7 q2] ?_;obtain ⟨x3,hx,h⟩:=bind_some h;refine P0 9 57 (.tmp 8) (X0 hx A1) (u0 2 [kI 2 (x3.n:Int),kI 10 (x3.n:Int)] (RS.dn (A0 (G0 ?_))));cases h;exact fun a w hs=>rtR (rS hs)
 ·refine D0 5 true (D3 hp) (I0 (B0 (WS.rg (u0 1 [kI 2 0] (RS.dn (A0 (G0 ?_)))))));cases h;exact fun a w hs=>sqR (rtR (rS hs))
def z6b:Bool→Value
 | r0=>(vB r0)
def z76 (H:AH):Bool→AH:=fun _=>H
noncomputable def B65:Code:=(Tryd.f65.body).getD .skip
noncomputable def I3 (_L:LC) (H:AH) (a0:Option Addr) (a1:Int):Option Bool :=
 if a1≥0 then
  a0.bind fun q1 => (rd deSl H (Addr.add q1 0)).bind fun x2 => some (decide (a1<(x2.n:Int)))
 else
  some false
theorem V7 {L:LC} {m:Nat} {H:AH} {a0:Option Addr} {a1:Int} {r:Bool} (h:I3 L H a0 a1=some r) :
  CallS Tryd.prog (NE.plain 1000) m 65 #[(vP a0),(vI .i64 a1)] H (z6b r) (z76 H r):=by
 refine CallS.mk (args:=[(vP a0),(vI .i64 a1)]) Tryd.func65 (B:=B65) (by kernel_rfl) (fun E _=>?_);unfold I3 at h;refine B0 (WS.rg (u0 1 [kB 4 false] (RS.dn (A0 (B0 (WS.rg (u0 3 [kB 7 (decide (a1≥0)),kB 6 (decide (a1≥0)),kI 5 a1] ?_)))))));rcases Y0 h with ⟨hp,h⟩ | ⟨hp,h⟩
 ·refine O0 7 true (decide_eq_true hp) (u0 2 [(9,.val (vP a0)),kI 8 a1] ?_);obtain ⟨q1,hx,hq1⟩:=bind_some h;subst hx;have h:=hq1;refine u0 2 [(11,.val (vP (some (Addr.add q1 0)))),kP 10 q1] ?_;obtain ⟨x2,hx,h⟩:=bind_some h;refine P0 12 29 (.tmp 11) (X0 hx A1) (u0 4 [kB 4 (decide (a1<(x2.n:Int))),kB 15 (decide (a1<(x2.n:Int))),kB 14 (decide (a1<(x2.n:Int))),kI 13 (x2.n:Int)] (RS.dn (A0 (G0 ?_))));cases h;exact fun a w hs=>rtR (rS hs)
 ·refine O0 7 false (decide_eq_false hp) (u0 9 [kB 4 false,kB 15 false,kU 14,kU 13,kU 12,kU 11,kU 10,kU 9,kU 8] (RS.dn (A0 (G0 ?_))));cases h;exact fun a w hs=>rtR (rS hs)
def z4c:Bool→Value
 | r0=>(vB r0)
def z6j (H:AH):Bool→AH:=fun _=>H
noncomputable def B77:Code:=(Tryd.f77.body).getD .skip
noncomputable def I4 (_L:LC) (H:AH) (_a0_0:Int) (_a0_1:Bool) (a0_2:Sl3) (_a1_0:Int) (_a1_1:Bool) (a1_2:Sl3):Int→Option (Lp Int Bool):=fun v5_2 =>
 if v5_2<(a0_2.n:Int) then
  (idxA 1 a0_2 v5_2).bind fun p3 => (rd (deI .i64) H p3).bind fun x4 => (idxA 1 a1_2 v5_2).bind fun p5 => (rd (deI .i64) H p5).bind fun x6 => if x4=x6 then
   some (.next (IntKind.i64.wrap (v5_2+1)))
  else
   some (.ret false)
 else
  some (.brk v5_2)
def z9r (_L:LC) (_H:AH) (a0_0:Int) (a0_1:Bool) (a0_2:Sl3) (a1_0:Int) (a1_1:Bool) (a1_2:Sl3):Int→KN×Lcs:=fun v5_2=>([kI 5 v5_2,kL 2 0 0,kL 3 1 0],[some (42,[(vI .i64 a0_0),(vB a0_1),(Sl3.v a0_2)]),some (42,[(vI .i64 a1_0),(vB a1_1),(Sl3.v a1_2)])])
noncomputable def zw (L:LC) (H:AH) (a0_0:Int) (a0_1:Bool) (a0_2:Sl3) (a1_0:Int) (a1_1:Bool) (a1_2:Sl3):Option Bool :=
 Option.bind (α:=Bool) (
  if a0_0=a1_0 then
   if (a0_1 == a1_1)=true then
    some (!decide ((a0_2.n:Int)=(a1_2.n:Int)))
   else
    some true
  else
   some true) fun v26_1 =>
 if v26_1=true then
  some false
 else
  (L.run (I4 L H a0_0 a0_1 a0_2 a1_0 a1_1 a1_2) 0).bind fun o=>match o with
  | .inl _ =>
   some true
  | .inr r=>some r
theorem z38 {E m L H a0_0 a0_1 a0_2 a1_0 a1_1 a1_2} :LoopF Tryd.prog (NE.plain 1000) m E Tryd.f77 ((cfst (csnd (cfst (csnd (csnd B77)))))) (z9r L H a0_0 a0_1 a0_2 a1_0 a1_1 a1_2) (fun _=>H) 0 z4c (z6j H) (I4 L H a0_0 a0_1 a0_2 a1_0 a1_1 a1_2):=by
 rintro v5_2 o h
 unfold I4 at h;try dsimp only at h
 refine B0 (B0 (WS.rg (u0 5 [kB 31 (decide (v5_2<(a0_2.n:Int))),kI 30 (a0_2.n:Int),kS 29 a0_2,kL 28 0 2,kI 27 v5_2] (RS.dn (A0 ?_)))));rcases Y0 h with ⟨hp,h⟩ | ⟨hp,h⟩
 ·refine D0 31 true (decide_eq_true hp) (I0 (K0 (A0 (B0 (M0 1 (B0 ?_))))));refine Q0 [0,1,2,3,4,5,6,7,8,9] [0,1,0,7,15,0,32,0,224,480,1023] 11 (fun hcl=>?_);refine DA.tL 0 (some 34) (.loc 0 2) (DA.tL 1 (some 35) (.val (Sl3.v a0_2)) (C0 2 (some 36) (vI .i64 v5_2) ?_));obtain ⟨p3,hx,h⟩:=bind_some h;refine E0 3 (some 37) (vP (some p3)) (Abs.det_idx (s:=a0_2) (k:=.i64) (t:=27) (e:=3) (x:=.tmp 35) (y:=.tmp 36) (by kernel_rfl) (by kernel_rfl) (by kernel_rfl) (by kernel_rfl) (by kernel_rfl) hx) ?_;obtain ⟨x4,hx,h⟩:=bind_some h;refine E0 4 (some 38) (vI .i64 x4) (Abs.det_load (t:=3) (x:=.tmp 37) (a:=p3) (by kernel_rfl) (by kernel_rfl) (by kernel_rfl) (by kernel_rfl) (X0 hx Z0)) (DA.tL 5 (some 39) (.loc 1 2) (DA.tL 6 (some 40) (.val (Sl3.v a1_2)) (C0 7 (some 41) (vI .i64 v5_2) ?_)));obtain ⟨p5,hx,h⟩:=bind_some h;refine E0 8 (some 42) (vP (some p5)) (Abs.det_idx (s:=a1_2) (k:=.i64) (t:=27) (e:=3) (x:=.tmp 40) (y:=.tmp 41) (by kernel_rfl) (by kernel_rfl) (by kernel_rfl) (by kernel_rfl) (by kernel_rfl) hx) ?_;obtain ⟨x6,hx,h⟩:=bind_some h;refine E0 9 (some 43) (vI .i64 x6) (Abs.det_load (t:=3) (x:=.tmp 42) (a:=p5) (by kernel_rfl) (by kernel_rfl) (by kernel_rfl) (by kernel_rfl) (X0 hx Z0)) (DA.tP 10 (some 44) (vB (!decide (x4=x6))) (DA.dn (A0 ?_)));rcases Y0 h with ⟨hp,h⟩ | ⟨hp,h⟩
  ·refine D0 44 false (U7 hp) (J0 (K0 ?_));refine fun a w hs=>bkN ((A0 ?_ a w hs));refine WS.rg (u0 3 [kI 5 (IntKind.i64.wrap (v5_2+1)),kI 33 (IntKind.i64.wrap (v5_2+1)),kI 32 v5_2] (RS.dn ?_));cases h;exact fun a w hs=>lsN rfl (hs.sb 2)
  ·refine D0 44 true (Z6 hp) (I0 (B0 (WS.rg (u0 1 [kB 4 false] (RS.dn (A0 (G0 ?_)))))));cases h;exact fun a w hs=>bkR (sqR (lsR rfl (rS hs)))
 ·refine D0 31 false (decide_eq_false hp) (J0 (WS.ex 0 ?_));cases h;exact fun a w hs=>sqE (lsB rfl (hs.sb 2))
theorem zcp {L:LC} {m:Nat} {H:AH} {a0_0:Int} {a0_1:Bool} {a0_2:Sl3} {a1_0:Int} {a1_1:Bool} {a1_2:Sl3} {r:Bool} (h:zw L H a0_0 a0_1 a0_2 a1_0 a1_1 a1_2=some r) :
  CallS Tryd.prog (NE.plain 1000) m 77 #[(vA #[(vI .i64 a0_0),(vB a0_1),(Sl3.v a0_2)]),(vA #[(vI .i64 a1_0),(vB a1_1),(Sl3.v a1_2)])] H (z4c r) (z6j H r):=by
 refine CallS.mk (args:=[(vA #[(vI .i64 a0_0),(vB a0_1),(Sl3.v a0_2)]),(vA #[(vI .i64 a1_0),(vB a1_1),(Sl3.v a1_2)])]) Tryd.func77 (B:=B77) (by kernel_rfl) (fun E _=>?_);unfold zw at h;refine B0 (WS.rg (V0 3 [kB 4 false,kL 3 1 0,kL 2 0 0] ([some (42,[(vI .i64 a0_0),(vB a0_1),(Sl3.v a0_2)]),some (42,[(vI .i64 a1_0),(vB a1_1),(Sl3.v a1_2)])]) (RS.dn (A0 (B0 ?_)))));obtain ⟨v26_1,hx,h⟩:=bind_some h;refine B0 ?_;refine WS.join ([kB 26 v26_1,kL 2 0 0,kL 3 1 0]) ([some (42,[(vI .i64 a0_0),(vB a0_1),(Sl3.v a0_2)]),some (42,[(vI .i64 a1_0),(vB a1_1),(Sl3.v a1_2)])]) H ?_ (fun a w hs=>A0 ?_ a w hs)
 ·clear h; rename _=>h;refine WS.rg (u0 6 [kB 11 (!decide (a0_0=a1_0)),kB 10 (!decide (a0_0=a1_0)),kI 9 a1_0,kL 8 1 0,kI 7 a0_0,kL 6 0 0] ?_);rcases Y0 h with ⟨hp,h⟩ | ⟨hp,h⟩
  ·refine O0 11 false (U7 hp) (u0 7 [kB 18 (!(a0_1 == a1_1)),kB 17 (!(a0_1 == a1_1)),kB 16 (!(a0_1 == a1_1)),kB 15 a1_1,kL 14 1 1,kB 13 a0_1,kL 12 0 1] ?_);rcases Y0 h with ⟨hp,h⟩ | ⟨hp,h⟩
   ·refine O0 18 false (nb_not hp) (u0 8 [kB 26 (!decide ((a0_2.n:Int)=(a1_2.n:Int))),kB 25 (!decide ((a0_2.n:Int)=(a1_2.n:Int))),kI 24 (a1_2.n:Int),kS 23 a1_2,kL 22 1 2,kI 21 (a0_2.n:Int),kS 20 a0_2,kL 19 0 2] (RS.dn ?_));cases h;exact fun a w hs=>(jsN (hs.sb 2))
   ·refine O0 18 true (D3 hp) (u0 8 [kB 26 true,kU 25,kU 24,kU 23,kU 22,kU 21,kU 20,kU 19] (RS.dn ?_));cases h;exact fun a w hs=>(jsN (hs.sb 2))
  ·refine O0 11 true (Z6 hp) (u0 15 [kB 26 true,kU 25,kU 24,kU 23,kU 22,kU 21,kU 20,kU 19,kB 18 true,kB 17 true,kU 16,kU 15,kU 14,kU 13,kU 12] (RS.dn ?_));cases h;exact fun a w hs=>(jsN (hs.sb 2))
 ·clear hx;rcases Y0 h with ⟨hp,h⟩ | ⟨hp,h⟩
  ·refine D0 26 true hp (I0 (B0 (WS.rg (u0 1 [kB 4 false] (RS.dn (A0 (G0 ?_)))))));cases h;exact fun a w hs=>sqR (rtR (rS hs))
  ·refine D0 26 false (b_not hp) (J0 (K0 (A0 (B0 (B0 (WS.rg (u0 1 [kI 5 0] (RS.dn (A0 ?_)))))))));refine M0 0 ?_;obtain ⟨o,hl,h⟩:=bind_some h;rcases o with v5_7 | r
   ·try dsimp only at h
    refine S0 (z38 (L:=L) (E:=E) (m:=m) (H:=H)) (L.ok hl) 2 ?_;clear hl;refine fun a w hs=>bkE ((A0 ?_ a w hs));refine B0 (WS.rg (u0 1 [kB 4 true] (RS.dn (A0 (G0 ?_)))));cases h;exact fun a w hs=>rtR (rS hs)
   ·try dsimp only at h
    refine R0 (z38 (L:=L) (E:=E) (m:=m) (H:=H)) (L.ok hl) 2 ?_;cases h;exact fun a w hq=>bkR (sqR (rtR hq))
def z12:(Int×Int×AH)→Value
 | (r0,r1,_)=>(Value.tuple #[(vI .i64 r0),(vI .i64 r1)])
def z1g (_:AH):(Int×Int×AH)→AH:=fun r=>r.2.2
noncomputable def B66:Code:=(Tryd.f66.body).getD .skip
noncomputable def Z2 (L:LC) (H:AH) (a0:Option Addr) (a1_0:Int) (a1_1:Bool) (a1_2:Sl3):Int→Option (Lp Int (Int×Int×AH)):=fun v6_1 =>
 a0.bind fun q2 => (rd deSl H (Addr.add q2 0)).bind fun x3 => if v6_1<(x3.n:Int) then
  (rd deSl H (Addr.add q2 0)).bind fun x4 => (idxA 3 x4 v6_1).bind fun p5 => (rd (deI .i64) H (Addr.add p5 0)).bind fun x6_0 => (rd deB H (Addr.add p5 1)).bind fun x6_1 => (rd deSl H (Addr.add p5 2)).bind fun x6_2 => (zw L H x6_0 x6_1 x6_2 a1_0 a1_1 a1_2).bind fun x7 => if x7=true then
   some (.ret (v6_1,0,H))
  else
   some (.next (IntKind.i64.wrap (v6_1+1)))
 else
  some (.brk v6_1)
def z55 (_L:LC) (_H:AH) (a0:Option Addr) (a1_0:Int) (a1_1:Bool) (a1_2:Sl3):Int→KN×Lcs:=fun v6_1=>([kI 6 v6_1,(0,.val (vP a0)),kL 3 0 0],[some (42,[(vI .i64 a1_0),(vB a1_1),(Sl3.v a1_2)])])
noncomputable def C4 (L:LC) (m:Nat) (H:AH) (a0:Option Addr) (a1_0:Int) (a1_1:Bool) (a1_2:Sl3):Option (Int×Int×AH) :=
 (L.run (Z2 L H a0 a1_0 a1_1 a1_2) 0).bind fun o=>match o with
 | .inl _ =>
  a0.bind fun q9 => (rd deSl H (Addr.add q9 0)).bind fun x10 => if (x10.n:Int)≥1048576 then
   some (0,3,H)
  else
   (rd deSl H (Addr.add q9 0)).bind fun x11 => (newR 42 1 #[(vI .i64 a1_0),(vB a1_1),(Sl3.v a1_2)] H).bind fun (s12,H13) => (appS m 42 3 40 H13 x11 s12).bind fun (s14,H15) => (H15.setCell m (Addr.add q9 0) (Sl3.v s14)).bind fun H16 => (rd deSl H16 (Addr.add q9 0)).bind fun x17 => some ((IntKind.i64.wrap ((x17.n:Int) - 1)),0,H16)
 | .inr r=>some r
theorem S9 {E m L H a0 a1_0 a1_1 a1_2} :LoopF Tryd.prog (NE.plain 1000) m E Tryd.f66 ((cfst (csnd (cfst (csnd B66))))) (z55 L H a0 a1_0 a1_1 a1_2) (fun _=>H) 0 z12 (z1g H) (Z2 L H a0 a1_0 a1_1 a1_2):=by
 rintro v6_1 o h
 unfold Z2 at h;try dsimp only at h
 refine B0 (B0 (WS.rg (u0 2 [(8,.val (vP a0)),kI 7 v6_1] ?_)));obtain ⟨q2,hx,hq2⟩:=bind_some h;subst hx;have h:=hq2;refine u0 2 [(10,.val (vP (some (Addr.add q2 0)))),kP 9 q2] ?_;obtain ⟨x3,hx,h⟩:=bind_some h;refine P0 11 29 (.tmp 10) (X0 hx A1) (u0 2 [kB 13 (decide (v6_1<(x3.n:Int))),kI 12 (x3.n:Int)] (RS.dn (A0 ?_)));rcases Y0 h with ⟨hp,h⟩ | ⟨hp,h⟩
 ·refine D0 13 true (decide_eq_true hp) (I0 (K0 (A0 (B0 (M0 1 (B0 ?_))))));refine Q0 [0,1,2,3,4,5,6,7] [0,1,3,7,0,31,63,0,255] 9 (fun hcl=>?_);refine C0 0 (some 16) (vP (some q2)) (C0 1 (some 17) (vP (some q2)) (C0 2 (some 18) (vP (some (Addr.add q2 0))) ?_));obtain ⟨x4,hx,h⟩:=bind_some h;refine E0 3 (some 19) (Sl3.v x4) (Abs.det_load (t:=29) (x:=.tmp 18) (a:=(Addr.add q2 0)) (by kernel_rfl) (by kernel_rfl) (by kernel_rfl) (by kernel_rfl) (X0 hx A1)) (C0 4 (some 20) (vI .i64 v6_1) ?_);obtain ⟨p5,hx,h⟩:=bind_some h;refine E0 5 (some 21) (vP (some p5)) (Abs.det_idx (s:=x4) (k:=.i64) (t:=29) (e:=42) (x:=.tmp 19) (y:=.tmp 20) (by kernel_rfl) (by kernel_rfl) (by kernel_rfl) (by kernel_rfl) (by kernel_rfl) hx) ?_;obtain ⟨x6_0,hx0,h⟩:=bind_some h;obtain ⟨x6_1,hx1,h⟩:=bind_some h;obtain ⟨x6_2,hx2,h⟩:=bind_some h;refine E0 6 (some 22) (vA #[(vI .i64 x6_0),(vB x6_1),(Sl3.v x6_2)]) (Abs.det_loadA (t:=42) (x:=.tmp 21) (a:=p5) (k:=3) (by kernel_rfl) (by kernel_rfl) (by kernel_rfl) (by kernel_rfl) (J1 (X0 hx0 Z0) (J1 (X0 hx1 o5) (J1 (X0 hx2 A1) U6)))) (DA.tL 7 (some 23) (.val (vA #[(vI .i64 a1_0),(vB a1_1),(Sl3.v a1_2)])) ?_);obtain ⟨x7,hx,h⟩:=bind_some h;refine DA.on 8 (DA.aC 8 (some 24) (v:=(vB x7)) 77 #[(vA #[(vI .i64 x6_0),(vB x6_1),(Sl3.v x6_2)]),(vA #[(vI .i64 a1_0),(vB a1_1),(Sl3.v a1_2)])] (zcp hx) (DA.dn (A0 ?_)));rcases Y0 h with ⟨hp,h⟩ | ⟨hp,h⟩
  ·refine D0 24 true hp (I0 (B0 (WS.rg (u0 3 [kI 5 0,kI 4 v6_1,kI 25 v6_1] (RS.dn (A0 (G0 ?_)))))));cases h;exact fun a w hs=>bkR (sqR (lsR rfl (rS hs)))
  ·refine D0 24 false (b_not hp) (J0 (K0 ?_));refine fun a w hs=>bkN ((A0 ?_ a w hs));refine WS.rg (u0 3 [kI 6 (IntKind.i64.wrap (v6_1+1)),kI 15 (IntKind.i64.wrap (v6_1+1)),kI 14 v6_1] (RS.dn ?_));cases h;exact fun a w hs=>lsN rfl (hs.sb 1)
 ·refine D0 13 false (decide_eq_false hp) (J0 (WS.ex 0 ?_));cases h;exact fun a w hs=>sqE (lsB rfl (hs.sb 1))
theorem z1d {L:LC} {m:Nat} {H:AH} {a0:Option Addr} {a1_0:Int} {a1_1:Bool} {a1_2:Sl3} {r:(Int×Int×AH)} (h:C4 L m H a0 a1_0 a1_1 a1_2=some r) :
  CallS Tryd.prog (NE.plain 1000) m 66 #[(vP a0),(vA #[(vI .i64 a1_0),(vB a1_1),(Sl3.v a1_2)])] H (z12 r) (z1g H r):=by
 refine CallS.mk (args:=[(vP a0),(vA #[(vI .i64 a1_0),(vB a1_1),(Sl3.v a1_2)])]) Tryd.func66 (B:=B66) (by kernel_rfl) (fun E _=>?_);unfold C4 at h;refine B0 (WS.rg (V0 3 [kI 5 0,kI 4 0,kL 3 0 0] ([some (42,[(vI .i64 a1_0),(vB a1_1),(Sl3.v a1_2)])]) (RS.dn (A0 (B0 (B0 (WS.rg (u0 1 [kI 6 0] (RS.dn ?_)))))))));refine A0 (M0 0 ?_);obtain ⟨o,hl,h⟩:=bind_some h;rcases o with v6_8 | r
 ·try dsimp only at h
  refine S0 (S9 (L:=L) (E:=E) (m:=m) (H:=H)) (L.ok hl) 1 ?_;clear hl;refine fun a w hs=>bkE ((A0 ?_ a w hs));refine B0 (B0 (WS.rg (u0 1 [(26,.val (vP a0))] ?_)));obtain ⟨q9,hx,hq9⟩:=bind_some h;subst hx;have h:=hq9;refine u0 2 [(28,.val (vP (some (Addr.add q9 0)))),kP 27 q9] ?_;obtain ⟨x10,hx,h⟩:=bind_some h;refine P0 29 29 (.tmp 28) (X0 hx A1) (u0 2 [kB 31 (decide ((x10.n:Int)≥1048576)),kI 30 (x10.n:Int)] (RS.dn (A0 ?_)));rcases Y0 h with ⟨hp,h⟩ | ⟨hp,h⟩
  ·refine D0 31 true (decide_eq_true hp) (I0 (B0 (WS.rg (u0 2 [kI 5 3,kI 4 0] (RS.dn (A0 (G0 ?_)))))));cases h;exact fun a w hs=>sqR (rtR (rS hs))
  ·refine D0 31 false (decide_eq_false hp) (J0 (K0 (A0 (B0 ?_))));refine Q0 [1,2,3,4,5] [0,0,2,6,14,0,32,126,255,511,1023] 11 (fun hcl=>?_);refine C0 1 (some 33) (vP (some q9)) (C0 2 (some 34) (vP (some q9)) (C0 3 (some 35) (vP (some (Addr.add q9 0))) ?_));obtain ⟨x11,hx,h⟩:=bind_some h;refine E0 4 (some 36) (Sl3.v x11) (Abs.det_load (t:=29) (x:=.tmp 35) (a:=(Addr.add q9 0)) (by kernel_rfl) (by kernel_rfl) (by kernel_rfl) (by kernel_rfl) (X0 hx A1)) (DA.tL 5 (some 37) (.val (vA #[(vI .i64 a1_0),(vB a1_1),(Sl3.v a1_2)])) (DA.tP 0 (some 32) (vP (some q9)) ?_));obtain ⟨⟨s12,H13⟩,hx,h⟩:=bind_some h;try dsimp only at h
   refine DA.on 6 (DA.aHj (H':=H13) 6 (some 38) false (Sl3.v s12) (Abs.run_newR (by kernel_rfl) (by kernel_rfl) hx) ?_);obtain ⟨⟨s14,H15⟩,hx,h⟩:=bind_some h;try dsimp only at h
   refine DA.on 7 (W0 (H':=H15) 7 (some 39) (Sl3.v s14) (Abs.run_app (x:=.tmp 36) (y:=.tmp 38) (ts:=#[29,29]) (s:=x11) (z:=s12) (by kernel_rfl) (by kernel_rfl) (by kernel_rfl) (by kernel_rfl) hx) (DA.tP 8 (some 40) (vP (some q9)) (DA.tP 9 (some 41) (vP (some (Addr.add q9 0))) ?_)));obtain ⟨H16,hx,h⟩:=bind_some h;refine DA.on 10 (W0 (H':=H16) 10 none undef (Abs.run_store1 (t:=29) (x:=.tmp 41) (y:=.tmp 39) (a:=(Addr.add q9 0)) (v:=(Sl3.v s14)) (by kernel_rfl) (by kernel_rfl) (by kernel_rfl) (by kernel_rfl) (by kernel_rfl) hx) (DA.dn (A0 (B0 (WS.rg (u0 3 [(44,.val (vP (some (Addr.add q9 0)))),kP 43 q9,kP 42 q9] ?_))))));obtain ⟨x17,hx,h⟩:=bind_some h;refine P0 45 29 (.tmp 44) (X0 hx A1) (u0 4 [kI 5 0,kI 4 (IntKind.i64.wrap ((x17.n:Int) - 1)),kI 47 (IntKind.i64.wrap ((x17.n:Int) - 1)),kI 46 (x17.n:Int)] (RS.dn (A0 (G0 ?_))));cases h;exact fun a w hs=>rtR (rS hs)
 ·try dsimp only at h
  refine R0 (S9 (L:=L) (E:=E) (m:=m) (H:=H)) (L.ok hl) 1 ?_;cases h;exact fun a w hq=>bkR (sqR (rtR hq))
def z13:(Int×Int×AH)→Value
 | (r0,r1,_)=>(Value.tuple #[(vI .i64 r0),(vI .i64 r1)])
def z1i (_:AH):(Int×Int×AH)→AH:=fun r=>r.2.2
noncomputable def B45:Code:=(Tryd.f45.body).getD .skip
noncomputable def Y2 (L:LC) (H:AH) (a0:Option Addr) (_a1:Int) (a2:Sl3):Int→Option (Lp Int (Int×Int×AH)):=fun v8_1 =>
 if v8_1<(a2.n:Int) then
  (idxA 1 a2 v8_1).bind fun p2 => (rd (deI .i64) H p2).bind fun x3 => (I3 L H a0 x3).bind fun x4 => if x4=true then
   some (.next (IntKind.i64.wrap (v8_1+1)))
  else
   some (.ret (0,150,H))
 else
  some (.brk v8_1)
def z4a (_L:LC) (_H:AH) (a0:Option Addr) (a1:Int) (a2:Sl3):Int→KN×Lcs:=fun v8_1=>([kI 8 v8_1,(0,.val (vP a0)),kI 1 a1,kS 2 a2],[])
noncomputable def Y6 (L:LC) (m:Nat) (H:AH) (a0:Option Addr) (a1:Int) (a2:Sl3):Option (Int×Int×AH) :=
 if (a2.n:Int) > 64 then
  some (0,51,H)
 else
  (L.run (Y2 L H a0 a1 a2) 0).bind fun o=>match o with
  | .inl _ =>
   (appS m 3 1 8 H Sl3.nil a2).bind fun (s6,H7) => (C4 L m H7 a0 a1 false s6).bind fun (x8,x9,H10) => some (x8,x9,H10)
  | .inr r=>some r
theorem P9 {E m L H a0 a1 a2} :LoopF Tryd.prog (NE.plain 1000) m E Tryd.f45 ((cfst (csnd (cfst (csnd (csnd B45)))))) (z4a L H a0 a1 a2) (fun _=>H) 0 z13 (z1i H) (Y2 L H a0 a1 a2):=by
 rintro v8_1 o h
 unfold Y2 at h;try dsimp only at h
 refine B0 (B0 (WS.rg (u0 4 [kB 16 (decide (v8_1<(a2.n:Int))),kI 15 (a2.n:Int),kS 14 a2,kI 13 v8_1] (RS.dn (A0 ?_)))));rcases Y0 h with ⟨hp,h⟩ | ⟨hp,h⟩
 ·refine D0 16 true (decide_eq_true hp) (I0 (K0 (A0 (B0 (M0 1 (B0 (WS.rg (u0 3 [kI 21 v8_1,kS 20 a2,(19,.val (vP a0))] ?_))))))));obtain ⟨p2,hx,h⟩:=bind_some h;refine T0 22 27 3 (.tmp 20) (.tmp 21) hx ?_;obtain ⟨x3,hx,h⟩:=bind_some h;refine P0 23 3 (.tmp 22) (X0 hx Z0) ?_;obtain ⟨x4,hx,h⟩:=bind_some h;refine RS.cl (some 24) (v:=(vB x4)) 65 _ (V7 hx) (u0 1 [kB 25 (!x4)] (RS.dn (A0 ?_)));rcases Y0 h with ⟨hp,h⟩ | ⟨hp,h⟩
  ·refine D0 25 false (nb_not hp) (J0 (K0 ?_));refine fun a w hs=>bkN ((A0 ?_ a w hs));refine WS.rg (u0 3 [kI 8 (IntKind.i64.wrap (v8_1+1)),kI 18 (IntKind.i64.wrap (v8_1+1)),kI 17 v8_1] (RS.dn ?_));cases h;exact fun a w hs=>lsN rfl (hs.sb 0)
  ·refine D0 25 true (D3 hp) (I0 (B0 (WS.rg (u0 2 [kI 7 150,kI 6 0] (RS.dn (A0 (G0 ?_)))))));cases h;exact fun a w hs=>bkR (sqR (lsR rfl (rS hs)))
 ·refine D0 16 false (decide_eq_false hp) (J0 (WS.ex 0 ?_));cases h;exact fun a w hs=>sqE (lsB rfl (hs.sb 0))
theorem z7y {L:LC} {m:Nat} {H:AH} {a0:Option Addr} {a1:Int} {a2:Sl3} {r:(Int×Int×AH)} (h:Y6 L m H a0 a1 a2=some r) :
  CallS Tryd.prog (NE.plain 1000) m 45 #[(vP a0),(vI .i64 a1),(Sl3.v a2)] H (z13 r) (z1i H r):=by
 refine CallS.mk (args:=[(vP a0),(vI .i64 a1),(Sl3.v a2)]) Tryd.func45 (B:=B45) (by kernel_rfl) (fun E _=>?_);unfold Y6 at h;refine B0 (WS.rg (u0 2 [kI 7 0,kI 6 0] (RS.dn (A0 (B0 (B0 (WS.rg (u0 3 [kB 12 (decide ((a2.n:Int) > 64)),kI 11 (a2.n:Int),kS 10 a2] (RS.dn ?_)))))))));refine A0 ?_;rcases Y0 h with ⟨hp,h⟩ | ⟨hp,h⟩
 ·refine D0 12 true (decide_eq_true hp) (I0 (B0 (WS.rg (u0 2 [kI 7 51,kI 6 0] (RS.dn (A0 (G0 ?_)))))));cases h;exact fun a w hs=>sqR (rtR (rS hs))
 ·refine D0 12 false (decide_eq_false hp) (J0 (K0 (A0 (B0 (B0 (WS.rg (u0 1 [kI 8 0] (RS.dn (A0 ?_)))))))));refine M0 0 ?_;obtain ⟨o,hl,h⟩:=bind_some h;rcases o with v8_5 | r
  ·try dsimp only at h
   refine S0 (P9 (L:=L) (E:=E) (m:=m) (H:=H)) (L.ok hl) 0 ?_;clear hl;refine fun a w hs=>bkE ((A0 ?_ a w hs));refine B0 (WS.rg (u0 1 [kS 9 Sl3.nil] (RS.dn (A0 (B0 (WS.rg (u0 2 [kS 27 a2,kS 26 Sl3.nil] ?_)))))));obtain ⟨⟨s6,H7⟩,hx,h⟩:=bind_some h;try dsimp only at h
   refine RS.o (H':=H7) (some 28) (Sl3.v s6) (Abs.run_app (x:=.tmp 26) (y:=.tmp 27) (ts:=#[27,27]) (s:=Sl3.nil) (z:=a2) (by kernel_rfl) (by kernel_rfl) (by kernel_rfl) (by kernel_rfl) hx) (u0 1 [kS 9 s6] (RS.dn (A0 (B0 (WS.rg (u0 4 [kA 32 #[(vI .i64 a1),(vB false),(Sl3.v s6)],kS 31 s6,kI 30 a1,(29,.val (vP a0))] ?_))))));obtain ⟨⟨x8,x9,H10⟩,hx,h⟩:=bind_some h;try dsimp only at h
   refine RS.cl (some 33) (v:=(Value.tuple #[(vI .i64 x8),(vI .i64 x9)])) 66 _ (z1d hx) (u0 4 [kI 7 x9,kI 6 x8,kI 35 x9,kI 34 x8] (RS.dn (A0 (G0 ?_))));cases h;exact fun a w hs=>rtR (rS hs)
  ·try dsimp only at h
   refine R0 (P9 (L:=L) (E:=E) (m:=m) (H:=H)) (L.ok hl) 0 ?_;cases h;exact fun a w hq=>bkR (sqR (rtR hq))
def z4r:(Int×Int×AH)→Value
 | (r0,r1,_)=>(Value.tuple #[(vI .i64 r0),(vI .i64 r1)])
def z5q (_:AH):(Int×Int×AH)→AH:=fun r=>r.2.2
noncomputable def B46:Code:=(Tryd.f46.body).getD .skip
noncomputable def o6 (L:LC) (m:Nat) (H:AH) (a0:Option Addr) (a1:Int):Option (Int×Int×AH) :=
 (C4 L m H a0 a1 true Sl3.nil).bind fun (x1,x2,H3) => some (x1,x2,H3)
theorem z5m {L:LC} {m:Nat} {H:AH} {a0:Option Addr} {a1:Int} {r:(Int×Int×AH)} (h:o6 L m H a0 a1=some r) :
  CallS Tryd.prog (NE.plain 1000) m 46 #[(vP a0),(vI .i64 a1)] H (z4r r) (z5q H r):=by
 refine CallS.mk (args:=[(vP a0),(vI .i64 a1)]) Tryd.func46 (B:=B46) (by kernel_rfl) (fun E _=>?_);unfold o6 at h;refine B0 (WS.rg (u0 2 [kI 5 0,kI 4 0] (RS.dn (A0 (B0 (WS.rg (u0 3 [kA 8 #[(vI .i64 a1),(vB true),(Sl3.v Sl3.nil)],kI 7 a1,(6,.val (vP a0))] ?_)))))));obtain ⟨⟨x1,x2,H3⟩,hx,h⟩:=bind_some h;try dsimp only at h
 refine RS.cl (some 9) (v:=(Value.tuple #[(vI .i64 x1),(vI .i64 x2)])) 66 _ (z1d hx) (u0 4 [kI 5 x2,kI 4 x1,kI 11 x2,kI 10 x1] (RS.dn (A0 (G0 ?_))));cases h;exact fun a w hs=>rtR (rS hs)
def z6w:(Int×AH)→Value
 | (r0,_)=>(vI .i64 r0)
def z81 (_:AH):(Int×AH)→AH:=fun r=>r.2
noncomputable def B47:Code:=(Tryd.f47.body).getD .skip
noncomputable def X5 (L:LC) (m:Nat) (H:AH) (a0:Option Addr) (a1_0 a1_1 a1_2:Int) (a1_3:Bool):Option (Int×AH) :=
 Option.bind (α:=Bool) (
  (I3 L H a0 a1_0).bind fun x2 => if x2=true then
   (I3 L H a0 a1_1).bind fun x3 => some (!x3)
  else
   some true) fun v16_1 =>
 if v16_1=true then
  some (150,H)
 else
  a0.bind fun q4 => (rd deSl H (Addr.add q4 1)).bind fun x5 => (newR 49 1 #[(vI .i64 a1_0),(vI .i64 a1_1),(vI .i64 a1_2),(vB a1_3)] H).bind fun (s6,H7) => (appS m 49 4 32 H7 x5 s6).bind fun (s8,H9) => (H9.setCell m (Addr.add q4 1) (Sl3.v s8)).bind fun H10 => some (0,H10)
theorem z1e {L:LC} {m:Nat} {H:AH} {a0:Option Addr} {a1_0 a1_1 a1_2:Int} {a1_3:Bool} {r:(Int×AH)} (h:X5 L m H a0 a1_0 a1_1 a1_2 a1_3=some r) :
  CallS Tryd.prog (NE.plain 1000) m 47 #[(vP a0),(vA #[(vI .i64 a1_0),(vI .i64 a1_1),(vI .i64 a1_2),(vB a1_3)])] H (z6w r) (z81 H r):=by
 refine CallS.mk (args:=[(vP a0),(vA #[(vI .i64 a1_0),(vI .i64 a1_1),(vI .i64 a1_2),(vB a1_3)])]) Tryd.func47 (B:=B47) (by kernel_rfl) (fun E _=>?_);unfold X5 at h;refine B0 (WS.rg (V0 2 [kI 4 0,kL 3 0 0] ([some (49,[(vI .i64 a1_0),(vI .i64 a1_1),(vI .i64 a1_2),(vB a1_3)])]) (RS.dn (A0 (B0 ?_)))));obtain ⟨v16_1,hx,h⟩:=bind_some h;refine B0 ?_;refine WS.join ([kB 16 v16_1,(0,.val (vP a0)),kL 3 0 0]) ([some (49,[(vI .i64 a1_0),(vI .i64 a1_1),(vI .i64 a1_2),(vB a1_3)])]) H ?_ (fun a w hs=>A0 ?_ a w hs)
 ·clear h; rename _=>h;refine WS.rg (u0 3 [kI 7 a1_0,kL 6 0 0,(5,.val (vP a0))] ?_);obtain ⟨x2,hx,h⟩:=bind_some h;refine RS.cl (some 8) (v:=(vB x2)) 65 _ (V7 hx) (u0 2 [kB 10 (!x2),kB 9 (!x2)] ?_);rcases Y0 h with ⟨hp,h⟩ | ⟨hp,h⟩
  ·refine O0 10 false (nb_not hp) (u0 3 [kI 13 a1_1,kL 12 0 1,(11,.val (vP a0))] ?_);obtain ⟨x3,hx,h⟩:=bind_some h;refine RS.cl (some 14) (v:=(vB x3)) 65 _ (V7 hx) (u0 2 [kB 16 (!x3),kB 15 (!x3)] (RS.dn ?_));cases h;exact fun a w hs=>(jsN (hs.sb 1))
  ·refine O0 10 true (D3 hp) (u0 6 [kB 16 true,kU 15,kU 14,kU 13,kU 12,kU 11] (RS.dn ?_));cases h;exact fun a w hs=>(jsN (hs.sb 1))
 ·clear hx;rcases Y0 h with ⟨hp,h⟩ | ⟨hp,h⟩
  ·refine D0 16 true hp (I0 (B0 (WS.rg (u0 1 [kI 4 150] (RS.dn (A0 (G0 ?_)))))));cases h;exact fun a w hs=>sqR (rtR (rS hs))
  ·refine D0 16 false (b_not hp) (J0 (K0 (A0 (B0 ?_))));refine Q0 [1,2,3,4,5] [0,0,2,6,14,0,32,126,255,511,1023] 11 (fun hcl=>?_);refine C0 1 (some 18) (vP a0) ?_;obtain ⟨q4,hx,hq4⟩:=bind_some h;subst hx;have h:=hq4;refine C0 2 (some 19) (vP (some q4)) (C0 3 (some 20) (vP (some (Addr.add q4 1))) ?_);obtain ⟨x5,hx,h⟩:=bind_some h;refine E0 4 (some 21) (Sl3.v x5) (Abs.det_load (t:=30) (x:=.tmp 20) (a:=(Addr.add q4 1)) (by kernel_rfl) (by kernel_rfl) (by kernel_rfl) (by kernel_rfl) (X0 hx A1)) (DA.tL 5 (some 22) (.val (vA #[(vI .i64 a1_0),(vI .i64 a1_1),(vI .i64 a1_2),(vB a1_3)])) (DA.tP 0 (some 17) (vP (some q4)) ?_));obtain ⟨⟨s6,H7⟩,hx,h⟩:=bind_some h;try dsimp only at h
   refine DA.on 6 (DA.aHj (H':=H7) 6 (some 23) false (Sl3.v s6) (Abs.run_newR (by kernel_rfl) (by kernel_rfl) hx) ?_);obtain ⟨⟨s8,H9⟩,hx,h⟩:=bind_some h;try dsimp only at h
   refine DA.on 7 (W0 (H':=H9) 7 (some 24) (Sl3.v s8) (Abs.run_app (x:=.tmp 21) (y:=.tmp 23) (ts:=#[30,30]) (s:=x5) (z:=s6) (by kernel_rfl) (by kernel_rfl) (by kernel_rfl) (by kernel_rfl) hx) (DA.tP 8 (some 25) (vP (some q4)) (DA.tP 9 (some 26) (vP (some (Addr.add q4 1))) ?_)));obtain ⟨H10,hx,h⟩:=bind_some h;refine DA.on 10 (W0 (H':=H10) 10 none undef (Abs.run_store1 (t:=30) (x:=.tmp 26) (y:=.tmp 24) (a:=(Addr.add q4 1)) (v:=(Sl3.v s8)) (by kernel_rfl) (by kernel_rfl) (by kernel_rfl) (by kernel_rfl) (by kernel_rfl) hx) (DA.dn (A0 (B0 (WS.rg (u0 1 [kI 4 0] (RS.dn (A0 (G0 ?_)))))))));cases h;exact fun a w hs=>rtR (rS hs)
def zb9:(Bool×AH)→Value
 | (r0,_)=>(vB r0)
def zcl (_:AH):(Bool×AH)→AH:=fun r=>r.2
noncomputable def B24:Code:=(Tryd.f24.body).getD .skip
noncomputable def G8 (L:LC) (m:Nat) (H:AH) (a0 a1:Option Addr) (a2_0 a2_1:Int) (a2_2:Sl3) (a2_3 a2_4 a2_5:Int):Option (Bool×AH) :=
 if a2_0=1 then
  (S2 L m H a0 a2_1 a2_2).bind fun (x1,x2,H3) => (Y6 L m H3 a1 a2_1 a2_2).bind fun (x4,x5,H6) => if x1=x4 then
   some ((decide (x2=x5)),H6)
  else
   some (false,H6)
 else
  if a2_0=2 then
   (R5 L m H a0 a2_1).bind fun (x7,x8,H9) => (o6 L m H9 a1 a2_1).bind fun (x10,x11,H12) => if x7=x10 then
    some ((decide (x8=x11)),H12)
   else
    some (false,H12)
  else
   if a2_0=3 then
    (P4 L m H a0 a2_3 a2_4 a2_5).bind fun (x13,H14) => (X5 L m H14 a1 a2_3 a2_4 a2_5 false).bind fun (x15,H16) => some ((decide (x13=x15)),H16)
   else
    if a2_0=4 then
     (M4 L m H a0 a2_3 a2_4 a2_5).bind fun (x17,H18) => (X5 L m H18 a1 a2_3 a2_4 a2_5 true).bind fun (x19,H20) => some ((decide (x17=x19)),H20)
    else
     none
theorem z6i {L:LC} {m:Nat} {H:AH} {a0 a1:Option Addr} {a2_0 a2_1:Int} {a2_2:Sl3} {a2_3 a2_4 a2_5:Int} {r:(Bool×AH)} (h:G8 L m H a0 a1 a2_0 a2_1 a2_2 a2_3 a2_4 a2_5=some r) :
  CallS Tryd.prog (NE.plain 1000) m 24 #[(vP a0),(vP a1),(vA #[(vI .i64 a2_0),(vI .i64 a2_1),(Sl3.v a2_2),(vI .i64 a2_3),(vI .i64 a2_4),(vI .i64 a2_5)])] H (zb9 r) (zcl H r):=by
 refine CallS.mk (args:=[(vP a0),(vP a1),(vA #[(vI .i64 a2_0),(vI .i64 a2_1),(Sl3.v a2_2),(vI .i64 a2_3),(vI .i64 a2_4),(vI .i64 a2_5)])]) Tryd.func24 (B:=B24) (by kernel_rfl) (fun E _=>?_);unfold G8 at h;refine B0 (WS.rg (V0 2 [kB 6 false,kL 5 0 0] ([some (55,[(vI .i64 a2_0),(vI .i64 a2_1),(Sl3.v a2_2),(vI .i64 a2_3),(vI .i64 a2_4),(vI .i64 a2_5)])]) (RS.dn (A0 (B0 (B0 (WS.rg (u0 2 [kI 25 a2_0,kL 24 0 0] (RS.dn ?_)))))))));refine A0 (M0 0 (B0 (WS.rg (u0 2 [kB 26 (decide (a2_0=1)),kB 27 (decide (a2_0=1))] (RS.dn (A0 ?_))))));rcases Y0 h with ⟨hp,h⟩ | ⟨hp,h⟩
 ·refine D0 26 true (decide_eq_true hp) (I0 (B0 (WS.rg (u0 5 [kS 33 a2_2,kL 32 0 2,kI 31 a2_1,kL 30 0 1,(29,.val (vP a0))] ?_))));obtain ⟨⟨x1,x2,H3⟩,hx,h⟩:=bind_some h;try dsimp only at h
  refine RS.cl (some 34) (v:=(Value.tuple #[(vI .i64 x1),(vI .i64 x2)])) 18 _ (D5 hx) (u0 5 [kI 8 x2,kI 7 x1,kI 36 x2,kI 35 x1,(28,.val (Value.tuple #[(vI .i64 x1),(vI .i64 x2)]))] (RS.dn (A0 (B0 (WS.rg (u0 5 [kS 42 a2_2,kL 41 0 2,kI 40 a2_1,kL 39 0 1,(38,.val (vP a1))] ?_))))));obtain ⟨⟨x4,x5,H6⟩,hx,h⟩:=bind_some h;try dsimp only at h
  refine RS.cl (some 43) (v:=(Value.tuple #[(vI .i64 x4),(vI .i64 x5)])) 45 _ (z7y hx) (u0 5 [kI 10 x5,kI 9 x4,kI 45 x5,kI 44 x4,(37,.val (Value.tuple #[(vI .i64 x4),(vI .i64 x5)]))] (RS.dn (A0 (B0 (WS.rg (u0 4 [kB 49 (decide (x1=x4)),kB 48 (decide (x1=x4)),kI 47 x4,kI 46 x1] ?_))))));rcases Y0 h with ⟨hp,h⟩ | ⟨hp,h⟩
  ·refine O0 49 true (decide_eq_true hp) (u0 5 [kB 6 (decide (x2=x5)),kB 53 (decide (x2=x5)),kB 52 (decide (x2=x5)),kI 51 x5,kI 50 x2] (RS.dn (A0 (G0 ?_))));cases h;exact fun a w hs=>bkR (sqR (rtR (rS hs)))
  ·refine O0 49 false (decide_eq_false hp) (u0 5 [kB 6 false,kB 53 false,kU 52,kU 51,kU 50] (RS.dn (A0 (G0 ?_))));cases h;exact fun a w hs=>bkR (sqR (rtR (rS hs)))
 ·refine D0 26 false (decide_eq_false hp) (J0 (B0 (WS.rg (u0 2 [kB 54 (decide (a2_0=2)),kB 55 (decide (a2_0=2))] (RS.dn (A0 ?_))))));rcases Y0 h with ⟨hp,h⟩ | ⟨hp,h⟩
  ·refine D0 54 true (decide_eq_true hp) (I0 (B0 (WS.rg (u0 3 [kI 59 a2_1,kL 58 0 1,(57,.val (vP a0))] ?_))));obtain ⟨⟨x7,x8,H9⟩,hx,h⟩:=bind_some h;try dsimp only at h
   refine RS.cl (some 60) (v:=(Value.tuple #[(vI .i64 x7),(vI .i64 x8)])) 17 _ (z4w hx) (u0 5 [kI 12 x8,kI 11 x7,kI 62 x8,kI 61 x7,(56,.val (Value.tuple #[(vI .i64 x7),(vI .i64 x8)]))] (RS.dn (A0 (B0 (WS.rg (u0 3 [kI 66 a2_1,kL 65 0 1,(64,.val (vP a1))] ?_))))));obtain ⟨⟨x10,x11,H12⟩,hx,h⟩:=bind_some h;try dsimp only at h
   refine RS.cl (some 67) (v:=(Value.tuple #[(vI .i64 x10),(vI .i64 x11)])) 46 _ (z5m hx) (u0 5 [kI 14 x11,kI 13 x10,kI 69 x11,kI 68 x10,(63,.val (Value.tuple #[(vI .i64 x10),(vI .i64 x11)]))] (RS.dn (A0 (B0 (WS.rg (u0 4 [kB 73 (decide (x7=x10)),kB 72 (decide (x7=x10)),kI 71 x10,kI 70 x7] ?_))))));rcases Y0 h with ⟨hp,h⟩ | ⟨hp,h⟩
   ·refine O0 73 true (decide_eq_true hp) (u0 5 [kB 6 (decide (x8=x11)),kB 77 (decide (x8=x11)),kB 76 (decide (x8=x11)),kI 75 x11,kI 74 x8] (RS.dn (A0 (G0 ?_))));cases h;exact fun a w hs=>bkR (sqR (rtR (rS hs)))
   ·refine O0 73 false (decide_eq_false hp) (u0 5 [kB 6 false,kB 77 false,kU 76,kU 75,kU 74] (RS.dn (A0 (G0 ?_))));cases h;exact fun a w hs=>bkR (sqR (rtR (rS hs)))
  ·refine D0 54 false (decide_eq_false hp) (J0 (B0 (WS.rg (u0 2 [kB 78 (decide (a2_0=3)),kB 79 (decide (a2_0=3))] (RS.dn (A0 ?_))))));rcases Y0 h with ⟨hp,h⟩ | ⟨hp,h⟩
   ·refine D0 78 true (decide_eq_true hp) (I0 (B0 ?_));refine WS.drl [0,0,2,0,8,0,32,127,0,0,512,0,2048,0,8192,32256,65535,131071,262143] 19 (fun hcl=>?_);refine DB.tL 1 (some 81) (.loc 0 3) (DB.tL 2 (some 82) (.val (vI .i64 a2_3)) (DB.tL 3 (some 83) (.loc 0 4) (DB.tL 4 (some 84) (.val (vI .i64 a2_4)) (DB.tL 5 (some 85) (.loc 0 5) (DB.tL 6 (some 86) (.val (vI .i64 a2_5)) (DB.tL 9 (some 89) (.loc 0 3) (DB.tL 10 (some 90) (.val (vI .i64 a2_3)) (DB.tL 11 (some 91) (.loc 0 4) (DB.tL 12 (some 92) (.val (vI .i64 a2_4)) ?_)))))))));refine DB.tL 13 (some 93) (.loc 0 5) (DB.tL 14 (some 94) (.val (vI .i64 a2_5)) (DB.tP 0 (some 80) (vP a0) (DB.tP 8 (some 88) (vP a1) ?_)));refine ?_;refine DB.tP 15 (some 95) (vA #[(vI .i64 a2_3),(vI .i64 a2_4),(vI .i64 a2_5),(vB false)]) ?_;obtain ⟨⟨x13,H14⟩,hx,h⟩:=bind_some h;try dsimp only at h
    refine DB.on 7 (DB.aC 7 (some 87) (v:=(vI .i64 x13)) 20 #[(vP a0),(vI .i64 a2_3),(vI .i64 a2_4),(vI .i64 a2_5)] (T9 hx) ?_);obtain ⟨⟨x15,H16⟩,hx,h⟩:=bind_some h;try dsimp only at h
    refine DB.on 16 (DB.aC 16 (some 96) (v:=(vI .i64 x15)) 47 #[(vP a1),(vA #[(vI .i64 a2_3),(vI .i64 a2_4),(vI .i64 a2_5),(vB false)])] (z1e hx) (DB.tP 17 (some 97) (vB (decide (x13=x15))) (DB.tP 18 (some 6) (vB (decide (x13=x15))) (DB.dn (A0 (G0 ?_))))));cases h;exact fun a w hs=>bkR (sqR (rtR (rS hs)))
   ·refine D0 78 false (decide_eq_false hp) (J0 (B0 (WS.rg (u0 2 [kB 98 (decide (a2_0=4)),kB 99 (decide (a2_0=4))] (RS.dn (A0 ?_))))));rcases Y0 h with ⟨hp,h⟩ | ⟨hp,h⟩
    ·refine D0 98 true (decide_eq_true hp) (I0 (B0 ?_));refine WS.drl [0,0,2,0,8,0,32,127,0,0,512,0,2048,0,8192,32256,65535,131071,262143] 19 (fun hcl=>?_);refine DB.tL 1 (some 101) (.loc 0 3) (DB.tL 2 (some 102) (.val (vI .i64 a2_3)) (DB.tL 3 (some 103) (.loc 0 4) (DB.tL 4 (some 104) (.val (vI .i64 a2_4)) (DB.tL 5 (some 105) (.loc 0 5) (DB.tL 6 (some 106) (.val (vI .i64 a2_5)) (DB.tL 9 (some 109) (.loc 0 3) (DB.tL 10 (some 110) (.val (vI .i64 a2_3)) (DB.tL 11 (some 111) (.loc 0 4) (DB.tL 12 (some 112) (.val (vI .i64 a2_4)) ?_)))))))));refine DB.tL 13 (some 113) (.loc 0 5) (DB.tL 14 (some 114) (.val (vI .i64 a2_5)) (DB.tP 0 (some 100) (vP a0) (DB.tP 8 (some 108) (vP a1) ?_)));refine ?_;refine DB.tP 15 (some 115) (vA #[(vI .i64 a2_3),(vI .i64 a2_4),(vI .i64 a2_5),(vB true)]) ?_;obtain ⟨⟨x17,H18⟩,hx,h⟩:=bind_some h;try dsimp only at h
     refine DB.on 7 (DB.aC 7 (some 107) (v:=(vI .i64 x17)) 19 #[(vP a0),(vI .i64 a2_3),(vI .i64 a2_4),(vI .i64 a2_5)] (U9 hx) ?_);obtain ⟨⟨x19,H20⟩,hx,h⟩:=bind_some h;try dsimp only at h
     refine DB.on 16 (DB.aC 16 (some 116) (v:=(vI .i64 x19)) 47 #[(vP a1),(vA #[(vI .i64 a2_3),(vI .i64 a2_4),(vI .i64 a2_5),(vB true)])] (z1e hx) (DB.tP 17 (some 117) (vB (decide (x17=x19))) (DB.tP 18 (some 6) (vB (decide (x17=x19))) (DB.dn (A0 (G0 ?_))))));cases h;exact fun a w hs=>bkR (sqR (rtR (rS hs)))
    ·refine D0 98 false (decide_eq_false hp) (J0 ?_);cases h
end Go.Proofs.YtgkhbmoidenjaaaDoor
