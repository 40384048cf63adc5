/- SortSigs is proved where what it reads is of bulk at most 1048576: it returns true and its arguments read as before. No condition beyond the row's own (five listed tables of Go's library as the text lays them). -/
import Derived.Test.YtccbilfbhecdaaaDoorSg5
namespace Go.Proofs.YtccbilfbhecdaaaDoor
open Go Go.Abs
set_option maxRecDepth 100000
def bV (bl:List Bool):List Value:=bl.map Value.bool
theorem bV_set (bl:List Bool) (i:Nat) (b:Bool):(bV bl).set i (.bool b)=bV (bl.set i b):=by
 unfold bV; rw [List.map_set]
def freeN (bl:List Bool):Nat:=bl.countP fun b=>!b
theorem freeN_set {bl:List Bool} {i:Nat} (hi:i<bl.length) (hb:bl[i]=false):freeN (bl.set i true)+1=freeN bl:=by
 unfold freeN
 rw [List.countP_set (h:=hi)]
 have hpos:0<bl.countP fun b=>!b:=List.countP_pos_iff.2 ⟨bl[i],List.getElem_mem hi,by simp [hb]⟩
 simp [hb]
 omega
section
variable {m:Nat} {H0 H:AH} {s1 s2 s3:Sl3} {g:Sg} {p:Addr} {L0 fuel:Nat} {s:Sl3} {l:List Nat}
structure Work (g:Sg) (i:Nat) (bl:List Bool) (ql:List Nat):Prop where
 len:bl.length=g.datas.length
 sound:∀k (h:k<bl.length),bl[k]=true→Lean1 g i k
 wait:∀k∈ql,Lean1 g i k
 first:∀k,EdgS g i k→(∃h:k<bl.length,bl[k]=true)∨k∈ql
 next:∀j k,(∃h:j<bl.length,bl[j]=true)→EdgS g j k→(∃h:k<bl.length,bl[k]=true)∨k∈ql
theorem Work.done {i:Nat} {bl:List Bool} (h:Work g i bl []):∀k (hk:k<bl.length),bl[k]=true↔Lean1 g i k:=by
 have key:∀k,Lean1 g i k→∃h:k<bl.length,bl[k]=true:=by
  intro k hk
  induction hk with
  | one h1=>exact (h.first _ h1).resolve_right (by simp)
  | more h1 h2 ih=>exact (h.next _ _ ih h2).resolve_right (by simp)
 exact fun k hk=>⟨h.sound k hk,fun hl=>(key k hl).2⟩
theorem set_true {bl:List Bool} {x k:Nat}:(∃h:k<(bl.set x true).length,(bl.set x true)[k]=true)↔(∃h:k<bl.length,bl[k]=true)∨(k=x∧x<bl.length):=by
 constructor
 ·rintro ⟨h,hb⟩
  have hk:k<bl.length:=by simpa using h
  rw [List.getElem_set] at hb
  split at hb
  ·rename_i e; exact .inr ⟨e.symm,by omega⟩
  ·exact .inl ⟨hk,hb⟩
 ·rintro (⟨h,hb⟩ | ⟨rfl,hx⟩)
  ·refine ⟨by simpa using h,?_⟩
   rw [List.getElem_set]
   split
   ·rfl
   ·exact hb
  ·exact ⟨by simpa using hx,by simp⟩
theorem Work.pop {i x:Nat} {bl:List Bool} {t:List Nat} (h:Work g i bl (x :: t)) (hx:∃h:x<bl.length,bl[x]=true):Work g i bl t:=by
 refine ⟨h.len,h.sound,fun k hk=>h.wait k (by simp [hk]),fun k hk=>?_,fun j k hj hk=>?_⟩
 ·rcases h.first k hk with h1 | h1
  ·exact .inl h1
  ·rcases List.mem_cons.1 h1 with rfl | h1
   ·exact .inl hx
   ·exact .inr h1
 ·rcases h.next j k hj hk with h1 | h1
  ·exact .inl h1
  ·rcases List.mem_cons.1 h1 with rfl | h1
   ·exact .inl hx
   ·exact .inr h1
theorem Work.mark {i x:Nat} {bl:List Bool} {t:List Nat} (h:Work g i bl (x :: t)) (hx:x<g.datas.length):Work g i (bl.set x true) (t++stD g.datas g.datas[x]):=by
 have hlx:Lean1 g i x:=h.wait x (by simp)
 have hxl:x<bl.length:=by rw [h.len]; exact hx
 refine ⟨by simp [h.len],fun k hk hb=>?_,fun k hk=>?_,fun k hk=>?_,fun j k hj hk=>?_⟩
 ·rcases set_true.1 ⟨hk,hb⟩ with ⟨h1,h2⟩ | ⟨rfl,_⟩
  ·exact h.sound k h1 h2
  ·exact hlx
 ·rcases List.mem_append.1 hk with hk | hk
  ·exact h.wait k (by simp [hk])
  ·exact .more hlx ⟨hx,hk⟩
 ·rcases h.first k hk with h1 | h1
  ·exact .inl (set_true.2 (.inl h1))
  ·rcases List.mem_cons.1 h1 with rfl | h1
   ·exact .inl (set_true.2 (.inr ⟨rfl,hxl⟩))
   ·exact .inr (List.mem_append.2 (.inl h1))
 ·rcases set_true.1 hj with h1 | ⟨rfl,_⟩
  ·rcases h.next j k h1 hk with h2 | h2
   ·exact .inl (set_true.2 (.inl h2))
   ·rcases List.mem_cons.1 h2 with rfl | h2
    ·exact .inl (set_true.2 (.inr ⟨rfl,hxl⟩))
    ·exact .inr (List.mem_append.2 (.inl h2))
  ·obtain ⟨_,hk⟩:=hk
   exact .inr (List.mem_append.2 (.inr hk))
theorem leans_b1 (hF:L0=fuel+1) (hfu:15≤fuel) (hG:GoodG g) (hS:SigA H0 s1 s2 s3 g) (hB:Book H0 p s1 s2 s3 g) (hm:m≤H0.next) {id3 idr n:Nat} {x2:Sl3} {rows:List Value} {i:Nat} (hn:n=g.datas.length) (hi:i<n)
  (hrow:rows[i]? = some (Sl3.v ⟨some ⟨idr,0,none⟩,n,n⟩)) (hne:id3≠idr) (h3:H0.next≤id3) (hr:H0.next≤idr):∀(u q:Nat) (bl:List Bool) (ql:List Nat) (H:AH) (v:Sl3),freeN bl=u→ql.length=q→Work g i bl ql→Ext H0 H →
   ArrV 56 m H id3 rows→ArrV 4 m H idr (bV bl)→VecA natE 3 m H ql v→(∀id,owns v id→H0.next≤id∧id≠id3∧id≠idr)→ql.length+u*1048576≤5000000000 →
   ∃H' v' bl',loopO (sort_book_leans_b1 (LCo L0) m p x2 ⟨some ⟨id3,0,none⟩,n,n⟩ (i:Int)) (H,v)=some (.inl (H',v'))∧Work g i bl' []∧ArrV 56 m H' id3 rows∧ArrV 4 m H' idr (bV bl')∧Ext H0 H'∧Fm (fun id=>id=idr∨owns v id) H H':=by
 intro u
 induction u using Nat.strongRecOn with
 | ind u ihu =>
  intro q
  induction q with
  | zero =>
   intro bl ql H v hu hq hW hx ha3 har hv ho hN
   obtain rfl:ql=[]:=List.length_eq_zero_iff.1 hq
   refine ⟨H,v,bl,loopO_brk ?_,hW,ha3,har,hx,Fm.refl _ _⟩
   unfold sort_book_leans_b1
   have:v.n=0:=hv.n
   simp only [this]
   rw [if_neg (by omega)]
  | succ q ihq =>
   intro bl ql H v hu hq hW hx ha3 har hv ho hN
   cases ql with
   | nil=>simp at hq
   | cons x t =>
    have hxn:x<g.datas.length:=lean_lt hG (hW.wait x (by simp))
    have hxb:x<bl.length:=by rw [hW.len]; exact hxn
    have hvn:v.n=t.length+1:=hv.n
    have hsl:=nat_sl hv (by omega)
    obtain ⟨qa,k1,k2⟩:=hsl.get (i:=0) (by simp) (v:=(0:Int)) rfl
    have r0:rd (deI .i64) H qa=some (x:Int):=by rw [Cel.rd k2]; rfl
    obtain ⟨v1,t1,t2,t3⟩:=hv.tail rfl (by unfold OPEN; simp at hN; omega)
    have r1:rd deSl H ((⟨id3,0,none⟩:Addr).add (i*1))=some ⟨some ⟨idr,0,none⟩,n,n⟩:=by rw [(ha3.cel hrow).rd]; rfl
    have hbx:(bV bl)[x]? = some (.bool bl[x]):=by simp [bV,hxb]
    have r2:rd deB H ((⟨idr,0,none⟩:Addr).add (x*1))=some bl[x]:=by rw [(har.cel hbx).rd]; rfl
    have i3:idxA 1 (⟨some ⟨id3,0,none⟩,n,n⟩:Sl3) (i:Int)=some ((⟨id3,0,none⟩:Addr).add (i*1)):=idxA_arr hi rfl
    have ir:idxA 1 (⟨some ⟨idr,0,none⟩,n,n⟩:Sl3) (x:Int)=some ((⟨idr,0,none⟩:Addr).add (x*1)):=idxA_arr (by omega) rfl
    have o1:∀id,owns v1 id→H0.next≤id∧id≠id3∧id≠idr:=fun id hid=>ho id (t3 id hid)
    simp only [List.length_cons] at hq hN
    cases hb:bl[x] with
    | true =>
     obtain ⟨H',v',bl',w1,w2,w3,w4,w5,w6⟩:=ihq bl t H v1 hu (by omega) (hW.pop ⟨hxb,hb⟩) hx ha3 har t2 o1 (by omega)
     refine ⟨H',v',bl',?_,w2,w3,w4,w5,w6.weak fun id _ h=>?_⟩
     ·have hbody:sort_book_leans_b1 (LCo L0) m p x2 ⟨some ⟨id3,0,none⟩,n,n⟩ (i:Int) (H,v)=some (.next (H,v1)):=by
       unfold sort_book_leans_b1
       rw [hb] at r2
       simp only [if_pos (show (v.n:Int) > 0 by omega),k1,Option.bind_some,r0,t1,i3,r1,ir,r2,if_true]
      rw [loopO_next hbody]
      exact w1
     ·rcases h with h | h
      ·exact .inl h
      ·exact .inr (t3 id h)
    | false =>
     obtain ⟨H25,c1,c2,c3,c4⟩:=har.set (i:=x) (by simp [bV]; exact hxb) (.bool true)
     rw [bV_set] at c2
     have xx:Ext H0 H25:=hx.comp c3 fun id hid _ h=>by omega
     have a3':ArrV 56 m H25 id3 rows:=ha3.fr c3 hne
     have v1':VecA natE 3 m H25 t v1:=VecV.fr t2 c3 fun id hid h=>(o1 id hid).2.2 h
     have hmH:m≤H25.next:=Nat.le_trans hm xx.1
     obtain ⟨s',H27,d1,d2,d3,d4⟩:=standing_spec hF hfu hG (hS.ext xx) (hB.ext xx) hmH hxn
     have hst:=stD_len hG (List.getElem_mem hxn)
     obtain ⟨v2,H29,e1,e2,e3⟩:=VecA.app (E:=natE) (e:=3) (bytes:=8) (l':=stD g.datas g.datas[x]) (VecV.ext v1' d3) (nat_rdv (nat_sl d2 (by omega))) (room8 (by omega)).1 (room8 (by omega)).2 (Nat.le_trans hmH d3.1)
     have f29:Fm (fun id=>id=idr∨owns v id) H H29:=by
      refine (c3.weak (W':=fun id=>id=idr∨owns v id) fun id _ h=>.inl h).comp ((d3.weak (W':=owns v1) fun _ _ h=>h.elim).comp e3.fm fun id _ hn=>hn) fun id hid hn h=>?_
      exact hn (.inr (t3 id h))
     have own2:∀id,owns v2 id→owns v1 id∨H27.next≤id:=e3.ow
     have lt3:=ha3.low
     have ltr:=har.low
     have hge:H.next≤H27.next:=by rw [← c4]; exact d3.1
     have o2:∀id,owns v2 id→H0.next≤id∧id≠id3∧id≠idr:=fun id hid=>by
      rcases own2 id hid with h | h
      ·exact o1 id h
      ·have:=hx.1; omega
     have a329:ArrV 56 m H29 id3 rows:=(a3'.ext d3).fr e3.fm fun h=>(o1 id3 h).2.1 rfl
     have ar29:ArrV 4 m H29 idr (bV (bl.set x true)):=(c2.ext d3).fr e3.fm fun h=>(o1 idr h).2.2 rfl
     have x29:Ext H0 H29:=(xx.trans d3).comp e3.fm fun id hid _ h=>by have:=(o1 id h).1; omega
     have hfree:=freeN_set hxb hb
     obtain ⟨H',v',bl',w1,w2,w3,w4,w5,w6⟩:=ihu (freeN (bl.set x true)) (by omega) _ (bl.set x true) (t++stD g.datas g.datas[x]) H29 v2 rfl rfl (hW.mark hxn) x29 a329 ar29 e2 o2 (by
      rw [List.length_append]
      have:u=freeN (bl.set x true)+1:=by omega
      rw [this,Nat.add_mul] at hN
      omega)
     refine ⟨H',v',bl',?_,w2,w3,w4,w5,f29.comp w6 fun id hid hn h=>?_⟩
     ·have hbody:sort_book_leans_b1 (LCo L0) m p x2 ⟨some ⟨id3,0,none⟩,n,n⟩ (i:Int) (H,v)=some (.next (H29,v2)):=by
       unfold sort_book_leans_b1
       rw [hb] at r2
       have e1':appS m 3 1 8 H27 v1 s'=some (v2,H29):=e1
       simp only [if_pos (show (v.n:Int) > 0 by omega),k1,Option.bind_some,r0,t1,i3,r1,ir,r2,Bool.false_eq_true,if_false,c1,d1,e1']
      rw [loopO_next hbody]
      exact w1
     ·rcases h with h | h
      ·exact hn (.inl h)
      ·rcases own2 id h with h | h
       ·exact hn (.inr (t3 id h))
       ·omega
end
end Go.Proofs.YtccbilfbhecdaaaDoor
namespace Go.Proofs.YtccbilfbhecdaaaDoor
open Go Go.Abs
set_option maxRecDepth 100000
theorem datas_small {g:Sg} (hG:GoodG g):g.datas.length≤4096:=by
 have:=hG.many
 unfold manyS at this
 simp only [Bool.or_eq_false_iff,decide_eq_false_iff_not] at this
 have:=this.2.2
 unfold cntG at this
 omega
theorem freeN_rep (n:Nat):freeN (List.replicate n false)=n:=by
 unfold freeN
 rw [List.countP_replicate]
 simp
theorem loopO_ex {α:Type} {xs:List α} {body:AH×Int→Option (Lp (AH×Int) (Bool×AH))} (P:Nat→α→Prop) {H0:AH}
  (step:∀(i:Nat) (hi:i<xs.length) (H:AH),Ext H0 H→∃H',Ext H0 H'∧((P i xs[i]∧body (H,(i:Int))=some (.ret (true,H')))∨(¬P i xs[i]∧body (H,(i:Int))=some (.next (H',((i+1:Nat):Int))))))
  (he:∀H,Ext H0 H→body (H,(xs.length:Int))=some (.brk (H,(xs.length:Int)))) :
  ∀(d i:Nat) (H:AH),i+d=xs.length→Ext H0 H→∃H',Ext H0 H'∧(((∃j,∃h:j<xs.length,i≤j∧P j xs[j])∧loopO body (H,(i:Int))=some (.inr (true,H')))∨((¬∃j,∃h:j<xs.length,i≤j∧P j xs[j])∧loopO body (H,(i:Int))=some (.inl (H',(xs.length:Int))))):=by
 intro d
 induction d with
 | zero =>
  intro i H hi hx
  have:i=xs.length:=by omega
  subst this
  refine ⟨H,hx,.inr ⟨?_,loopO_brk (he H hx)⟩⟩
  rintro ⟨j,h,h',_⟩
  omega
 | succ d ih =>
  intro i H hi hx
  have hlt:i<xs.length:=by omega
  obtain ⟨H1,x1,h⟩:=step i hlt H hx
  rcases h with ⟨hp,hb⟩ | ⟨hp,hb⟩
  ·exact ⟨H1,x1,.inl ⟨⟨i,hlt,Nat.le_refl _,hp⟩,loopO_ret hb⟩⟩
  ·obtain ⟨H2,x2,h⟩:=ih (i+1) H1 (by omega) x1
   refine ⟨H2,x2,?_⟩
   rw [loopO_next hb]
   rcases h with ⟨⟨j,hj,h1,h2⟩,h3⟩ | ⟨h1,h3⟩
   ·exact .inl ⟨⟨j,hj,by omega,h2⟩,h3⟩
   ·refine .inr ⟨?_,h3⟩
    rintro ⟨j,hj,h4,h5⟩
    by_cases e:j=i
    ·subst e; exact hp h5
    ·exact h1 ⟨j,hj,by omega,h5⟩
def LeanT (g:Sg) (H:AH) (id3:Nat):Prop:=∀i,i<g.datas.length→∃row:Sl3,Cel H ((⟨id3,0,none⟩:Addr).add (i*1)) row.v∧∀k,k<g.datas.length→∃q b,idxA 1 row (k:Int)=some q∧Cel H q (.bool b)∧(b=true↔Lean1 g i k)
theorem LeanT.ext {g:Sg} {H H':AH} {id3:Nat} (h:LeanT g H id3) (hf:Ext H H'):LeanT g H' id3:=fun i hi=>by
 obtain ⟨row,h1,h2⟩:=h i hi
 exact ⟨row,h1.ext hf,fun k hk=>let ⟨q,b,a1,a2,a3⟩:=h2 k hk; ⟨q,b,a1,a2.ext hf,a3⟩⟩
section
variable {m:Nat} {H0 H:AH} {s1 s2 s3:Sl3} {g:Sg} {p:Addr} {L0 fuel:Nat}
def RowOk (g:Sg) (m:Nat) (H0 H:AH) (id3 n:Nat) (rows:List Value) (j:Nat):Prop :=
 ∃idj bl,rows[j]? = some (Sl3.v ⟨some ⟨idj,0,none⟩,n,n⟩)∧ArrV 4 m H idj (bV bl)∧(∀k (h:k<bl.length),bl[k]=true↔Lean1 g j k)∧bl.length=n∧H0.next≤idj∧idj≠id3
theorem leans_b0 (hF:L0=fuel+1) (hfu:15≤fuel) (hG:GoodG g) (hS:SigA H0 s1 s2 s3 g) (hB:Book H0 p s1 s2 s3 g) (hm:m≤H0.next) {id3 n:Nat} (hn:n=g.datas.length) (h3:H0.next≤id3):∀(d i:Nat) (H:AH) (rows:List Value),i+d=n→Ext H0 H→ArrV 56 m H id3 rows→rows.length=n →
   (∀j,j<i→RowOk g m H0 H id3 n rows j) →
   ∃H' rows',loopO (sort_book_leans_b0 (LCo L0) m p s2 ⟨some ⟨id3,0,none⟩,n,n⟩) (H,(i:Int))=some (.inl (H',(n:Int)))∧Ext H0 H'∧ArrV 56 m H' id3 rows'∧∀j,j<n→RowOk g m H0 H' id3 n rows' j:=by
 have hd:=hS.d.n
 have hnn:n≤4096:=by rw [hn]; exact datas_small hG
 intro d
 induction d with
 | zero =>
  intro i H rows hi hx ha hl hr
  obtain rfl:i=n:=by omega
  refine ⟨H,rows,loopO_brk ?_,hx,ha,hr⟩
  unfold sort_book_leans_b0
  simp only [if_neg (show ¬((i:Int)<(s2.n:Int)) by omega)]
 | succ d ih =>
  intro i H rows hi hx ha hl hr
  have hin:i<n:=by omega
  have hig:i<g.datas.length:=by omega
  have hmH:=Nat.le_trans hm hx.1
  obtain ⟨H8,b1,b2,b3,b4⟩:=mkS_arr (e:=4) (bytes:=1) (m:=m) (H:=H) (z:=.bool false) (n:=n) (by omega) (by omega) hmH
  have hs2:s2.n=n:=by rw [hd,hn]
  have ha8:=ha.ext b3
  obtain ⟨H10,c1,c2,c3,c4⟩:=ha8.set (i:=i) (by omega) (Sl3.v ⟨some ⟨H.next,0,none⟩,n,n⟩)
  have hlow:=ha.low
  have x8:=hx.trans b3
  have x10:Ext H0 H10:=x8.comp c3 fun id hid _ h=>by omega
  have b2':ArrV 4 m H10 H.next (bV (List.replicate n false)):=by
   have:bV (List.replicate n false)=List.replicate n (Value.bool false):=by simp [bV]
   rw [this]
   exact b2.fr c3 (by omega)
  obtain ⟨x11,H12,d1,d2,d3,d4⟩:=standing_spec hF hfu hG (hS.ext x10) (hB.ext x10) (Nat.le_trans hm x10.1) hig
  have hst:=stD_len hG (List.getElem_mem hig)
  have x12:=x10.trans d3
  have hrow:(rows.set i (Sl3.v ⟨some ⟨H.next,0,none⟩,n,n⟩))[i]? = some (Sl3.v ⟨some ⟨H.next,0,none⟩,n,n⟩):=by simp [hl,hin]
  have hW:Work g i (List.replicate n false) (stD g.datas g.datas[i]):=by
   refine ⟨by simp [hn],fun k hk hb=>by simp at hb,fun k hk=>.one ⟨hig,hk⟩,fun k hk=>?_,fun j k hj _=>?_⟩
   ·obtain ⟨_,hk⟩:=hk; exact .inr hk
   ·obtain ⟨_,hb⟩:=hj; simp at hb
  obtain ⟨H',v',bl',e1,e2,e3,e4,e5,e6⟩:=leans_b1 hF hfu hG hS hB hm (x2:=s2) hn hin hrow (by omega) h3 hx.1 n _ (List.replicate n false) _ H12 x11 (freeN_rep n) rfl hW x12 (c2.ext d3) (b2'.ext d3) d2 (fun id hid=>by have:=d4 id hid; have:=b4; have:=x10.1; omega) (by omega)
  have keep:∀j,j<i→RowOk g m H0 H' id3 n (rows.set i (Sl3.v ⟨some ⟨H.next,0,none⟩,n,n⟩)) j:=by
   intro j hj
   obtain ⟨idj,bl,k1,k2,k3,k4,k5,k6⟩:=hr j hj
   have hlj:=k2.low
   refine ⟨idj,bl,?_,?_,k3,k4,k5,k6⟩
   ·rw [List.getElem?_set_ne (by omega)]; exact k1
   ·refine (((k2.ext b3).fr c3 k6).ext d3).fr e6 fun h=>?_
    rcases h with h | h
    ·omega
    ·have:=d4 idj h; omega
  have mine:RowOk g m H0 H' id3 n (rows.set i (Sl3.v ⟨some ⟨H.next,0,none⟩,n,n⟩)) i :=
   ⟨H.next,bl',hrow,e4,e2.done,by rw [e2.len,hn],hx.1,by omega⟩
  obtain ⟨H2,rows',y1,y2,y3,y4⟩:=ih (i+1) H' _ (by omega) e5 e3 (by simp [hl]) fun j hj=>by
   by_cases e:j=i
   ·subst e; exact mine
   ·exact keep j (by omega)
  refine ⟨H2,rows',?_,y2,y3,y4⟩
  have hbody:sort_book_leans_b0 (LCo L0) m p s2 ⟨some ⟨id3,0,none⟩,n,n⟩ (H,(i:Int))=some (.next (H',((i+1:Nat):Int))):=by
   unfold sort_book_leans_b0
   simp only [hs2,if_pos (show (i:Int)<(n:Int) by omega),b1,Option.bind_some,idxA_arr hin rfl,c1,d1]
   show Option.bind (loopO (sort_book_leans_b1 (LCo L0) m p s2 ⟨some ⟨id3,0,none⟩,n,n⟩ (i:Int)) (H12,x11)) _=_
   rw [e1]
   simp only [Option.bind_some]
   rw [wrap_next hin (by rw [maxN_eq]; omega)]
  rw [loopO_next hbody]
  exact y1
theorem leans_spec (hF:L0=fuel+1) (hfu:15≤fuel) (hG:GoodG g) (hS:SigA H s1 s2 s3 g) (hB:Book H p s1 s2 s3 g) (hm:m≤H.next) :
  ∃id3 H',sort_book_leans (LCo L0) m H (some p)=some (⟨some ⟨id3,0,none⟩,g.datas.length,g.datas.length⟩,H')∧Ext H H'∧LeanT g H' id3:=by
 have hd:=hS.d.n
 have hnn:=datas_small hG
 have hadd:∀j,(p.add 0).add j=p.add (0+j):=fun j=>add2 hB.c1 0 j
 have r1:rd deSl H ((p.add 0).add 1)=some s2:=by rw [hadd,hB.c2.rd]; rfl
 obtain ⟨H4,b1,b2,b3,b4⟩:=mkS_arr (e:=56) (bytes:=24) (m:=m) (H:=H) (z:=Sl3.v Sl3.nil) (n:=g.datas.length) (by omega) (by omega) hm
 obtain ⟨H',rows',c1,c2,c3,c4⟩:=leans_b0 hF hfu hG hS hB hm (id3:=H.next) rfl (Nat.le_refl _) g.datas.length 0 H4 _ (by omega) b3 b2 (by simp) (fun j hj=>absurd hj (Nat.not_lt_zero _))
 refine ⟨H.next,H',?_,c2,fun i hi=>?_⟩
 ·unfold sort_book_leans
  simp only [Option.bind_some,r1,hd,b1]
  show Option.bind (loopO (sort_book_leans_b0 (LCo L0) m p s2 ⟨some ⟨H.next,0,none⟩,g.datas.length,g.datas.length⟩) (H4,((0:Nat):Int))) _=_
  rw [c1]
  rfl
 ·obtain ⟨idj,bl,k1,k2,k3,k4,k5,k6⟩:=c4 i hi
  refine ⟨_,c3.cel k1,fun k hk=>⟨_,bl[k]'(by omega),idxA_arr hk rfl,k2.cel (by simp [bV,k4,hk]),k3 k (by omega)⟩⟩
def NestX (g:Sg) (i:Nat) (x:Sel):Prop:=∃k∈dtI g.datas true x.k x.sn x.a,k=i∨Lean1 g k i
def NestP (g:Sg):Prop:=∃i,∃h:i<g.datas.length,∃c∈(g.datas[i]).cons,∃x∈c.sels,NestX g i x
theorem dtI_lt {g:Sg} {x:Sel} (h:SelG g x):∀k∈dtI g.datas true x.k x.sn x.a,k<g.datas.length:=by
 intro k hk
 have hk:k∈dtF g.datas x.a:=by simpa [dtI] using hk
 have hs:=h.sh
 have hkn:=h.kn
 unfold knS at hkn
 by_cases h56:x.k=5∨x.k=6
 ·have:=shS_nil hs h56
  rw [this] at hk
  simp [dtF] at hk
 ·rw [if_neg (by omega),if_neg (by omega)] at hkn
  simp only [shS,Bool.and_eq_true] at hs
  exact dtF_lt hs.2 hkn k hk
theorem nested_b3 (c:Nat) {id3:Nat} {i:Nat} {x2 x6 x10 x14 x15:Sl3} {v27 v34 y1 y2:Int} {n6 n10 n14 n15:ByteArray} {l:List Nat} (hT:LeanT g H id3) (hi:i<g.datas.length) (hl:SlL IntA 1 H x15 l) (hlt:∀k∈l,k<g.datas.length) :
  loopO (sort_book_nested_b3 (LCo c) ⟨some ⟨id3,0,none⟩,g.datas.length,g.datas.length⟩ p x2 (i:Int) n6 x6 v27 n10 x10 v34 n14 y1 y2 n15 x14 x15 H) 0=some (found l.length (l.findSome? fun k=>open Classical in if k=i∨Lean1 g k i then some (true,H) else none)):=by
 classical
 have hn:=hl.n
 have hu:=loopO_up (body:=sort_book_nested_b3 (LCo c) ⟨some ⟨id3,0,none⟩,g.datas.length,g.datas.length⟩ p x2 (i:Int) n6 x6 v27 n10 x10 v34 n14 y1 y2 n15 x14 x15 H) l.length hl.len (fun j=>if (l.getD j 0)=i∨Lean1 g (l.getD j 0) i then some (true,H) else none) (fun j hj=>by
   obtain ⟨q,h1,h2⟩:=hl.get hj (v:=(j:Int)) rfl
   have r0:rd (deI .i64) H q=some (l[j]:Int):=by rw [Cel.rd h2]; rfl
   have eg:l.getD j 0=l[j]:=by simp [List.getD,hj]
   rw [eg]
   have hkl:=hlt _ (List.getElem_mem hj)
   obtain ⟨row,k1,k2⟩:=hT l[j] hkl
   obtain ⟨q',b,k3,k4,k5⟩:=k2 i hi
   have r1:rd deSl H ((⟨id3,0,none⟩:Addr).add (l[j]*1))=some row:=by rw [k1.rd]; rfl
   have r2:rd deB H q'=some b:=by rw [k4.rd]; rfl
   unfold sort_book_nested_b3
   simp only [if_pos (show (j:Int)<(x15.n:Int) by omega),h1,Option.bind_some,r0]
   by_cases e:l[j]=i
   ·have:((l[j]:Nat):Int)=(i:Int):=by omega
    simp [this,e,stepO]
   ·have:¬(((l[j]:Nat):Int)=(i:Int)):=by omega
    simp only [if_neg this,idxA_arr hkl rfl,Option.bind_some,r1,k3,r2]
    cases b with
    | true=>simp [k5.1 rfl,stepO]
    | false =>
     have:¬Lean1 g l[j] i:=fun h=>by have:=k5.2 h; cases this
     simp [this,e,stepO]) (by
   unfold sort_book_nested_b3
   rw [if_neg (by omega)])
 rw [hu,find_get l (fun k=>if k=i∨Lean1 g k i then some (true,H) else none) 0]
theorem find_prop {R:Type} (l:List Nat) (P:Nat→Prop) [DecidablePred P] (r:R):((∃k∈l,P k)∧(l.findSome? fun k=>if P k then some r else none)=some r)∨((¬∃k∈l,P k)∧(l.findSome? fun k=>if P k then some r else none)=none):=by
 induction l with
 | nil=>exact .inr ⟨by simp,rfl⟩
 | cons x l ih =>
  rw [List.findSome?_cons]
  by_cases h:P x
  ·rw [if_pos h]; exact .inl ⟨⟨x,by simp,h⟩,rfl⟩
  ·rw [if_neg h]
   rcases ih with ⟨⟨k,hk,hp⟩,h2⟩ | ⟨h1,h2⟩
   ·exact .inl ⟨⟨k,by simp [hk],hp⟩,h2⟩
   ·refine .inr ⟨?_,h2⟩
    rintro ⟨k,hk,hp⟩
    rcases List.mem_cons.1 hk with rfl | hk
    ·exact h hp
    ·exact h1 ⟨k,hk,hp⟩
theorem nested_b2 (hF:L0=fuel+1) (hfu:15≤fuel) (hG:GoodG g) (hB:Book H0 p s1 s2 s3 g) (hm:m≤H0.next) {id3 i:Nat} (hT:LeanT g H0 id3) (hi:i<g.datas.length) {c:Con} (hc:c∈(g.datas[i]).cons) {x2 x6 sl:Sl3} {v27:Int} {n6 n10:ByteArray} (h:SlL SelA 5 H0 sl c.sels) (hx:Ext H0 H) :
  ∃H',Ext H0 H'∧(((∃x∈c.sels,NestX g i x)∧loopO (sort_book_nested_b2 (LCo L0) m ⟨some ⟨id3,0,none⟩,g.datas.length,g.datas.length⟩ p x2 (i:Int) n6 x6 v27 n10 sl) (H,0)=some (.inr (true,H'))) ∨
   ((¬∃x∈c.sels,NestX g i x)∧loopO (sort_book_nested_b2 (LCo L0) m ⟨some ⟨id3,0,none⟩,g.datas.length,g.datas.length⟩ p x2 (i:Int) n6 x6 v27 n10 sl) (H,0)=some (.inl (H',(c.sels.length:Int))))):=by
 classical
 have hln:=h.n
 obtain ⟨H',h1,h2⟩:=loopO_ex (xs:=c.sels) (body:=sort_book_nested_b2 (LCo L0) m ⟨some ⟨id3,0,none⟩,g.datas.length,g.datas.length⟩ p x2 (i:Int) n6 x6 v27 n10 sl) (fun _ x=>NestX g i x) (H0:=H0)
  (fun j hj G hG1=>by
   obtain ⟨q,g1,g2⟩:=h.get hj (v:=(j:Int)) rfl
   obtain ⟨z,e1,e2,e3,e4,e5,e6⟩:=g2.ex
   have r0:rd deS G (q.add 0)=some c.sels[j].n:=by rw [(g2.n.ext hG1).rd]; rfl
   have r1:rd (deI .i64) G (q.add 1)=some c.sels[j].k:=by rw [(e1.ext hG1).rd]; rfl
   have r2:rd (deI .i64) G (q.add 2)=some c.sels[j].w:=by rw [(e2.ext hG1).rd]; rfl
   have r3:rd deS G (q.add 3)=some c.sels[j].sn:=by rw [(e3.ext hG1).rd]; rfl
   have r4:rd deSl G (q.add 4)=some z:=by rw [(e4.ext hG1).rd]; rfl
   have hs:=hG.sel _ (List.getElem_mem hi) c hc _ (List.getElem_mem hj)
   obtain ⟨s',G1,y1,y2,y3⟩:=datas_spec (m:=m) L0 (c.sels[j].a.dep+1) fuel G c.sels[j].k c.sels[j].w c.sels[j].sn z c.sels[j].a true (hB.ext hG1) (Nat.le_trans hm hG1.1) (e6.ext hG1) (by have:=hs.sz; omega) (by have:=hs.dp; omega) (by omega)
   have hb3:=nested_b3 (p:=p) L0 (i:=i) (x2:=x2) (x6:=x6) (x10:=sl) (x14:=z) (v27:=v27) (v34:=(j:Int)) (y1:=c.sels[j].k) (y2:=c.sels[j].w) (n6:=n6) (n10:=n10) (n14:=c.sels[j].n) (n15:=c.sels[j].sn) (hT.ext (hG1.trans y3)) hi y2 (dtI_lt hs)
   have e1':(LCo L0).fuel=fuel+1:=hF
   refine ⟨G1,hG1.trans y3,?_⟩
   have hbody:sort_book_nested_b2 (LCo L0) m ⟨some ⟨id3,0,none⟩,g.datas.length,g.datas.length⟩ p x2 (i:Int) n6 x6 v27 n10 sl (G,(j:Int))=(match (found (dtI g.datas true c.sels[j].k c.sels[j].sn c.sels[j].a).length ((dtI g.datas true c.sels[j].k c.sels[j].sn c.sels[j].a).findSome? fun k=>if k=i∨Lean1 g k i then some (true,G1) else none)) with | .inl _=>some (.next (G1,((j+1:Nat):Int))) | .inr r=>some (.ret r)):=by
    unfold sort_book_nested_b2 sort_book_datas
    rw [e1']
    simp only [if_pos (show (j:Int)<(sl.n:Int) by omega),g1,Option.bind_some,r0,r1,r2,r3,r4,y1]
    show Option.bind (loopO (sort_book_nested_b3 (LCo L0) ⟨some ⟨id3,0,none⟩,g.datas.length,g.datas.length⟩ p x2 (i:Int) n6 x6 v27 n10 sl (j:Int) c.sels[j].n c.sels[j].k c.sels[j].w c.sels[j].sn z s' G1) 0) _=_
    rw [hb3,wrap_next hj h.len]
    rfl
   rcases find_prop (dtI g.datas true c.sels[j].k c.sels[j].sn c.sels[j].a) (fun k=>k=i∨Lean1 g k i) (true,G1) with ⟨hp,hf⟩ | ⟨hp,hf⟩
   ·rw [hf] at hbody
    exact .inl ⟨hp,hbody⟩
   ·rw [hf] at hbody
    exact .inr ⟨hp,hbody⟩)
  (fun G hG1=>by
   unfold sort_book_nested_b2
   simp only [if_neg (show ¬((c.sels.length:Int)<(sl.n:Int)) by omega)])
  c.sels.length 0 H (by omega) hx
 refine ⟨H',h1,?_⟩
 have iff:(∃j,∃h:j<c.sels.length,0≤j∧NestX g i c.sels[j])↔∃x∈c.sels,NestX g i x:=by
  constructor
  ·rintro ⟨j,hj,_,hp⟩; exact ⟨_,List.getElem_mem hj,hp⟩
  ·rintro ⟨x,hx,hp⟩
   obtain ⟨j,hj,rfl⟩:=List.getElem_of_mem hx
   exact ⟨j,hj,Nat.zero_le _,hp⟩
 rw [iff] at h2
 exact h2
theorem nested_b1 (hF:L0=fuel+1) (hfu:15≤fuel) (hG:GoodG g) (hB:Book H0 p s1 s2 s3 g) (hm:m≤H0.next) {id3 i:Nat} (hT:LeanT g H0 id3) (hi:i<g.datas.length) {x2 sl:Sl3} {n6:ByteArray} (h:SlL ConA 2 H0 sl (g.datas[i]).cons) (hx:Ext H0 H) :
  ∃H',Ext H0 H'∧(((∃c∈(g.datas[i]).cons,∃x∈c.sels,NestX g i x)∧loopO (sort_book_nested_b1 (LCo L0) m ⟨some ⟨id3,0,none⟩,g.datas.length,g.datas.length⟩ p x2 (i:Int) n6 sl) (H,0)=some (.inr (true,H'))) ∨
   ((¬∃c∈(g.datas[i]).cons,∃x∈c.sels,NestX g i x)∧loopO (sort_book_nested_b1 (LCo L0) m ⟨some ⟨id3,0,none⟩,g.datas.length,g.datas.length⟩ p x2 (i:Int) n6 sl) (H,0)=some (.inl (H',((g.datas[i]).cons.length:Int))))):=by
 have hln:=h.n
 obtain ⟨H',h1,h2⟩:=loopO_ex (xs:=(g.datas[i]).cons) (body:=sort_book_nested_b1 (LCo L0) m ⟨some ⟨id3,0,none⟩,g.datas.length,g.datas.length⟩ p x2 (i:Int) n6 sl) (fun _ c=>∃x∈c.sels,NestX g i x) (H0:=H0)
  (fun j hj G hG1=>by
   obtain ⟨q,g1,g2⟩:=h.get hj (v:=(j:Int)) rfl
   obtain ⟨z,e1,e2⟩:=g2.ex
   have r0:rd deS G (q.add 0)=some (g.datas[i]).cons[j].n:=by rw [(g2.n.ext hG1).rd]; rfl
   have r1:rd deSl G (q.add 1)=some z:=by rw [(e1.ext hG1).rd]; rfl
   obtain ⟨G1,k1,k2⟩:=nested_b2 hF hfu hG hB hm hT hi (List.getElem_mem hj) (x2:=x2) (x6:=sl) (v27:=(j:Int)) (n6:=n6) (n10:=(g.datas[i]).cons[j].n) e2 hG1
   refine ⟨G1,k1,?_⟩
   rcases k2 with ⟨hp,hb⟩ | ⟨hp,hb⟩
   ·refine .inl ⟨hp,?_⟩
    unfold sort_book_nested_b1
    simp only [if_pos (show (j:Int)<(sl.n:Int) by omega),g1,Option.bind_some,r0,r1]
    show Option.bind (loopO (sort_book_nested_b2 (LCo L0) m ⟨some ⟨id3,0,none⟩,g.datas.length,g.datas.length⟩ p x2 (i:Int) n6 sl (j:Int) (g.datas[i]).cons[j].n z) (G,0)) _=_
    rw [hb]
    rfl
   ·refine .inr ⟨hp,?_⟩
    unfold sort_book_nested_b1
    simp only [if_pos (show (j:Int)<(sl.n:Int) by omega),g1,Option.bind_some,r0,r1]
    show Option.bind (loopO (sort_book_nested_b2 (LCo L0) m ⟨some ⟨id3,0,none⟩,g.datas.length,g.datas.length⟩ p x2 (i:Int) n6 sl (j:Int) (g.datas[i]).cons[j].n z) (G,0)) _=_
    rw [hb]
    simp only [Option.bind_some]
    rw [wrap_next hj h.len])
  (fun G hG1=>by
   unfold sort_book_nested_b1
   simp only [if_neg (show ¬(((g.datas[i]).cons.length:Int)<(sl.n:Int)) by omega)])
  (g.datas[i]).cons.length 0 H (by omega) hx
 refine ⟨H',h1,?_⟩
 have iff:(∃j,∃h:j<(g.datas[i]).cons.length,0≤j∧∃x∈((g.datas[i]).cons[j]).sels,NestX g i x)↔∃c∈(g.datas[i]).cons,∃x∈c.sels,NestX g i x:=by
  constructor
  ·rintro ⟨j,hj,_,hp⟩; exact ⟨_,List.getElem_mem hj,hp⟩
  ·rintro ⟨x,hx,hp⟩
   obtain ⟨j,hj,rfl⟩:=List.getElem_of_mem hx
   exact ⟨j,hj,Nat.zero_le _,hp⟩
 rw [iff] at h2
 exact h2
theorem nested_spec (hF:L0=fuel+1) (hfu:15≤fuel) (hG:GoodG g) (hS:SigA H s1 s2 s3 g) (hB:Book H p s1 s2 s3 g) (hm:m≤H.next) {id3:Nat} (hT:LeanT g H id3) :
  ∃b H',sort_book_nested (LCo L0) m H (some p) ⟨some ⟨id3,0,none⟩,g.datas.length,g.datas.length⟩=some (b,H')∧Ext H H'∧(b=true↔NestP g):=by
 have hd:=hS.d.n
 have hadd:∀j,(p.add 0).add j=p.add (0+j):=fun j=>add2 hB.c1 0 j
 have r1:rd deSl H ((p.add 0).add 1)=some s2:=by rw [hadd,hB.c2.rd]; rfl
 obtain ⟨H',h1,h2⟩:=loopO_ex (xs:=g.datas) (body:=sort_book_nested_b0 (LCo L0) m ⟨some ⟨id3,0,none⟩,g.datas.length,g.datas.length⟩ p s2) (fun i d=>∃c∈d.cons,∃x∈c.sels,NestX g i x) (H0:=H)
  (fun i hi G hG1=>by
   obtain ⟨q,g1,g2⟩:=hS.d.get hi (v:=(i:Int)) rfl
   obtain ⟨z,e1,e2⟩:=g2.ex
   have r0:rd deS G (q.add 0)=some (g.datas[i]).n:=by rw [(g2.n.ext hG1).rd]; rfl
   have r1:rd deSl G (q.add 1)=some z:=by rw [(e1.ext hG1).rd]; rfl
   obtain ⟨G1,k1,k2⟩:=nested_b1 hF hfu hG hB hm hT hi (x2:=s2) (n6:=(g.datas[i]).n) e2 hG1
   refine ⟨G1,k1,?_⟩
   rcases k2 with ⟨hp,hb⟩ | ⟨hp,hb⟩
   ·refine .inl ⟨hp,?_⟩
    unfold sort_book_nested_b0
    simp only [if_pos (show (i:Int)<(s2.n:Int) by omega),g1,Option.bind_some,r0,r1]
    show Option.bind (loopO (sort_book_nested_b1 (LCo L0) m ⟨some ⟨id3,0,none⟩,g.datas.length,g.datas.length⟩ p s2 (i:Int) (g.datas[i]).n z) (G,0)) _=_
    rw [hb]
    rfl
   ·refine .inr ⟨hp,?_⟩
    unfold sort_book_nested_b0
    simp only [if_pos (show (i:Int)<(s2.n:Int) by omega),g1,Option.bind_some,r0,r1]
    show Option.bind (loopO (sort_book_nested_b1 (LCo L0) m ⟨some ⟨id3,0,none⟩,g.datas.length,g.datas.length⟩ p s2 (i:Int) (g.datas[i]).n z) (G,0)) _=_
    rw [hb]
    simp only [Option.bind_some]
    rw [wrap_next hi hS.d.len])
  (fun G hG1=>by
   unfold sort_book_nested_b0
   simp only [if_neg (show ¬((g.datas.length:Int)<(s2.n:Int)) by omega)])
  g.datas.length 0 H (by omega) (Fm.refl _ _)
 have iff:(∃j,∃h:j<g.datas.length,0≤j∧∃c∈(g.datas[j]).cons,∃x∈c.sels,NestX g j x)↔NestP g:=by
  constructor
  ·rintro ⟨j,hj,_,hp⟩; exact ⟨j,hj,hp⟩
  ·rintro ⟨j,hj,hp⟩; exact ⟨j,hj,Nat.zero_le _,hp⟩
 rw [iff] at h2
 unfold sort_book_nested
 simp only [Option.bind_some,r1]
 show ∃b H',Option.bind (loopO (sort_book_nested_b0 (LCo L0) m ⟨some ⟨id3,0,none⟩,g.datas.length,g.datas.length⟩ p s2) (H,((0:Nat):Int))) _=_∧_
 rcases h2 with ⟨hp,hb⟩ | ⟨hp,hb⟩
 ·exact ⟨true,H',by rw [hb]; rfl,h1,by simp [hp]⟩
 ·exact ⟨false,H',by rw [hb]; rfl,h1,by simp [hp]⟩
end
end Go.Proofs.YtccbilfbhecdaaaDoor
namespace Go.Proofs.YtccbilfbhecdaaaDoor
open Go Go.Abs
set_option maxRecDepth 100000
def mkL (bl:List Bool) (l:List Nat):List Bool:=l.foldl (fun b i=>b.set i true) bl
theorem mkL_len:∀(l:List Nat) (bl:List Bool),(mkL bl l).length=bl.length
 | [],bl=>rfl
 | x :: l,bl=>by
  show (mkL (bl.set x true) l).length=_
  rw [mkL_len l,List.length_set]
theorem mkL_app (bl:List Bool) (l l':List Nat):mkL bl (l++l')=mkL (mkL bl l) l':=by unfold mkL; rw [List.foldl_append]
theorem mkL_get:∀(l:List Nat) (bl:List Bool) (k:Nat),(∃h:k<(mkL bl l).length,(mkL bl l)[k]=true)↔(∃h:k<bl.length,bl[k]=true)∨(k∈l∧k<bl.length)
 | [],bl,k=>by simp [mkL]
 | x :: l,bl,k=>by
  have ih:=mkL_get l (bl.set x true) k
  have e:mkL bl (x :: l)=mkL (bl.set x true) l:=rfl
  rw [e,ih,set_true]
  simp only [List.length_set,List.mem_cons]
  constructor
  ·rintro ((h | ⟨rfl,h⟩) | ⟨h,h'⟩)
   ·exact .inl h
   ·exact .inr ⟨.inl rfl,h⟩
   ·exact .inr ⟨.inr h,h'⟩
  ·rintro (h | ⟨rfl | h,h'⟩)
   ·exact .inl (.inl h)
   ·exact .inl (.inr ⟨rfl,h'⟩)
   ·exact .inr ⟨h,h'⟩
def rtF (ds:List Dat) (inside:Bool):Bool→Fo→List Nat
 | _,.nil=>[]
 | arr,.cons k _ n a r=>(if k=6∧(inside=false∨arr=true) then [ixS ds n] else [])++rtF ds inside (arr||decide (k=4)) a++rtF ds inside arr r
def rtS (ds:List Dat) (inside arr:Bool) (k:Int) (n:ByteArray) (a:Fo):List Nat:=(if k=6∧(inside=false∨arr=true) then [ixS ds n] else [])++rtF ds inside (arr||decide (k=4)) a
theorem rtF_dtF (ds:List Dat):∀(a:Fo) (inside arr:Bool),shF a=true→(inside=false∨arr=true)→rtF ds inside arr a=dtF ds a
 | .nil,_,_,_,_=>rfl
 | .cons k w n a r,inside,arr,hs,h=>by
  simp only [shF,Bool.and_eq_true] at hs
  have h1:=rtF_dtF ds a inside (arr||decide (k=4)) hs.1.2 (by rcases h with h | h; exact .inl h; exact .inr (by simp [h]))
  have h2:=rtF_dtF ds r inside arr hs.2 h
  simp only [rtF,dtF,h1,h2]
  by_cases h6:k=6
  ·have:=shS_nil (k:=k) (w:=w) (n:=n) (a:=a) (by simp only [shS,Bool.and_eq_true]; exact hs.1) (.inr h6)
   subst this
   simp [h6,h,dtF]
  ·simp [h6]
theorem rtS_dtI (ds:List Dat) {k w:Int} {n:ByteArray} {a:Fo} (inside:Bool) (hs:shS k w n a=true):rtS ds inside false k n a=dtI ds inside k n a:=by
 have hF:shF a=true:=by simp only [shS,Bool.and_eq_true] at hs; exact hs.2
 unfold rtS dtI
 by_cases h6:k=6
 ·have:=shS_nil hs (.inr h6)
  subst this
  cases inside <;> simp [h6,rtF,dtF]
 ·by_cases h4:k=4
  ·have e:=rtF_dtF ds a inside (false||decide (k=4)) hF (.inr (by simp [h4]))
   rw [e]
   simp [h6]
  ·have:a=.nil:=by
    rcases shS_cases hs with ⟨h,_⟩ | ⟨h,_⟩
    ·exact h
    ·exact absurd h h4
   subst this
   simp [h6,rtF,dtF]
theorem arr_loop {α R:Type} {m:Nat} {xs:List α} {body:AH×Int→Option (Lp (AH×Int) R)} (f:α→List Nat) {H0:AH} {idm N:Nat} (hid:H0.next≤idm)
  (step:∀(i:Nat) (hi:i<xs.length) (H:AH) (bl:List Bool),Ext H0 H→ArrV 4 m H idm (bV bl)→bl.length=N→∃H',body (H,(i:Int))=some (.next (H',((i+1:Nat):Int)))∧ArrV 4 m H' idm (bV (mkL bl (f xs[i])))∧Fm (fun j=>j=idm) H H')
  (he:∀H,Ext H0 H→body (H,(xs.length:Int))=some (.brk (H,(xs.length:Int)))) :
  ∀(d i:Nat) (H:AH) (bl:List Bool),i+d=xs.length→Ext H0 H→ArrV 4 m H idm (bV bl)→bl.length=N →
   ∃H',loopO body (H,(i:Int))=some (.inl (H',(xs.length:Int)))∧ArrV 4 m H' idm (bV (mkL bl ((xs.drop i).flatMap f)))∧Fm (fun j=>j=idm) H H':=by
 intro d
 induction d with
 | zero =>
  intro i H bl hi hx ha hl
  have:i=xs.length:=by omega
  subst this
  refine ⟨H,loopO_brk (he H hx),?_,Fm.refl _ _⟩
  rw [List.drop_length]
  exact ha
 | succ d ih =>
  intro i H bl hi hx ha hl
  have hlt:i<xs.length:=by omega
  obtain ⟨H1,b1,b2,b3⟩:=step i hlt H bl hx ha hl
  have x1:Ext H0 H1:=hx.comp b3 fun id hid' _ h=>by omega
  obtain ⟨H2,c1,c2,c3⟩:=ih (i+1) H1 _ (by omega) x1 b2 (by rw [mkL_len]; exact hl)
  refine ⟨H2,by rw [loopO_next b1]; exact c1,?_,b3.comp c3 fun _ _ h=>h⟩
  rw [List.drop_eq_getElem_cons hlt,List.flatMap_cons,mkL_app]
  exact c2
section
variable {m:Nat} {H0 H:AH} {s1 s2 s3:Sl3} {g:Sg} {L0 fuel:Nat}
theorem stand_spec (c:Nat) {idm N:Nat} (hS:SigA H0 s1 s2 s3 g) (hid:H0.next≤idm) (hN:N=g.datas.length):∀(d fuel:Nat) (H:AH) (bl:List Bool) (k w:Int) (n:ByteArray) (s:Sl3) (a:Fo) (inside arr:Bool),Ext H0 H→ArrV 4 m H idm (bV bl)→bl.length=N→SlF H0 s a→shS k w n a=true→knS g.users g.datas k n a=true→a.dep≤fuel→a.dep<d →
  ∃H',fam_ref04_stand (LCo c) (fuel+1) m H k w n s s1 s2 s3 inside arr ⟨some ⟨idm,0,none⟩,N,N⟩=some H'∧ArrV 4 m H' idm (bV (mkL bl (rtS g.datas inside arr k n a)))∧Fm (fun j=>j=idm) H H':=by
 intro d
 induction d with
 | zero=>intro fuel H bl k w n s a inside arr _ _ _ _ _ _ _ h; omega
 | succ d ih =>
  intro fuel H bl k w n s a inside arr hx ha hl h hsh hkn hf hd
  show ∃H',ref04_stand_body (LCo c) (fam_ref04_stand (LCo c) fuel) m H k w n s s1 s2 s3 inside arr ⟨some ⟨idm,0,none⟩,N,N⟩=some H'∧_
  unfold ref04_stand_body
  have own:∃H1,(Option.bind (α:=Bool) (if k=6 then (if inside=true then some arr else some true) else some false) fun v20_2=>if v20_2=true then Option.bind (ref04_Data (LCo c) H s1 s2 s3 n) fun x3=>Option.bind (idxA 1 (⟨some ⟨idm,0,none⟩,N,N⟩:Sl3) x3) fun p4=>Option.bind (H.setCell m p4 (Value.bool true)) fun H5=>some H5 else some H)=some H1 ∧
    ArrV 4 m H1 idm (bV (mkL bl (if k=6∧(inside=false∨arr=true) then [ixS g.datas n] else [])))∧Fm (fun j=>j=idm) H H1:=by
   by_cases hc:k=6∧(inside=false∨arr=true)
   ·rw [if_pos hc]
    have hk:=hkn
    unfold knS at hk
    rw [if_neg (by omega),if_pos hc.1] at hk
    have hlt:=ix_lt hk
    have hD:=Data_spec c (hS.ext hx) n
    have hD:ref04_Data (LCo c) H s1 s2 s3 n=some ((ixS g.datas n:Nat):Int):=by
     rw [hD]
     unfold ixS
     obtain ⟨i,hi⟩:=Option.isSome_iff_exists.1 hk
     rw [hi]
     rfl
    obtain ⟨H1,c1,c2,c3,c4⟩:=ha.set (i:=ixS g.datas n) (by simp [bV]; omega) (.bool true)
    refine ⟨H1,?_,by rw [bV_set] at c2; exact c2,c3⟩
    have hb:(if inside=true then some arr else some true)=some true:=by
     rcases hc.2 with rfl | rfl
     ·rfl
     ·cases inside <;> rfl
    simp only [if_pos hc.1,hb,Option.bind_some,if_true,hD,idxA_arr (show ixS g.datas n<N by omega) rfl,c1]
   ·rw [if_neg hc]
    refine ⟨H,?_,ha,Fm.refl _ _⟩
    have hb:(if k=6 then (if inside=true then some arr else some true) else some false)=some false:=by
     by_cases h6:k=6
     ·rw [if_pos h6]
      cases inside with
      | false=>exact absurd ⟨h6,.inl rfl⟩ hc
      | true =>
       cases arr with
       | false=>rfl
       | true=>exact absurd ⟨h6,.inr rfl⟩ hc
     ·rw [if_neg h6]
    rw [hb]
    rfl
  obtain ⟨H1,o1,o2,o3⟩:=own
  have x1:Ext H0 H1:=hx.comp o3 fun id hid' _ h=>by omega
  have hshF:shF a=true:=by simp only [shS,Bool.and_eq_true] at hsh; exact hsh.2
  have hknF:a=.nil∨knF g.users g.datas a=true:=by
   by_cases h56:k=5∨k=6
   ·exact .inl (shS_nil hsh h56)
   ·unfold knS at hkn
    rw [if_neg (by omega),if_neg (by omega)] at hkn
    exact .inr hkn
  have loop:∀(f:Fo) (i:Nat) (G:AH) (bl:List Bool),FoA H0 s.p i f→s.n=i+f.len→f.dep≤a.dep→shF f=true→(f=.nil∨knF g.users g.datas f=true)→Ext H0 G→ArrV 4 m G idm (bV bl)→bl.length=N →
    ∃G',loopO (ref04_stand_b0 (LCo c) (fam_ref04_stand (LCo c) fuel) m k w n s s1 s2 s3 inside arr ⟨some ⟨idm,0,none⟩,N,N⟩) (G,(i:Int))=some (.inl (G',(s.n:Int)))∧ArrV 4 m G' idm (bV (mkL bl (rtF g.datas inside (arr||decide (k=4)) f)))∧Fm (fun j=>j=idm) G G':=by
   intro f
   induction f with
   | nil =>
    intro i G bl hA hn _ _ _ hx ha hl
    simp only [Fo.len,Nat.add_zero] at hn
    subst hn
    refine ⟨G,loopO_brk ?_,ha,Fm.refl _ _⟩
    unfold ref04_stand_b0
    simp only [if_neg (show ¬((s.n:Int)<(s.n:Int)) by omega)]
   | cons k1 w1 n1 a1 r iha ihr =>
    intro i G bl hA hn hdep hs1 hk1 hx ha hl
    simp only [Fo.len] at hn
    simp only [Fo.dep] at hdep
    simp only [shF,Bool.and_eq_true] at hs1
    have hk1':=hk1.resolve_left (by simp)
    simp only [knF,Bool.and_eq_true] at hk1'
    obtain ⟨q,t1,q1,q2,q3,q4,q5,q6,q7,q8⟩:=hA.rd (s:=s) (by omega)
    obtain ⟨_,_,q1',q2',q3',q4',q5',_,_,_⟩:=(hA.ext hx).rd (s:=s) (by omega)
    rw [q1] at q1'; cases q1'
    have hq5:rd deSl G (q.add 3)=some t1:=by
     obtain ⟨⟨qq,ss,z1,z2,z3,z4,z5⟩,_⟩:=hA
     have e1:=idxA_some (sz:=4) z1 (v:=(i:Int)) rfl (show i<s.n by omega)
     rw [q1] at e1; cases e1
     have r1:rd deSl H0 ((qq.add (i*4)).add 3)=some ss:=by rw [z2.cs.rd]; rfl
     rw [r1] at q5; cases q5
     rw [(z2.cs.ext hx).rd]; rfl
    obtain ⟨g',rfl⟩:∃g',fuel=g'+1:=⟨fuel - 1,by omega⟩
    obtain ⟨G1,y1,y2,y3⟩:=ih g' G bl k1 w1 n1 t1 a1 inside (arr||decide (k=4)) hx ha hl q6 (by simp only [shS,Bool.and_eq_true]; exact hs1.1) hk1'.1 (by omega) (by omega)
    have x2:Ext H0 G1:=hx.comp y3 fun id hid' _ h=>by omega
    obtain ⟨G2,z1,z2,z3⟩:=ihr (i+1) G1 _ q8 (by omega) (by omega) hs1.2 (by cases r with | nil=>exact .inl rfl | cons=>exact .inr hk1'.2) x2 y2 (by rw [mkL_len]; exact hl)
    refine ⟨G2,?_,?_,y3.comp z3 fun _ _ h=>h⟩
    ·have hb:ref04_stand_b0 (LCo c) (fam_ref04_stand (LCo c) (g'+1)) m k w n s s1 s2 s3 inside arr ⟨some ⟨idm,0,none⟩,N,N⟩ (G,(i:Int))=some (.next (G1,((i+1:Nat):Int))):=by
      unfold ref04_stand_b0
      simp only [if_pos (show (i:Int)<(s.n:Int) by omega),q1,q2',q3',q4',hq5,Option.bind_some]
      cases arr with
      | true =>
       simp only [Bool.true_or] at y1
       simp only [if_true,y1,Option.bind_some]
       rw [wrap_next (n:=s.n) (by omega) h.2.1]
      | false =>
       simp only [Bool.false_or] at y1
       simp only [Bool.false_eq_true,if_false,y1,Option.bind_some]
       rw [wrap_next (n:=s.n) (by omega) h.2.1]
     rw [loopO_next hb]
     exact z1
    ·have e:rtF g.datas inside (arr||decide (k=4)) (.cons k1 w1 n1 a1 r)=rtS g.datas inside (arr||decide (k=4)) k1 n1 a1++rtF g.datas inside (arr||decide (k=4)) r:=rfl
     rw [e,mkL_app]
     exact z2
  obtain ⟨H2,l1,l2,l3⟩:=loop a 0 H1 _ h.2.2 (by rw [h.1]; omega) (Nat.le_refl _) hshF hknF x1 o2 (by rw [mkL_len]; exact hl)
  refine ⟨H2,?_,?_,o3.comp l3 fun _ _ h=>h⟩
  ·rw [o1]
   simp only [Option.bind_some]
   show Option.bind (loopO (ref04_stand_b0 (LCo c) (fam_ref04_stand (LCo c) fuel) m k w n s s1 s2 s3 inside arr ⟨some ⟨idm,0,none⟩,N,N⟩) (H1,((0:Nat):Int))) _=_
   rw [l1]
   rfl
  ·unfold rtS
   rw [mkL_app]
   exact l2
end
end Go.Proofs.YtccbilfbhecdaaaDoor
namespace Go.Proofs.YtccbilfbhecdaaaDoor
open Go Go.Abs
set_option maxRecDepth 100000
def wiC (ds:List Dat) (inside:Bool) (c:Con):List Nat:=c.sels.flatMap fun x=>dtI ds inside x.k x.sn x.a
def wiD (ds:List Dat) (inside:Bool) (d:Dat):List Nat:=d.cons.flatMap (wiC ds inside)
theorem wiD_false (ds:List Dat) (d:Dat):wiD ds false d=stD ds d:=by
 unfold wiD stD wiC stC
 simp [dtI,dtS]
theorem freeN_lt:∀(a b:List Bool),a.length=b.length→(∀k (h:k<a.length) (h':k<b.length),a[k]=true→b[k]=true)→(∃k,∃h:k<a.length,∃h':k<b.length,b[k]=true∧a[k]=false)→freeN b<freeN a
 | [],[],_,_,⟨k,h,_⟩=>absurd h (Nat.not_lt_zero _)
 | [],_ :: _,h,_,_=>by simp at h
 | _ :: _,[],h,_,_=>by simp at h
 | x :: a,y :: b,hl,hm,⟨k,h,h',hb,ha⟩=>by
  have hl':a.length=b.length:=by simpa using hl
  have hm':∀k (h:k<a.length) (h':k<b.length),a[k]=true→b[k]=true:=fun k h h' hh=>by
   have:=hm (k+1) (by simp; omega) (by simp; omega) (by simpa using hh)
   simpa using this
  have le:freeN b≤freeN a:=by
   by_cases e:∃k,∃h:k<a.length,∃h':k<b.length,b[k]=true∧a[k]=false
   ·exact Nat.le_of_lt (freeN_lt a b hl' hm' e)
   ·have:a=b:=by
     refine List.ext_getElem hl' fun i h1 h2=>?_
     cases hai:a[i] with
     | true=>rw [hm' i h1 h2 hai]
     | false =>
      cases hbi:b[i] with
      | false=>rfl
      | true=>exact absurd ⟨i,h1,h2,hbi,hai⟩ e
    rw [this]
    exact Nat.le_refl _
  have c0:=hm 0 (by simp) (by simp)
  simp only [List.getElem_cons_zero] at c0
  unfold freeN at le ⊢
  rw [List.countP_cons,List.countP_cons]
  cases k with
  | zero =>
   simp only [List.getElem_cons_zero] at hb ha
   subst hb ha
   simp
   omega
  | succ k =>
   have hlt:=freeN_lt a b hl' hm' ⟨k,by simpa using h,by simpa using h',by simpa using hb,by simpa using ha⟩
   unfold freeN at hlt
   cases x with
   | true=>rw [c0 rfl]; simpa using hlt
   | false=>cases y <;> simp <;> omega
section
variable {m:Nat} {H0 H:AH} {s1 s2 s3:Sl3} {g:Sg} {L0 fuel:Nat}
theorem within_spec (hF:L0=fuel+1) (hfu:15≤fuel) (hG:GoodG g) (hS:SigA H s1 s2 s3 g) (hm:m≤H.next) {i:Nat} (hi:i<g.datas.length) (inside:Bool) :
  ∃id bl H',ref04_within (LCo L0) m H s1 s2 s3 (i:Int) inside=some (⟨some ⟨id,0,none⟩,g.datas.length,g.datas.length⟩,H')∧Ext H H'∧H.next≤id∧ArrV 4 m H' id (bV bl)∧bl.length=g.datas.length∧∀k (h:k<bl.length),bl[k]=true↔k∈wiD g.datas inside g.datas[i]:=by
 have hd:=hS.d.n
 have hnn:=datas_small hG
 obtain ⟨H2,b1,b2,b3,b4⟩:=mkS_arr (e:=4) (bytes:=1) (m:=m) (H:=H) (z:=.bool false) (n:=g.datas.length) (by omega) (by omega) hm
 have b2':ArrV 4 m H2 H.next (bV (List.replicate g.datas.length false)):=by
  have:bV (List.replicate g.datas.length false)=List.replicate g.datas.length (Value.bool false):=by simp [bV]
  rw [this]; exact b2
 obtain ⟨qk,gk1,gk2⟩:=hS.d.get hi (v:=(i:Int)) rfl
 obtain ⟨sl,gk3,hc⟩:=gk2.ex
 have key:=arr_loop (m:=m) (xs:=(g.datas[i]).cons) (body:=ref04_within_b0 (LCo L0) m s1 s2 s3 (i:Int) inside ⟨some ⟨H.next,0,none⟩,g.datas.length,g.datas.length⟩) (wiC g.datas inside) (H0:=H) (idm:=H.next) (N:=g.datas.length) (Nat.le_refl _)
  (fun j hj G bl hx ha hl=>by
   have hln:=hc.n
   have rk:rd deSl G (qk.add 1)=some sl:=by rw [(gk3.ext hx).rd]; rfl
   obtain ⟨q,g1,g2⟩:=hc.get hj (v:=(j:Int)) rfl
   obtain ⟨z,e1,e2⟩:=g2.ex
   have r0:rd deS G (q.add 0)=some (g.datas[i]).cons[j].n:=by rw [(g2.n.ext hx).rd]; rfl
   have r1:rd deSl G (q.add 1)=some z:=by rw [(e1.ext hx).rd]; rfl
   have key2:=arr_loop (m:=m) (xs:=(g.datas[i]).cons[j].sels) (body:=ref04_within_b1 (LCo L0) m s1 s2 s3 (i:Int) inside ⟨some ⟨H.next,0,none⟩,g.datas.length,g.datas.length⟩ (j:Int) (g.datas[i]).cons[j].n z) (fun x=>dtI g.datas inside x.k x.sn x.a) (H0:=H) (idm:=H.next) (N:=g.datas.length) (Nat.le_refl _)
    (fun t ht G bl hx ha hl=>by
     have hln:=e2.n
     obtain ⟨q',k1,k2⟩:=e2.get ht (v:=(t:Int)) rfl
     obtain ⟨y,f1,f2,f3,f4,f5,f6⟩:=k2.ex
     have hadd:∀j,(q'.add 1).add j=q'.add (1+j):=fun j=>add2 k2.n 1 j
     have r1:rd (deI .i64) G ((q'.add 1).add 0)=some ((g.datas[i]).cons[j].sels[t]).k:=by rw [hadd,(f1.ext hx).rd]; rfl
     have r2:rd (deI .i64) G ((q'.add 1).add 1)=some ((g.datas[i]).cons[j].sels[t]).w:=by rw [hadd,(f2.ext hx).rd]; rfl
     have r3:rd deS G ((q'.add 1).add 2)=some ((g.datas[i]).cons[j].sels[t]).sn:=by rw [hadd,(f3.ext hx).rd]; rfl
     have r4:rd deSl G ((q'.add 1).add 3)=some y:=by rw [hadd,(f4.ext hx).rd]; rfl
     have hs:=hG.sel _ (List.getElem_mem hi) _ (List.getElem_mem hj) _ (List.getElem_mem ht)
     obtain ⟨G1,y1,y2,y3⟩:=stand_spec (m:=m) L0 hS (Nat.le_refl _) rfl (((g.datas[i]).cons[j].sels[t]).a.dep+1) fuel G bl ((g.datas[i]).cons[j].sels[t]).k ((g.datas[i]).cons[j].sels[t]).w ((g.datas[i]).cons[j].sels[t]).sn y ((g.datas[i]).cons[j].sels[t]).a inside false hx ha hl f6 hs.sh hs.kn (by have:=hs.dp; omega) (by omega)
     rw [rtS_dtI g.datas inside hs.sh] at y2
     refine ⟨G1,?_,y2,y3⟩
     have e1':(LCo L0).fuel=fuel+1:=hF
     unfold ref04_within_b1 ref04_stand
     rw [e1']
     simp only [if_pos (show (t:Int)<(z.n:Int) by omega),k1,Option.bind_some,r1,r2,r3,r4,y1]
     rw [wrap_next ht e2.len])
    (fun G hx=>by
     unfold ref04_within_b1
     have hln:=e2.n
     simp only [if_neg (show ¬(((g.datas[i]).cons[j].sels.length:Int)<(z.n:Int)) by omega)])
    (g.datas[i]).cons[j].sels.length 0 G bl (by omega) hx ha hl
   rw [List.drop_zero] at key2
   obtain ⟨G1,y1,y2,y3⟩:=key2
   refine ⟨G1,?_,y2,y3⟩
   unfold ref04_within_b0
   simp only [gk1,Option.bind_some,rk,if_pos (show (j:Int)<(sl.n:Int) by omega),g1,r0,r1]
   show Option.bind (loopO (ref04_within_b1 (LCo L0) m s1 s2 s3 (i:Int) inside ⟨some ⟨H.next,0,none⟩,g.datas.length,g.datas.length⟩ (j:Int) (g.datas[i]).cons[j].n z) (G,0)) _=_
   have y1':loopO (ref04_within_b1 (LCo L0) m s1 s2 s3 (i:Int) inside ⟨some ⟨H.next,0,none⟩,g.datas.length,g.datas.length⟩ (j:Int) (g.datas[i]).cons[j].n z) (G,0)=_:=y1
   rw [y1']
   simp only [Option.bind_some]
   rw [wrap_next hj hc.len])
  (fun G hx=>by
   have rk:rd deSl G (qk.add 1)=some sl:=by rw [(gk3.ext hx).rd]; rfl
   have hln:=hc.n
   unfold ref04_within_b0
   simp only [gk1,Option.bind_some,rk,if_neg (show ¬(((g.datas[i]).cons.length:Int)<(sl.n:Int)) by omega)])
  (g.datas[i]).cons.length 0 H2 _ (by omega) b3 b2' (by simp)
 rw [List.drop_zero] at key
 obtain ⟨H',c1,c2,c3⟩:=key
 refine ⟨H.next,_,H',?_,b3.comp c3 fun id hid _ h=>by omega,Nat.le_refl _,c2,by rw [mkL_len]; simp,fun k hk=>?_⟩
 ·unfold ref04_within
  simp only [hd,b1,Option.bind_some]
  show Option.bind (loopO (ref04_within_b0 (LCo L0) m s1 s2 s3 (i:Int) inside ⟨some ⟨H.next,0,none⟩,g.datas.length,g.datas.length⟩) (H2,0)) _=_
  have c1':loopO (ref04_within_b0 (LCo L0) m s1 s2 s3 (i:Int) inside ⟨some ⟨H.next,0,none⟩,g.datas.length,g.datas.length⟩) (H2,0)=_:=c1
  rw [c1']
  rfl
 ·have hk':k<g.datas.length:=by rw [mkL_len] at hk; simpa using hk
  have:=mkL_get ((g.datas[i]).cons.flatMap (wiC g.datas inside)) (List.replicate g.datas.length false) k
  constructor
  ·intro h
   rcases this.1 ⟨hk,h⟩ with ⟨h1,h2⟩ | h1
   ·simp at h2
   ·exact h1.1
  ·intro h
   exact (this.2 (.inr ⟨h,by simpa using hk'⟩)).2
theorem edg_iff {i k:Nat} (hi:i<g.datas.length):k∈wiD g.datas false g.datas[i]↔EdgS g i k:=by
 rw [wiD_false]
 exact ⟨fun h=>⟨hi,h⟩,fun ⟨_,h⟩=>h⟩
theorem rLeans_b2 (c:Nat) {idm idn n:Nat} {v7:Int} {bl nb:List Bool} {v6:Bool} (hne:idm≠idn) (hnl:nb.length=n) (hbl:bl.length=n) (hn:n≤4096) (ha:ArrV 4 m H idm (bV bl)) (hb:ArrV 4 m H idn (bV nb)) :
  ∃H' bl' v',loopO (ref04_Leans_b2 (LCo c) m s1 s2 s3 ⟨some ⟨idm,0,none⟩,n,n⟩ v7 ⟨some ⟨idn,0,none⟩,n,n⟩) (H,v6,0)=some (.inl (H',v',(n:Int)))∧ArrV 4 m H' idm (bV bl')∧bl'.length=n∧Fm (fun j=>j=idm) H H' ∧
   (∀k (h:k<bl'.length) (h1:k<bl.length) (h2:k<nb.length),bl'[k]=true↔(bl[k]=true∨nb[k]=true))∧(v'=true↔v6=true∨∃k,∃h1:k<bl.length,∃h2:k<nb.length,nb[k]=true∧bl[k]=false):=by
 have key:∀(d i:Nat) (G:AH) (bc:List Bool) (v:Bool),i+d=n→ArrV 4 m G idm (bV bc)→ArrV 4 m G idn (bV nb)→bc.length=n →
   ∃H' bl' v',loopO (ref04_Leans_b2 (LCo c) m s1 s2 s3 ⟨some ⟨idm,0,none⟩,n,n⟩ v7 ⟨some ⟨idn,0,none⟩,n,n⟩) (G,v,(i:Int))=some (.inl (H',v',(n:Int)))∧ArrV 4 m H' idm (bV bl')∧bl'.length=n∧Fm (fun j=>j=idm) G H' ∧
    (∀k (h:k<bl'.length) (h1:k<bc.length) (h2:k<nb.length),bl'[k]=true↔(bc[k]=true∨(i≤k∧nb[k]=true)))∧(v'=true↔v=true∨∃k,∃h1:k<bc.length,∃h2:k<nb.length,i≤k∧nb[k]=true∧bc[k]=false):=by
  intro d
  induction d with
  | zero =>
   intro i G bc v hi ha hb hl
   obtain rfl:i=n:=by omega
   refine ⟨G,bc,v,loopO_brk ?_,ha,hl,Fm.refl _ _,fun k h h1 h2=>?_,?_⟩
   ·unfold ref04_Leans_b2
    simp only [if_neg (show ¬((i:Int)<(i:Int)) by omega)]
   ·constructor
    ·exact fun h=>.inl h
    ·rintro (h | ⟨h,_⟩)
     ·exact h
     ·omega
   ·constructor
    ·exact fun h=>.inl h
    ·rintro (h | ⟨k,h1,h2,h3,_⟩)
     ·exact h
     ·omega
  | succ d ih =>
   intro i G bc v hi ha hb hl
   have hin:i<n:=by omega
   have hib:i<bc.length:=by omega
   have hinb:i<nb.length:=by omega
   have rn:rd deB G ((⟨idn,0,none⟩:Addr).add (i*1))=some nb[i]:=by rw [(hb.cel (show (bV nb)[i]? = some (.bool nb[i]) by simp [bV,hinb])).rd]; rfl
   have rm:rd deB G ((⟨idm,0,none⟩:Addr).add (i*1))=some bc[i]:=by rw [(ha.cel (show (bV bc)[i]? = some (.bool bc[i]) by simp [bV,hib])).rd]; rfl
   have im:idxA 1 (⟨some ⟨idm,0,none⟩,n,n⟩:Sl3) (i:Int)=some ((⟨idm,0,none⟩:Addr).add (i*1)):=idxA_arr hin rfl
   have inn:idxA 1 (⟨some ⟨idn,0,none⟩,n,n⟩:Sl3) (i:Int)=some ((⟨idn,0,none⟩:Addr).add (i*1)):=idxA_arr hin rfl
   by_cases hch:nb[i]=true∧bc[i]=false
   ·obtain ⟨G1,c1,c2,c3,c4⟩:=ha.set (i:=i) (by simp [bV]; omega) (.bool true)
    rw [bV_set] at c2
    have hb1:=hb.fr c3 (fun h=>hne h.symm)
    obtain ⟨H',bl',v',w1,w2,w3,w4,w5,w6⟩:=ih (i+1) G1 (bc.set i true) true (by omega) c2 hb1 (by simp [hl])
    refine ⟨H',bl',v',?_,w2,w3,c3.comp w4 fun _ _ h=>h,fun k h h1 h2=>?_,?_⟩
    ·have hbody:ref04_Leans_b2 (LCo c) m s1 s2 s3 ⟨some ⟨idm,0,none⟩,n,n⟩ v7 ⟨some ⟨idn,0,none⟩,n,n⟩ (G,v,(i:Int))=some (.next (G1,true,((i+1:Nat):Int))):=by
      unfold ref04_Leans_b2
      simp only [if_pos (show (i:Int)<(n:Int) by omega),inn,Option.bind_some,rn,hch.1,if_true,im,rm,hch.2,Bool.not_false,c1]
      rw [wrap_next hin (by rw [maxN_eq]; omega)]
     rw [loopO_next hbody]
     exact w1
    ·rw [w5 k h (by simpa using h1) h2,List.getElem_set]
     by_cases e:i=k
     ·subst e
      simp [hch.1]
     ·rw [if_neg e]
      constructor
      ·rintro (h | ⟨h,h'⟩)
       ·exact .inl h
       ·exact .inr ⟨by omega,h'⟩
      ·rintro (h | ⟨h,h'⟩)
       ·exact .inl h
       ·exact .inr ⟨by omega,h'⟩
    ·rw [w6]
     constructor
     ·intro _; exact .inr ⟨i,hib,hinb,Nat.le_refl _,hch⟩
     ·intro _; exact .inl rfl
   ·have hcond:(if nb[i]=true then some (!bc[i]) else some false)=some false:=by
     cases hnb:nb[i] with
     | false=>rfl
     | true =>
      cases hbc:bc[i] with
      | true=>rfl
      | false=>exact absurd ⟨hnb,hbc⟩ hch
    obtain ⟨H',bl',v',w1,w2,w3,w4,w5,w6⟩:=ih (i+1) G bc v (by omega) ha hb hl
    refine ⟨H',bl',v',?_,w2,w3,w4,fun k h h1 h2=>?_,?_⟩
    ·have hbody:ref04_Leans_b2 (LCo c) m s1 s2 s3 ⟨some ⟨idm,0,none⟩,n,n⟩ v7 ⟨some ⟨idn,0,none⟩,n,n⟩ (G,v,(i:Int))=some (.next (G,v,((i+1:Nat):Int))):=by
      unfold ref04_Leans_b2
      simp only [if_pos (show (i:Int)<(n:Int) by omega),inn,Option.bind_some,rn,im,rm,hcond,Bool.false_eq_true,if_false]
      rw [wrap_next hin (by rw [maxN_eq]; omega)]
     rw [loopO_next hbody]
     exact w1
    ·rw [w5 k h h1 h2]
     constructor
     ·rintro (h | ⟨h,h'⟩)
      ·exact .inl h
      ·exact .inr ⟨by omega,h'⟩
     ·rintro (h | ⟨h,h'⟩)
      ·exact .inl h
      ·by_cases e:i=k
       ·subst e
        cases hbc:bc[i] with
        | true=>exact .inl rfl
        | false=>exact absurd ⟨h',hbc⟩ hch
       ·exact .inr ⟨by omega,h'⟩
    ·rw [w6]
     constructor
     ·rintro (h | ⟨k,h1,h2,h3,h4⟩)
      ·exact .inl h
      ·exact .inr ⟨k,h1,h2,by omega,h4⟩
     ·rintro (h | ⟨k,h1,h2,h3,h4⟩)
      ·exact .inl h
      ·by_cases e:i=k
       ·subst e; exact absurd h4 hch
       ·exact .inr ⟨k,h1,h2,by omega,h4⟩
 obtain ⟨H',bl',v',w1,w2,w3,w4,w5,w6⟩:=key n 0 H bl v6 (by omega) ha hb hbl
 refine ⟨H',bl',v',w1,w2,w3,w4,fun k h h1 h2=>?_,?_⟩
 ·rw [w5 k h h1 h2]; simp
 ·rw [w6]; simp
end
end Go.Proofs.YtccbilfbhecdaaaDoor
namespace Go.Proofs.YtccbilfbhecdaaaDoor
open Go Go.Abs
set_option maxRecDepth 100000
def On (bl:List Bool) (k:Nat):Prop:=∃h:k<bl.length,bl[k]=true
theorem loopO_exR {α R:Type} {xs:List α} {body:AH×Int→Option (Lp (AH×Int) R)} (r:AH→R) (P:Nat→α→Prop) {H0:AH}
  (step:∀(i:Nat) (hi:i<xs.length) (H:AH),Ext H0 H→∃H',Ext H0 H'∧((P i xs[i]∧body (H,(i:Int))=some (.ret (r H')))∨(¬P i xs[i]∧body (H,(i:Int))=some (.next (H',((i+1:Nat):Int))))))
  (he:∀H,Ext H0 H→body (H,(xs.length:Int))=some (.brk (H,(xs.length:Int)))) :
  ∀(d i:Nat) (H:AH),i+d=xs.length→Ext H0 H→∃H',Ext H0 H'∧(((∃j,∃h:j<xs.length,i≤j∧P j xs[j])∧loopO body (H,(i:Int))=some (.inr (r H')))∨((¬∃j,∃h:j<xs.length,i≤j∧P j xs[j])∧loopO body (H,(i:Int))=some (.inl (H',(xs.length:Int))))):=by
 intro d
 induction d with
 | zero =>
  intro i H hi hx
  have:i=xs.length:=by omega
  subst this
  refine ⟨H,hx,.inr ⟨?_,loopO_brk (he H hx)⟩⟩
  rintro ⟨j,h,h',_⟩
  omega
 | succ d ih =>
  intro i H hi hx
  have hlt:i<xs.length:=by omega
  obtain ⟨H1,x1,h⟩:=step i hlt H hx
  rcases h with ⟨hp,hb⟩ | ⟨hp,hb⟩
  ·exact ⟨H1,x1,.inl ⟨⟨i,hlt,Nat.le_refl _,hp⟩,loopO_ret hb⟩⟩
  ·obtain ⟨H2,x2,h⟩:=ih (i+1) H1 (by omega) x1
   refine ⟨H2,x2,?_⟩
   rw [loopO_next hb]
   rcases h with ⟨⟨j,hj,h1,h2⟩,h3⟩ | ⟨h1,h3⟩
   ·exact .inl ⟨⟨j,hj,by omega,h2⟩,h3⟩
   ·refine .inr ⟨?_,h3⟩
    rintro ⟨j,hj,h4,h5⟩
    by_cases e:j=i
    ·subst e; exact hp h5
    ·exact h1 ⟨j,hj,by omega,h5⟩
theorem freeN_le {a b:List Bool} (hl:a.length=b.length) (hm:∀k,On a k→On b k):freeN b≤freeN a:=by
 have hm':∀k (h:k<a.length) (h':k<b.length),a[k]=true→b[k]=true:=fun k h _ hh=>(hm k ⟨h,hh⟩).2
 by_cases e:∃k,∃h:k<a.length,∃h':k<b.length,b[k]=true∧a[k]=false
 ·exact Nat.le_of_lt (freeN_lt a b hl hm' e)
 ·have:a=b:=by
   refine List.ext_getElem hl fun i h1 h2=>?_
   cases hai:a[i] with
   | true=>rw [hm' i h1 h2 hai]
   | false =>
    cases hbi:b[i] with
    | false=>rfl
    | true=>exact absurd ⟨i,h1,h2,hbi,hai⟩ e
  rw [this]
  exact Nat.le_refl _
section
variable {m:Nat} {H0 H:AH} {s1 s2 s3:Sl3} {g:Sg} {L0 fuel:Nat}
theorem rLeans_b1 (hF:L0=fuel+1) (hfu:15≤fuel) (hG:GoodG g) (hS:SigA H0 s1 s2 s3 g) (hm:m≤H0.next) {idm n d0:Nat} (hn:n=g.datas.length) (hid:H0.next≤idm):∀(t i:Nat) (H:AH) (bl:List Bool) (v:Bool),i+t=n→Ext H0 H→ArrV 4 m H idm (bV bl)→bl.length=n→(∀k,On bl k→Lean1 g d0 k) →
  ∃H' bl' v',loopO (ref04_Leans_b1 (LCo L0) m s1 s2 s3 ⟨some ⟨idm,0,none⟩,n,n⟩) (H,v,(i:Int))=some (.inl (H',v',(n:Int)))∧ArrV 4 m H' idm (bV bl')∧bl'.length=n∧Fm (fun j=>j=idm) H H' ∧
   (∀k,On bl' k→Lean1 g d0 k)∧(∀k,On bl k→On bl' k)∧(v=true→v'=true)∧(v'=true→v=true∨freeN bl'<freeN bl)∧(v'=false→bl'=bl∧∀j k,i≤j→On bl j→EdgS g j k→On bl k):=by
 have hnn:n≤4096:=by rw [hn]; exact datas_small hG
 intro t
 induction t with
 | zero =>
  intro i H bl v hi hx ha hl hs
  obtain rfl:i=n:=by omega
  refine ⟨H,bl,v,loopO_brk ?_,ha,hl,Fm.refl _ _,hs,fun _ h=>h,fun h=>h,fun h=>.inl h,fun _=>⟨rfl,fun j k hj h=>?_⟩⟩
  ·unfold ref04_Leans_b1
   simp only [if_neg (show ¬((i:Int)<(i:Int)) by omega)]
  ·obtain ⟨h1,_⟩:=h; omega
 | succ t ih =>
  intro i H bl v hi hx ha hl hs
  have hin:i<n:=by omega
  have hib:i<bl.length:=by omega
  have hig:i<g.datas.length:=by omega
  have rm:rd deB H ((⟨idm,0,none⟩:Addr).add (i*1))=some bl[i]:=by rw [(ha.cel (show (bV bl)[i]? = some (.bool bl[i]) by simp [bV,hib])).rd]; rfl
  have im:idxA 1 (⟨some ⟨idm,0,none⟩,n,n⟩:Sl3) (i:Int)=some ((⟨idm,0,none⟩:Addr).add (i*1)):=idxA_arr hin rfl
  cases hb:bl[i] with
  | false =>
   obtain ⟨H',bl',v',w1,w2,w3,w4,w5,w6,w7,w8,w9⟩:=ih (i+1) H bl v (by omega) hx ha hl hs
   refine ⟨H',bl',v',?_,w2,w3,w4,w5,w6,w7,w8,fun hv=>⟨(w9 hv).1,fun j k hj h he=>?_⟩⟩
   ·have hbody:ref04_Leans_b1 (LCo L0) m s1 s2 s3 ⟨some ⟨idm,0,none⟩,n,n⟩ (H,v,(i:Int))=some (.next (H,v,((i+1:Nat):Int))):=by
     unfold ref04_Leans_b1
     rw [hb] at rm
     simp only [if_pos (show (i:Int)<(n:Int) by omega),im,rm,Option.bind_some,Bool.false_eq_true,if_false]
     rw [wrap_next hin (by rw [maxN_eq]; omega)]
    rw [loopO_next hbody]
    exact w1
   ·by_cases e:j=i
    ·subst e
     obtain ⟨_,h⟩:=h
     rw [hb] at h; cases h
    ·exact (w9 hv).2 j k (by omega) h he
  | true =>
   have hmH:m≤H.next:=Nat.le_trans hm hx.1
   obtain ⟨idn,nb,H1,c1,c2,c3,c4,c5,c6⟩:=within_spec hF hfu hG (hS.ext hx) hmH hig false
   have hlow:=ha.low
   have hnbl:nb.length=n:=by rw [c5,hn]
   have e1:(⟨some ⟨idn,0,none⟩,g.datas.length,g.datas.length⟩:Sl3)=⟨some ⟨idn,0,none⟩,n,n⟩:=by rw [hn]
   rw [e1] at c1
   obtain ⟨H2,bl1,v1,d1,d2,d3,d4,d5,d6⟩:=rLeans_b2 (m:=m) (s1:=s1) (s2:=s2) (s3:=s3) L0 (v7:=(i:Int)) (v6:=v) (show idm≠idn by omega) hnbl hl hnn (ha.ext c2) c4
   have x2:Ext H0 H2:=(hx.trans c2).comp d4 fun id hid' _ h=>by omega
   have on1:∀k,On bl1 k↔(On bl k∨EdgS g i k):=fun k=>by
    constructor
    ·rintro ⟨h,h'⟩
     rcases (d5 k h (by omega) (by omega)).1 h' with h1 | h1
     ·exact .inl ⟨by omega,h1⟩
     ·exact .inr ((edg_iff hig).1 ((c6 k (by omega)).1 h1))
    ·rintro (⟨h,h'⟩ | h)
     ·exact ⟨by omega,(d5 k (by omega) h (by omega)).2 (.inl h')⟩
     ·have hk:=edg_lt hG h
      exact ⟨by omega,(d5 k (by omega) (by omega) (by omega)).2 (.inr ((c6 k (by omega)).2 ((edg_iff hig).2 h)))⟩
   have li:Lean1 g d0 i:=hs i ⟨hib,hb⟩
   have s1':∀k,On bl1 k→Lean1 g d0 k:=fun k hk=>by
    rcases (on1 k).1 hk with h | h
    ·exact hs k h
    ·exact .more li h
   obtain ⟨H',bl',v',w1,w2,w3,w4,w5,w6,w7,w8,w9⟩:=ih (i+1) H2 bl1 v1 (by omega) x2 d2 d3 s1'
   have fm2:Fm (fun j=>j=idm) H H2:=(c2.weak (W':=fun j=>j=idm) fun _ _ h=>h.elim).comp d4 fun _ _ h=>h
   refine ⟨H',bl',v',?_,w2,w3,fm2.comp w4 fun _ _ h=>h,w5,fun k hk=>w6 k ((on1 k).2 (.inl hk)),fun h=>w7 (d6.2 (.inl h)),fun h=>?_,fun hv=>?_⟩
   ·have hbody:ref04_Leans_b1 (LCo L0) m s1 s2 s3 ⟨some ⟨idm,0,none⟩,n,n⟩ (H,v,(i:Int))=some (.next (H2,v1,((i+1:Nat):Int))):=by
     unfold ref04_Leans_b1
     rw [hb] at rm
     simp only [if_pos (show (i:Int)<(n:Int) by omega),im,rm,Option.bind_some,if_true,c1]
     show Option.bind (Option.bind (loopO (ref04_Leans_b2 (LCo L0) m s1 s2 s3 ⟨some ⟨idm,0,none⟩,n,n⟩ (i:Int) ⟨some ⟨idn,0,none⟩,n,n⟩) (H1,v,0)) _) _=_
     rw [d1]
     simp only [Option.bind_some]
     rw [wrap_next hin (by rw [maxN_eq]; omega)]
    rw [loopO_next hbody]
    exact w1
   ·rcases w8 h with h1 | h1
    ·rcases d6.1 h1 with h2 | ⟨k,k1,k2,k3,k4⟩
     ·exact .inl h2
     ·right
      have a1:freeN bl1<freeN bl:=freeN_lt bl bl1 (by omega) (fun k h h' hh=>((on1 k).2 (.inl ⟨h,hh⟩)).2) ⟨k,k1,by omega,(d5 k (by omega) k1 k2).2 (.inr k3),k4⟩
      have a2:=freeN_le (a:=bl1) (b:=bl') (by omega) w6
      omega
    ·right
     have a1:=freeN_le (a:=bl) (b:=bl1) (by omega) fun k hk=>(on1 k).2 (.inl hk)
     omega
   ·obtain ⟨h1,h2⟩:=w9 hv
    have hv1:v1=false:=by
     cases e:v1 with
     | false=>rfl
     | true=>rw [w7 e] at hv; cases hv
    have e1:bl1=bl:=by
     refine List.ext_getElem (by omega) fun k h1 h2=>?_
     cases hbk:bl[k] with
     | true=>exact ((on1 k).2 (.inl ⟨h2,hbk⟩)).2
     | false =>
      cases hb1:bl1[k] with
      | false=>rfl
      | true =>
       rcases (d5 k h1 h2 (by omega)).1 hb1 with h | h
       ·rw [hbk] at h; cases h
       ·have:=d6.2 (.inr ⟨k,h2,by omega,h,hbk⟩)
        rw [hv1] at this; cases this
    subst e1
    refine ⟨h1,fun j k hj h he=>?_⟩
    by_cases e:j=i
    ·subst e
     exact (on1 k).2 (.inr he)
    ·exact h2 j k (by omega) h he
theorem rLeans_b0 (hF:L0=fuel+1) (hfu:15≤fuel) (hG:GoodG g) (hS:SigA H0 s1 s2 s3 g) (hm:m≤H0.next) {idm n d0:Nat} (hn:n=g.datas.length) (hid:H0.next≤idm):∀(u:Nat) (H:AH) (bl:List Bool),freeN bl=u→Ext H0 H→ArrV 4 m H idm (bV bl)→bl.length=n→(∀k,On bl k→Lean1 g d0 k)→(∀k,EdgS g d0 k→On bl k) →
  ∃H' bl',loopO (ref04_Leans_b0 (LCo L0) m s1 s2 s3 ⟨some ⟨idm,0,none⟩,n,n⟩) (H,true)=some (.inl (H',false))∧ArrV 4 m H' idm (bV bl')∧bl'.length=n∧Fm (fun j=>j=idm) H H'∧∀k,On bl' k↔Lean1 g d0 k:=by
 intro u
 induction u using Nat.strongRecOn with
 | ind u ih =>
  intro H bl hu hx ha hl hs hf
  obtain ⟨H1,bl1,v1,w1,w2,w3,w4,w5,w6,w7,w8,w9⟩:=rLeans_b1 hF hfu hG hS hm hn hid n 0 H bl false (by omega) hx ha hl hs
  have hbody:ref04_Leans_b0 (LCo L0) m s1 s2 s3 ⟨some ⟨idm,0,none⟩,n,n⟩ (H,true)=some (.next (H1,v1)):=by
   unfold ref04_Leans_b0
   simp only [if_true]
   show Option.bind (loopO (ref04_Leans_b1 (LCo L0) m s1 s2 s3 ⟨some ⟨idm,0,none⟩,n,n⟩) (H,false,0)) _=_
   have w1':loopO (ref04_Leans_b1 (LCo L0) m s1 s2 s3 ⟨some ⟨idm,0,none⟩,n,n⟩) (H,false,0)=_:=w1
   rw [w1']
   rfl
  have x1:Ext H0 H1:=hx.comp w4 fun id hid' _ h=>by omega
  rw [loopO_next hbody]
  cases v1 with
  | true =>
   have hlt:=(w8 rfl).resolve_left (by simp)
   obtain ⟨H',bl',z1,z2,z3,z4,z5⟩:=ih (freeN bl1) (by omega) H1 bl1 rfl x1 w2 w3 w5 fun k hk=>w6 k (hf k hk)
   exact ⟨H',bl',z1,z2,z3,w4.comp z4 fun _ _ h=>h,z5⟩
  | false =>
   obtain ⟨e,hc⟩:=w9 rfl
   subst e
   refine ⟨H1,bl1,loopO_brk ?_,w2,w3,w4,fun k=>⟨hs k,fun hk=>?_⟩⟩
   ·unfold ref04_Leans_b0
    simp only [Bool.false_eq_true,if_false]
   ·clear hbody w1
    induction hk with
    | one h=>exact hf _ h
    | more h1 h2 ih'=>exact hc _ _ (Nat.zero_le _) ih' h2
theorem rLeans_spec (hF:L0=fuel+1) (hfu:15≤fuel) (hG:GoodG g) (hS:SigA H s1 s2 s3 g) (hm:m≤H.next) {i:Nat} (hi:i<g.datas.length) :
  ∃id bl H',ref04_Leans (LCo L0) m H s1 s2 s3 (i:Int)=some (⟨some ⟨id,0,none⟩,g.datas.length,g.datas.length⟩,H')∧Ext H H'∧ArrV 4 m H' id (bV bl)∧bl.length=g.datas.length∧∀k,On bl k↔Lean1 g i k:=by
 obtain ⟨id,bl,H1,c1,c2,c3,c4,c5,c6⟩:=within_spec hF hfu hG hS hm hi false
 have hs:∀k,On bl k↔EdgS g i k:=fun k=>by
  constructor
  ·rintro ⟨h,h'⟩; exact (edg_iff hi).1 ((c6 k h).1 h')
  ·intro h
   have hk:=edg_lt hG h
   exact ⟨by omega,(c6 k (by omega)).2 ((edg_iff hi).2 h)⟩
 obtain ⟨H',bl',z1,z2,z3,z4,z5⟩:=rLeans_b0 hF hfu hG hS hm (n:=g.datas.length) (d0:=i) rfl c3 (freeN bl) H1 bl rfl c2 c4 c5 (fun k hk=>.one ((hs k).1 hk)) fun k hk=>(hs k).2 hk
 refine ⟨id,bl',H',?_,c2.comp z4 fun id' hid _ h=>by omega,z2,z3,z5⟩
 unfold ref04_Leans
 rw [c1]
 simp only [Option.bind_some]
 show Option.bind (loopO (ref04_Leans_b0 (LCo L0) m s1 s2 s3 ⟨some ⟨id,0,none⟩,g.datas.length,g.datas.length⟩) (H1,true)) _=_
 rw [z1]
 rfl
def NestD (g:Sg) (i:Nat):Prop:=∃h:i<g.datas.length,∃k∈wiD g.datas true g.datas[i],k=i∨Lean1 g k i
theorem nestD_iff:(∃i,NestD g i)↔NestP g:=by
 constructor
 ·rintro ⟨i,hi,k,hk,h⟩
  unfold wiD wiC at hk
  simp only [List.mem_flatMap] at hk
  obtain ⟨c,hc,x,hx,hk⟩:=hk
  exact ⟨i,hi,c,hc,x,hx,k,hk,h⟩
 ·rintro ⟨i,hi,c,hc,x,hx,k,hk,h⟩
  refine ⟨i,hi,k,?_,h⟩
  unfold wiD wiC
  simp only [List.mem_flatMap]
  exact ⟨c,hc,x,hx,hk⟩
theorem rNested_spec (hF:L0=fuel+1) (hfu:15≤fuel) (hG:GoodG g) (hS:SigA H s1 s2 s3 g) (hm:m≤H.next) {i:Nat} (hi:i<g.datas.length) :
  ∃b H',ref04_nested (LCo L0) m H s1 s2 s3 (i:Int)=some (b,H')∧Ext H H'∧(b=true↔NestD g i):=by
 have hnn:=datas_small hG
 obtain ⟨id,bl,H1,c1,c2,c3,c4,c5,c6⟩:=within_spec hF hfu hG hS hm hi true
 obtain ⟨H',h1,h2⟩:=loopO_exR (xs:=bl) (body:=ref04_nested_b0 (LCo L0) m s1 s2 s3 (i:Int) ⟨some ⟨id,0,none⟩,g.datas.length,g.datas.length⟩) (fun G=>(true,G)) (fun j b=>b=true∧(j=i∨Lean1 g j i)) (H0:=H1)
  (fun j hj G hx=>by
   have hjn:j<g.datas.length:=by omega
   have rm:rd deB G ((⟨id,0,none⟩:Addr).add (j*1))=some bl[j]:=by rw [((c4.ext hx).cel (show (bV bl)[j]? = some (.bool bl[j]) by simp [bV,hj])).rd]; rfl
   have im:idxA 1 (⟨some ⟨id,0,none⟩,g.datas.length,g.datas.length⟩:Sl3) (j:Int)=some ((⟨id,0,none⟩:Addr).add (j*1)):=idxA_arr hjn rfl
   cases hb:bl[j] with
   | false =>
    refine ⟨G,hx,.inr ⟨by simp,?_⟩⟩
    unfold ref04_nested_b0
    rw [hb] at rm
    simp only [if_pos (show (j:Int)<(g.datas.length:Int) by omega),im,rm,Option.bind_some,Bool.false_eq_true,if_false]
    rw [wrap_next hjn (by rw [maxN_eq]; omega)]
   | true =>
    rw [hb] at rm
    by_cases e:j=i
    ·refine ⟨G,hx,.inl ⟨⟨rfl,.inl e⟩,?_⟩⟩
     unfold ref04_nested_b0
     simp only [if_pos (show (j:Int)<(g.datas.length:Int) by omega),im,rm,Option.bind_some,if_true,if_pos (show (j:Int)=(i:Int) by omega)]
    ·have xx:=c2.trans hx
     obtain ⟨id2,bl2,G2,y1,y2,y3,y4,y5⟩:=rLeans_spec hF hfu hG (hS.ext xx) (Nat.le_trans hm xx.1) hjn
     have hib:i<bl2.length:=by omega
     have rm2:rd deB G2 ((⟨id2,0,none⟩:Addr).add (i*1))=some bl2[i]:=by rw [(y3.cel (show (bV bl2)[i]? = some (.bool bl2[i]) by simp [bV,hib])).rd]; rfl
     have im2:idxA 1 (⟨some ⟨id2,0,none⟩,g.datas.length,g.datas.length⟩:Sl3) (i:Int)=some ((⟨id2,0,none⟩:Addr).add (i*1)):=idxA_arr hi rfl
     refine ⟨G2,hx.trans y2,?_⟩
     cases hb2:bl2[i] with
     | true =>
      refine .inl ⟨⟨rfl,.inr ((y5 i).1 ⟨hib,hb2⟩)⟩,?_⟩
      rw [hb2] at rm2
      unfold ref04_nested_b0
      simp only [if_pos (show (j:Int)<(g.datas.length:Int) by omega),im,rm,Option.bind_some,if_true,if_neg (show ¬((j:Int)=(i:Int)) by omega),y1,im2,rm2]
     | false =>
      refine .inr ⟨?_,?_⟩
      ·rintro ⟨_,h | h⟩
       ·exact e h
       ·obtain ⟨_,h⟩:=(y5 i).2 h
        rw [hb2] at h; cases h
      ·rw [hb2] at rm2
       unfold ref04_nested_b0
       simp only [if_pos (show (j:Int)<(g.datas.length:Int) by omega),im,rm,Option.bind_some,if_true,if_neg (show ¬((j:Int)=(i:Int)) by omega),y1,im2,rm2,Bool.false_eq_true,if_false]
       rw [wrap_next hjn (by rw [maxN_eq]; omega)])
  (fun G hx=>by
   unfold ref04_nested_b0
   simp only [if_neg (show ¬((bl.length:Int)<(g.datas.length:Int)) by omega)])
  bl.length 0 H1 (by omega) (Fm.refl _ _)
 have iff:(∃j,∃h:j<bl.length,0≤j∧bl[j]=true∧(j=i∨Lean1 g j i))↔NestD g i:=by
  constructor
  ·rintro ⟨j,hj,_,hp,hq⟩; exact ⟨hi,j,(c6 j hj).1 hp,hq⟩
  ·rintro ⟨_,k,hk,hq⟩
   have hkl:k<g.datas.length:=by
    unfold wiD wiC at hk
    simp only [List.mem_flatMap] at hk
    obtain ⟨c,hc,x,hx,hk⟩:=hk
    exact dtI_lt (hG.sel _ (List.getElem_mem hi) c hc x hx) k hk
   exact ⟨k,by omega,Nat.zero_le _,(c6 k (by omega)).2 hk,hq⟩
 rw [iff] at h2
 unfold ref04_nested
 rw [c1]
 simp only [Option.bind_some]
 show ∃b H',Option.bind (loopO (ref04_nested_b0 (LCo L0) m s1 s2 s3 (i:Int) ⟨some ⟨id,0,none⟩,g.datas.length,g.datas.length⟩) (H1,((0:Nat):Int))) _=_∧_
 rcases h2 with ⟨hp,hb⟩ | ⟨hp,hb⟩
 ·exact ⟨true,H',by rw [hb]; rfl,c2.trans h1,by simp [hp]⟩
 ·exact ⟨false,H',by rw [hb]; rfl,c2.trans h1,by simp [hp]⟩
theorem rCheckSig_b1 (hF:L0=fuel+1) (hfu:15≤fuel) (hG:GoodG g) (hS:SigA H s1 s2 s3 g) (hm:m≤H.next) :
  ∃H',Ext H H'∧((NestP g∧loopO (ref04_CheckSig_b1 (LCo L0) m s1 s2 s3) (H,0)=some (.inr (44,H')))∨(¬NestP g∧loopO (ref04_CheckSig_b1 (LCo L0) m s1 s2 s3) (H,0)=some (.inl (H',(g.datas.length:Int))))):=by
 have hd:=hS.d.n
 obtain ⟨H',h1,h2⟩:=loopO_exR (xs:=g.datas) (body:=ref04_CheckSig_b1 (LCo L0) m s1 s2 s3) (fun G=>(44,G)) (fun j _=>NestD g j) (H0:=H)
  (fun j hj G hx=>by
   obtain ⟨b,G1,y1,y2,y3⟩:=rNested_spec hF hfu hG (hS.ext hx) (Nat.le_trans hm hx.1) hj
   refine ⟨G1,hx.trans y2,?_⟩
   cases b with
   | true =>
    refine .inl ⟨y3.1 rfl,?_⟩
    unfold ref04_CheckSig_b1
    simp only [if_pos (show (j:Int)<(s2.n:Int) by omega),y1,Option.bind_some,if_true]
   | false =>
    refine .inr ⟨fun h=>absurd (y3.2 h) (by simp),?_⟩
    unfold ref04_CheckSig_b1
    simp only [if_pos (show (j:Int)<(s2.n:Int) by omega),y1,Option.bind_some,Bool.false_eq_true,if_false]
    rw [wrap_next hj hS.d.len])
  (fun G hx=>by
   unfold ref04_CheckSig_b1
   simp only [if_neg (show ¬((g.datas.length:Int)<(s2.n:Int)) by omega)])
  g.datas.length 0 H (by omega) (Fm.refl _ _)
 have iff:(∃j,∃h:j<g.datas.length,0≤j∧NestD g j)↔NestP g:=by
  rw [← nestD_iff]
  constructor
  ·rintro ⟨j,hj,_,hp⟩; exact ⟨j,hp⟩
  ·rintro ⟨j,hj,hp⟩; exact ⟨j,hj,Nat.zero_le _,hj,hp⟩
 rw [iff] at h2
 exact ⟨H',h1,h2⟩
end
end Go.Proofs.YtccbilfbhecdaaaDoor
namespace Go.Proofs.YtccbilfbhecdaaaDoor
open Go Go.Abs
set_option maxRecDepth 100000
def gF (ds:List Dat) (bl:List Bool):Fo→Bool
 | .nil=>true
 | .cons _ _ _ _ .nil=>true
 | .cons _ _ _ _ (.cons k _ n a _)=>if k=6 then bl.getD (ixS ds n) false else if k=4 then gF ds bl a else true
def gS (ds:List Dat) (bl:List Bool) (k:Int) (n:ByteArray) (a:Fo):Bool:=if k=6 then bl.getD (ixS ds n) false else if k=4 then gF ds bl a else true
def gC (ds:List Dat) (bl:List Bool) (c:Con):Bool:=c.sels.all fun x=>gS ds bl x.k x.sn x.a
def gD (ds:List Dat) (bl:List Bool) (d:Dat):Bool:=d.cons.any (gC ds bl)
theorem on_getD {bl:List Bool} {k:Nat}:bl.getD k false=true↔On bl k:=by
 unfold On
 by_cases h:k<bl.length
 ·simp [List.getD,h]
 ·simp [List.getD,h]
theorem gF_mono {ds:List Dat} {bl bl':List Bool} (hm:∀k,On bl k→On bl' k):∀a:Fo,gF ds bl a=true→gF ds bl' a=true
 | .nil,_=>rfl
 | .cons _ _ _ _ .nil,_=>rfl
 | .cons _ _ _ _ (.cons k _ n a _),h=>by
  unfold gF at h ⊢
  by_cases h6:k=6
  ·rw [if_pos h6] at h ⊢
   exact on_getD.2 (hm _ (on_getD.1 h))
  ·rw [if_neg h6] at h ⊢
   by_cases h4:k=4
   ·rw [if_pos h4] at h ⊢
    exact gF_mono hm a h
   ·rw [if_neg h4]
theorem gS_mono {ds:List Dat} {bl bl':List Bool} (hm:∀k,On bl k→On bl' k) {k:Int} {n:ByteArray} {a:Fo} (h:gS ds bl k n a=true):gS ds bl' k n a=true:=by
 unfold gS at h ⊢
 by_cases h6:k=6
 ·rw [if_pos h6] at h ⊢
  exact on_getD.2 (hm _ (on_getD.1 h))
 ·rw [if_neg h6] at h ⊢
  by_cases h4:k=4
  ·rw [if_pos h4] at h ⊢
   exact gF_mono hm a h
  ·rw [if_neg h4]
theorem gC_mono {ds:List Dat} {bl bl':List Bool} (hm:∀k,On bl k→On bl' k) {c:Con} (h:gC ds bl c=true):gC ds bl' c=true:=by
 unfold gC at h ⊢
 rw [List.all_eq_true] at h ⊢
 exact fun x hx=>gS_mono hm (h x hx)
theorem gD_mono {ds:List Dat} {bl bl':List Bool} (hm:∀k,On bl k→On bl' k) {d:Dat} (h:gD ds bl d=true):gD ds bl' d=true:=by
 unfold gD at h ⊢
 rw [List.any_eq_true] at h ⊢
 obtain ⟨c,hc,h⟩:=h
 exact ⟨c,hc,gC_mono hm h⟩
inductive Gd (g:Sg):Nat→Prop
 | mk {i:Nat} (h:i<g.datas.length) (bl:List Bool) (hb:∀k,On bl k→Gd g k) (ho:gD g.datas bl g.datas[i]=true):Gd g i
theorem gd_of_closed {g:Sg} {bl:List Bool} (hc:∀i (h:i<g.datas.length),gD g.datas bl g.datas[i]=true→On bl i):∀{k:Nat},Gd g k→On bl k:=by
 intro k hk
 induction hk with
 | mk h bl' hb ho ih=>exact hc _ h (gD_mono ih ho)
section
variable {m:Nat} {H0 H:AH} {s1 s2 s3:Sl3} {g:Sg} {p:Addr} {L0 fuel:Nat}
theorem arr_get {e:TypeId} {idm N:Nat} {bl:List Bool} (ha:ArrV e m H idm (bV bl)) (hl:bl.length=N) {i:Nat} (hi:i<N) :
  ∃q,idxA 1 (⟨some ⟨idm,0,none⟩,N,N⟩:Sl3) (i:Int)=some q∧rd deB H q=some (bl.getD i false):=by
 have hib:i<bl.length:=by omega
 refine ⟨_,idxA_arr hi rfl,?_⟩
 rw [(ha.cel (show (bV bl)[i]? = some (.bool bl[i]) by simp [bV,hib])).rd]
 simp [deB,List.getD,hib]
theorem grounded_spec (c:Nat) {idm N:Nat} {bl:List Bool} (hB:Book H p s1 s2 s3 g) (ha:ArrV 4 m H idm (bV bl)) (hl:bl.length=N) (hN:N=g.datas.length):∀(d fuel:Nat) (k w:Int) (n:ByteArray) (s:Sl3) (a:Fo),SlF H s a→shS k w n a=true→knS g.users g.datas k n a=true→a.dep≤fuel→a.dep<d →
  fam_sort_book_grounded (LCo c) (fuel+1) H (some p) k w n s ⟨some ⟨idm,0,none⟩,N,N⟩=some (gS g.datas bl k n a):=by
 intro d
 induction d with
 | zero=>intro fuel k w n s a _ _ _ _ h; omega
 | succ d ih =>
  intro fuel k w n s a h hsh hkn hf hd
  show sort_book_grounded_body (LCo c) (fam_sort_book_grounded (LCo c) fuel) H (some p) k w n s ⟨some ⟨idm,0,none⟩,N,N⟩=_
  unfold sort_book_grounded_body gS
  by_cases h6:k=6
  ·subst h6
   obtain ⟨id,r1,r2⟩:=book_ix hB n
   have hk:=hkn
   unfold knS at hk
   rw [if_neg (by omega),if_pos rfl] at hk
   have hlt:=ix_lt hk
   obtain ⟨q,k1,k2⟩:=arr_get ha hl (show ixS g.datas n<N by omega)
   simp only [if_true,Option.bind_some,r1,r2,k1,k2]
  ·rw [if_neg h6,if_neg h6]
   by_cases h4:k=4
   ·rw [if_pos h4,if_pos h4]
    rcases shS_cases hsh with ⟨_,h'⟩ | ⟨_,k1,w1,n1,a1,k2,w2,n2,a2,rfl,hs1,hs2⟩
    ·omega
    ·unfold knS at hkn
     rw [if_neg (by omega),if_neg h6] at hkn
     simp only [knF,Bool.and_eq_true] at hkn
     have hn2:s.n=2:=h.1
     obtain ⟨_,_,_,_,_,_,_,_,_,q8⟩:=h.2.2.rd (s:=s) (by omega)
     obtain ⟨q,t1,q1,q2,q3,q4,q5,q6,q7,_⟩:=q8.rd (s:=s) (by omega)
     simp only [Fo.dep] at hf hd
     obtain ⟨g',rfl⟩:∃g',fuel=g'+1:=⟨fuel - 1,by omega⟩
     have y:=ih g' k2 w2 n2 t1 a2 q6 hs2 (by unfold knS; exact hkn.2.1) (by omega) (by omega)
     have q1':idxA 4 s 1=some q:=q1
     simp only [q1',q2,q3,q4,q5,Option.bind_some,y]
     simp only [gS,gF]
   ·rw [if_neg h4,if_neg h4]
theorem contains_gnd (hF:L0=fuel+1) (hfu:15≤fuel) (hG:GoodG g) (hB:Book H p s1 s2 s3 g) {p1 p8:Addr} {idm N:Nat} {bl:List Bool} (h1:Cel H p1 (.pointer (some p))) (h8:Cel H p8 (Sl3.v ⟨some ⟨idm,0,none⟩,N,N⟩)) (ha:ArrV 4 m H idm (bV bl)) (hl:bl.length=N) (hN:N=g.datas.length)
  {d:Dat} (hd:d∈g.datas) {c:Con} (hc:c∈d.cons) {sl:Sl3} (h:SlL SelA 5 H sl c.sels):slices_ContainsFunc__78 (LCo L0) H sl (some p1) (some p8)=some (!gC g.datas bl c):=by
 have hln:=h.n
 have hlp:=loopO_up (body:=slices_IndexFunc__78_b0 (LCo L0) H sl (some p1) (some p8)) c.sels.length h.len (fun j=>if (fun x:Sel=>!gS g.datas bl x.k x.sn x.a) (c.sels.getD j ⟨emptyT,0,0,emptyT,.nil⟩)=true then some (j:Int) else none) (fun j hj=>by
  obtain ⟨q,g1,g2⟩:=h.get hj (v:=(j:Int)) rfl
  obtain ⟨z,e1,e2,e3,e4,e5,e6⟩:=g2.ex
  have r0:rd deS H (q.add 0)=some c.sels[j].n:=by rw [g2.n.rd]; rfl
  have r1:rd (deI .i64) H (q.add 1)=some c.sels[j].k:=by rw [e1.rd]; rfl
  have r2:rd (deI .i64) H (q.add 2)=some c.sels[j].w:=by rw [e2.rd]; rfl
  have r3:rd deS H (q.add 3)=some c.sels[j].sn:=by rw [e3.rd]; rfl
  have r4:rd deSl H (q.add 4)=some z:=by rw [e4.rd]; rfl
  have hs:=hG.sel d hd c hc _ (List.getElem_mem hj)
  have y:=grounded_spec L0 hB ha hl hN (c.sels[j].a.dep+1) fuel c.sels[j].k c.sels[j].w c.sels[j].sn z c.sels[j].a e6 hs.sh hs.kn (by have:=hs.dp; omega) (by omega)
  have eg:c.sels.getD j ⟨emptyT,0,0,emptyT,.nil⟩=c.sels[j]:=by simp [List.getD,hj]
  have f1:rd deP H p1=some (some p):=by rw [h1.rd]; rfl
  have f8:rd deSl H p8=some ⟨some ⟨idm,0,none⟩,N,N⟩:=by rw [h8.rd]; rfl
  have e1':(LCo L0).fuel=fuel+1:=hF
  rw [eg]
  unfold slices_IndexFunc__78_b0 sort_book_ground_1 sort_book_grounded
  rw [e1']
  simp only [if_pos (show (j:Int)<(sl.n:Int) by omega),g1,Option.bind_some,r0,r1,r2,r3,r4,f1,f8,y]
  by_cases hgs:gS g.datas bl c.sels[j].k c.sels[j].sn c.sels[j].a=true <;> simp [hgs,stepO]) (by
  unfold slices_IndexFunc__78_b0
  rw [if_neg (by omega)])
 unfold slices_ContainsFunc__78 slices_IndexFunc__78
 show Option.bind (Option.bind (loopO (slices_IndexFunc__78_b0 (LCo L0) H sl (some p1) (some p8)) 0) _) _=_
 rw [hlp]
 obtain ⟨k1,k2⟩:=find_anyF c.sels (fun x:Sel=>!gS g.datas bl x.k x.sn x.a) (fun i=>(i:Int)) ⟨emptyT,0,0,emptyT,.nil⟩
 have k3:(c.sels.any fun x=>!gS g.datas bl x.k x.sn x.a)=!gC g.datas bl c:=by
  unfold gC
  rw [List.not_all_eq_any_not]
 rw [k3] at k1
 generalize hq:(List.range c.sels.length).findSome? (fun i=>if (fun x:Sel=>!gS g.datas bl x.k x.sn x.a) (c.sels.getD i ⟨emptyT,0,0,emptyT,.nil⟩)=true then some (i:Int) else none)=q at k1 k2
 cases q with
 | none=>rw [← k1]; rfl
 | some x =>
  rw [← k1]
  obtain ⟨i,rfl⟩:=k2 x rfl
  have:(i:Int)≥0:=by omega
  simp [found,this]
theorem ground_b2 (hF:L0=fuel+1) (hfu:15≤fuel) (hG:GoodG g) (hB:Book H p s1 s2 s3 g) {p1 p8:Addr} {idm N:Nat} {bl:List Bool} (h1:Cel H p1 (.pointer (some p))) (h8:Cel H p8 (Sl3.v ⟨some ⟨idm,0,none⟩,N,N⟩)) (ha:ArrV 4 m H idm (bV bl)) (hl:bl.length=N) (hN:N=g.datas.length)
  {i:Nat} (hi:i<g.datas.length) {x14 sl:Sl3} {n19:ByteArray} (h:SlL ConA 2 H sl (g.datas[i]).cons) {H31:AH} (hset:H.setCell m ((⟨idm,0,none⟩:Addr).add (i*1)) (.bool true)=some H31):∀(t j:Nat),j+t=(g.datas[i]).cons.length →
  loopO (sort_book_ground_b2 (LCo L0) m p1 p8 x14 (i:Int) n19 sl) (H,(j:Int))=some (if ((g.datas[i]).cons.drop j).any (gC g.datas bl)=true then .inr (.inr H31) else .inl (H,((g.datas[i]).cons.length:Int))):=by
 have hln:=h.n
 intro t
 induction t with
 | zero =>
  intro j hj
  obtain rfl:j=(g.datas[i]).cons.length:=by omega
  rw [List.drop_length]
  simp only [List.any_nil,Bool.false_eq_true,if_false]
  refine loopO_brk ?_
  unfold sort_book_ground_b2
  simp only [if_neg (show ¬(((g.datas[i]).cons.length:Int)<(sl.n:Int)) by omega)]
 | succ t ih =>
  intro j hj
  have hjl:j<(g.datas[i]).cons.length:=by omega
  obtain ⟨q,g1,g2⟩:=h.get hjl (v:=(j:Int)) rfl
  obtain ⟨z,e1,e2⟩:=g2.ex
  have r0:rd deS H (q.add 0)=some (g.datas[i]).cons[j].n:=by rw [g2.n.rd]; rfl
  have r1:rd deSl H (q.add 1)=some z:=by rw [e1.rd]; rfl
  have hcon:=contains_gnd hF hfu hG hB h1 h8 ha hl hN (List.getElem_mem hi) (List.getElem_mem hjl) e2
  have f8:rd deSl H p8=some ⟨some ⟨idm,0,none⟩,N,N⟩:=by rw [h8.rd]; rfl
  rw [List.drop_eq_getElem_cons hjl,List.any_cons]
  cases hg:gC g.datas bl (g.datas[i]).cons[j] with
  | true =>
   rw [hg] at hcon
   simp only [Bool.true_or,if_true]
   refine loopO_ret ?_
   unfold sort_book_ground_b2
   simp only [if_pos (show (j:Int)<(sl.n:Int) by omega),g1,Option.bind_some,r0,r1,hcon,Bool.not_true,Bool.false_eq_true,if_false,f8,idxA_arr (show i<N by omega) rfl,hset]
  | false =>
   rw [hg] at hcon
   have hbody:sort_book_ground_b2 (LCo L0) m p1 p8 x14 (i:Int) n19 sl (H,(j:Int))=some (.next (H,((j+1:Nat):Int))):=by
    unfold sort_book_ground_b2
    simp only [if_pos (show (j:Int)<(sl.n:Int) by omega),g1,Option.bind_some,r0,r1,hcon,Bool.not_false,if_true]
    rw [wrap_next hjl h.len]
   rw [loopO_next hbody,ih (j+1) (by omega),Bool.false_or]
def PassG (g:Sg) (m:Nat) (H:AH) (bl:List Bool) (idm N:Nat) (r:Option ((AH×Int)⊕((Sl3×AH)⊕AH))) (i:Nat):Prop :=
 (∃j H',∃hj:j<g.datas.length,r=some (.inr (.inr H'))∧gD g.datas bl g.datas[j]=true∧bl.getD j false=false∧ArrV 4 m H' idm (bV (bl.set j true))∧Fm (fun id=>id=idm) H H') ∨
  (r=some (.inl (H,(N:Int)))∧∀j (hj:j<g.datas.length),i≤j→gD g.datas bl g.datas[j]=true→On bl j)
theorem ground_b1 (hF:L0=fuel+1) (hfu:15≤fuel) (hG:GoodG g) (hS:SigA H s1 s2 s3 g) (hB:Book H p s1 s2 s3 g) {p1 p8:Addr} {idm N:Nat} {bl:List Bool} (h1:Cel H p1 (.pointer (some p))) (h8:Cel H p8 (Sl3.v ⟨some ⟨idm,0,none⟩,N,N⟩)) (ha:ArrV 4 m H idm (bV bl)) (hl:bl.length=N) (hN:N=g.datas.length):∀(t i:Nat),i+t=N →
  PassG g m H bl idm N (loopO (sort_book_ground_b1 (LCo L0) m p1 p8 s2) (H,(i:Int))) i:=by
 have hdn:=hS.d.n
 intro t
 induction t with
 | zero =>
  intro i hi
  obtain rfl:i=N:=by omega
  refine .inr ⟨loopO_brk ?_,fun j hj h=>by omega⟩
  unfold sort_book_ground_b1
  simp only [if_neg (show ¬((i:Int)<(s2.n:Int)) by omega)]
 | succ t ih =>
  intro i hi
  have hin:i<N:=by omega
  have hig:i<g.datas.length:=by omega
  obtain ⟨q,g1,g2⟩:=hS.d.get hig (v:=(i:Int)) rfl
  obtain ⟨z,e1,e2⟩:=g2.ex
  have r0:rd deS H (q.add 0)=some (g.datas[i]).n:=by rw [g2.n.rd]; rfl
  have r1:rd deSl H (q.add 1)=some z:=by rw [e1.rd]; rfl
  have f8:rd deSl H p8=some ⟨some ⟨idm,0,none⟩,N,N⟩:=by rw [h8.rd]; rfl
  obtain ⟨qm,m1,m2⟩:=arr_get ha hl hin
  obtain ⟨H31,c1,c2,c3,c4⟩:=ha.set (i:=i) (by simp [bV]; omega) (.bool true)
  rw [bV_set] at c2
  have hb2:=ground_b2 hF hfu hG hB h1 h8 ha hl hN hig (x14:=s2) (n19:=(g.datas[i]).n) e2 c1 (g.datas[i]).cons.length 0 (by omega)
  rw [List.drop_zero] at hb2
  have hD:(g.datas[i]).cons.any (gC g.datas bl)=gD g.datas bl g.datas[i]:=rfl
  rw [hD] at hb2
  have step:sort_book_ground_b1 (LCo L0) m p1 p8 s2 (H,(i:Int))=some (.next (H,((i+1:Nat):Int)))→(gD g.datas bl g.datas[i]=true→On bl i)→PassG g m H bl idm N (loopO (sort_book_ground_b1 (LCo L0) m p1 p8 s2) (H,(i:Int))) i:=fun hbody hon=>by
   rw [loopO_next hbody]
   rcases ih (i+1) (by omega) with ⟨j,H',hj,w1,w2,w3,w4,w5⟩ | ⟨w1,w2⟩
   ·exact .inl ⟨j,H',hj,w1,w2,w3,w4,w5⟩
   ·refine .inr ⟨w1,fun j hj hij hg=>?_⟩
    by_cases e:j=i
    ·subst e; exact hon hg
    ·exact w2 j hj (by omega) hg
  cases hm:bl.getD i false with
  | true =>
   rw [hm] at m2
   refine step ?_ fun _=>on_getD.1 hm
   unfold sort_book_ground_b1
   simp only [if_pos (show (i:Int)<(s2.n:Int) by omega),g1,Option.bind_some,r0,r1,f8,m1,m2,if_true]
   rw [wrap_next hig hS.d.len]
  | false =>
   rw [hm] at m2
   cases hg:gD g.datas bl g.datas[i] with
   | true =>
    rw [hg] at hb2
    simp only [if_true] at hb2
    refine .inl ⟨i,H31,hig,loopO_ret ?_,hg,hm,c2,c3⟩
    unfold sort_book_ground_b1
    simp only [if_pos (show (i:Int)<(s2.n:Int) by omega),g1,Option.bind_some,r0,r1,f8,m1,m2,Bool.false_eq_true,if_false]
    show Option.bind (loopO (sort_book_ground_b2 (LCo L0) m p1 p8 s2 (i:Int) (g.datas[i]).n z) (H,((0:Nat):Int))) _=_
    rw [hb2]
    rfl
   | false =>
    rw [hg] at hb2
    simp only [Bool.false_eq_true,if_false] at hb2
    refine step ?_ fun h=>by rw [hg] at h; cases h
    unfold sort_book_ground_b1
    simp only [if_pos (show (i:Int)<(s2.n:Int) by omega),g1,Option.bind_some,r0,r1,f8,m1,m2,Bool.false_eq_true,if_false]
    show Option.bind (loopO (sort_book_ground_b2 (LCo L0) m p1 p8 s2 (i:Int) (g.datas[i]).n z) (H,((0:Nat):Int))) _=_
    rw [hb2]
    simp only [Option.bind_some]
    rw [wrap_next hig hS.d.len]
theorem ground_b0 (hF:L0=fuel+1) (hfu:15≤fuel) (hG:GoodG g) (hS:SigA H0 s1 s2 s3 g) (hB:Book H0 p s1 s2 s3 g) {p1 p8:Addr} {idm N:Nat} (hN:N=g.datas.length) (hid:H0.next≤idm) (hne1:p1.block≠idm) (hne8:p8.block≠idm):∀(u:Nat) (H:AH) (bl:List Bool),freeN bl=u→Ext H0 H→Cel H p1 (.pointer (some p))→Cel H p8 (Sl3.v ⟨some ⟨idm,0,none⟩,N,N⟩)→ArrV 4 m H idm (bV bl)→bl.length=N→(∀k,On bl k→Gd g k) →
  ∃H' bl',loopO (sort_book_ground_b0 (LCo L0) m p1 p8) H=some (.inl H')∧Cel H' p8 (Sl3.v ⟨some ⟨idm,0,none⟩,N,N⟩)∧ArrV 4 m H' idm (bV bl')∧bl'.length=N∧Fm (fun id=>id=idm) H H'∧∀k,On bl' k↔Gd g k:=by
 intro u
 induction u using Nat.strongRecOn with
 | ind u ih =>
  intro H bl hu hx h1 h8 ha hl hs
  have f1:rd deP H p1=some (some p):=by rw [h1.rd]; rfl
  have hBx:=hB.ext hx
  have hadd:∀j,(p.add 0).add j=p.add (0+j):=fun j=>add2 hB.c1 0 j
  have r1:rd deSl H ((p.add 0).add 1)=some s2:=by rw [hadd,hBx.c2.rd]; rfl
  rcases ground_b1 hF hfu hG (hS.ext hx) hBx h1 h8 ha hl hN N 0 (by omega) with ⟨j,H1,hj,w1,w2,w3,w4,w5⟩ | ⟨w1,w2⟩
  ·have hbody:sort_book_ground_b0 (LCo L0) m p1 p8 H=some (.next H1):=by
    unfold sort_book_ground_b0
    simp only [f1,Option.bind_some,r1]
    show Option.bind (loopO (sort_book_ground_b1 (LCo L0) m p1 p8 s2) (H,((0:Nat):Int))) _=_
    rw [w1]
    rfl
   have hjb:j<bl.length:=by omega
   have hf:bl[j]=false:=by simpa [List.getD,hjb] using w3
   have hfree:=freeN_set hjb hf
   obtain ⟨H',bl',z1,z2,z3,z4,z5,z6⟩:=ih (freeN (bl.set j true)) (by omega) H1 (bl.set j true) rfl (hx.comp w5 fun id hid' _ h=>by omega) (h1.fr w5 hne1) (h8.fr w5 hne8) w4 (by simp [hl]) fun k hk=>by
    rcases set_true.1 hk with h | ⟨rfl,_⟩
    ·exact hs k h
    ·exact .mk hj bl hs w2
   exact ⟨H',bl',by rw [loopO_next hbody]; exact z1,z2,z3,z4,w5.comp z5 fun _ _ h=>h,z6⟩
  ·have hbody:sort_book_ground_b0 (LCo L0) m p1 p8 H=some (.brk H):=by
    unfold sort_book_ground_b0
    simp only [f1,Option.bind_some,r1]
    show Option.bind (loopO (sort_book_ground_b1 (LCo L0) m p1 p8 s2) (H,((0:Nat):Int))) _=_
    rw [w1]
    rfl
   exact ⟨H,bl,loopO_brk hbody,h8,ha,hl,Fm.refl _ _,fun k=>⟨hs k,gd_of_closed fun i hi hg=>w2 i hi (Nat.zero_le _) hg⟩⟩
theorem ground_spec (hF:L0=fuel+1) (hfu:15≤fuel) (hG:GoodG g) (hS:SigA H s1 s2 s3 g) (hB:Book H p s1 s2 s3 g) (hm:m≤H.next) :
  ∃id bl H',sort_book_ground (LCo L0) m H (some p)=some (⟨some ⟨id,0,none⟩,g.datas.length,g.datas.length⟩,H')∧Ext H H'∧ArrV 4 m H' id (bV bl)∧bl.length=g.datas.length∧∀k,On bl k↔Gd g k:=by
 have hd:=hS.d.n
 have hnn:=datas_small hG
 have hadd:∀j,(p.add 0).add j=p.add (0+j):=fun j=>add2 hB.c1 0 j
 have x2:Ext H (H.push (pubB 66 [(Value.pointer (some p))])):=Fm.push _ _ _
 have c1:Cel (H.push (pubB 66 [(Value.pointer (some p))])) ⟨H.next,0,none⟩ (.pointer (some p)):=Cel.push rfl rfl
 generalize hH2:H.push (pubB 66 [(Value.pointer (some p))])=H2 at x2 c1
 have n2:H2.next=H.next+1:=by rw [← hH2]; simp
 obtain ⟨H7,b1,b2,b3,b4⟩:=mkS_arr (e:=4) (bytes:=1) (m:=m) (H:=H2) (z:=.bool false) (n:=g.datas.length) (by omega) (by omega) (by omega)
 have b2':ArrV 4 m H7 H2.next (bV (List.replicate g.datas.length false)):=by
  have:bV (List.replicate g.datas.length false)=List.replicate g.datas.length (Value.bool false):=by simp [bV]
  rw [this]; exact b2
 have x9:Ext H7 (H7.push (pubB 56 [(Sl3.v Sl3.nil)])):=Fm.push _ _ _
 have a9:ArrV 56 m (H7.push (pubB 56 [(Sl3.v Sl3.nil)])) H7.next [Sl3.v Sl3.nil]:=⟨AH.get_push_same _ _,by omega,by simp⟩
 generalize hH9:H7.push (pubB 56 [(Sl3.v Sl3.nil)])=H9 at x9 a9
 obtain ⟨H10,d1,d2,d3,d4⟩:=a9.set (i:=0) (by simp) (Sl3.v ⟨some ⟨H2.next,0,none⟩,g.datas.length,g.datas.length⟩)
 have d1':H9.setCell m ⟨H7.next,0,none⟩ (Sl3.v ⟨some ⟨H2.next,0,none⟩,g.datas.length,g.datas.length⟩)=some H10:=by rw [addr_add] at d1; exact d1
 have c8:Cel H10 ⟨H7.next,0,none⟩ (Sl3.v ⟨some ⟨H2.next,0,none⟩,g.datas.length,g.datas.length⟩):=by
  have:=d2.cel (i:=0) (v:=Sl3.v ⟨some ⟨H2.next,0,none⟩,g.datas.length,g.datas.length⟩) rfl
  rw [addr_add] at this
  exact this
 have x2':Ext H H2:=x2
 have xH:Ext H H10:=((x2'.trans b3).trans x9).comp d3 fun id hid _ h=>by have:=x2'.1; have:=b3.1; omega
 have x210:Ext H2 H10:=(b3.trans x9).comp d3 fun id hid _ h=>by have:=b3.1; omega
 obtain ⟨H',bl',z1,z2,z3,z4,z5,z6⟩:=ground_b0 hF hfu hG hS hB (m:=m) (p1:=⟨H.next,0,none⟩) (p8:=⟨H7.next,0,none⟩) (idm:=H2.next) rfl (by omega) (by simp; omega) (by simp; omega) g.datas.length H10 (List.replicate g.datas.length false) (freeN_rep _) xH (c1.ext x210) c8 ((b2'.ext x9).fr d3 (by have:=b3.1; omega)) (by simp) (fun k hk=>by obtain ⟨h,hb⟩:=hk; simp at hb)
 refine ⟨H2.next,bl',H',?_,xH.comp z5 fun id hid _ h=>by omega,z3,z4,z6⟩
 have f1:rd deP H2 ⟨H.next,0,none⟩=some (some p):=by rw [c1.rd]; rfl
 have r1:rd deSl H2 ((p.add 0).add 1)=some s2:=by rw [hadd,(hB.c2.ext x2').rd]; rfl
 have f8:rd deSl H' ⟨H7.next,0,none⟩=some ⟨some ⟨H2.next,0,none⟩,g.datas.length,g.datas.length⟩:=by rw [z2.rd]; rfl
 unfold sort_book_ground newB
 simp only [Option.bind_some]
 rw [hH2]
 simp only [f1,Option.bind_some,r1,hd,b1]
 rw [hH9]
 simp only [d1',Option.bind_some]
 show Option.bind (loopO (sort_book_ground_b0 (LCo L0) m ⟨H.next,0,none⟩ ⟨H7.next,0,none⟩) H10) _=_
 rw [z1]
 simp only [Option.bind_some,f8]
theorem contains_false (c:Nat) {id n:Nat} {bl:List Bool} (ha:ArrV 4 m H id (bV bl)) (hl:bl.length=n) (hn:n≤4096):slices_Contains (LCo c) H ⟨some ⟨id,0,none⟩,n,n⟩ false=some (!(bl.all fun b=>b)):=by
 have hlp:=loopO_up (body:=slices_Index_b0 (LCo c) H ⟨some ⟨id,0,none⟩,n,n⟩ false) bl.length (by rw [maxN_eq]; omega) (fun j=>if (fun b:Bool=>!b) (bl.getD j false)=true then some (j:Int) else none) (fun j hj=>by
  obtain ⟨q,k1,k2⟩:=arr_get ha hl (i:=j) (by omega)
  unfold slices_Index_b0
  simp only [if_pos (show (j:Int)<(n:Int) by omega),k1,Option.bind_some,k2]
  cases bl.getD j false <;> simp [stepO]) (by
  unfold slices_Index_b0
  simp only []
  rw [if_neg (by omega)])
 unfold slices_Contains slices_Index
 show Option.bind (Option.bind (loopO (slices_Index_b0 (LCo c) H ⟨some ⟨id,0,none⟩,n,n⟩ false) 0) _) _=_
 rw [hlp]
 obtain ⟨k1,k2⟩:=find_anyF bl (fun b:Bool=>!b) (fun i=>(i:Int)) false
 have k3:(bl.any fun b=>!b)=!(bl.all fun b=>b):=by rw [List.not_all_eq_any_not]
 rw [k3] at k1
 generalize hq:(List.range bl.length).findSome? (fun i=>if (fun b:Bool=>!b) (bl.getD i false)=true then some (i:Int) else none)=q at k1 k2
 cases q with
 | none=>rw [← k1]; rfl
 | some x =>
  rw [← k1]
  obtain ⟨i,rfl⟩:=k2 x rfl
  have:(i:Int)≥0:=by omega
  simp [found,this]
end
end Go.Proofs.YtccbilfbhecdaaaDoor
namespace Go.Proofs.YtccbilfbhecdaaaDoor
open Go Go.Abs
set_option maxRecDepth 100000
section
variable {m:Nat} {H0 H:AH} {s1 s2 s3:Sl3} {g:Sg} {L0 fuel:Nat}
theorem rGround_spec (c:Nat) {idm N:Nat} {bl:List Bool} (hS:SigA H s1 s2 s3 g) (ha:ArrV 4 m H idm (bV bl)) (hl:bl.length=N) (hN:N=g.datas.length):∀(d fuel:Nat) (k w:Int) (n:ByteArray) (s:Sl3) (a:Fo),SlF H s a→shS k w n a=true→knS g.users g.datas k n a=true→a.dep≤fuel→a.dep<d →
  fam_ref04_ground (LCo c) (fuel+1) H k w n s s1 s2 s3 ⟨some ⟨idm,0,none⟩,N,N⟩=some (gS g.datas bl k n a):=by
 intro d
 induction d with
 | zero=>intro fuel k w n s a _ _ _ _ h; omega
 | succ d ih =>
  intro fuel k w n s a h hsh hkn hf hd
  show ref04_ground_body (LCo c) (fam_ref04_ground (LCo c) fuel) H k w n s s1 s2 s3 ⟨some ⟨idm,0,none⟩,N,N⟩=_
  unfold ref04_ground_body gS
  by_cases h4:k=4
  ·rw [if_pos h4,if_neg (show ¬k=6 by omega),if_pos h4]
   rcases shS_cases hsh with ⟨_,h'⟩ | ⟨_,k1,w1,n1,a1,k2,w2,n2,a2,rfl,hs1,hs2⟩
   ·omega
   ·unfold knS at hkn
    rw [if_neg (by omega),if_neg (by omega)] at hkn
    simp only [knF,Bool.and_eq_true] at hkn
    have hn2:s.n=2:=h.1
    obtain ⟨_,_,_,_,_,_,_,_,_,q8⟩:=h.2.2.rd (s:=s) (by omega)
    obtain ⟨q,t1,q1,q2,q3,q4,q5,q6,q7,_⟩:=q8.rd (s:=s) (by omega)
    simp only [Fo.dep] at hf hd
    obtain ⟨g',rfl⟩:∃g',fuel=g'+1:=⟨fuel - 1,by omega⟩
    have y:=ih g' k2 w2 n2 t1 a2 q6 hs2 (by unfold knS; exact hkn.2.1) (by omega) (by omega)
    have q1':idxA 4 s 1=some q:=q1
    simp only [q1',q2,q3,q4,q5,Option.bind_some,y]
    simp only [gS,gF]
  ·rw [if_neg h4]
   by_cases h6:k=6
   ·subst h6
    have hk:=hkn
    unfold knS at hk
    rw [if_neg (by omega),if_pos rfl] at hk
    have hlt:=ix_lt hk
    have hD:=Data_spec c hS n
    have hD:ref04_Data (LCo c) H s1 s2 s3 n=some ((ixS g.datas n:Nat):Int):=by
     rw [hD]
     unfold ixS
     obtain ⟨i,hi⟩:=Option.isSome_iff_exists.1 hk
     rw [hi]
     rfl
    obtain ⟨q,k1,k2⟩:=arr_get ha hl (show ixS g.datas n<N by omega)
    simp only [if_true,Option.bind_some,hD,k1,k2]
   ·rw [if_neg h6,if_neg h6,if_neg h4]
theorem one_b1 (hF:L0=fuel+1) (hfu:15≤fuel) (hG:GoodG g) (hS:SigA H s1 s2 s3 g) {idm N:Nat} {bl:List Bool} (ha:ArrV 4 m H idm (bV bl)) (hl:bl.length=N) (hN:N=g.datas.length) {d:Dat} (hd:d∈g.datas) {n0:ByteArray} {sc:Sl3} (hc:SlL ConA 2 H sc d.cons) {j:Nat} (hj:j<d.cons.length):∀(t i:Nat) (v:Bool),i+t=d.cons[j].sels.length →
  loopO (ref04_one_b1 (LCo L0) H n0 sc s1 s2 s3 ⟨some ⟨idm,0,none⟩,N,N⟩ (j:Int)) (v,(i:Int))=some (.inl (v&&(d.cons[j].sels.drop i).all fun x=>gS g.datas bl x.k x.sn x.a,(d.cons[j].sels.length:Int))):=by
 obtain ⟨q,g1,g2⟩:=hc.get hj (v:=(j:Int)) rfl
 obtain ⟨z,e1,e2⟩:=g2.ex
 have r1:rd deSl H (q.add 1)=some z:=by rw [e1.rd]; rfl
 have hln:=e2.n
 intro t
 induction t with
 | zero =>
  intro i v hi
  obtain rfl:i=d.cons[j].sels.length:=by omega
  rw [List.drop_length,List.all_nil,Bool.and_true]
  refine loopO_brk ?_
  unfold ref04_one_b1
  simp only [g1,Option.bind_some,r1,if_neg (show ¬((d.cons[j].sels.length:Int)<(z.n:Int)) by omega)]
 | succ t ih =>
  intro i v hi
  have hil:i<d.cons[j].sels.length:=by omega
  obtain ⟨q',k1,k2⟩:=e2.get hil (v:=(i:Int)) rfl
  obtain ⟨y,f1,f2,f3,f4,f5,f6⟩:=k2.ex
  have hadd:∀j,(q'.add 1).add j=q'.add (1+j):=fun j=>add2 k2.n 1 j
  have w1:rd (deI .i64) H ((q'.add 1).add 0)=some (d.cons[j].sels[i]).k:=by rw [hadd,f1.rd]; rfl
  have w2:rd (deI .i64) H ((q'.add 1).add 1)=some (d.cons[j].sels[i]).w:=by rw [hadd,f2.rd]; rfl
  have w3:rd deS H ((q'.add 1).add 2)=some (d.cons[j].sels[i]).sn:=by rw [hadd,f3.rd]; rfl
  have w4:rd deSl H ((q'.add 1).add 3)=some y:=by rw [hadd,f4.rd]; rfl
  have hs:=hG.sel _ hd _ (List.getElem_mem hj) _ (List.getElem_mem hil)
  have hgr:=rGround_spec L0 hS ha hl hN ((d.cons[j].sels[i]).a.dep+1) fuel (d.cons[j].sels[i]).k (d.cons[j].sels[i]).w (d.cons[j].sels[i]).sn y (d.cons[j].sels[i]).a f6 hs.sh hs.kn (by have:=hs.dp; omega) (by omega)
  have e1':(LCo L0).fuel=fuel+1:=hF
  have hbody:ref04_one_b1 (LCo L0) H n0 sc s1 s2 s3 ⟨some ⟨idm,0,none⟩,N,N⟩ (j:Int) (v,(i:Int))=some (.next (v&&gS g.datas bl (d.cons[j].sels[i]).k (d.cons[j].sels[i]).sn (d.cons[j].sels[i]).a,((i+1:Nat):Int))):=by
   unfold ref04_one_b1 ref04_ground
   rw [e1']
   simp only [g1,Option.bind_some,r1,if_pos (show (i:Int)<(z.n:Int) by omega),k1,w1,w2,w3,w4,hgr]
   rw [wrap_next hil e2.len]
   cases v <;> rfl
  rw [loopO_next hbody,ih (i+1) _ (by omega),List.drop_eq_getElem_cons hil,List.all_cons,Bool.and_assoc]
theorem one_spec (hF:L0=fuel+1) (hfu:15≤fuel) (hG:GoodG g) (hS:SigA H s1 s2 s3 g) {idm N:Nat} {bl:List Bool} (ha:ArrV 4 m H idm (bV bl)) (hl:bl.length=N) (hN:N=g.datas.length) {d:Dat} (hd:d∈g.datas) {n0:ByteArray} {sc:Sl3} (hc:SlL ConA 2 H sc d.cons) :
  ref04_one (LCo L0) H n0 sc s1 s2 s3 ⟨some ⟨idm,0,none⟩,N,N⟩=some (gD g.datas bl d):=by
 have hln:=hc.n
 have hlp:=loopO_up (body:=ref04_one_b0 (LCo L0) H n0 sc s1 s2 s3 ⟨some ⟨idm,0,none⟩,N,N⟩) d.cons.length hc.len (fun j=>if gC g.datas bl (d.cons.getD j ⟨emptyT,[]⟩)=true then some true else none) (fun j hj=>by
  have hb1:=one_b1 hF hfu hG hS ha hl hN hd (n0:=n0) hc hj d.cons[j].sels.length 0 true (by omega)
  rw [List.drop_zero,Bool.true_and] at hb1
  have eg:d.cons.getD j ⟨emptyT,[]⟩=d.cons[j]:=by simp [List.getD,hj]
  rw [eg]
  unfold ref04_one_b0
  simp only [if_pos (show (j:Int)<(sc.n:Int) by omega)]
  show Option.bind (loopO (ref04_one_b1 (LCo L0) H n0 sc s1 s2 s3 ⟨some ⟨idm,0,none⟩,N,N⟩ (j:Int)) (true,((0:Nat):Int))) _=_
  rw [hb1]
  have hC:(d.cons[j].sels.all fun x=>gS g.datas bl x.k x.sn x.a)=gC g.datas bl d.cons[j]:=rfl
  rw [hC]
  by_cases hgs:gC g.datas bl d.cons[j]=true <;> simp [hgs,stepO]) (by
  unfold ref04_one_b0
  rw [if_neg (by omega)])
 unfold ref04_one
 show Option.bind (loopO (ref04_one_b0 (LCo L0) H n0 sc s1 s2 s3 ⟨some ⟨idm,0,none⟩,N,N⟩) 0) _=_
 rw [hlp]
 obtain ⟨k1,k2⟩:=find_anyF d.cons (gC g.datas bl) (fun _=>true) ⟨emptyT,[]⟩
 have k3:d.cons.any (gC g.datas bl)=gD g.datas bl d:=rfl
 rw [k3] at k1
 generalize hq:(List.range d.cons.length).findSome? (fun j=>if gC g.datas bl (d.cons.getD j ⟨emptyT,[]⟩)=true then some true else none)=q at k1 k2
 cases q with
 | none=>rw [← k1]; rfl
 | some x =>
  rw [← k1]
  obtain ⟨i,rfl⟩:=k2 x rfl
  rfl
theorem grounds_b1 (hF:L0=fuel+1) (hfu:15≤fuel) (hG:GoodG g) (hS:SigA H0 s1 s2 s3 g) {idm n:Nat} {v4:Int} (hn:n=g.datas.length) (hid:H0.next≤idm):∀(t i:Nat) (H:AH) (bl:List Bool),i+t=n→Ext H0 H→ArrV 4 m H idm (bV bl)→bl.length=n→(∀k,On bl k→Gd g k) →
  ∃H' bl',loopO (ref04_grounds_b1 (LCo L0) m s1 s2 s3 ⟨some ⟨idm,0,none⟩,n,n⟩ v4) (H,(i:Int))=some (.inl (H',(n:Int)))∧ArrV 4 m H' idm (bV bl')∧bl'.length=n∧Fm (fun j=>j=idm) H H'∧(∀k,On bl' k→Gd g k)∧(∀k,On bl k→On bl' k) ∧
   (freeN bl'<freeN bl∨(bl'=bl∧∀j (hj:j<g.datas.length),i≤j→gD g.datas bl g.datas[j]=true→On bl j)):=by
 have hnn:n≤4096:=by rw [hn]; exact datas_small hG
 have hdn:=hS.d.n
 intro t
 induction t with
 | zero =>
  intro i H bl hi hx ha hl hs
  obtain rfl:i=n:=by omega
  refine ⟨H,bl,loopO_brk ?_,ha,hl,Fm.refl _ _,hs,fun _ h=>h,.inr ⟨rfl,fun j hj h=>by omega⟩⟩
  unfold ref04_grounds_b1
  simp only [if_neg (show ¬((i:Int)<(s2.n:Int)) by omega)]
 | succ t ih =>
  intro i H bl hi hx ha hl hs
  have hin:i<n:=by omega
  have hib:i<bl.length:=by omega
  have hig:i<g.datas.length:=by omega
  have hSx:=hS.ext hx
  obtain ⟨q,g1,g2⟩:=hSx.d.get hig (v:=(i:Int)) rfl
  obtain ⟨z,e1,e2⟩:=g2.ex
  have r0:rd deS H (q.add 0)=some (g.datas[i]).n:=by rw [g2.n.rd]; rfl
  have r1:rd deSl H (q.add 1)=some z:=by rw [e1.rd]; rfl
  have hone:=one_spec hF hfu hG hSx ha hl hn (List.getElem_mem hig) (n0:=(g.datas[i]).n) e2
  cases hg:gD g.datas bl g.datas[i] with
  | false =>
   rw [hg] at hone
   obtain ⟨H',bl',w1,w2,w3,w4,w5,w6,w7⟩:=ih (i+1) H bl (by omega) hx ha hl hs
   refine ⟨H',bl',?_,w2,w3,w4,w5,w6,?_⟩
   ·have hbody:ref04_grounds_b1 (LCo L0) m s1 s2 s3 ⟨some ⟨idm,0,none⟩,n,n⟩ v4 (H,(i:Int))=some (.next (H,((i+1:Nat):Int))):=by
     unfold ref04_grounds_b1
     simp only [if_pos (show (i:Int)<(s2.n:Int) by omega),g1,Option.bind_some,r0,r1,hone,Bool.false_eq_true,if_false]
     rw [wrap_next hin (by rw [maxN_eq]; omega)]
    rw [loopO_next hbody]
    exact w1
   ·rcases w7 with h | ⟨h1,h2⟩
    ·exact .inl h
    ·refine .inr ⟨h1,fun j hj hij hgj=>?_⟩
     by_cases e:j=i
     ·subst e; rw [hg] at hgj; cases hgj
     ·exact h2 j hj (by omega) hgj
  | true =>
   rw [hg] at hone
   obtain ⟨H1,c1,c2,c3,c4⟩:=ha.set (i:=i) (by simp [bV]; omega) (.bool true)
   rw [bV_set] at c2
   have im:idxA 1 (⟨some ⟨idm,0,none⟩,n,n⟩:Sl3) (i:Int)=some ((⟨idm,0,none⟩:Addr).add (i*1)):=idxA_arr hin rfl
   have on1:∀k,On bl k→On (bl.set i true) k:=fun k hk=>set_true.2 (.inl hk)
   obtain ⟨H',bl',w1,w2,w3,w4,w5,w6,w7⟩:=ih (i+1) H1 (bl.set i true) (by omega) (hx.comp c3 fun id hid' _ h=>by omega) c2 (by simp [hl]) fun k hk=>by
    rcases set_true.1 hk with h | ⟨rfl,_⟩
    ·exact hs k h
    ·exact .mk hig bl hs hg
   refine ⟨H',bl',?_,w2,w3,c3.comp w4 fun _ _ h=>h,w5,fun k hk=>w6 k (on1 k hk),?_⟩
   ·have hbody:ref04_grounds_b1 (LCo L0) m s1 s2 s3 ⟨some ⟨idm,0,none⟩,n,n⟩ v4 (H,(i:Int))=some (.next (H1,((i+1:Nat):Int))):=by
     unfold ref04_grounds_b1
     simp only [if_pos (show (i:Int)<(s2.n:Int) by omega),g1,Option.bind_some,r0,r1,hone,if_true,im,c1]
     rw [wrap_next hin (by rw [maxN_eq]; omega)]
    rw [loopO_next hbody]
    exact w1
   ·cases hbi:bl[i] with
    | false =>
     left
     have:=freeN_set hib hbi
     have:=freeN_le (a:=bl.set i true) (b:=bl') (by simp [hl,w3]) w6
     omega
    | true =>
     have e:bl.set i true=bl:=by
      rw [← hbi]
      exact List.set_getElem_self hib
     rw [e] at w7
     rcases w7 with h | ⟨h1,h2⟩
     ·exact .inl h
     ·refine .inr ⟨h1,fun j hj hij hgj=>?_⟩
      by_cases e:j=i
      ·subst e; exact ⟨hib,hbi⟩
      ·exact h2 j hj (by omega) hgj
theorem free_on {bl:List Bool} (h:freeN bl=0) {k:Nat} (hk:k<bl.length):On bl k:=by
 refine ⟨hk,?_⟩
 unfold freeN at h
 have:=List.countP_eq_zero.1 h _ (List.getElem_mem hk)
 simpa using this
theorem grounds_b0 (hF:L0=fuel+1) (hfu:15≤fuel) (hG:GoodG g) (hS:SigA H0 s1 s2 s3 g) {idm n:Nat} (hn:n=g.datas.length) (hid:H0.next≤idm):∀(t i:Nat) (H:AH) (bl:List Bool),i+t=n→Ext H0 H→ArrV 4 m H idm (bV bl)→bl.length=n→(∀k,On bl k→Gd g k)→(freeN bl≤t∨∀j (hj:j<g.datas.length),gD g.datas bl g.datas[j]=true→On bl j) →
  ∃H' bl',loopO (ref04_grounds_b0 (LCo L0) m s1 s2 s3 ⟨some ⟨idm,0,none⟩,n,n⟩) (H,(i:Int))=some (.inl (H',(n:Int)))∧ArrV 4 m H' idm (bV bl')∧bl'.length=n∧Fm (fun j=>j=idm) H H'∧∀k,On bl' k↔Gd g k:=by
 have hnn:n≤4096:=by rw [hn]; exact datas_small hG
 have hdn:=hS.d.n
 intro t
 induction t with
 | zero =>
  intro i H bl hi hx ha hl hs hc
  obtain rfl:i=n:=by omega
  refine ⟨H,bl,loopO_brk ?_,ha,hl,Fm.refl _ _,fun k=>⟨hs k,gd_of_closed fun j hj hg=>?_⟩⟩
  ·unfold ref04_grounds_b0
   simp only [if_neg (show ¬((i:Int)<(s2.n:Int)) by omega)]
  ·rcases hc with h | h
   ·exact free_on (by omega) (by omega)
   ·exact h j hj hg
 | succ t ih =>
  intro i H bl hi hx ha hl hs hc
  have hin:i<n:=by omega
  obtain ⟨H1,bl1,w1,w2,w3,w4,w5,w6,w7⟩:=grounds_b1 hF hfu hG hS (v4:=(i:Int)) hn hid n 0 H bl (by omega) hx ha hl hs
  have hc1:freeN bl1≤t∨∀j (hj:j<g.datas.length),gD g.datas bl1 g.datas[j]=true→On bl1 j:=by
   rcases w7 with h | ⟨h1,h2⟩
   ·rcases hc with h' | h'
    ·exact .inl (by omega)
    ·exfalso
     have hgd:∀k,On bl1 k→On bl k:=fun k hk=>gd_of_closed h' (w5 k hk)
     have:=freeN_le (a:=bl1) (b:=bl) (by omega) hgd
     omega
   ·subst h1
    exact .inr fun j hj hg=>h2 j hj (Nat.zero_le _) hg
  obtain ⟨H',bl',z1,z2,z3,z4,z5⟩:=ih (i+1) H1 bl1 (by omega) (hx.comp w4 fun id hid' _ h=>by omega) w2 w3 w5 hc1
  refine ⟨H',bl',?_,z2,z3,w4.comp z4 fun _ _ h=>h,z5⟩
  have hbody:ref04_grounds_b0 (LCo L0) m s1 s2 s3 ⟨some ⟨idm,0,none⟩,n,n⟩ (H,(i:Int))=some (.next (H1,((i+1:Nat):Int))):=by
   unfold ref04_grounds_b0
   simp only [if_pos (show (i:Int)<(s2.n:Int) by omega)]
   show Option.bind (loopO (ref04_grounds_b1 (LCo L0) m s1 s2 s3 ⟨some ⟨idm,0,none⟩,n,n⟩ (i:Int)) (H,((0:Nat):Int))) _=_
   rw [w1]
   simp only [Option.bind_some]
   rw [wrap_next hin (by rw [maxN_eq]; omega)]
  rw [loopO_next hbody]
  exact z1
theorem grounds_spec (hF:L0=fuel+1) (hfu:15≤fuel) (hG:GoodG g) (hS:SigA H s1 s2 s3 g) (hm:m≤H.next) :
  ∃id bl H',ref04_grounds (LCo L0) m H s1 s2 s3=some (⟨some ⟨id,0,none⟩,g.datas.length,g.datas.length⟩,H')∧Ext H H'∧ArrV 4 m H' id (bV bl)∧bl.length=g.datas.length∧∀k,On bl k↔Gd g k:=by
 have hd:=hS.d.n
 have hnn:=datas_small hG
 obtain ⟨H2,b1,b2,b3,b4⟩:=mkS_arr (e:=4) (bytes:=1) (m:=m) (H:=H) (z:=.bool false) (n:=g.datas.length) (by omega) (by omega) hm
 have b2':ArrV 4 m H2 H.next (bV (List.replicate g.datas.length false)):=by
  have:bV (List.replicate g.datas.length false)=List.replicate g.datas.length (Value.bool false):=by simp [bV]
  rw [this]; exact b2
 obtain ⟨H',bl',z1,z2,z3,z4,z5⟩:=grounds_b0 hF hfu hG hS (m:=m) (idm:=H.next) rfl (Nat.le_refl _) g.datas.length 0 H2 (List.replicate g.datas.length false) (by omega) b3 b2' (by simp) (fun k hk=>by obtain ⟨h,hb⟩:=hk; simp at hb) (.inl (by rw [freeN_rep]; omega))
 refine ⟨H.next,bl',H',?_,b3.comp z4 fun id hid _ h=>by omega,z2,z3,z5⟩
 unfold ref04_grounds
 simp only [hd,b1,Option.bind_some]
 show Option.bind (loopO (ref04_grounds_b0 (LCo L0) m s1 s2 s3 ⟨some ⟨H.next,0,none⟩,g.datas.length,g.datas.length⟩) (H2,((0:Nat):Int))) _=_
 rw [z1]
 rfl
theorem rCheckSig_b2 (c:Nat) {id n:Nat} {bl:List Bool} (ha:ArrV 4 m H id (bV bl)) (hl:bl.length=n) (hn:n≤4096):loopO (ref04_CheckSig_b2 (LCo c) s1 s2 s3 ⟨some ⟨id,0,none⟩,n,n⟩ H) 0=some (if (bl.all fun b=>b)=true then .inl (n:Int) else .inr (43,H)):=by
 have hlp:=loopO_up (body:=ref04_CheckSig_b2 (LCo c) s1 s2 s3 ⟨some ⟨id,0,none⟩,n,n⟩ H) bl.length (by rw [maxN_eq]; omega) (fun j=>if (fun b:Bool=>!b) (bl.getD j false)=true then some ((43:Int),H) else none) (fun j hj=>by
  obtain ⟨q,k1,k2⟩:=arr_get ha hl (i:=j) (by omega)
  unfold ref04_CheckSig_b2
  simp only [if_pos (show (j:Int)<(n:Int) by omega),k1,Option.bind_some,k2]
  cases bl.getD j false <;> simp [stepO]) (by
  unfold ref04_CheckSig_b2
  simp only []
  rw [if_neg (by omega)])
 rw [hlp]
 obtain ⟨k1,k2⟩:=find_anyF bl (fun b:Bool=>!b) (fun i=>((43:Int),H)) false
 have k3:(bl.any fun b=>!b)=!(bl.all fun b=>b):=by rw [List.not_all_eq_any_not]
 rw [k3] at k1
 generalize hq:(List.range bl.length).findSome? (fun i=>if (fun b:Bool=>!b) (bl.getD i false)=true then some ((43:Int),H) else none)=q at k1 k2
 cases q with
 | none =>
  have:(bl.all fun b=>b)=true:=by simpa using k1
  rw [if_pos this,← hl]
  rfl
 | some x =>
  have:¬(bl.all fun b=>b)=true:=by intro h; rw [h] at k1; cases k1
  rw [if_neg this]
  obtain ⟨i,rfl⟩:=k2 x rfl
  rfl
end
end Go.Proofs.YtccbilfbhecdaaaDoor
namespace Go.Proofs.YtccbilfbhecdaaaDoor
open Go Go.Abs
set_option maxRecDepth 100000
open Classical in
noncomputable def sigS (g:Sg):Int :=
 if manyS g=true then 3 else if namesS g≠0 then namesS g else if allS g≠0 then allS g else if NestP g then 44 else if ∀k,k<g.datas.length→Gd g k then 0 else 43
theorem all_on {bl:List Bool} {n:Nat} {P:Nat→Prop} (h:∀k,On bl k↔P k) (hl:bl.length=n):(bl.all fun b=>b)=true↔∀k,k<n→P k:=by
 rw [List.all_eq_true]
 constructor
 ·intro ha k hk
  exact (h k).1 ⟨by omega,ha _ (List.getElem_mem (by omega))⟩
 ·intro ha b hb
  obtain ⟨i,hi,rfl⟩:=List.getElem_of_mem hb
  exact ((h i).2 (ha i (by omega))).2
theorem dep_mem {g:Sg} {x:Int×Int×ByteArray×Fo} (h:x∈sortsE g):x.2.2.2.dep≤g.dep:=by
 unfold sortsE at h
 rcases List.mem_append.1 h with h | h
 ·simp only [List.mem_flatMap,List.mem_map] at h
  obtain ⟨d,hd,c,hc,y,hy,rfl⟩:=h
  exact sel_dep hd hc hy
 ·simp only [List.mem_flatMap,List.mem_append,List.mem_singleton] at h
  obtain ⟨f,hf,h | rfl⟩:=h
  ·exact Nat.le_trans (list_dep h) (fnc_dep hf).1
  ·exact (fnc_dep hf).2
section
variable {m:Nat} {H0 H:AH} {s1 s2 s3:Sl3} {g:Sg} {L0 fuel:Nat}
theorem checkSig_ref (hF:L0=fuel+1) (hfu:15≤fuel) (hd:g.dep≤fuel) (hb:SgB g) (hS:SigA H s1 s2 s3 g) (hm:m≤H.next) :
  ∃H',ref04_CheckSig (LCo L0) m H s1 s2 s3=some (sigS g,H')∧Ext H H':=by
 unfold ref04_CheckSig sigS
 rw [many_ref L0 hS hb]
 simp only [Option.bind_some]
 cases hmany:manyS g with
 | true=>exact ⟨H,by simp,Fm.refl _ _⟩
 | false =>
  simp only [Bool.false_eq_true,if_false]
  obtain ⟨H3,a1,x3⟩:=rNames_spec L0 hS hm hmany
  rw [a1]
  simp only [Option.bind_some]
  by_cases hn:namesS g=0
  ·rw [if_pos hn,if_neg (by simp [hn])]
   obtain ⟨x4,H5,l,b1,b2,b3,b4,b5,b6⟩:=rSorts L0 (hS.ext x3) (Nat.le_trans hm x3.1) hmany
   have x5:=x3.trans b3
   have hdl:∀x∈l,x.a.dep≤fuel:=fun x hx=>by
    have h1:x.er∈sortsE g:=by rw [← b4]; exact List.mem_map.2 ⟨x,hx,rfl⟩
    exact Nat.le_trans (dep_mem h1) hd
   have hck:=rCheck_loop L0 fuel hF (hS.ext x5) b2 b5 b6 hdl
   rw [b4] at hck
   rw [b1]
   simp only [Option.bind_some]
   show ∃H',Option.bind (loopO (ref04_CheckSig_b0 (LCo L0) s1 s2 s3 x4 H5) 0) _=_∧_
   rw [hck]
   cases hq:(sortsE g).findSome? (errS g) with
   | some e =>
    have he:allS g=e:=by unfold allS; rw [hq]; rfl
    obtain ⟨y,hy,hye⟩:=List.exists_of_findSome?_eq_some hq
    have he0:=(err_ok hye).2
    rw [if_pos (by rw [he]; exact he0),he]
    exact ⟨H5,rfl,x5⟩
   | none =>
    have he:allS g=0:=by unfold allS; rw [hq]; rfl
    rw [if_neg (by simp [he])]
    have hG:=good_of hmany he
    simp only [Option.map_none,found,Option.bind_some]
    obtain ⟨H6,x6,hc⟩:=rCheckSig_b1 hF hfu hG (hS.ext x5) (Nat.le_trans hm x5.1)
    show ∃H',Option.bind (loopO (ref04_CheckSig_b1 (LCo L0) m s1 s2 s3) (H5,0)) _=_∧_
    rcases hc with ⟨hp,hc⟩ | ⟨hp,hc⟩
    ·rw [hc,if_pos hp]
     exact ⟨H6,rfl,x5.trans x6⟩
    ·rw [hc,if_neg hp]
     simp only [Option.bind_some]
     have x6':=x5.trans x6
     obtain ⟨id,bl,H7,d1,d2,d3,d4,d5⟩:=grounds_spec hF hfu hG (hS.ext x6') (Nat.le_trans hm x6'.1)
     rw [d1]
     simp only [Option.bind_some]
     show ∃H',Option.bind (loopO (ref04_CheckSig_b2 (LCo L0) s1 s2 s3 ⟨some ⟨id,0,none⟩,g.datas.length,g.datas.length⟩ H7) 0) _=_∧_
     rw [rCheckSig_b2 L0 d3 d4 (datas_small hG)]
     refine ⟨H7,?_,x6'.trans d2⟩
     by_cases ha:(bl.all fun b=>b)=true
     ·rw [if_pos ha,if_pos ((all_on d5 d4).1 ha)]
      rfl
     ·rw [if_neg ha,if_neg fun h=>ha ((all_on d5 d4).2 h)]
      rfl
  ·rw [if_neg hn,if_pos hn]
   exact ⟨H3,rfl,x3⟩
theorem checkSig_prog (hF:L0=fuel+1) (hfu:15≤fuel) (hd:g.dep≤fuel) (hb:SgB g) (hS:SigA H s1 s2 s3 g) (hm:m≤H.next) :
  ∃H',sort_CheckSig (LCo L0) m H s1 s2 s3=some (sigS g,H')∧Ext H H':=by
 unfold sort_CheckSig sigS
 rw [many_prog L0 hS hb]
 simp only [Option.bind_some]
 cases hmany:manyS g with
 | true=>exact ⟨H,by simp,Fm.refl _ _⟩
 | false =>
  simp only [Bool.false_eq_true,if_false]
  have hsm:=names_small hmany
  obtain ⟨x2,x3,H4,a1,a2,a3,a4,o2,o3⟩:=names_spec L0 hS hm hmany
  have m4:=Nat.le_trans hm a4.1
  obtain ⟨x5,H6,b1,b2,b3,b4⟩:=clone_spec L0 m (vec_rdvs a2) (by omega) m4
  have x6:=a4.trans b3
  obtain ⟨x7,H8,c1,c2,c3⟩:=VecA.app (E:=strE) (e:=9) (bytes:=16) (l:=sortNamesS g) (l':=funNamesS g) (m:=m) b2 (vec_rdvs a3 _ b3) (room (by omega)).1 (room (by omega)).2 (Nat.le_trans hm x6.1)
  have x68:Ext H4 H8:=b3.comp c3.fm fun id hid _ h=>by have:=b4 id h; omega
  have x8:Ext H H8:=a4.trans x68
  have hsl:=vec_strs c2 (by rw [List.length_append]; omega)
  have hn:=hsl.n
  have hsz:=names_size hS
  rw [a1]
  simp only [Option.bind_some,b1]
  have c1':appS m 9 1 16 H6 x5 x3=some (x7,H8):=c1
  rw [c1']
  simp only [Option.bind_some]
  have hl:loopO (sort_CheckSig_b0 (LCo L0) s1 s2 s3 x2 x3 x7 H8) 0=some (found (sortNamesS g++funNamesS g).length ((List.range (sortNamesS g++funNamesS g).length).findSome? (fun i=>if (fun x=>!nameS x) ((sortNamesS g++funNamesS g).getD i emptyT)=true then some ((42:Int),H8) else none))):=by
   generalize hall:sortNamesS g++funNamesS g=all at hsl hn hsz
   refine loopO_up all.length hsl.len _ (fun i hi=>?_) ?_
   ·unfold sort_CheckSig_b0
    obtain ⟨q,h1,h2⟩:=hsl.get hi (v:=(i:Int)) rfl
    have r0:rd deS H8 q=some all[i]:=by rw [Cel.rd h2]; rfl
    have eg:all.getD i emptyT=all[i]:=by simp [List.getD,hi]
    simp only [if_pos (show (i:Int)<(x7.n:Int) by omega),h1,Option.bind_some,r0,Name_spec L0 (name_maxN (hsz _ (List.getElem_mem hi))),eg]
    cases nameS all[i] <;> rfl
   ·unfold sort_CheckSig_b0
    rw [if_neg (by omega)]
  show ∃H',Option.bind (loopO (sort_CheckSig_b0 (LCo L0) s1 s2 s3 x2 x3 x7 H8) 0) _=_∧_
  rw [hl,find_anyD (sortNamesS g++funNamesS g) (fun x=>!nameS x) ((42:Int),H8) emptyT]
  by_cases h42:((sortNamesS g++funNamesS g).any fun x=>!nameS x)=true
  ·have e:namesS g=42:=by unfold namesS; rw [if_pos h42]
   rw [if_pos h42,e]
   simp only [found,Option.bind_some]
   exact ⟨H8,by simp,x8⟩
  ·rw [if_neg h42]
   simp only [found,Option.bind_some]
   have m8:=Nat.le_trans hm x8.1
   obtain ⟨H9,t1,t2⟩:=twice_spec L0 (H:=H8) (s:=x2) (l:=sortNamesS g) (m:=m) (fun G hG=>vec_strs (VecV.ext a2 (x68.trans hG)) (by omega)) m8
   have htw:∃H14,(Option.bind (sort_twice (LCo L0) m H8 x2) fun (x16,H17)=>if x16=true then some (H17,true) else Option.bind (sort_twice (LCo L0) m H17 x3) fun (x18,H19)=>some (H19,x18))=some (H14,twS (sortNamesS g)||twS (funNamesS g))∧Ext H8 H14:=by
    rw [t1]
    simp only [Option.bind_some]
    cases htw1:twS (sortNamesS g) with
    | true=>exact ⟨H9,by simp,t2⟩
    | false =>
     obtain ⟨H10,u1,u2⟩:=twice_spec L0 (H:=H9) (s:=x3) (l:=funNamesS g) (m:=m) (fun G hG=>vec_strs (VecV.ext a3 ((x68.trans t2).trans hG)) (by omega)) (Nat.le_trans m8 t2.1)
     refine ⟨H10,?_,t2.trans u2⟩
     simp only [Bool.false_eq_true,if_false,u1,Option.bind_some,Bool.false_or]
   obtain ⟨H14,w1,w2⟩:=htw
   have x14:=x8.trans w2
   rw [w1]
   simp only [Option.bind_some]
   by_cases h41:(twS (sortNamesS g)||twS (funNamesS g))=true
   ·have e:namesS g=41:=by unfold namesS; rw [if_neg h42,if_pos h41]
    rw [if_pos h41,e]
    exact ⟨H14,by simp,x14⟩
   ·have e:namesS g=0:=by unfold namesS; rw [if_neg h42,if_neg h41]
    rw [if_neg h41,e,if_neg (by simp)]
    have m14:=Nat.le_trans hm x14.1
    obtain ⟨p,H21,p1,p2,p3,p4,p5⟩:=open_spec L0 m (hS.ext x14) m14
    have x21:=x14.trans p2
    have m21:=Nat.le_trans hm x21.1
    obtain ⟨H23,q1,q2⟩:=allSorts_spec hF m21 p3 (hS.ext x21) hmany hd
    have x23:=x21.trans q2
    rw [p1]
    simp only [Option.bind_some,q1]
    by_cases ha0:allS g=0
    ·rw [if_pos ha0,if_neg (by simp [ha0])]
     have hG:=good_of hmany ha0
     have m23:=Nat.le_trans hm x23.1
     obtain ⟨id3,H25,l1,l2,l3⟩:=leans_spec hF hfu hG (hS.ext x23) (p3.ext q2) m23
     have x25:=x23.trans l2
     obtain ⟨b,H27,n1,n2,n3⟩:=nested_spec hF hfu hG (hS.ext x25) (p3.ext (q2.trans l2)) (Nat.le_trans hm x25.1) l3
     have x27:=x25.trans n2
     rw [l1]
     simp only [Option.bind_some,n1]
     cases b with
     | true =>
      rw [if_pos (n3.1 rfl)]
      exact ⟨H27,rfl,x27⟩
     | false =>
      rw [if_neg (show ¬NestP g from fun h=>absurd (n3.2 h) (by simp))]
      obtain ⟨id,bl,H29,d1,d2,d3,d4,d5⟩:=ground_spec hF hfu hG (hS.ext x27) (p3.ext ((q2.trans l2).trans n2)) (Nat.le_trans hm x27.1)
      rw [d1]
      simp only [Bool.false_eq_true,if_false,Option.bind_some,contains_false L0 d3 d4 (datas_small hG)]
      refine ⟨H29,?_,x27.trans d2⟩
      by_cases ha:(bl.all fun b=>b)=true
      ·rw [ha,if_pos ((all_on d5 d4).1 ha)]
       rfl
      ·rw [if_neg fun h=>ha ((all_on d5 d4).2 h)]
       have ha':(bl.all fun b=>b)=false:=by simpa using ha
       rw [ha']
       rfl
    ·rw [if_neg ha0,if_pos ha0]
     exact ⟨H23,rfl,x23⟩
end
end Go.Proofs.YtccbilfbhecdaaaDoor
namespace Go.Proofs.YtccbilfbhecdaaaDoor
open Go Go.Abs
set_option maxRecDepth 100000
section
variable {H:AH} {s1 s2 s3:Sl3} {g:Sg} {L0 fuel:Nat}
theorem Sigs_true (hF:L0=fuel+1) (hfu:15≤fuel) (hd:g.dep≤fuel) (hT:HasT H) (hS:SigA H s1 s2 s3 g) (hb:SgB g) :
  ∃H',law04_SortSigs (LCo L0) H.next H s1 s2 s3=some (true,H'):=by
 obtain ⟨H2,a1,a2⟩:=checkSig_prog (m:=H.next) hF hfu hd hb hS (Nat.le_refl _)
 obtain ⟨H4,b1,b2⟩:=checkSig_ref (m:=H.next) hF hfu hd hb (hS.ext a2) a2.1
 unfold law04_SortSigs
 rw [show Nat.max H.next H.next=H.next from Nat.max_self _,a1]
 simp only [Option.bind_some]
 rw [b1]
 simp only [Option.bind_some,if_true]
 rw [awake_run _ (hT.ext (a2.trans b2))]
 exact ⟨H4,rfl⟩
end
end Go.Proofs.YtccbilfbhecdaaaDoor
namespace Go.Proofs.YtccbilfbhecdaaaDoor
open Go Go.Abs Go.ChangeShapes Go.WideShapes
set_option maxRecDepth 100000
theorem sigs_calls {H:Type} {enc:TypeId×Value→H} {W:World} {base:Nat} {args:Array Value} {ds:List (DataW H)} {ps:List MemPlace} (hg:Tryd.prog.globals.size≤W.heap.size)
  (hval:∀(j:Nat) t v,Tryd.f5.params[j]? = some t→args[j]? = some v→Value.okWide Tryd.prog W .any base t v)
  (hA:DataW.TrodAll enc Tryd.prog W 0 (fun _=>true) true Tryd.f5.params.toList args.toList ds ps) (hk:Rows.uptoSmall H ds=true) (hL:laidMet Tryd.prog Rows.sortSigsUptoRow.laid W) (hsh:W.ShapedOpen Tryd.prog)
  (hwt:(DataW.weightsEach Tryd.prog (Tryd.f5.params.toList++[]) ds).all (·≤reachBytes)=true) :
  Calls Tryd.prog 5 args W fun e W'=>e=.returned (.bool true)∧RowKit.Below W.heap.size W W':=by
 rw [Tryd.params5] at hA hval hwt
 obtain ⟨v0,vs0,d0,ds0,p0,q0,hargs,rfl,rfl,h0,r0⟩:=trodAll_cons hA
 obtain ⟨rfl,rfl,rfl⟩:=trodAll_nil r0
 obtain rfl:args=#[v0]:=by cases args; simp_all
 have hb:=bulks.bound hk
 simp only [Rows.uptoBulkAll] at hb
 simp only [List.append_nil,DataW.weightsEach] at hwt
 obtain ⟨φ0,H0x,s0u,s0d,s0f,g0,i0,le0,e0,vr0,sg0,hb0⟩:=import_sig (start_at hg hL hsh) h0 (hval 0 33 v0 rfl rfl) hwt
 obtain ⟨H',hr⟩:=Sigs_true (L0:=max 15 g0.dep+1) (fuel:=max 15 g0.dep) rfl (by omega) (by omega) (hasT_start.ext e0) sg0 hb0
 exact true_of_callI (ne:=NE.plain 1000) sane (law04_SortSigs_ok hr) i0 (ar1 vr0)
theorem sigs_reads (os:Os) {H:Type} (enc:TypeId×Value→H):∃x,DataW.whole enc Tryd.prog ((laidW2 Tryd.prog Rows.sortSigsUptoRow.laid os).forCall (fun _ _=>0) ⟨#[],#[.agg #[.slice none 0 0,.slice none 0 0,.slice none 0 0]],[]⟩).memory Tryd.f5.params.toList Rows.sortSigsSpec.vars false (#[.agg #[.slice none 0 0,.slice none 0 0,.slice none 0 0]]:Array Value).toList 8=some ([.agg [.nil,.nil,.nil]],[],x) :=
 ⟨[],by kernel_rfl⟩
theorem sigs_lifted (os:Os) (started:os.Started) (H:Type) (enc:TypeId×Value→H) (F:Stop.Interp) :
  ReturnsInHanded {} Tryd.checked os 5 .any ((Rows.OpenSpec.upto Rows.sortSigsSpec).preRow enc Tryd.prog Tryd.f5 Rows.sortSigsUptoRow.domain false Rows.sortSigsUptoRow.laid) (((Rows.OpenSpec.upto Rows.sortSigsSpec).at F).post enc Tryd.prog Tryd.f5 false true false false):=by
 obtain ⟨x,hx⟩:=sigs_reads os enc
 exact lifted_row_tabs (C:=Tryd.checked) (s:=Rows.OpenSpec.upto Rows.sortSigsSpec) (k:=Rows.uptoSmall) rfl own started (by kernel_rfl) Tryd.func5 globals_ok laidOut (by kernel_rfl) rfl (by kernel_rfl)
  (fun ds hds=>by
   have h1:ds.length=1:=hds
   match ds,h1 with
   | [d0],_=>exact ⟨rfl,rfl,rfl⟩)
  rfl (by kernel_rfl)
  (witness_row_atRef (enc:=enc) (C:=Tryd.checked) false (laidW2 Tryd.prog Rows.sortSigsUptoRow.laid os) #[.agg #[.slice none 0 0,.slice none 0 0,.slice none 0 0]] rfl (by kernel_rfl) (by kernel_rfl) (by kernel_rfl)
   (OpenSpec.preRow_of_cond 8 hx (by kernel_rfl) (fun k hk=>by cases hk; kernel_rfl) (by kernel_rfl) (laid_met os _)))
  (fun W base args ds ps hg hval hA hk hL hsh hwt=>sigs_calls hg hval hA hk hL hsh hwt)
theorem sigs_said:Rows.SortSigsUptoSaid :=
 OpenClaim.holds_of_cond 5 Tryd.f5 rfl rfl rfl rfl rfl rfl rfl ⟨rfl,rfl,rfl,rfl,rfl⟩ rfl rfl rfl rfl rfl (by kernel_rfl) Tryd.func5 (by kernel_rfl)
  (of_decide_eq_true (by kernel_rfl)) (by unfold Func.isWrapper; first | (rw [if_pos (by decide +kernel)]; kernel_rfl) | (rw [if_neg (by decide +kernel)]; exact ⟨rfl,rfl⟩))
  (fun os started H enc _ F=>by rw [OpenClaim.pre_eq_preRow]; exact sigs_lifted os started H enc F)
theorem sigs_plain (f:FuncId) (fn:Func) (hf:Tryd.pinned.checked.prog.funcNamed "tribunal/tribunallaw04.SortSigs"=some f) (hfn:Tryd.pinned.checked.prog.funcs[f]? = some fn) :
  false=Tryd.pinned.checked.prog.looks []∧∀(j:Nat) t,fn.params[j]? = some t→Tryd.pinned.checked.prog.wantsStandIn t=false:=by
 obtain rfl:f=5:=Option.some.inj ((show Tryd.prog.funcNamed "tribunal/tribunallaw04.SortSigs"=some 5 by kernel_rfl).symm.trans hf) |>.symm
 obtain rfl:fn=Tryd.f5:=(Option.some.inj (Tryd.func5.symm.trans hfn)).symm
 exact ⟨by kernel_rfl,fun j t ht=>by
  have hall:(Tryd.f5.params.toList.all fun u=>!Tryd.prog.wantsStandIn u)=true:=by kernel_rfl
  have hm:t∈Tryd.f5.params.toList:=by simpa using Array.mem_of_getElem? ht
  exact (show Tryd.prog.wantsStandIn t=false by simpa using List.all_eq_true.1 hall t hm)⟩
theorem sortSigs_holds:Rows.SortSigsUptoCardSaid :=
 Claim7.holds_tied_plain_at .later [] _ _ _ _ sigs_said (fun _ h=>by cases h) (by kernel_rfl) (fun _ h=>by cases h) sortSigsUpto_row_tie rfl ⟨rfl,rfl⟩ (by kernel_rfl) rfl sigs_plain (by kernel_rfl)
#print axioms sortSigs_holds
end Go.Proofs.YtccbilfbhecdaaaDoor
