/- BlastNobody is proved: at every input the call returns true and its arguments read as before. No condition beyond the row's own (five listed tables of Go's library as the text lays them). -/
import Derived.Test.YtkecibinbgaedaaGreatDoorNb5
import Derived.Test.YtkecibinbgaedaaGreatDoorTie
import Derived.Test.YtkecibinbgaedaaGreatDoorCards
import Derived.Test.YtkecibinbgaedaaGreatDoorChecked
namespace Go.Proofs.YtkecibinbgaedaaGreatDoor
open Go Go.Abs
set_option maxRecDepth 100000
noncomputable def B26:Code:=(Tryz.f26.body).getD .skip
def zhl:(Sl3×AH)→Value
 | (r0,_)=>(Sl3.v r0)
def zi3 (_:AH):(Sl3×AH)→AH:=fun r=>r.2
noncomputable def z3i (L:LC):Nat→FuncId→Array Value→AH→Option (Value×AH) :=
 (orO (orF 12 (dcC dcP (dcC (dcI .i64) dcN)) fun m H (a0,(a1,_))=>(z2m L m H a0 a1).map fun r=>(z5x r,z6g H r))
  (orO (orF 30 (dcC dcP (dcC (dcI .i64) dcN)) fun m H (a0,(a1,_))=>(zaa L m H a0 a1).map fun r=>(zaq r,zcd H r))
  (orO (orF 57 (dcC dcP dcN) fun m H (a0,_)=>(z1q L m H a0).map fun r=>(z32 r,z3h H r))
  (orO (orF 59 (dcC dcP (dcC (dcI .i64) (dcC dcSl (dcC dcSl dcN)))) fun m H (a0,(a1,(a2,(a3,_))))=>(z6s L m H a0 a1 a2 a3).map fun r=>(z8r r,z9h H r))
  orN))))
noncomputable def zcj (L:LC) (m:Nat) (H:AH) (a0:Option Addr) (a1:Int):Option (Sl3×AH) :=
 byRun Tryz.prog 258 (z3i L) m 26 #[(Value.pointer a0),(Value.int .i64 a1)] H dcSl fun r H2=>(r,H2)
theorem ze3 {L:LC}:OrOK Tryz.prog (NE.plain 258) (z3i L):=by
 unfold z3i
 refine orO_ok (orF_ok fun m H ⟨a0,⟨a1,_⟩⟩ v H' h=>by
  obtain ⟨r,h1,rfl,rfl⟩:=zx h
  exact z6l h1) ?_
 refine orO_ok (orF_ok fun m H ⟨a0,⟨a1,_⟩⟩ v H' h=>by
  obtain ⟨r,h1,rfl,rfl⟩:=zx h
  exact zn3 h1) ?_
 refine orO_ok (orF_ok fun m H ⟨a0,_⟩ v H' h=>by
  obtain ⟨r,h1,rfl,rfl⟩:=zx h
  exact z3k h1) ?_
 refine orO_ok (orF_ok fun m H ⟨a0,⟨a1,⟨a2,⟨a3,_⟩⟩⟩⟩ v H' h=>by
  obtain ⟨r,h1,rfl,rfl⟩:=zx h
  exact zka h1) ?_
 exact orN_ok
theorem zhx {L:LC} {m:Nat} {H:AH} {a0:Option Addr} {a1:Int} {r:(Sl3×AH)} (h:zcj L m H a0 a1=some r) :
  CallS Tryz.prog (NE.plain 258) m 26 #[(Value.pointer a0),(Value.int .i64 a1)] H (zhl r) (zi3 H r):=by
 obtain ⟨r,H2,rfl,hc⟩:=zea ze3 Tryz.func26 (show Tryz.f26.body=some B26 by kernel_rfl) h
 exact hc
noncomputable def B13:Code:=(Tryz.f13.body).getD .skip
def zev:(Sl3×AH)→Value
 | (r0,_)=>(Sl3.v r0)
def zfz (_:AH):(Sl3×AH)→AH:=fun r=>r.2
noncomputable def z4f (L:LC) (m:Nat) (H:AH) (a0:Option Addr) (a1:Int):Option (Sl3×AH) :=
 Option.bind a0 fun q1 =>
 Option.bind (rd deM H (Addr.add q1 2)) fun x2 =>
 Option.bind (lkM Tryz.prog 26 deSl H x2 (Value.int .i64 a1)) fun (_,b4) =>
 if b4=true then
  none
 else
  Option.bind (rd (deI .i64) H (Addr.add q1 6)) fun x5 =>
  if x5=0 then
   Option.bind (zcj L m H (some q1) a1) fun (x6,H7) =>
   Option.bind (rd (deI .i64) H7 (Addr.add q1 6)) fun x8 =>
   if x8=0 then
    Option.bind (rd deM H7 (Addr.add q1 2)) fun x9 =>
    Option.bind (upM Tryz.prog m 26 H7 x9 (Value.int .i64 a1) (Sl3.v x6)) fun H10 =>
    some (x6,H10)
   else
    none
  else
   none
theorem zfy {L:LC} {m:Nat} {H:AH} {a0:Option Addr} {a1:Int} {r:(Sl3×AH)} (h:z4f L m H a0 a1=some r) :
  CallS Tryz.prog (NE.plain 258) m 13 #[(Value.pointer a0),(Value.int .i64 a1)] H (zev r) (zfz H r):=by
 refine CallS.mk (args:=[(Value.pointer a0),(Value.int .i64 a1)]) Tryz.func13 (B:=B13) (by kernel_rfl) (fun E _=>?_)
 unfold z4f at h
 refine WS.sq (WS.rg (RS.mS 1 [kS 4 Sl3.nil] (RS.dn (WS.nxt (WS.sq (WS.sq (WS.rg (RS.mS 1 [(9,.val (Value.pointer a0))] ?_))))))))
 obtain ⟨q1,hx,hq1⟩:=bind_some h
 subst hx
 have h:=hq1
 refine RS.mS 2 [(11,.val (Value.pointer (some (Addr.add q1 2)))),kP 10 q1] ?_
 obtain ⟨x2,hx,h⟩:=bind_some h
 refine RS.ld 12 26 (.tmp 11) (z1 hx zaw) (RS.mS 1 [kI 13 a1] ?_)
 obtain ⟨⟨x3,b4⟩,hx,h⟩:=bind_some h
 try dsimp only at h
 refine RS.o (H':=H) (some 14) (Value.tuple #[(Sl3.v x3),(Value.bool b4)]) (Abs.run_look (t:=26) (x:=.tmp 12) (y:=.tmp 13) (mm:=x2) (k:=(Value.int .i64 a1)) (by kernel_rfl) (by kernel_rfl) (by kernel_rfl) (by kernel_rfl) (lkM_eq hx z3)) (RS.mS 5 [kB 6 b4,kS 5 x3,kB 16 b4,kS 15 x3,(8,.val (Value.tuple #[(Sl3.v x3),(Value.bool b4)]))] (RS.dn (WS.nxt (WS.sq (WS.rg (RS.mS 2 [kB 18 b4,kB 17 b4] ?_))))))
 rcases z0 h with ⟨hp,h⟩ | ⟨hp,h⟩
 ·refine RS.fx 18 true hp ?_
  cases h
 ·refine RS.fx 18 false (b_not hp) (RS.mS 3 [(21,.val (Value.pointer (some (Addr.add q1 6)))),kP 20 q1,kP 19 q1] ?_)
  obtain ⟨x5,hx,h⟩:=bind_some h
  refine RS.ld 22 29 (.tmp 21) (z1 hx z4) (RS.mS 2 [kB 24 (!decide (x5=0)),kB 23 (!decide (x5=0))] (RS.dn (WS.nxt ?_)))
  rcases z0 h with ⟨hp,h⟩ | ⟨hp,h⟩
  ·refine WS.fx 24 false (zd hp) (WS.cF (WS.sk (WS.nxt (WS.sq (WS.rg (RS.mS 2 [kI 27 a1,kP 26 q1] ?_))))))
   obtain ⟨⟨x6,H7⟩,hx,h⟩:=bind_some h
   try dsimp only at h
   refine RS.cl (some 28) (v:=(Sl3.v x6)) 26 #[(Value.pointer (some q1)),(Value.int .i64 a1)] (zhx hx) (RS.mS 1 [kS 7 x6] (RS.dn (WS.nxt (WS.sq (WS.sq (WS.rg (RS.mS 3 [(31,.val (Value.pointer (some (Addr.add q1 6)))),kP 30 q1,kP 29 q1] ?_)))))))
   obtain ⟨x8,hx,h⟩:=bind_some h
   refine RS.ld 32 29 (.tmp 31) (z1 hx z4) (RS.mS 1 [kB 33 (decide (x8=0))] (RS.dn (WS.nxt ?_)))
   rcases z0 h with ⟨hp,h⟩ | ⟨hp,h⟩
   ·refine WS.fx 33 true (decide_eq_true hp) (WS.cT (WS.rg (RS.mS 3 [(36,.val (Value.pointer (some (Addr.add q1 2)))),kP 35 q1,kP 34 q1] ?_)))
    obtain ⟨x9,hx,h⟩:=bind_some h
    refine RS.ld 37 26 (.tmp 36) (z1 hx zaw) (RS.mS 2 [kS 39 x6,kI 38 a1] ?_)
    obtain ⟨H10,hx,h⟩:=bind_some h
    refine RS.o (H':=H10) none undef (Abs.run_upM (t:=26) (x:=.tmp 37) (y:=.tmp 38) (z:=.tmp 39) (mm:=x9) (k:=(Value.int .i64 a1)) (v:=(Sl3.v x6)) (by kernel_rfl) (by kernel_rfl) (by kernel_rfl) (by kernel_rfl) (by kernel_rfl) hx) (RS.dn (WS.nxt (WS.sq (WS.rg (RS.mS 2 [kS 4 x6,kS 40 x6] (RS.dn (WS.nxt (WS.rt ?_))))))))
    cases h
    exact fun a w hs=>rtR (rS hs)
   ·refine WS.fx 33 false (decide_eq_false hp) (WS.cF ?_)
    cases h
  ·refine WS.fx 24 true (z9 hp) (WS.cT ?_)
   cases h
def zhi:(Sl3×Int×AH)→Value
 | (r0,r1,_)=>(Value.tuple #[(Sl3.v r0),(Value.int .i64 r1)])
def zit (_:AH):(Sl3×Int×AH)→AH:=fun r=>r.2.2
noncomputable def z24 (L:LC) (m:Nat) (H:AH) (a0:Option Addr) (a1:Int):Option (Sl3×Int×AH) :=
 Option.bind (z11 L H a0) fun x1 =>
 if x1=true then
  Option.bind a0 fun q2 =>
  Option.bind (rd deP H (Addr.add q2 1)) fun x3 =>
  Option.bind (z57 L m H x3 a1) fun (_,_,_,_,x5,H6) =>
  if x5=true then
   Option.bind (z2m L m H6 (some q2) a1) fun (_,x8,H9) =>
   if x8=true then
    Option.bind (z4f L m H9 (some q2) a1) fun (x10,H11) =>
    Option.bind (rd (deI .i64) H11 (Addr.add q2 6)) fun x12 =>
    if x12=0 then
     Option.bind (z1k L m H11 x10) fun (x13,H14) =>
     some (x13,0,H14)
    else
     none
   else
    none
  else
   none
 else
  none
theorem z46 {L:LC} {m:Nat} {H:AH} {a0:Option Addr} {a1:Int} {r:(Sl3×Int×AH)} (h:z24 L m H a0 a1=some r) :
  CallS Tryz.prog (NE.plain 258) m 4 #[(Value.pointer a0),(Value.int .i64 a1)] H (zhi r) (zit H r):=by
 refine CallS.mk (args:=[(Value.pointer a0),(Value.int .i64 a1)]) Tryz.func4 (B:=B4) (by kernel_rfl) (fun E _=>?_)
 unfold z24 at h
 refine WS.sq (WS.rg (RS.mS 2 [kI 5 0,kS 4 Sl3.nil] (RS.dn (WS.nxt (WS.sq (WS.sq (WS.rg (RS.mS 1 [(11,.val (Value.pointer a0))] ?_))))))))
 obtain ⟨x1,hx,h⟩:=bind_some h
 refine RS.cl (some 12) (v:=(Value.bool x1)) 10 #[(Value.pointer a0)] (z1a hx) (RS.mS 1 [kB 13 (!x1)] (RS.dn (WS.nxt ?_)))
 rcases z0 h with ⟨hp,h⟩ | ⟨hp,h⟩
 ·refine WS.fx 13 false (nb_not hp) (WS.cF (WS.sk (WS.nxt (WS.sq (WS.sq (WS.rg (RS.mS 1 [(15,.val (Value.pointer a0))] ?_)))))))
  obtain ⟨q2,hx,hq2⟩:=bind_some h
  subst hx
  have h:=hq2
  refine RS.mS 2 [(17,.val (Value.pointer (some (Addr.add q2 1)))),kP 16 q2] ?_
  obtain ⟨x3,hx,h⟩:=bind_some h
  refine RS.ld 18 25 (.tmp 17) (z1 hx zu) (RS.mS 1 [kI 19 a1] ?_)
  obtain ⟨⟨x4_0,x4_1,x4_2,x4_3,x5,H6⟩,hx,h⟩:=bind_some h
  try dsimp only at h
  refine RS.cl (some 20) (v:=(Value.tuple #[(Value.agg #[(Value.int .i64 x4_0),(Value.int .i64 x4_1),(Value.string x4_2),(Sl3.v x4_3)]),(Value.bool x5)])) 11 #[(Value.pointer x3),(Value.int .i64 a1)] (zc2 hx) (RS.mL 6 [kB 7 x5,kL 6 0 0,kB 22 x5,kA 21 #[(Value.int .i64 x4_0),(Value.int .i64 x4_1),(Value.string x4_2),(Sl3.v x4_3)],(14,.val (Value.tuple #[(Value.agg #[(Value.int .i64 x4_0),(Value.int .i64 x4_1),(Value.string x4_2),(Sl3.v x4_3)]),(Value.bool x5)]))] ([some (56,[(Value.int .i64 x4_0),(Value.int .i64 x4_1),(Value.string x4_2),(Sl3.v x4_3)])]) (RS.dn (WS.nxt (WS.sq (WS.rg (RS.mS 2 [kB 24 (!x5),kB 23 x5] (RS.dn (WS.nxt ?_))))))))
  rcases z0 h with ⟨hp,h⟩ | ⟨hp,h⟩
  ·refine WS.fx 24 false (nb_not hp) (WS.cF (WS.sk (WS.nxt (WS.sq (WS.sq (WS.rg (RS.mS 2 [kI 27 a1,kP 26 q2] ?_)))))))
   obtain ⟨⟨x7,x8,H9⟩,hx,h⟩:=bind_some h
   try dsimp only at h
   refine RS.cl (some 28) (v:=(Value.tuple #[(Value.int .i64 x7),(Value.bool x8)])) 12 #[(Value.pointer (some q2)),(Value.int .i64 a1)] (z6l hx) (RS.mS 5 [kB 9 x8,kI 8 x7,kB 30 x8,kI 29 x7,(25,.val (Value.tuple #[(Value.int .i64 x7),(Value.bool x8)]))] (RS.dn (WS.nxt (WS.sq (WS.rg (RS.mS 2 [kB 32 (!x8),kB 31 x8] (RS.dn (WS.nxt ?_))))))))
   rcases z0 h with ⟨hp,h⟩ | ⟨hp,h⟩
   ·refine WS.fx 32 false (nb_not hp) (WS.cF (WS.sk (WS.nxt (WS.sq (WS.rg (RS.mS 2 [kI 34 a1,kP 33 q2] ?_))))))
    obtain ⟨⟨x10,H11⟩,hx,h⟩:=bind_some h
    try dsimp only at h
    refine RS.cl (some 35) (v:=(Sl3.v x10)) 13 #[(Value.pointer (some q2)),(Value.int .i64 a1)] (zfy hx) (RS.mS 1 [kS 10 x10] (RS.dn (WS.nxt (WS.sq (WS.sq (WS.rg (RS.mS 3 [(38,.val (Value.pointer (some (Addr.add q2 6)))),kP 37 q2,kP 36 q2] ?_)))))))
    obtain ⟨x12,hx,h⟩:=bind_some h
    refine RS.ld 39 29 (.tmp 38) (z1 hx z4) (RS.mS 1 [kB 40 (!decide (x12=0))] (RS.dn (WS.nxt ?_)))
    rcases z0 h with ⟨hp,h⟩ | ⟨hp,h⟩
    ·refine WS.fx 40 false (zd hp) (WS.cF (WS.sk (WS.nxt (WS.sq (WS.rg (RS.mS 1 [kS 45 x10] ?_))))))
     obtain ⟨⟨x13,H14⟩,hx,h⟩:=bind_some h
     try dsimp only at h
     refine RS.cl (some 46) (v:=(Sl3.v x13)) 14 #[(Sl3.v x10)] (zm hx) (RS.mS 2 [kI 5 0,kS 4 x13] (RS.dn (WS.nxt (WS.rt ?_))))
     cases h
     exact fun a w hs=>rtR (rS hs)
    ·refine WS.fx 40 true (z9 hp) (WS.cT ?_)
     cases h
   ·refine WS.fx 32 true (zb hp) (WS.cT ?_)
    cases h
  ·refine WS.fx 24 true (zb hp) (WS.cT ?_)
   cases h
 ·refine WS.fx 13 true (zb hp) (WS.cT ?_)
  cases h
noncomputable def B8:Code:=(Tryz.f8.body).getD .skip
def zpr:(Bool×AH)→Value
 | (r0,_)=>(Value.bool r0)
def zqs (_:AH):(Bool×AH)→AH:=fun r=>r.2
noncomputable def zgs (L:LC) (m:Nat) (H:AH):Option (Bool×AH) :=
 Option.bind (newR 72 2 #[(Value.string (⟨#[98]⟩:ByteArray)),(Sl3.v Sl3.nil),(Value.int .i64 3),(Value.int .i64 2),(Value.string (⟨#[]⟩:ByteArray)),(Sl3.v Sl3.nil),(Value.string (⟨#[99]⟩:ByteArray)),(Sl3.v Sl3.nil),(Value.int .i64 3),(Value.int .i64 2),(Value.string (⟨#[]⟩:ByteArray)),(Sl3.v Sl3.nil)] H) fun (s1,H2) =>
 Option.bind (newR 3 2 #[(Value.int .i64 0),(Value.int .i64 1)] H2) fun (s3,H4) =>
 Option.bind (newR 82 3 #[(Value.int .i64 11),(Value.string (⟨#[98]⟩:ByteArray)),(Value.bool false),(Sl3.v Sl3.nil),(Value.int .i64 0),(Sl3.v Sl3.nil),(Value.int .i64 0),(Value.int .i64 0),(Value.string (⟨#[]⟩:ByteArray)),(Sl3.v Sl3.nil),(Sl3.v Sl3.nil),(Sl3.v Sl3.nil),(Value.int .i64 11),(Value.string (⟨#[99]⟩:ByteArray)),(Value.bool false),(Sl3.v Sl3.nil),(Value.int .i64 0),(Sl3.v Sl3.nil),(Value.int .i64 0),(Value.int .i64 0),(Value.string (⟨#[]⟩:ByteArray)),(Sl3.v Sl3.nil),(Sl3.v Sl3.nil),(Sl3.v Sl3.nil),(Value.int .i64 52),(Value.string (⟨#[]⟩:ByteArray)),(Value.bool false),(Sl3.v Sl3.nil),(Value.int .i64 0),(Sl3.v Sl3.nil),(Value.int .i64 0),(Value.int .i64 0),(Value.string (⟨#[]⟩:ByteArray)),(Sl3.v Sl3.nil),(Sl3.v Sl3.nil),(Sl3.v s3)] H4) fun (s5,H6) =>
 Option.bind (zh8 L m H6 Sl3.nil Sl3.nil s1 s5) fun (x7,x8,H9) =>
 if x8=true then
  match x7 with
  | none =>
   none
  | some q10 =>
   Option.bind (rd deP H9 (Addr.add q10 2)) fun x11 =>
   Option.bind (z24 L m H9 x11 0) fun (x12,x13,H14) =>
   Option.bind (rd deP H14 (Addr.add q10 2)) fun x15 =>
   Option.bind (z24 L m H14 x15 1) fun (x16,x17,H18) =>
   Option.bind (rd deP H18 (Addr.add q10 2)) fun x19 =>
   Option.bind (z24 L m H18 x19 2) fun (x20,x21,H22) =>
   if x13=0 then
    if x17=0 then
     if x21=0 then
      if (x12.n:Int)=2 then
       if (x16.n:Int)=2 then
        if (x20.n:Int)=2 then
         Option.bind (rd deP H22 (Addr.add q10 1)) fun x23 =>
         Option.bind (idxA 1 x12 0) fun p24 =>
         Option.bind (rd (deI .i64) H22 p24) fun x25 =>
         Option.bind (idxA 1 x16 0) fun p26 =>
         Option.bind (rd (deI .i64) H22 p26) fun x27 =>
         Option.bind (idxA 1 x12 1) fun p28 =>
         Option.bind (rd (deI .i64) H22 p28) fun x29 =>
         Option.bind (idxA 1 x16 1) fun p30 =>
         Option.bind (rd (deI .i64) H22 p30) fun x31 =>
         Option.bind (z9x L (Nat.max m H22.next) H22 x23) fun (x32_0,x32_1,H33) =>
         Option.bind (newS 3 [(Value.int .i64 x25),(Value.int .i64 x27),(Value.int .i64 (IntKind.i64.wrap (0 - x29))),(Value.int .i64 (IntKind.i64.wrap (0 - x31)))] H33) fun (k34,H35) =>
         Option.bind (zd2 L m H35 x32_0 x32_1 (⟨some ⟨k34,0,none⟩,4,4⟩:Sl3)) fun (x36,x37,x38,H39) =>
         if x37=true then
          if x38=0 then
           Option.bind (idxA 1 x20 0) fun p40 =>
           Option.bind (rd (deI .i64) H39 p40) fun x41 =>
           Option.bind (zg6 L H39 x36 (IntKind.i64.wrap (0 - x41))) fun x42 =>
           if x42=true then
            Option.bind (idxA 1 x20 1) fun p43 =>
            Option.bind (rd (deI .i64) H39 p43) fun x44 =>
            Option.bind (zg6 L H39 x36 x44) fun x45 =>
            some (x45,H39)
           else
            none
          else
           none
         else
          none
        else
         none
       else
        none
      else
       none
     else
      none
    else
     none
   else
    none
 else
  none
theorem zr1 {L:LC} {m:Nat} {H:AH} {r:(Bool×AH)} (h:zgs L m H=some r) :
  CallS Tryz.prog (NE.plain 258) m 8 #[] H (zpr r) (zqs H r):=by
 refine CallS.mk (args:=[]) Tryz.func8 (B:=B8) (by kernel_rfl) (fun E _=>?_)
 unfold zgs at h
 refine WS.sq (WS.rg (RS.mS 1 [kB 0 false] (RS.dn (WS.nxt (WS.sq (WS.rg (RS.mL 3 [kL 1 0 0,kA 13 #[(Value.int .i64 3),(Value.int .i64 2),(Value.string (⟨#[]⟩:ByteArray)),(Sl3.v Sl3.nil)]] ([some (56,[(Value.int .i64 3),(Value.int .i64 2),(Value.string (⟨#[]⟩:ByteArray)),(Sl3.v Sl3.nil)])]) (RS.dn (WS.nxt ?_)))))))))
 refine WS.sq (WS.rg (RS.mS 4 [kA 18 #[(Value.string (⟨#[99]⟩:ByteArray)),(Sl3.v Sl3.nil),(Value.int .i64 3),(Value.int .i64 2),(Value.string (⟨#[]⟩:ByteArray)),(Sl3.v Sl3.nil)],kA 17 #[(Value.int .i64 3),(Value.int .i64 2),(Value.string (⟨#[]⟩:ByteArray)),(Sl3.v Sl3.nil)],kA 16 #[(Value.string (⟨#[98]⟩:ByteArray)),(Sl3.v Sl3.nil),(Value.int .i64 3),(Value.int .i64 2),(Value.string (⟨#[]⟩:ByteArray)),(Sl3.v Sl3.nil)],kA 15 #[(Value.int .i64 3),(Value.int .i64 2),(Value.string (⟨#[]⟩:ByteArray)),(Sl3.v Sl3.nil)]] ?_))
 obtain ⟨⟨s1,H2⟩,hx,h⟩:=bind_some h
 try dsimp only at h
 refine RS.o (H':=H2) (some 19) (Sl3.v s1) (Abs.run_newR (by kernel_rfl) (by kernel_rfl) hx) (RS.mS 3 [kA 22 #[(Value.int .i64 11),(Value.string (⟨#[99]⟩:ByteArray)),(Value.bool false),(Sl3.v Sl3.nil),(Value.int .i64 0),(Sl3.v Sl3.nil),(Value.int .i64 0),(Value.int .i64 0),(Value.string (⟨#[]⟩:ByteArray)),(Sl3.v Sl3.nil),(Sl3.v Sl3.nil),(Sl3.v Sl3.nil)],kA 21 #[(Value.int .i64 11),(Value.string (⟨#[98]⟩:ByteArray)),(Value.bool false),(Sl3.v Sl3.nil),(Value.int .i64 0),(Sl3.v Sl3.nil),(Value.int .i64 0),(Value.int .i64 0),(Value.string (⟨#[]⟩:ByteArray)),(Sl3.v Sl3.nil),(Sl3.v Sl3.nil),(Sl3.v Sl3.nil)],kA 20 #[(Sl3.v Sl3.nil),(Sl3.v Sl3.nil),(Sl3.v s1)]] ?_)
 obtain ⟨⟨s3,H4⟩,hx,h⟩:=bind_some h
 try dsimp only at h
 refine RS.o (H':=H4) (some 23) (Sl3.v s3) (Abs.run_newR (by kernel_rfl) (by kernel_rfl) hx) (RS.mS 1 [kA 24 #[(Value.int .i64 52),(Value.string (⟨#[]⟩:ByteArray)),(Value.bool false),(Sl3.v Sl3.nil),(Value.int .i64 0),(Sl3.v Sl3.nil),(Value.int .i64 0),(Value.int .i64 0),(Value.string (⟨#[]⟩:ByteArray)),(Sl3.v Sl3.nil),(Sl3.v Sl3.nil),(Sl3.v s3)]] ?_)
 obtain ⟨⟨s5,H6⟩,hx,h⟩:=bind_some h
 try dsimp only at h
 refine RS.o (H':=H6) (some 25) (Sl3.v s5) (Abs.run_newR (by kernel_rfl) (by kernel_rfl) hx) ?_
 obtain ⟨⟨x7,x8,H9⟩,hx,h⟩:=bind_some h
 try dsimp only at h
 refine RS.cl (some 26) (v:=(Value.tuple #[(Value.pointer x7),(Value.bool x8)])) 18 #[(Value.agg #[(Sl3.v Sl3.nil),(Sl3.v Sl3.nil),(Sl3.v s1)]),(Sl3.v s5)] (zqj hx) (RS.mS 5 [kB 3 x8,(2,.val (Value.pointer x7)),kB 28 x8,(27,.val (Value.pointer x7)),(14,.val (Value.tuple #[(Value.pointer x7),(Value.bool x8)]))] (RS.dn (WS.nxt (WS.sq (WS.sq (WS.rg (RS.mS 3 [kB 31 (!x8),kB 30 (!x8),kB 29 x8] ?_)))))))
 rcases z0 h with ⟨hp,h⟩ | ⟨hp,h⟩
 ·refine RS.fx 31 false (nb_not hp) (RS.mS 1 [(32,.val (Value.pointer x7))] ?_)
  rcases x7 with _ | q10
  ·try dsimp only at h
   cases h
  ·try dsimp only at h
   refine RS.mS 2 [kB 34 false,kB 33 false] (RS.dn (WS.nxt (WS.cF (WS.sk (WS.nxt (WS.sq (WS.rg (RS.mS 3 [(38,.val (Value.pointer (some (Addr.add q10 2)))),kP 37 q10,kP 36 q10] ?_))))))))
   obtain ⟨x11,hx,h⟩:=bind_some h
   refine RS.ld 39 23 (.tmp 38) (z1 hx zu) ?_
   obtain ⟨⟨x12,x13,H14⟩,hx,h⟩:=bind_some h
   try dsimp only at h
   refine RS.cl (some 40) (v:=(Value.tuple #[(Sl3.v x12),(Value.int .i64 x13)])) 4 #[(Value.pointer x11),(Value.int .i64 0)] (z46 hx) (RS.mS 5 [kI 5 x13,kS 4 x12,kI 42 x13,kS 41 x12,(35,.val (Value.tuple #[(Sl3.v x12),(Value.int .i64 x13)]))] (RS.dn (WS.nxt (WS.sq (WS.rg (RS.mS 3 [(46,.val (Value.pointer (some (Addr.add q10 2)))),kP 45 q10,kP 44 q10] ?_))))))
   obtain ⟨x15,hx,h⟩:=bind_some h
   refine RS.ld 47 23 (.tmp 46) (z1 hx zu) ?_
   obtain ⟨⟨x16,x17,H18⟩,hx,h⟩:=bind_some h
   try dsimp only at h
   refine RS.cl (some 48) (v:=(Value.tuple #[(Sl3.v x16),(Value.int .i64 x17)])) 4 #[(Value.pointer x15),(Value.int .i64 1)] (z46 hx) (RS.mS 5 [kI 7 x17,kS 6 x16,kI 50 x17,kS 49 x16,(43,.val (Value.tuple #[(Sl3.v x16),(Value.int .i64 x17)]))] (RS.dn (WS.nxt (WS.sq (WS.rg (RS.mS 3 [(54,.val (Value.pointer (some (Addr.add q10 2)))),kP 53 q10,kP 52 q10] ?_))))))
   obtain ⟨x19,hx,h⟩:=bind_some h
   refine RS.ld 55 23 (.tmp 54) (z1 hx zu) ?_
   obtain ⟨⟨x20,x21,H22⟩,hx,h⟩:=bind_some h
   try dsimp only at h
   refine RS.cl (some 56) (v:=(Value.tuple #[(Sl3.v x20),(Value.int .i64 x21)])) 4 #[(Value.pointer x19),(Value.int .i64 2)] (z46 hx) (RS.mS 5 [kI 9 x21,kS 8 x20,kI 58 x21,kS 57 x20,(51,.val (Value.tuple #[(Sl3.v x20),(Value.int .i64 x21)]))] (RS.dn (WS.nxt (WS.sq (WS.sq (WS.rg (RS.mS 3 [kB 61 (!decide (x13=0)),kB 60 (!decide (x13=0)),kI 59 x13] ?_)))))))
   rcases z0 h with ⟨hp,h⟩ | ⟨hp,h⟩
   ·refine RS.fx 61 false (zd hp) (RS.mS 4 [kB 65 (!decide (x17=0)),kB 64 (!decide (x17=0)),kB 63 (!decide (x17=0)),kI 62 x17] ?_)
    rcases z0 h with ⟨hp,h⟩ | ⟨hp,h⟩
    ·refine RS.fx 65 false (zd hp) (RS.mS 4 [kB 69 (!decide (x21=0)),kB 68 (!decide (x21=0)),kB 67 (!decide (x21=0)),kI 66 x21] ?_)
     rcases z0 h with ⟨hp,h⟩ | ⟨hp,h⟩
     ·refine RS.fx 69 false (zd hp) (RS.mS 5 [kB 74 (!decide ((x12.n:Int)=2)),kB 73 (!decide ((x12.n:Int)=2)),kB 72 (!decide ((x12.n:Int)=2)),kI 71 (x12.n:Int),kS 70 x12] ?_)
      rcases z0 h with ⟨hp,h⟩ | ⟨hp,h⟩
      ·refine RS.fx 74 false (zd hp) (RS.mS 5 [kB 79 (!decide ((x16.n:Int)=2)),kB 78 (!decide ((x16.n:Int)=2)),kB 77 (!decide ((x16.n:Int)=2)),kI 76 (x16.n:Int),kS 75 x16] ?_)
       rcases z0 h with ⟨hp,h⟩ | ⟨hp,h⟩
       ·refine RS.fx 79 false (zd hp) (RS.mS 4 [kB 83 (!decide ((x20.n:Int)=2)),kB 82 (!decide ((x20.n:Int)=2)),kI 81 (x20.n:Int),kS 80 x20] (RS.dn (WS.nxt ?_)))
        rcases z0 h with ⟨hp,h⟩ | ⟨hp,h⟩
        ·refine WS.fx 83 false (zd hp) (WS.cF (WS.sk (WS.nxt (WS.sq ?_))))
         obtain ⟨x23,hx_3,h⟩:=bind_some h
         obtain ⟨p24,hx_6,h⟩:=bind_some h
         obtain ⟨x25,hx_7,h⟩:=bind_some h
         obtain ⟨p26,hx_9,h⟩:=bind_some h
         obtain ⟨x27,hx_10,h⟩:=bind_some h
         obtain ⟨p28,hx_12,h⟩:=bind_some h
         obtain ⟨x29,hx_13,h⟩:=bind_some h
         obtain ⟨p30,hx_16,h⟩:=bind_some h
         obtain ⟨x31,hx_17,h⟩:=bind_some h
         obtain ⟨⟨x32_0,x32_1,H33⟩,hx_4,h⟩:=bind_some h
         try dsimp only at h
         obtain ⟨⟨k34,H35⟩,hx_k34,h⟩:=bind_some h
         try dsimp only at h
         obtain ⟨⟨x36,x37,x38,H39⟩,hx_20,h⟩:=bind_some h
         try dsimp only at h
         refine WS.toone ([kS 8 x20,kS 10 x36,kB 11 x37,kI 12 x38]) ([some (56,[(Value.int .i64 3),(Value.int .i64 2),(Value.string (⟨#[]⟩:ByteArray)),(Sl3.v Sl3.nil)]),none]) H39 ?_ ?_
         ·clear h
          refine WS.dr [0,1,2,3,5,6,7,8,9,10,11,12,13,15,16,17] [0,1,3,7,15,0,32,96,0,256,768,0,2048,6144,14336,0,32768,98304,229376,524256,1048575,2097151,4194303,4194303,4194303,8388607,50331647,134217727] 28 (fun hcl=>?_)
          refine DA.tK 0 (some 85) (Value.pointer (some q10)) (DA.tK 1 (some 86) (Value.pointer (some q10)) (DA.tK 2 (some 87) (Value.pointer (some (Addr.add q10 1))) (DA.tD 3 (some 88) (Value.pointer x23) (Abs.det_load (t:=24) (x:=.tmp 87) (a:=(Addr.add q10 1)) (by kernel_rfl) (by kernel_rfl) (by kernel_rfl) (by kernel_rfl) (z1 hx_3 zu)) (DA.tK 5 (some 90) (Sl3.v x12) (DA.tD 6 (some 91) (Value.pointer (some p24)) (Abs.det_idx (s:=x12) (k:=.i64) (t:=28) (e:=3) (x:=.tmp 90) (y:=.const (Value.int .i64 0)) (by kernel_rfl) (by kernel_rfl) (by kernel_rfl) (by kernel_rfl) (by kernel_rfl) hx_6) (DA.tD 7 (some 92) (Value.int .i64 x25) (Abs.det_load (t:=3) (x:=.tmp 91) (a:=p24) (by kernel_rfl) (by kernel_rfl) (by kernel_rfl) (by kernel_rfl) (z1 hx_7 z4)) (DA.tK 8 (some 93) (Sl3.v x16) (DA.tD 9 (some 94) (Value.pointer (some p26)) (Abs.det_idx (s:=x16) (k:=.i64) (t:=28) (e:=3) (x:=.tmp 93) (y:=.const (Value.int .i64 0)) (by kernel_rfl) (by kernel_rfl) (by kernel_rfl) (by kernel_rfl) (by kernel_rfl) hx_9) (DA.tD 10 (some 95) (Value.int .i64 x27) (Abs.det_load (t:=3) (x:=.tmp 94) (a:=p26) (by kernel_rfl) (by kernel_rfl) (by kernel_rfl) (by kernel_rfl) (z1 hx_10 z4)) ?_)))))))))
          refine DA.tK 11 (some 96) (Sl3.v x12) (DA.tD 12 (some 97) (Value.pointer (some p28)) (Abs.det_idx (s:=x12) (k:=.i64) (t:=28) (e:=3) (x:=.tmp 96) (y:=.const (Value.int .i64 1)) (by kernel_rfl) (by kernel_rfl) (by kernel_rfl) (by kernel_rfl) (by kernel_rfl) hx_12) (DA.tD 13 (some 98) (Value.int .i64 x29) (Abs.det_load (t:=3) (x:=.tmp 97) (a:=p28) (by kernel_rfl) (by kernel_rfl) (by kernel_rfl) (by kernel_rfl) (z1 hx_13 z4)) (DA.tK 15 (some 100) (Sl3.v x16) (DA.tD 16 (some 101) (Value.pointer (some p30)) (Abs.det_idx (s:=x16) (k:=.i64) (t:=28) (e:=3) (x:=.tmp 100) (y:=.const (Value.int .i64 1)) (by kernel_rfl) (by kernel_rfl) (by kernel_rfl) (by kernel_rfl) (by kernel_rfl) hx_16) (DA.tD 17 (some 102) (Value.int .i64 x31) (Abs.det_load (t:=3) (x:=.tmp 101) (a:=p30) (by kernel_rfl) (by kernel_rfl) (by kernel_rfl) (by kernel_rfl) (z1 hx_17 z4)) (DA.restart [0,1,2,3,5,6,7,8,9,10,11,12,13,14,15,16,17,18] (by kernel_rfl) (DA.tK 14 (some 99) (Value.int .i64 (IntKind.i64.wrap (0 - x29))) (DA.tK 18 (some 103) (Value.int .i64 (IntKind.i64.wrap (0 - x31))) ?_))))))))
          refine DA.two 4 19 (by kernel_rfl) ?_ ?_
          ·refine DA.aCj 4 (some 89) true (v:=(Value.agg #[(Value.int .i64 x32_0),(Sl3.v x32_1)])) 20 #[(Value.pointer x23)] (zc8 hx_4) (DA.on 19 (DA.actS 19 (some 104) (.sli 1 4) ([some (56,[(Value.int .i64 3),(Value.int .i64 2),(Value.string (⟨#[]⟩:ByteArray)),(Sl3.v Sl3.nil)]),some (3,[(Value.int .i64 x25),(Value.int .i64 x27),(Value.int .i64 (IntKind.i64.wrap (0 - x29))),(Value.int .i64 (IntKind.i64.wrap (0 - x31)))])]) (by kernel_rfl) (by kernel_rfl) (by kernel_rfl) hcl (by kernel_rfl) (by kernel_rfl) (by kernel_rfl) (DA.on 20 (DA.pubK 1 _ _ hx_k34 (by kernel_rfl) rfl rfl (DA.aC 20 (some 105) (v:=(Value.tuple #[(Sl3.v x36),(Value.bool x37),(Value.int .i64 x38)])) 19 #[(Value.agg #[(Value.int .i64 x32_0),(Sl3.v x32_1)]),(Sl3.v (⟨some ⟨k34,0,none⟩,4,4⟩:Sl3))] (zfe hx_20) (DA.tP 21 (some 84) (Value.tuple #[(Sl3.v x36),(Value.bool x37),(Value.int .i64 x38)]) (DA.tP 22 (some 106) (Sl3.v x36) (DA.tP 23 (some 107) (Value.bool x37) (DA.tP 24 (some 108) (Value.int .i64 x38) ?_)))))))))
           refine DA.tP 25 (some 10) (Sl3.v x36) (DA.tP 26 (some 11) (Value.bool x37) (DA.tP 27 (some 12) (Value.int .i64 x38) (DA.dn ?_)))
           exact fun a w hs=>jsN (hs.sb 2)
          ·refine DA.actS 19 (some 104) (.sli 1 4) ([some (56,[(Value.int .i64 3),(Value.int .i64 2),(Value.string (⟨#[]⟩:ByteArray)),(Sl3.v Sl3.nil)]),some (3,[(Value.int .i64 x25),(Value.int .i64 x27),(Value.int .i64 (IntKind.i64.wrap (0 - x29))),(Value.int .i64 (IntKind.i64.wrap (0 - x31)))])]) (by kernel_rfl) (by kernel_rfl) (by kernel_rfl) hcl (by kernel_rfl) (by kernel_rfl) (by kernel_rfl) (DA.on 4 (DA.aCj 4 (some 89) false (v:=(Value.agg #[(Value.int .i64 x32_0),(Sl3.v x32_1)])) 20 #[(Value.pointer x23)] (zc8 hx_4) (DA.on 20 (DA.pubK 1 _ _ hx_k34 (by kernel_rfl) rfl rfl (DA.aC 20 (some 105) (v:=(Value.tuple #[(Sl3.v x36),(Value.bool x37),(Value.int .i64 x38)])) 19 #[(Value.agg #[(Value.int .i64 x32_0),(Sl3.v x32_1)]),(Sl3.v (⟨some ⟨k34,0,none⟩,4,4⟩:Sl3))] (zfe hx_20) (DA.tP 21 (some 84) (Value.tuple #[(Sl3.v x36),(Value.bool x37),(Value.int .i64 x38)]) (DA.tP 22 (some 106) (Sl3.v x36) (DA.tP 23 (some 107) (Value.bool x37) (DA.tP 24 (some 108) (Value.int .i64 x38) ?_)))))))))
           refine DA.tP 25 (some 10) (Sl3.v x36) (DA.tP 26 (some 11) (Value.bool x37) (DA.tP 27 (some 12) (Value.int .i64 x38) (DA.dn ?_)))
           exact fun a w hs=>jsN (hs.sb 2)
         ·refine WS.nxt (WS.sq (WS.rg (RS.mS 2 [kB 110 x37,kB 109 x37] ?_)))
          rcases z0 h with ⟨hp,h⟩ | ⟨hp,h⟩
          ·refine RS.fx 110 true hp (RS.mS 4 [kB 114 (decide (x38=0)),kB 113 (decide (x38=0)),kB 112 (decide (x38=0)),kI 111 x38] ?_)
           rcases z0 h with ⟨hp,h⟩ | ⟨hp,h⟩
           ·refine RS.fx 114 true (decide_eq_true hp) (RS.mS 2 [kS 116 x20,kS 115 x36] ?_)
            obtain ⟨p40,hx,h⟩:=bind_some h
            refine RS.ix 117 28 3 (.tmp 116) (.const (Value.int .i64 0)) hx ?_
            obtain ⟨x41,hx,h⟩:=bind_some h
            refine RS.ld 118 3 (.tmp 117) (z1 hx z4) (RS.mS 1 [kI 119 (IntKind.i64.wrap (0 - x41))] ?_)
            obtain ⟨x42,hx,h⟩:=bind_some h
            refine RS.cl (some 120) (v:=(Value.bool x42)) 21 #[(Sl3.v x36),(Value.int .i64 (IntKind.i64.wrap (0 - x41)))] (zn4 hx) (RS.mS 2 [kB 122 x42,kB 121 x42] ?_)
            rcases z0 h with ⟨hp,h⟩ | ⟨hp,h⟩
            ·refine RS.fx 122 true hp (RS.mS 2 [kS 124 x20,kS 123 x36] ?_)
             obtain ⟨p43,hx,h⟩:=bind_some h
             refine RS.ix 125 28 3 (.tmp 124) (.const (Value.int .i64 1)) hx ?_
             obtain ⟨x44,hx,h⟩:=bind_some h
             refine RS.ld 126 3 (.tmp 125) (z1 hx z4) ?_
             obtain ⟨x45,hx,h⟩:=bind_some h
             refine RS.cl (some 127) (v:=(Value.bool x45)) 21 #[(Sl3.v x36),(Value.int .i64 x44)] (zn4 hx) (RS.mS 2 [kB 0 x45,kB 128 x45] (RS.dn (WS.nxt (WS.rt ?_))))
             cases h
             exact fun a w hs=>rtR (rS hs)
            ·refine RS.fx 122 false (b_not hp) ?_
             cases h
           ·refine RS.fx 114 false (decide_eq_false hp) ?_
            cases h
          ·refine RS.fx 110 false (b_not hp) ?_
           cases h
        ·refine WS.fx 83 true (z9 hp) (WS.cT ?_)
         cases h
       ·refine RS.fx 79 true (z9 hp) ?_
        cases h
      ·refine RS.fx 74 true (z9 hp) ?_
       cases h
     ·refine RS.fx 69 true (z9 hp) ?_
      cases h
    ·refine RS.fx 65 true (z9 hp) ?_
     cases h
   ·refine RS.fx 61 true (z9 hp) ?_
    cases h
 ·refine RS.fx 31 true (zb hp) ?_
  cases h
noncomputable def B9:Code:=(Tryz.f9.body).getD .skip
def zfi:(Sl3×AH)→Value
 | (r0,_)=>(Sl3.v r0)
def zft (_:AH):(Sl3×AH)→AH:=fun r=>r.2
noncomputable def z2j (L:LC) (_m:Nat) (H:AH) (a0:Option Addr):Option (Sl3×AH) :=
 Option.bind (z11 L H a0) fun x1 =>
 if x1=true then
  none
 else
  some (Sl3.nil,H)
theorem z6j {L:LC} {m:Nat} {H:AH} {a0:Option Addr} {r:(Sl3×AH)} (h:z2j L m H a0=some r) :
  CallS Tryz.prog (NE.plain 258) m 9 #[(Value.pointer a0)] H (zfi r) (zft H r):=by
 refine CallS.mk (args:=[(Value.pointer a0)]) Tryz.func9 (B:=B9) (by kernel_rfl) (fun E _=>?_)
 unfold z2j at h
 refine WS.sq (WS.rg (RS.mS 1 [kS 2 Sl3.nil] (RS.dn (WS.nxt (WS.sq (WS.sq (WS.rg (RS.mS 1 [(3,.val (Value.pointer a0))] ?_))))))))
 obtain ⟨x1,hx,h⟩:=bind_some h
 refine RS.cl (some 4) (v:=(Value.bool x1)) 10 #[(Value.pointer a0)] (z1a hx) (RS.mS 1 [kB 5 (!x1)] (RS.dn (WS.nxt ?_)))
 rcases z0 h with ⟨hp,h⟩ | ⟨hp,h⟩
 ·refine WS.fx 5 false (nb_not hp) (WS.cF ?_)
  cases h
 ·refine WS.fx 5 true (zb hp) (WS.cT (WS.sq (WS.rg (RS.mS 1 [kS 2 Sl3.nil] (RS.dn (WS.nxt (WS.rt ?_)))))))
  cases h
  exact fun a w hs=>sqR (rtR (rS hs))
noncomputable def B3:Code:=(Tryz.f3.body).getD .skip
def zfo:(Bool×AH)→Value
 | (r0,_)=>(Value.bool r0)
def zhn (_:AH):(Bool×AH)→AH:=fun r=>r.2
noncomputable def z2v (L:LC) (m:Nat) (H:AH):Option (Bool×AH) :=
 Option.bind (newB 31 [(Value.pointer none),(Value.pointer none),(Value.map none),(Value.map none),(Sl3.v Sl3.nil),(Value.int .i64 0),(Value.int .i64 0)] H) fun (p1,H2) =>
 Option.bind (z2n L m H2 none) fun (x3,x4,H5) =>
 Option.bind (z2n L m H5 (some p1)) fun (x6,x7,H8) =>
 Option.bind (z1n L m H8 none) fun (x9,x10,H11) =>
 Option.bind (z1n L m H11 (some p1)) fun (x12,x13,H14) =>
 Option.bind (z28 L m H14 none) fun (x15_0,_,x16,H17) =>
 Option.bind (z28 L m H17 (some p1)) fun (x18_0,_,x19,H20) =>
 Option.bind (zc1 L m H20 none) fun (x21,x22,H23) =>
 Option.bind (newB 49 [(Value.int .i64 0),(Sl3.v Sl3.nil),(Value.bool false),(Value.pointer none),(Value.map none),(Sl3.v Sl3.nil),(Value.int .i64 0)] H23) fun (p24,H25) =>
 Option.bind (zc1 L m H25 (some p24)) fun (x26,x27,H28) =>
 Option.bind (zgs L m H28) fun (x29,H30) =>
 if x29=true then
  if x4=4 then
   if x7=4 then
    if x10=4 then
     if x13=4 then
      if x22=4 then
       if x27=4 then
        match x21 with
        | none =>
         match x26 with
         | none =>
          if (IntKind.i64.wrap ((IntKind.i64.wrap ((IntKind.i64.wrap ((x3.n:Int)+(x6.n:Int)))+x9))+x12))=0 then
           if x16=true then
            none
           else
            if x19=true then
             none
            else
             if (IntKind.i64.wrap (x15_0+x18_0))=0 then
              Option.bind (z2j L m H30 none) fun (x33,H34) =>
              Option.bind (z2j L m H34 (some p1)) fun (x35,H36) =>
              some ((decide ((IntKind.i64.wrap ((x33.n:Int)+(x35.n:Int)))=0)),H36)
             else
              none
          else
           none
         | some _ =>
          none
        | some _ =>
         none
       else
        none
      else
       none
     else
      none
    else
     none
   else
    none
  else
   none
 else
  none
theorem zgy {L:LC} {m:Nat} {H:AH} {r:(Bool×AH)} (h:z2v L m H=some r) :
  CallS Tryz.prog (NE.plain 258) m 3 #[anyV,anyV] H (zfo r) (zhn H r):=by
 refine CallS.mk (args:=[anyV,anyV]) Tryz.func3 (B:=B3) (by kernel_rfl) (fun E _=>?_)
 unfold z2v at h
 refine WS.sq (WS.rg (RS.mS 1 [kB 4 false] (RS.dn (WS.nxt (WS.sq (WS.rg (RS.mS 1 [(5,.val (Value.pointer none))] (RS.dn (WS.nxt ?_)))))))))
 refine WS.sq (WS.rg (RS.mS 1 [kA 23 #[(Value.pointer none),(Value.pointer none),(Value.map none),(Value.map none),(Sl3.v Sl3.nil),(Value.int .i64 0),(Value.int .i64 0)]] ?_))
 obtain ⟨⟨p1,H2⟩,hx,h⟩:=bind_some h
 try dsimp only at h
 refine RS.o (H':=H2) (some 24) (Value.pointer (some p1)) (Abs.run_newB (by kernel_rfl) hx) (RS.mS 1 [kP 6 p1] (RS.dn (WS.nxt (WS.sq (WS.rg (RS.mS 2 [(27,.val anyV),(26,.val (Value.pointer none))] ?_))))))
 obtain ⟨⟨x3,x4,H5⟩,hx,h⟩:=bind_some h
 try dsimp only at h
 refine RS.cl (some 28) (v:=(Value.tuple #[(Sl3.v x3),(Value.int .i64 x4)])) 4 #[(Value.pointer none),anyV] (z6h hx) (RS.mS 5 [kI 8 x4,kS 7 x3,kI 30 x4,kS 29 x3,(25,.val (Value.tuple #[(Sl3.v x3),(Value.int .i64 x4)]))] (RS.dn (WS.nxt (WS.sq (WS.rg (RS.mS 2 [(33,.val anyV),kP 32 p1] ?_))))))
 obtain ⟨⟨x6,x7,H8⟩,hx,h⟩:=bind_some h
 try dsimp only at h
 refine RS.cl (some 34) (v:=(Value.tuple #[(Sl3.v x6),(Value.int .i64 x7)])) 4 #[(Value.pointer (some p1)),anyV] (z6h hx) (RS.mS 5 [kI 10 x7,kS 9 x6,kI 36 x7,kS 35 x6,(31,.val (Value.tuple #[(Sl3.v x6),(Value.int .i64 x7)]))] (RS.dn (WS.nxt (WS.sq (WS.rg (RS.mS 2 [(39,.val anyV),(38,.val (Value.pointer none))] ?_))))))
 obtain ⟨⟨x9,x10,H11⟩,hx,h⟩:=bind_some h
 try dsimp only at h
 refine RS.cl (some 40) (v:=(Value.tuple #[(Value.int .i64 x9),(Value.int .i64 x10)])) 5 #[(Value.pointer none),anyV] (z4o hx) (RS.mS 5 [kI 12 x10,kI 11 x9,kI 42 x10,kI 41 x9,(37,.val (Value.tuple #[(Value.int .i64 x9),(Value.int .i64 x10)]))] (RS.dn (WS.nxt (WS.sq (WS.rg (RS.mS 2 [(45,.val anyV),kP 44 p1] ?_))))))
 obtain ⟨⟨x12,x13,H14⟩,hx,h⟩:=bind_some h
 try dsimp only at h
 refine RS.cl (some 46) (v:=(Value.tuple #[(Value.int .i64 x12),(Value.int .i64 x13)])) 5 #[(Value.pointer (some p1)),anyV] (z4o hx) (RS.mS 5 [kI 14 x13,kI 13 x12,kI 48 x13,kI 47 x12,(43,.val (Value.tuple #[(Value.int .i64 x12),(Value.int .i64 x13)]))] (RS.dn (WS.nxt (WS.sq (WS.rg (RS.mS 3 [(52,.val anyV),(51,.val anyV),(50,.val (Value.pointer none))] ?_))))))
 obtain ⟨⟨x15_0,x15_1,x16,H17⟩,hx,h⟩:=bind_some h
 try dsimp only at h
 refine RS.cl (some 53) (v:=(Value.tuple #[(Value.agg #[(Value.int .i64 x15_0),(Sl3.v x15_1)]),(Value.bool x16)])) 6 #[(Value.pointer none),anyV,anyV] (z5z hx) (RS.mL 6 [kB 16 x16,kL 15 0 0,kB 55 x16,kA 54 #[(Value.int .i64 x15_0),(Sl3.v x15_1)],(49,.val (Value.tuple #[(Value.agg #[(Value.int .i64 x15_0),(Sl3.v x15_1)]),(Value.bool x16)]))] ([some (39,[(Value.int .i64 x15_0),(Sl3.v x15_1)])]) (RS.dn (WS.nxt (WS.sq (WS.rg (RS.mS 3 [(59,.val anyV),(58,.val anyV),kP 57 p1] ?_))))))
 obtain ⟨⟨x18_0,x18_1,x19,H20⟩,hx,h⟩:=bind_some h
 try dsimp only at h
 refine RS.cl (some 60) (v:=(Value.tuple #[(Value.agg #[(Value.int .i64 x18_0),(Sl3.v x18_1)]),(Value.bool x19)])) 6 #[(Value.pointer (some p1)),anyV,anyV] (z5z hx) (RS.mL 6 [kB 18 x19,kL 17 1 0,kB 62 x19,kA 61 #[(Value.int .i64 x18_0),(Sl3.v x18_1)],(56,.val (Value.tuple #[(Value.agg #[(Value.int .i64 x18_0),(Sl3.v x18_1)]),(Value.bool x19)]))] ([some (39,[(Value.int .i64 x15_0),(Sl3.v x15_1)]),some (39,[(Value.int .i64 x18_0),(Sl3.v x18_1)])]) (RS.dn (WS.nxt (WS.sq (WS.rg ?_)))))
 obtain ⟨⟨x21,x22,H23⟩,hx,h⟩:=bind_some h
 try dsimp only at h
 refine RS.cl (some 64) (v:=(Value.tuple #[(Value.pointer x21),(Value.int .i64 x22)])) 7 #[(Value.pointer none)] (zfb hx) (RS.mS 5 [kI 20 x22,(19,.val (Value.pointer x21)),kI 66 x22,(65,.val (Value.pointer x21)),(63,.val (Value.tuple #[(Value.pointer x21),(Value.int .i64 x22)]))] (RS.dn (WS.nxt (WS.sq (WS.rg (RS.mS 1 [kA 68 #[(Value.int .i64 0),(Sl3.v Sl3.nil),(Value.bool false),(Value.pointer none),(Value.map none),(Sl3.v Sl3.nil),(Value.int .i64 0)]] ?_))))))
 obtain ⟨⟨p24,H25⟩,hx,h⟩:=bind_some h
 try dsimp only at h
 refine RS.o (H':=H25) (some 69) (Value.pointer (some p24)) (Abs.run_newB (by kernel_rfl) hx) ?_
 obtain ⟨⟨x26,x27,H28⟩,hx,h⟩:=bind_some h
 try dsimp only at h
 refine RS.cl (some 70) (v:=(Value.tuple #[(Value.pointer x26),(Value.int .i64 x27)])) 7 #[(Value.pointer (some p24))] (zfb hx) (RS.mS 5 [kI 22 x27,(21,.val (Value.pointer x26)),kI 72 x27,(71,.val (Value.pointer x26)),(67,.val (Value.tuple #[(Value.pointer x26),(Value.int .i64 x27)]))] (RS.dn (WS.nxt (WS.sq (WS.rg ?_)))))
 obtain ⟨⟨x29,H30⟩,hx,h⟩:=bind_some h
 try dsimp only at h
 refine RS.cl (some 73) (v:=(Value.bool x29)) 8 #[] (zr1 hx) (RS.mS 1 [kB 74 x29] ?_)
 rcases z0 h with ⟨hp,h⟩ | ⟨hp,h⟩
 ·refine RS.fx 74 true hp (RS.mS 4 [kB 78 (decide (x4=4)),kB 77 (decide (x4=4)),kB 76 (decide (x4=4)),kI 75 x4] ?_)
  rcases z0 h with ⟨hp,h⟩ | ⟨hp,h⟩
  ·refine RS.fx 78 true (decide_eq_true hp) (RS.mS 4 [kB 82 (decide (x7=4)),kB 81 (decide (x7=4)),kB 80 (decide (x7=4)),kI 79 x7] ?_)
   rcases z0 h with ⟨hp,h⟩ | ⟨hp,h⟩
   ·refine RS.fx 82 true (decide_eq_true hp) (RS.mS 4 [kB 86 (decide (x10=4)),kB 85 (decide (x10=4)),kB 84 (decide (x10=4)),kI 83 x10] ?_)
    rcases z0 h with ⟨hp,h⟩ | ⟨hp,h⟩
    ·refine RS.fx 86 true (decide_eq_true hp) (RS.mS 4 [kB 90 (decide (x13=4)),kB 89 (decide (x13=4)),kB 88 (decide (x13=4)),kI 87 x13] ?_)
     rcases z0 h with ⟨hp,h⟩ | ⟨hp,h⟩
     ·refine RS.fx 90 true (decide_eq_true hp) (RS.mS 4 [kB 94 (decide (x22=4)),kB 93 (decide (x22=4)),kB 92 (decide (x22=4)),kI 91 x22] ?_)
      rcases z0 h with ⟨hp,h⟩ | ⟨hp,h⟩
      ·refine RS.fx 94 true (decide_eq_true hp) (RS.mS 4 [kB 98 (decide (x27=4)),kB 97 (decide (x27=4)),kB 96 (decide (x27=4)),kI 95 x27] ?_)
       rcases z0 h with ⟨hp,h⟩ | ⟨hp,h⟩
       ·refine RS.fx 98 true (decide_eq_true hp) (RS.mS 1 [(99,.val (Value.pointer x21))] ?_)
        rcases x21 with _ | q31
        ·try dsimp only at h
         refine RS.mS 4 [(103,.val (Value.pointer x26)),kB 102 true,kB 101 true,kB 100 true] ?_
         rcases x26 with _ | q32
         ·try dsimp only at h
          refine RS.mS 15 [kB 118 (decide ((IntKind.i64.wrap ((IntKind.i64.wrap ((IntKind.i64.wrap ((x3.n:Int)+(x6.n:Int)))+x9))+x12))=0)),kB 117 (decide ((IntKind.i64.wrap ((IntKind.i64.wrap ((IntKind.i64.wrap ((x3.n:Int)+(x6.n:Int)))+x9))+x12))=0)),kB 116 (decide ((IntKind.i64.wrap ((IntKind.i64.wrap ((IntKind.i64.wrap ((x3.n:Int)+(x6.n:Int)))+x9))+x12))=0)),kI 115 (IntKind.i64.wrap ((IntKind.i64.wrap ((IntKind.i64.wrap ((x3.n:Int)+(x6.n:Int)))+x9))+x12)),kI 114 x12,kI 113 (IntKind.i64.wrap ((IntKind.i64.wrap ((x3.n:Int)+(x6.n:Int)))+x9)),kI 112 x9,kI 111 (IntKind.i64.wrap ((x3.n:Int)+(x6.n:Int))),kI 110 (x6.n:Int),kS 109 x6,kI 108 (x3.n:Int),kS 107 x3,kB 106 true,kB 105 true,kB 104 true] ?_
          rcases z0 h with ⟨hp,h⟩ | ⟨hp,h⟩
          ·refine RS.fx 118 true (decide_eq_true hp) (RS.mS 4 [kB 122 (!x16),kB 121 (!x16),kB 120 (!x16),kB 119 x16] ?_)
           rcases z0 h with ⟨hp,h⟩ | ⟨hp,h⟩
           ·refine RS.fx 122 false (nb_not hp) ?_
            cases h
           ·refine RS.fx 122 true (zb hp) (RS.mS 4 [kB 126 (!x19),kB 125 (!x19),kB 124 (!x19),kB 123 x19] ?_)
            rcases z0 h with ⟨hp,h⟩ | ⟨hp,h⟩
            ·refine RS.fx 126 false (nb_not hp) ?_
             cases h
            ·refine RS.fx 126 true (zb hp) (RS.mS 8 [kB 134 (decide ((IntKind.i64.wrap (x15_0+x18_0))=0)),kB 133 (decide ((IntKind.i64.wrap (x15_0+x18_0))=0)),kB 132 (decide ((IntKind.i64.wrap (x15_0+x18_0))=0)),kI 131 (IntKind.i64.wrap (x15_0+x18_0)),kI 130 x18_0,kL 129 1 0,kI 128 x15_0,kL 127 0 0] ?_)
             rcases z0 h with ⟨hp,h⟩ | ⟨hp,h⟩
             ·refine RS.fx 134 true (decide_eq_true hp) (RS.mS 1 [(135,.val (Value.pointer none))] ?_)
              obtain ⟨⟨x33,H34⟩,hx,h⟩:=bind_some h
              try dsimp only at h
              refine RS.cl (some 136) (v:=(Sl3.v x33)) 9 #[(Value.pointer none)] (z6j hx) (RS.mS 2 [kP 138 p1,kI 137 (x33.n:Int)] ?_)
              obtain ⟨⟨x35,H36⟩,hx,h⟩:=bind_some h
              try dsimp only at h
              refine RS.cl (some 139) (v:=(Sl3.v x35)) 9 #[(Value.pointer (some p1))] (z6j hx) (RS.mS 5 [kB 4 (decide ((IntKind.i64.wrap ((x33.n:Int)+(x35.n:Int)))=0)),kB 143 (decide ((IntKind.i64.wrap ((x33.n:Int)+(x35.n:Int)))=0)),kB 142 (decide ((IntKind.i64.wrap ((x33.n:Int)+(x35.n:Int)))=0)),kI 141 (IntKind.i64.wrap ((x33.n:Int)+(x35.n:Int))),kI 140 (x35.n:Int)] (RS.dn (WS.nxt (WS.rt ?_))))
              cases h
              exact fun a w hs=>rtR (rS hs)
             ·refine RS.fx 134 false (decide_eq_false hp) ?_
              cases h
          ·refine RS.fx 118 false (decide_eq_false hp) ?_
           cases h
         ·try dsimp only at h
          cases h
        ·try dsimp only at h
         cases h
       ·refine RS.fx 98 false (decide_eq_false hp) ?_
        cases h
      ·refine RS.fx 94 false (decide_eq_false hp) ?_
       cases h
     ·refine RS.fx 90 false (decide_eq_false hp) ?_
      cases h
    ·refine RS.fx 86 false (decide_eq_false hp) ?_
     cases h
   ·refine RS.fx 82 false (decide_eq_false hp) ?_
    cases h
  ·refine RS.fx 78 false (decide_eq_false hp) ?_
   cases h
 ·refine RS.fx 74 false (b_not hp) ?_
  cases h
end Go.Proofs.YtkecibinbgaedaaGreatDoor
namespace Go.Proofs.YtkecibinbgaedaaGreatDoor
open Go Go.Abs
set_option maxRecDepth 100000
theorem own:ownKnob Tryz.prog.godebug=none:=by kernel_rfl
theorem laidOut:laidOutB Tryz.prog=true:=by kernel_rfl
theorem zvb:globalsB Tryz.prog=true:=by kernel_rfl
theorem sane:Sane Tryz.prog (NE.plain 258):=zxn (fun _ _ _ _=>rfl) (by kernel_rfl) (by kernel_rfl) (fun x w=>by kernel_rfl)
theorem zxz (os:Os) (args:Array Value):laidMet Tryz.prog Rows.blastNobodyRow.laid ((laidW2 Tryz.prog Rows.blastNobodyRow.laid os).forCall (fun _ _=>0) ⟨#[],args,[]⟩).memory :=
 laidMet_of_run3 8 (by kernel_rfl) (by kernel_rfl) (by kernel_rfl)
def tabs:List Tab:=[(3,349,((zsOf Rows.laid_strings_asciiSpace).map fun z=>Value.int .u8 z).toArray),(2,346,((zsOf Rows.laid_math_bits_deBruijn64tab).map fun z=>Value.int .u8 z).toArray),(1,345,((zsOf Rows.laid_math_bits_deBruijn32tab).map fun z=>Value.int .u8 z).toArray),(0,340,((zsOf Rows.laid_internal_strconv_uint64pow10).map fun z=>Value.int .u64 z).toArray)]
theorem zyj:tabsB Tryz.prog tabs=true:=by kernel_rfl
theorem zxp (W:World) (hL:laidMet Tryz.prog Rows.blastNobodyRow.laid W) (hsh:W.ShapedOpen Tryz.prog):∀x∈tabs,∃fr,W.heap[x.1]? = some (.cells x.2.2 x.2.1 fr):=by
 intro x hx
 simp only [tabs,List.mem_cons,List.not_mem_nil,or_false] at hx
 rcases hx with rfl | rfl | rfl | rfl
 ·exact zn7 (name := "strings.asciiSpace") (te:=5) (n:=256) (t:=349) hL (by kernel_rfl) (by kernel_rfl) (by kernel_rfl) (by kernel_rfl) (by kernel_rfl) (by kernel_rfl) (by kernel_rfl) (of_decide_eq_true (by kernel_rfl)) (by kernel_rfl) hsh
 ·exact zn7 (name := "math/bits.deBruijn64tab") (te:=5) (n:=64) (t:=346) hL (by kernel_rfl) (by kernel_rfl) (by kernel_rfl) (by kernel_rfl) (by kernel_rfl) (by kernel_rfl) (by kernel_rfl) (of_decide_eq_true (by kernel_rfl)) (by kernel_rfl) hsh
 ·exact zn7 (name := "math/bits.deBruijn32tab") (te:=5) (n:=32) (t:=345) hL (by kernel_rfl) (by kernel_rfl) (by kernel_rfl) (by kernel_rfl) (by kernel_rfl) (by kernel_rfl) (by kernel_rfl) (of_decide_eq_true (by kernel_rfl)) (by kernel_rfl) hsh
 ·exact zn7 (name := "internal/strconv.uint64pow10") (te:=65) (n:=20) (t:=340) hL (by kernel_rfl) (by kernel_rfl) (by kernel_rfl) (by kernel_rfl) (by kernel_rfl) (by kernel_rfl) (by kernel_rfl) (of_decide_eq_true (by kernel_rfl)) (by kernel_rfl) hsh
end Go.Proofs.YtkecibinbgaedaaGreatDoor
namespace Go.Proofs.YtkecibinbgaedaaGreatDoor
open Go Go.Abs
set_option maxRecDepth 100000
noncomputable def lc:LC:=LCn 100000 1000
set_option maxHeartbeats 0 in
theorem zw7:(z2v lc 7 (startH Tryz.prog tabs)).map (·.1)=some true:=by kernel_rfl
end Go.Proofs.YtkecibinbgaedaaGreatDoor
namespace Go.Proofs.YtkecibinbgaedaaGreatDoor
open Go Go.Abs
set_option maxRecDepth 100000
theorem zu9:∃H',CallS Tryz.prog (NE.plain 258) Tryz.prog.globals.size 3 (Tryz.f3.params.map (anyArg Tryz.prog)) (startH Tryz.prog tabs) (.bool true) H':=by
 have hrun:=zw7
 generalize hq:z2v lc 7 (startH Tryz.prog tabs)=q at hrun
 cases q with
 | none=>cases hrun
 | some r =>
  obtain ⟨b,H'⟩:=r
  simp only [Option.map_some,Option.some.injEq] at hrun
  subst hrun
  refine ⟨H',?_⟩
  have h:=@zgy lc 7 (startH Tryz.prog tabs) (true,H') hq
  have e1:Tryz.prog.globals.size=7:=by kernel_rfl
  have e2:Tryz.f3.params.map (anyArg Tryz.prog)=#[anyV,anyV]:=by kernel_rfl
  rw [e1,e2]
  exact h
theorem zru (os:Os) (started:os.Started) (H:Type) (enc:TypeId×Value→H) :
  ReturnsInHanded {} Tryz.checked os 3 .any (fun w args=>(Rows.blastNobodySpec.pre enc Tryz.prog Tryz.f3 [] false w args∧laidMet Tryz.prog Rows.blastNobodyRow.laid w)∧sizedMet enc Tryz.prog Tryz.f3 (OpenSpec.ofChange Rows.blastNobodySpec) false w args)
   (Rows.blastNobodySpec.post enc Tryz.prog Tryz.f3 false true false false) :=
 ztj (C:=Tryz.checked) (X:=fun w _=>laidMet Tryz.prog Rows.blastNobodyRow.laid w) own started (by kernel_rfl) Tryz.func3 (by kernel_rfl) sane zvb laidOut
  (by kernel_rfl) rfl (by kernel_rfl)
  (fun ds hds=>by
   have h1:ds.length=2:=hds
   match ds,h1 with
   | [d0,d1],_=>exact ⟨rfl,rfl,rfl⟩)
  zyj (fun _ _ _ hh h=>h.of_heap hh) (fun W _ hL hsh=>zxp W hL hsh) zu9
  (zuh (enc:=enc) (C:=Tryz.checked) (os:=os) (X:=fun w _=>laidMet Tryz.prog Rows.blastNobodyRow.laid w) (laidW2 Tryz.prog Rows.blastNobodyRow.laid os) #[.int .i64 0,.slice none 0 0] 8 rfl (by kernel_rfl) (by kernel_rfl) (by kernel_rfl) (by kernel_rfl) (by kernel_rfl) (zxz os _))
end Go.Proofs.YtkecibinbgaedaaGreatDoor
namespace Go.Proofs.YtkecibinbgaedaaGreatDoor
open Go Go.Abs
set_option maxRecDepth 100000
theorem an {a b:Bool} (h:a=true) (k:b=true):(a&&b)=true:=by rw [h,k]; rfl
theorem jf0:(Rows.blastNobodyRow.wf (OpenSpec.ofChange Rows.blastNobodySpec))=true:=by kernel_rfl
theorem jf1:(laidOutB Tryz.pinned.checked.prog)=true:=by kernel_rfl
theorem jf2:(mapsRowed Tryz.pinned.checked.prog)=true:=by kernel_rfl
theorem jf3:(Tryz.f3.params.all (Tryz.pinned.checked.prog.readableRec ·))=true:=by kernel_rfl
theorem jf4:(namedTie Tryz.pinned.checked.prog Rows.blastNobodyRow.named Rows.blastNobodySpec.vars)=true:=by kernel_rfl
theorem jf5:((Rows.blastNobodyRow.stops == []))=true:=by kernel_rfl
theorem jf6:((Tryz.pinned.checked.prog.stops == []))=true:=by kernel_rfl
theorem jf7:((Rows.blastNobodyRow.knobs == []))=true:=by kernel_rfl
theorem jf8:((Tryz.pinned.checked.prog.stopKnobs == []))=true:=by kernel_rfl
theorem jf9:((Rows.blastNobodyRow.inPlace == Tryz.pinned.checked.prog.inPlace 3))=true:=by kernel_rfl
theorem jf10:((Rows.blastNobodyRow.unfollowed == Tryz.pinned.checked.prog.unfollowed 3))=true:=by kernel_rfl
theorem jf11:((Rows.blastNobodyRow.recurses == Tryz.pinned.checked.prog.recurses 3))=true:=by kernel_rfl
theorem jf12:((Rows.blastNobodyRow.named == Tryz.pinned.checked.prog.varsNamed 3))=true:=by kernel_rfl
theorem jf13:((Rows.blastNobodyRow.maps == (Tryz.f3.params.toList++Rows.blastNobodySpec.plain.varTypes Tryz.pinned.checked.prog).any (Tryz.pinned.checked.prog.mapsRec ·)))=true:=by kernel_rfl
theorem jf14:((Rows.blastNobodyRow.ifaces == (Tryz.f3.params.toList++Rows.blastNobodySpec.plain.varTypes Tryz.pinned.checked.prog).any (Tryz.pinned.checked.prog.ifacesRec ·)))=true:=by kernel_rfl
theorem jf15:((Rows.blastNobodyRow.mapsOut == Tryz.pinned.checked.prog.mapsAmong Tryz.f3.resultTypes.toList))=true:=by kernel_rfl
theorem jf16:((Rows.blastNobodyRow.loops == (Tryz.f3.params.toList++Rows.blastNobodySpec.plain.varTypes Tryz.pinned.checked.prog).any (Tryz.pinned.checked.prog.loopsFrom ·)))=true:=by kernel_rfl
theorem jf17:((Rows.blastNobodyRow.wideKeys == (Tryz.f3.params.toList++Rows.blastNobodySpec.plain.varTypes Tryz.pinned.checked.prog++Tryz.f3.resultTypes.toList).any (Tryz.pinned.checked.prog.wideKeysFrom ·)))=true:=by kernel_rfl
theorem jf18:(Rows.blastNobodySpec.vars.all (Tryz.pinned.checked.prog.varReadable ·))=true:=by kernel_rfl
theorem jf19:(Tryz.f3.resultTypes.all (fun t=>Tryz.pinned.checked.prog.readableRec t&&decide (t<Tryz.pinned.checked.prog.types.size)))=true:=by kernel_rfl
theorem jf20:((Rows.blastNobodyRow.ifacesOut == Tryz.f3.resultTypes.toList.any (Tryz.pinned.checked.prog.ifacesRec ·)))=true:=by kernel_rfl
theorem jf21:((Rows.blastNobodyRow.loopsOut == Tryz.f3.resultTypes.toList.any (Tryz.pinned.checked.prog.loopsFrom ·)))=true:=by kernel_rfl
theorem jf22:((Rows.blastNobodyRow.plainKeys == Tryz.pinned.checked.prog.plainKeys))=true:=by kernel_rfl
theorem jf23:(Rows.blastNobodyRow.shortTexts.isNone)=true:=by kernel_rfl
theorem jf24:(Tryz.pinned.checked.prog.stopsHeard)=true:=by kernel_rfl
theorem jf25:(Tryz.pinned.checked.prog.mayEnter)=true:=by kernel_rfl
theorem jf26:((Rows.blastNobodyRow.lifted == Tryz.pinned.checked.prog.liftsFinal))=true:=by kernel_rfl
theorem jf27:((Tryz.pinned.checked.prog.make == some Rows.blastNobodyRow.make))=true:=by kernel_rfl
theorem jf28:((Rows.blastNobodyRow.kinds == (if Rows.blastNobodyRow.domain.isEmpty then [] else Tryz.f3.params.toList.map fun t=>match Tryz.pinned.checked.prog.underlying t with | some (.int k)=>some k | _=>none)))=true:=by kernel_rfl
theorem jf29:((Rows.blastNobodyRow.pinned == Rows.blastNobodyRow.pinnedBy))=true:=by kernel_rfl
theorem jf30:((Rows.blastNobodyRow.veiled == (Tryz.f3.params.toList++Rows.blastNobodySpec.plain.varTypes Tryz.pinned.checked.prog++Tryz.f3.resultTypes.toList).any (Tryz.pinned.checked.prog.veiledRec ·)))=true:=by kernel_rfl
theorem jf31:(Rows.blastNobodyRow.veiledFits Tryz.pinned.checked.prog Tryz.f3.params.toList (Tryz.f3.params.toList++Rows.blastNobodySpec.plain.varTypes Tryz.pinned.checked.prog++Tryz.f3.resultTypes.toList))=true:=by kernel_rfl
theorem joined:joinedFacts Tryz.pinned.checked.prog 3 Tryz.f3 Rows.blastNobodySpec Rows.blastNobodyRow=true:=by
 unfold joinedFacts
 exact (an (an (an (an (an (an (an (an (an (an (an (an (an (an (an (an (an (an (an (an (an (an (an (an (an (an (an (an (an (an (an jf0 jf1) jf2) jf3) jf4) jf5) jf6) jf7) jf8) jf9) jf10) jf11) jf12) jf13) jf14) jf15) jf16) jf17) jf18) jf19) jf20) jf21) jf22) jf23) jf24) jf25) jf26) jf27) jf28) jf29) jf30) jf31)
theorem zu2:Rows.BlastNobodySaid :=
 OpenClaim.holds_of_wide 3 Tryz.f3 rfl rfl rfl rfl rfl rfl rfl ⟨rfl,rfl,rfl,rfl,rfl⟩ rfl rfl rfl rfl rfl (by kernel_rfl) Tryz.func3 joined
  (of_decide_eq_true (by kernel_rfl)) (by unfold Func.isWrapper; first | (rw [if_pos (by decide +kernel)]; kernel_rfl) | (rw [if_neg (by decide +kernel)]; exact ⟨rfl,rfl⟩))
  (fun os started H enc _=>zru os started H enc)
end Go.Proofs.YtkecibinbgaedaaGreatDoor
namespace Go.Proofs.YtkecibinbgaedaaGreatDoor
open Go Go.Abs
set_option maxRecDepth 100000
theorem sw0:Tryz.prog.wantsStandIn 3=false:=by kernel_rfl
theorem sw1:Tryz.prog.wantsStandIn 22=false:=by kernel_rfl
theorem standIns:∀t∈Tryz.f3.params.toList,Tryz.prog.wantsStandIn t=false:=by
 have hp:Tryz.f3.params.toList=[3,22]:=by kernel_rfl
 rw [hp]
 intro t ht
 simp only [List.mem_cons,List.not_mem_nil,or_false] at ht
 rcases ht with rfl | rfl
 ·exact sw0
 ·exact sw1
theorem named:Tryz.prog.funcNamed "tribunal/tribunallaw19.BlastNobody"=some 3:=by kernel_rfl
theorem looks:false=Tryz.pinned.checked.prog.looks []:=by kernel_rfl
theorem goesBy:false=Rows.blastNobodyRow.goesBy Tryz.pinned.checked.prog:=by kernel_rfl
theorem blastNobody_holds:Rows.BlastNobodyCardSaid :=
 Claim7.holds_tied_plain_at .later [] _ _ _ _
  zu2 (fun _ h=>by cases h) (by kernel_rfl) (fun _ h=>by cases h) blastNobody_row_tie rfl ⟨rfl,rfl⟩ (by kernel_rfl) rfl
  (fun f fn hf hfn=>by
   obtain rfl:f=3:=Option.some.inj (named.symm.trans hf) |>.symm
   obtain rfl:fn=Tryz.f3:=(Option.some.inj (Tryz.func3.symm.trans hfn)).symm
   exact ⟨looks,fun j t ht=>standIns t (by simpa using Array.mem_of_getElem? ht)⟩)
  goesBy
#print axioms blastNobody_holds
end Go.Proofs.YtkecibinbgaedaaGreatDoor
