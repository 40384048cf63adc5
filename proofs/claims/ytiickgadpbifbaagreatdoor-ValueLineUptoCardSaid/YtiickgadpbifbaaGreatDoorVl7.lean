/- ValueLine is proved where what it reads is of bulk at most 1048576: it returns true and its arguments read as before. No condition beyond the row's own (listed tables of Go's library as the text lays them). -/
import Derived.Test.YtiickgadpbifbaaGreatDoorVl6
namespace Go.Proofs.YtiickgadpbifbaaGreatDoor
open Go Go.Abs
open Go.Value renaming int → vI, string → vS, pointer → vP, agg → vA, bool → vB
set_option maxRecDepth 100000
def z8b:(Bool×AH)→Value
 | (r0,_)=>(vB r0)
def z8o (_:AH):(Bool×AH)→AH:=fun r=>r.2
noncomputable def B3:Code:=(Tryz.f3.body).getD .skip
noncomputable def O7 (L:LC) (m:Nat) (H:AH) (a0_0:Int) (a0_1 a0_2:Bool) (a0_3:Sl3) (a0_4:Int) (a0_5:Sl3) (a0_6:ByteArray) (a0_7 a0_8 a0_9:Int) (a0_10:ByteArray) (a0_11 a0_12:Sl3) (a0_13 a0_14:Sl3) (a1_0:Int) (a1_1 a1_2:Bool) (a1_3:Sl3) (a1_4:Int) (a1_5:Sl3) (a1_6:ByteArray) (a1_7 a1_8 a1_9:Int) (a1_10:ByteArray) (a1_11 a1_12:Sl3) (a1_13 a1_14:Sl3) (a2_0:Int) (a2_1 a2_2:Bool) (a2_3:Sl3) (a2_4:Int) (a2_5:Sl3) (a2_6:ByteArray) (a2_7 a2_8 a2_9:Int) (a2_10:ByteArray) (a2_11 a2_12:Sl3) (a2_13 a2_14:Sl3):Option (Bool×AH) :=
 (Y1 L (Nat.max m H.next) H a0_0 a0_1 a0_2 a0_3 a0_4 a0_5 a0_6 a0_7 a0_8 a0_9 a0_10 a0_11 a0_12 a0_13 a0_14 a1_0 a1_1 a1_2 a1_3 a1_4 a1_5 a1_6 a1_7 a1_8 a1_9 a1_10 a1_11 a1_12 a1_13 a1_14).bind fun (x1,H2) => (Y1 L (Nat.max m H2.next) H2 a1_0 a1_1 a1_2 a1_3 a1_4 a1_5 a1_6 a1_7 a1_8 a1_9 a1_10 a1_11 a1_12 a1_13 a1_14 a2_0 a2_1 a2_2 a2_3 a2_4 a2_5 a2_6 a2_7 a2_8 a2_9 a2_10 a2_11 a2_12 a2_13 a2_14).bind fun (x3,H4) => (Y1 L m H4 a0_0 a0_1 a0_2 a0_3 a0_4 a0_5 a0_6 a0_7 a0_8 a0_9 a0_10 a0_11 a0_12 a0_13 a0_14 a2_0 a2_1 a2_2 a2_3 a2_4 a2_5 a2_6 a2_7 a2_8 a2_9 a2_10 a2_11 a2_12 a2_13 a2_14).bind fun (x5,H6) => (law10_awake L H6).bind fun x7 => if x7=true then
  (Y1 L m H6 a1_0 a1_1 a1_2 a1_3 a1_4 a1_5 a1_6 a1_7 a1_8 a1_9 a1_10 a1_11 a1_12 a1_13 a1_14 a0_0 a0_1 a0_2 a0_3 a0_4 a0_5 a0_6 a0_7 a0_8 a0_9 a0_10 a0_11 a0_12 a0_13 a0_14).bind fun (x8,H9) => if x8=(IntKind.i64.wrap (0 - x1)) then
   if x1≤0 then
    if x3≤0 then
     if x5 > 0 then
      some (false,H9)
     else
      if x1≥0 then
       if x3≥0 then
        if x5<0 then
         some (false,H9)
        else
         if x1<0 then
          if x3≤0 then
           if x5≥0 then
            some (false,H9)
           else
            (Y1 L m H9 a0_0 a0_1 a0_2 a0_3 a0_4 a0_5 a0_6 a0_7 a0_8 a0_9 a0_10 a0_11 a0_12 a0_13 a0_14 a0_0 a0_1 a0_2 a0_3 a0_4 a0_5 a0_6 a0_7 a0_8 a0_9 a0_10 a0_11 a0_12 a0_13 a0_14).bind fun (x10,H11) => some ((decide (x10=0)),H11)
          else
           (Y1 L m H9 a0_0 a0_1 a0_2 a0_3 a0_4 a0_5 a0_6 a0_7 a0_8 a0_9 a0_10 a0_11 a0_12 a0_13 a0_14 a0_0 a0_1 a0_2 a0_3 a0_4 a0_5 a0_6 a0_7 a0_8 a0_9 a0_10 a0_11 a0_12 a0_13 a0_14).bind fun (x12,H13) => some ((decide (x12=0)),H13)
         else
          (Y1 L m H9 a0_0 a0_1 a0_2 a0_3 a0_4 a0_5 a0_6 a0_7 a0_8 a0_9 a0_10 a0_11 a0_12 a0_13 a0_14 a0_0 a0_1 a0_2 a0_3 a0_4 a0_5 a0_6 a0_7 a0_8 a0_9 a0_10 a0_11 a0_12 a0_13 a0_14).bind fun (x14,H15) => some ((decide (x14=0)),H15)
       else
        if x1<0 then
         if x3≤0 then
          if x5≥0 then
           some (false,H9)
          else
           (Y1 L m H9 a0_0 a0_1 a0_2 a0_3 a0_4 a0_5 a0_6 a0_7 a0_8 a0_9 a0_10 a0_11 a0_12 a0_13 a0_14 a0_0 a0_1 a0_2 a0_3 a0_4 a0_5 a0_6 a0_7 a0_8 a0_9 a0_10 a0_11 a0_12 a0_13 a0_14).bind fun (x16,H17) => some ((decide (x16=0)),H17)
         else
          (Y1 L m H9 a0_0 a0_1 a0_2 a0_3 a0_4 a0_5 a0_6 a0_7 a0_8 a0_9 a0_10 a0_11 a0_12 a0_13 a0_14 a0_0 a0_1 a0_2 a0_3 a0_4 a0_5 a0_6 a0_7 a0_8 a0_9 a0_10 a0_11 a0_12 a0_13 a0_14).bind fun (x18,H19) => some ((decide (x18=0)),H19)
        else
         (Y1 L m H9 a0_0 a0_1 a0_2 a0_3 a0_4 a0_5 a0_6 a0_7 a0_8 a0_9 a0_10 a0_11 a0_12 a0_13 a0_14 a0_0 a0_1 a0_2 a0_3 a0_4 a0_5 a0_6 a0_7 a0_8 a0_9 a0_10 a0_11 a0_12 a0_13 a0_14).bind fun (x20,H21) => some ((decide (x20=0)),H21)
      else
       if x1<0 then
        if x3≤0 then
         if x5≥0 then
          some (false,H9)
         else
          (Y1 L m H9 a0_0 a0_1 a0_2 a0_3 a0_4 a0_5 a0_6 a0_7 a0_8 a0_9 a0_10 a0_11 a0_12 a0_13 a0_14 a0_0 a0_1 a0_2 a0_3 a0_4 a0_5 a0_6 a0_7 a0_8 a0_9 a0_10 a0_11 a0_12 a0_13 a0_14).bind fun (x22,H23) => some ((decide (x22=0)),H23)
        else
         (Y1 L m H9 a0_0 a0_1 a0_2 a0_3 a0_4 a0_5 a0_6 a0_7 a0_8 a0_9 a0_10 a0_11 a0_12 a0_13 a0_14 a0_0 a0_1 a0_2 a0_3 a0_4 a0_5 a0_6 a0_7 a0_8 a0_9 a0_10 a0_11 a0_12 a0_13 a0_14).bind fun (x24,H25) => some ((decide (x24=0)),H25)
       else
        (Y1 L m H9 a0_0 a0_1 a0_2 a0_3 a0_4 a0_5 a0_6 a0_7 a0_8 a0_9 a0_10 a0_11 a0_12 a0_13 a0_14 a0_0 a0_1 a0_2 a0_3 a0_4 a0_5 a0_6 a0_7 a0_8 a0_9 a0_10 a0_11 a0_12 a0_13 a0_14).bind fun (x26,H27) => some ((decide (x26=0)),H27)
    else
     if x1≥0 then
      if x3≥0 then
       if x5<0 then
        some (false,H9)
       else
        if x1<0 then
         if x3≤0 then
          if x5≥0 then
           some (false,H9)
          else
           (Y1 L m H9 a0_0 a0_1 a0_2 a0_3 a0_4 a0_5 a0_6 a0_7 a0_8 a0_9 a0_10 a0_11 a0_12 a0_13 a0_14 a0_0 a0_1 a0_2 a0_3 a0_4 a0_5 a0_6 a0_7 a0_8 a0_9 a0_10 a0_11 a0_12 a0_13 a0_14).bind fun (x28,H29) => some ((decide (x28=0)),H29)
         else
          (Y1 L m H9 a0_0 a0_1 a0_2 a0_3 a0_4 a0_5 a0_6 a0_7 a0_8 a0_9 a0_10 a0_11 a0_12 a0_13 a0_14 a0_0 a0_1 a0_2 a0_3 a0_4 a0_5 a0_6 a0_7 a0_8 a0_9 a0_10 a0_11 a0_12 a0_13 a0_14).bind fun (x30,H31) => some ((decide (x30=0)),H31)
        else
         (Y1 L m H9 a0_0 a0_1 a0_2 a0_3 a0_4 a0_5 a0_6 a0_7 a0_8 a0_9 a0_10 a0_11 a0_12 a0_13 a0_14 a0_0 a0_1 a0_2 a0_3 a0_4 a0_5 a0_6 a0_7 a0_8 a0_9 a0_10 a0_11 a0_12 a0_13 a0_14).bind fun (x32,H33) => some ((decide (x32=0)),H33)
      else
       if x1<0 then
        if x3≤0 then
         if x5≥0 then
          some (false,H9)
         else
          (Y1 L m H9 a0_0 a0_1 a0_2 a0_3 a0_4 a0_5 a0_6 a0_7 a0_8 a0_9 a0_10 a0_11 a0_12 a0_13 a0_14 a0_0 a0_1 a0_2 a0_3 a0_4 a0_5 a0_6 a0_7 a0_8 a0_9 a0_10 a0_11 a0_12 a0_13 a0_14).bind fun (x34,H35) => some ((decide (x34=0)),H35)
        else
         (Y1 L m H9 a0_0 a0_1 a0_2 a0_3 a0_4 a0_5 a0_6 a0_7 a0_8 a0_9 a0_10 a0_11 a0_12 a0_13 a0_14 a0_0 a0_1 a0_2 a0_3 a0_4 a0_5 a0_6 a0_7 a0_8 a0_9 a0_10 a0_11 a0_12 a0_13 a0_14).bind fun (x36,H37) => some ((decide (x36=0)),H37)
       else
        (Y1 L m H9 a0_0 a0_1 a0_2 a0_3 a0_4 a0_5 a0_6 a0_7 a0_8 a0_9 a0_10 a0_11 a0_12 a0_13 a0_14 a0_0 a0_1 a0_2 a0_3 a0_4 a0_5 a0_6 a0_7 a0_8 a0_9 a0_10 a0_11 a0_12 a0_13 a0_14).bind fun (x38,H39) => some ((decide (x38=0)),H39)
     else
      if x1<0 then
       if x3≤0 then
        if x5≥0 then
         some (false,H9)
        else
         (Y1 L m H9 a0_0 a0_1 a0_2 a0_3 a0_4 a0_5 a0_6 a0_7 a0_8 a0_9 a0_10 a0_11 a0_12 a0_13 a0_14 a0_0 a0_1 a0_2 a0_3 a0_4 a0_5 a0_6 a0_7 a0_8 a0_9 a0_10 a0_11 a0_12 a0_13 a0_14).bind fun (x40,H41) => some ((decide (x40=0)),H41)
       else
        (Y1 L m H9 a0_0 a0_1 a0_2 a0_3 a0_4 a0_5 a0_6 a0_7 a0_8 a0_9 a0_10 a0_11 a0_12 a0_13 a0_14 a0_0 a0_1 a0_2 a0_3 a0_4 a0_5 a0_6 a0_7 a0_8 a0_9 a0_10 a0_11 a0_12 a0_13 a0_14).bind fun (x42,H43) => some ((decide (x42=0)),H43)
      else
       (Y1 L m H9 a0_0 a0_1 a0_2 a0_3 a0_4 a0_5 a0_6 a0_7 a0_8 a0_9 a0_10 a0_11 a0_12 a0_13 a0_14 a0_0 a0_1 a0_2 a0_3 a0_4 a0_5 a0_6 a0_7 a0_8 a0_9 a0_10 a0_11 a0_12 a0_13 a0_14).bind fun (x44,H45) => some ((decide (x44=0)),H45)
   else
    if x1≥0 then
     if x3≥0 then
      if x5<0 then
       some (false,H9)
      else
       if x1<0 then
        if x3≤0 then
         if x5≥0 then
          some (false,H9)
         else
          (Y1 L m H9 a0_0 a0_1 a0_2 a0_3 a0_4 a0_5 a0_6 a0_7 a0_8 a0_9 a0_10 a0_11 a0_12 a0_13 a0_14 a0_0 a0_1 a0_2 a0_3 a0_4 a0_5 a0_6 a0_7 a0_8 a0_9 a0_10 a0_11 a0_12 a0_13 a0_14).bind fun (x46,H47) => some ((decide (x46=0)),H47)
        else
         (Y1 L m H9 a0_0 a0_1 a0_2 a0_3 a0_4 a0_5 a0_6 a0_7 a0_8 a0_9 a0_10 a0_11 a0_12 a0_13 a0_14 a0_0 a0_1 a0_2 a0_3 a0_4 a0_5 a0_6 a0_7 a0_8 a0_9 a0_10 a0_11 a0_12 a0_13 a0_14).bind fun (x48,H49) => some ((decide (x48=0)),H49)
       else
        (Y1 L m H9 a0_0 a0_1 a0_2 a0_3 a0_4 a0_5 a0_6 a0_7 a0_8 a0_9 a0_10 a0_11 a0_12 a0_13 a0_14 a0_0 a0_1 a0_2 a0_3 a0_4 a0_5 a0_6 a0_7 a0_8 a0_9 a0_10 a0_11 a0_12 a0_13 a0_14).bind fun (x50,H51) => some ((decide (x50=0)),H51)
     else
      if x1<0 then
       if x3≤0 then
        if x5≥0 then
         some (false,H9)
        else
         (Y1 L m H9 a0_0 a0_1 a0_2 a0_3 a0_4 a0_5 a0_6 a0_7 a0_8 a0_9 a0_10 a0_11 a0_12 a0_13 a0_14 a0_0 a0_1 a0_2 a0_3 a0_4 a0_5 a0_6 a0_7 a0_8 a0_9 a0_10 a0_11 a0_12 a0_13 a0_14).bind fun (x52,H53) => some ((decide (x52=0)),H53)
       else
        (Y1 L m H9 a0_0 a0_1 a0_2 a0_3 a0_4 a0_5 a0_6 a0_7 a0_8 a0_9 a0_10 a0_11 a0_12 a0_13 a0_14 a0_0 a0_1 a0_2 a0_3 a0_4 a0_5 a0_6 a0_7 a0_8 a0_9 a0_10 a0_11 a0_12 a0_13 a0_14).bind fun (x54,H55) => some ((decide (x54=0)),H55)
      else
       (Y1 L m H9 a0_0 a0_1 a0_2 a0_3 a0_4 a0_5 a0_6 a0_7 a0_8 a0_9 a0_10 a0_11 a0_12 a0_13 a0_14 a0_0 a0_1 a0_2 a0_3 a0_4 a0_5 a0_6 a0_7 a0_8 a0_9 a0_10 a0_11 a0_12 a0_13 a0_14).bind fun (x56,H57) => some ((decide (x56=0)),H57)
    else
     if x1<0 then
      if x3≤0 then
       if x5≥0 then
        some (false,H9)
       else
        (Y1 L m H9 a0_0 a0_1 a0_2 a0_3 a0_4 a0_5 a0_6 a0_7 a0_8 a0_9 a0_10 a0_11 a0_12 a0_13 a0_14 a0_0 a0_1 a0_2 a0_3 a0_4 a0_5 a0_6 a0_7 a0_8 a0_9 a0_10 a0_11 a0_12 a0_13 a0_14).bind fun (x58,H59) => some ((decide (x58=0)),H59)
      else
       (Y1 L m H9 a0_0 a0_1 a0_2 a0_3 a0_4 a0_5 a0_6 a0_7 a0_8 a0_9 a0_10 a0_11 a0_12 a0_13 a0_14 a0_0 a0_1 a0_2 a0_3 a0_4 a0_5 a0_6 a0_7 a0_8 a0_9 a0_10 a0_11 a0_12 a0_13 a0_14).bind fun (x60,H61) => some ((decide (x60=0)),H61)
     else
      (Y1 L m H9 a0_0 a0_1 a0_2 a0_3 a0_4 a0_5 a0_6 a0_7 a0_8 a0_9 a0_10 a0_11 a0_12 a0_13 a0_14 a0_0 a0_1 a0_2 a0_3 a0_4 a0_5 a0_6 a0_7 a0_8 a0_9 a0_10 a0_11 a0_12 a0_13 a0_14).bind fun (x62,H63) => some ((decide (x62=0)),H63)
  else
   some (false,H9)
 else
  some (false,H6)
theorem z8j {L:LC} {m:Nat} {H:AH} {a0_0:Int} {a0_1 a0_2:Bool} {a0_3:Sl3} {a0_4:Int} {a0_5:Sl3} {a0_6:ByteArray} {a0_7 a0_8 a0_9:Int} {a0_10:ByteArray} {a0_11 a0_12:Sl3} {a0_13 a0_14:Sl3} {a1_0:Int} {a1_1 a1_2:Bool} {a1_3:Sl3} {a1_4:Int} {a1_5:Sl3} {a1_6:ByteArray} {a1_7 a1_8 a1_9:Int} {a1_10:ByteArray} {a1_11 a1_12:Sl3} {a1_13 a1_14:Sl3} {a2_0:Int} {a2_1 a2_2:Bool} {a2_3:Sl3} {a2_4:Int} {a2_5:Sl3} {a2_6:ByteArray} {a2_7 a2_8 a2_9:Int} {a2_10:ByteArray} {a2_11 a2_12:Sl3} {a2_13 a2_14:Sl3} {r:(Bool×AH)} (h:O7 L m H a0_0 a0_1 a0_2 a0_3 a0_4 a0_5 a0_6 a0_7 a0_8 a0_9 a0_10 a0_11 a0_12 a0_13 a0_14 a1_0 a1_1 a1_2 a1_3 a1_4 a1_5 a1_6 a1_7 a1_8 a1_9 a1_10 a1_11 a1_12 a1_13 a1_14 a2_0 a2_1 a2_2 a2_3 a2_4 a2_5 a2_6 a2_7 a2_8 a2_9 a2_10 a2_11 a2_12 a2_13 a2_14=some r) :
  CallS Tryz.prog (NE.plain 99) m 3 #[(vA #[(vI .i64 a0_0),(vB a0_1),(vB a0_2),(Sl3.v a0_3),(vI .i64 a0_4),(Sl3.v a0_5),(vS a0_6),(vI .i64 a0_7),(vI .i64 a0_8),(vI .i64 a0_9),(vS a0_10),(Sl3.v a0_11),(Sl3.v a0_12),(Sl3.v a0_13),(Sl3.v a0_14)]),(vA #[(vI .i64 a1_0),(vB a1_1),(vB a1_2),(Sl3.v a1_3),(vI .i64 a1_4),(Sl3.v a1_5),(vS a1_6),(vI .i64 a1_7),(vI .i64 a1_8),(vI .i64 a1_9),(vS a1_10),(Sl3.v a1_11),(Sl3.v a1_12),(Sl3.v a1_13),(Sl3.v a1_14)]),(vA #[(vI .i64 a2_0),(vB a2_1),(vB a2_2),(Sl3.v a2_3),(vI .i64 a2_4),(Sl3.v a2_5),(vS a2_6),(vI .i64 a2_7),(vI .i64 a2_8),(vI .i64 a2_9),(vS a2_10),(Sl3.v a2_11),(Sl3.v a2_12),(Sl3.v a2_13),(Sl3.v a2_14)])] H (z8b r) (z8o H r):=by
 refine CallS.mk (args:=[(vA #[(vI .i64 a0_0),(vB a0_1),(vB a0_2),(Sl3.v a0_3),(vI .i64 a0_4),(Sl3.v a0_5),(vS a0_6),(vI .i64 a0_7),(vI .i64 a0_8),(vI .i64 a0_9),(vS a0_10),(Sl3.v a0_11),(Sl3.v a0_12),(Sl3.v a0_13),(Sl3.v a0_14)]),(vA #[(vI .i64 a1_0),(vB a1_1),(vB a1_2),(Sl3.v a1_3),(vI .i64 a1_4),(Sl3.v a1_5),(vS a1_6),(vI .i64 a1_7),(vI .i64 a1_8),(vI .i64 a1_9),(vS a1_10),(Sl3.v a1_11),(Sl3.v a1_12),(Sl3.v a1_13),(Sl3.v a1_14)]),(vA #[(vI .i64 a2_0),(vB a2_1),(vB a2_2),(Sl3.v a2_3),(vI .i64 a2_4),(Sl3.v a2_5),(vS a2_6),(vI .i64 a2_7),(vI .i64 a2_8),(vI .i64 a2_9),(vS a2_10),(Sl3.v a2_11),(Sl3.v a2_12),(Sl3.v a2_13),(Sl3.v a2_14)])]) Tryz.func3 (B:=B3) (by kernel_rfl) (fun E _=>?_);unfold O7 at h;refine t0 (A0 (O0 4 [kB 6 false,kL 5 2 0,kL 4 1 0,kL 3 0 0] ([some (36,[(vI .i64 a0_0),(vB a0_1),(vB a0_2),(Sl3.v a0_3),(vI .i64 a0_4),(Sl3.v a0_5),(vS a0_6),(vI .i64 a0_7),(vI .i64 a0_8),(vI .i64 a0_9),(vS a0_10),(Sl3.v a0_11),(Sl3.v a0_12),(Sl3.v a0_13),(Sl3.v a0_14)]),some (36,[(vI .i64 a1_0),(vB a1_1),(vB a1_2),(Sl3.v a1_3),(vI .i64 a1_4),(Sl3.v a1_5),(vS a1_6),(vI .i64 a1_7),(vI .i64 a1_8),(vI .i64 a1_9),(vS a1_10),(Sl3.v a1_11),(Sl3.v a1_12),(Sl3.v a1_13),(Sl3.v a1_14)]),some (36,[(vI .i64 a2_0),(vB a2_1),(vB a2_2),(Sl3.v a2_3),(vI .i64 a2_4),(Sl3.v a2_5),(vS a2_6),(vI .i64 a2_7),(vI .i64 a2_8),(vI .i64 a2_9),(vS a2_10),(Sl3.v a2_11),(Sl3.v a2_12),(Sl3.v a2_13),(Sl3.v a2_14)])]) (u0 (m0 (t0 ?_)))));refine C1 [0,1,3,4,6,7] [0,0,3,0,0,31,0,0,255,511,1023,2047] 12 (fun hcl=>?_);refine Q0 0 (some 10) (.val (vA #[(vI .i64 a0_0),(vB a0_1),(vB a0_2),(Sl3.v a0_3),(vI .i64 a0_4),(Sl3.v a0_5),(vS a0_6),(vI .i64 a0_7),(vI .i64 a0_8),(vI .i64 a0_9),(vS a0_10),(Sl3.v a0_11),(Sl3.v a0_12),(Sl3.v a0_13),(Sl3.v a0_14)])) (Q0 1 (some 11) (.val (vA #[(vI .i64 a1_0),(vB a1_1),(vB a1_2),(Sl3.v a1_3),(vI .i64 a1_4),(Sl3.v a1_5),(vS a1_6),(vI .i64 a1_7),(vI .i64 a1_8),(vI .i64 a1_9),(vS a1_10),(Sl3.v a1_11),(Sl3.v a1_12),(Sl3.v a1_13),(Sl3.v a1_14)])) (Q0 3 (some 13) (.val (vA #[(vI .i64 a1_0),(vB a1_1),(vB a1_2),(Sl3.v a1_3),(vI .i64 a1_4),(Sl3.v a1_5),(vS a1_6),(vI .i64 a1_7),(vI .i64 a1_8),(vI .i64 a1_9),(vS a1_10),(Sl3.v a1_11),(Sl3.v a1_12),(Sl3.v a1_13),(Sl3.v a1_14)])) (Q0 4 (some 14) (.val (vA #[(vI .i64 a2_0),(vB a2_1),(vB a2_2),(Sl3.v a2_3),(vI .i64 a2_4),(Sl3.v a2_5),(vS a2_6),(vI .i64 a2_7),(vI .i64 a2_8),(vI .i64 a2_9),(vS a2_10),(Sl3.v a2_11),(Sl3.v a2_12),(Sl3.v a2_13),(Sl3.v a2_14)])) (Q0 6 (some 16) (.val (vA #[(vI .i64 a0_0),(vB a0_1),(vB a0_2),(Sl3.v a0_3),(vI .i64 a0_4),(Sl3.v a0_5),(vS a0_6),(vI .i64 a0_7),(vI .i64 a0_8),(vI .i64 a0_9),(vS a0_10),(Sl3.v a0_11),(Sl3.v a0_12),(Sl3.v a0_13),(Sl3.v a0_14)])) (Q0 7 (some 17) (.val (vA #[(vI .i64 a2_0),(vB a2_1),(vB a2_2),(Sl3.v a2_3),(vI .i64 a2_4),(Sl3.v a2_5),(vS a2_6),(vI .i64 a2_7),(vI .i64 a2_8),(vI .i64 a2_9),(vS a2_10),(Sl3.v a2_11),(Sl3.v a2_12),(Sl3.v a2_13),(Sl3.v a2_14)])) ?_)))));obtain ⟨⟨x1,H2⟩,hx,h⟩:=bind_some h;try dsimp only at h
 refine DA.on 2 (W0 2 (some 12) true (v:=(vI .i64 x1)) 4 #[(vA #[(vI .i64 a0_0),(vB a0_1),(vB a0_2),(Sl3.v a0_3),(vI .i64 a0_4),(Sl3.v a0_5),(vS a0_6),(vI .i64 a0_7),(vI .i64 a0_8),(vI .i64 a0_9),(vS a0_10),(Sl3.v a0_11),(Sl3.v a0_12),(Sl3.v a0_13),(Sl3.v a0_14)]),(vA #[(vI .i64 a1_0),(vB a1_1),(vB a1_2),(Sl3.v a1_3),(vI .i64 a1_4),(Sl3.v a1_5),(vS a1_6),(vI .i64 a1_7),(vI .i64 a1_8),(vI .i64 a1_9),(vS a1_10),(Sl3.v a1_11),(Sl3.v a1_12),(Sl3.v a1_13),(Sl3.v a1_14)])] (T1 hx) ?_);obtain ⟨⟨x3,H4⟩,hx,h⟩:=bind_some h;try dsimp only at h
 refine DA.on 5 (W0 5 (some 15) false (v:=(vI .i64 x3)) 4 #[(vA #[(vI .i64 a1_0),(vB a1_1),(vB a1_2),(Sl3.v a1_3),(vI .i64 a1_4),(Sl3.v a1_5),(vS a1_6),(vI .i64 a1_7),(vI .i64 a1_8),(vI .i64 a1_9),(vS a1_10),(Sl3.v a1_11),(Sl3.v a1_12),(Sl3.v a1_13),(Sl3.v a1_14)]),(vA #[(vI .i64 a2_0),(vB a2_1),(vB a2_2),(Sl3.v a2_3),(vI .i64 a2_4),(Sl3.v a2_5),(vS a2_6),(vI .i64 a2_7),(vI .i64 a2_8),(vI .i64 a2_9),(vS a2_10),(Sl3.v a2_11),(Sl3.v a2_12),(Sl3.v a2_13),(Sl3.v a2_14)])] (T1 hx) ?_);obtain ⟨⟨x5,H6⟩,hx,h⟩:=bind_some h;try dsimp only at h
 refine DA.on 8 (J0 8 (some 18) (v:=(vI .i64 x5)) 4 #[(vA #[(vI .i64 a0_0),(vB a0_1),(vB a0_2),(Sl3.v a0_3),(vI .i64 a0_4),(Sl3.v a0_5),(vS a0_6),(vI .i64 a0_7),(vI .i64 a0_8),(vI .i64 a0_9),(vS a0_10),(Sl3.v a0_11),(Sl3.v a0_12),(Sl3.v a0_13),(Sl3.v a0_14)]),(vA #[(vI .i64 a2_0),(vB a2_1),(vB a2_2),(Sl3.v a2_3),(vI .i64 a2_4),(Sl3.v a2_5),(vS a2_6),(vI .i64 a2_7),(vI .i64 a2_8),(vI .i64 a2_9),(vS a2_10),(Sl3.v a2_11),(Sl3.v a2_12),(Sl3.v a2_13),(Sl3.v a2_14)])] (T1 hx) (N0 9 (some 7) (vI .i64 x1) (N0 10 (some 8) (vI .i64 x3) (N0 11 (some 9) (vI .i64 x5) (K0 (m0 (t0 (A0 ?_))))))));obtain ⟨x7,hx,h⟩:=bind_some h;refine RS.cl (some 19) (v:=(vB x7)) 5 _ (law10_awake_ok hx) (g0 1 [kB 20 x7] ?_);rcases J1 h with ⟨hp,h⟩ | ⟨hp,h⟩
 ·refine F0 20 true hp (g0 2 [kA 22 #[(vI .i64 a0_0),(vB a0_1),(vB a0_2),(Sl3.v a0_3),(vI .i64 a0_4),(Sl3.v a0_5),(vS a0_6),(vI .i64 a0_7),(vI .i64 a0_8),(vI .i64 a0_9),(vS a0_10),(Sl3.v a0_11),(Sl3.v a0_12),(Sl3.v a0_13),(Sl3.v a0_14)],kA 21 #[(vI .i64 a1_0),(vB a1_1),(vB a1_2),(Sl3.v a1_3),(vI .i64 a1_4),(Sl3.v a1_5),(vS a1_6),(vI .i64 a1_7),(vI .i64 a1_8),(vI .i64 a1_9),(vS a1_10),(Sl3.v a1_11),(Sl3.v a1_12),(Sl3.v a1_13),(Sl3.v a1_14)]] ?_);obtain ⟨⟨x8,H9⟩,hx,h⟩:=bind_some h;try dsimp only at h
  refine RS.cl (some 23) (v:=(vI .i64 x8)) 4 _ (T1 hx) (g0 5 [kB 28 (decide (x8=(IntKind.i64.wrap (0 - x1)))),kB 27 (decide (x8=(IntKind.i64.wrap (0 - x1)))),kB 26 (decide (x8=(IntKind.i64.wrap (0 - x1)))),kI 25 (IntKind.i64.wrap (0 - x1)),kI 24 x1] ?_);rcases J1 h with ⟨hp,h⟩ | ⟨hp,h⟩
  ·refine F0 28 true (decide_eq_true hp) (g0 3 [kB 31 (decide (x1≤0)),kB 30 (decide (x1≤0)),kI 29 x1] ?_);rcases J1 h with ⟨hp,h⟩ | ⟨hp,h⟩
   ·refine F0 31 true (decide_eq_true hp) (g0 4 [kB 35 (decide (x3≤0)),kB 34 (decide (x3≤0)),kB 33 (decide (x3≤0)),kI 32 x3] ?_);rcases J1 h with ⟨hp,h⟩ | ⟨hp,h⟩
    ·refine F0 35 true (decide_eq_true hp) (g0 6 [kB 41 (!decide (x5 > 0)),kB 40 (!decide (x5 > 0)),kB 39 (!decide (x5 > 0)),kB 38 (decide (x5 > 0)),kB 37 (decide (x5 > 0)),kI 36 x5] ?_);rcases J1 h with ⟨hp,h⟩ | ⟨hp,h⟩
     ·refine F0 41 false (C2 hp) (g0 32 [kB 6 false,kB 72 false,kU 71,kU 70,kU 69,kU 68,kB 67 false,kB 66 false,kU 65,kU 64,kU 63,kU 62,kU 61,kU 60,kU 59,kU 58,kU 57,kU 56,kU 55,kB 54 false,kB 53 false,kU 52,kU 51,kU 50,kU 49,kU 48,kU 47,kU 46,kU 45,kU 44,kU 43,kU 42] (u0 (m0 (C0 ?_))));cases h;exact fun a w hs=>rtR (rS hs)
     ·refine F0 41 true (A2 hp) (g0 3 [kB 44 (decide (x1≥0)),kB 43 (decide (x1≥0)),kI 42 x1] ?_);rcases J1 h with ⟨hp,h⟩ | ⟨hp,h⟩
      ·refine F0 44 true (decide_eq_true hp) (g0 4 [kB 48 (decide (x3≥0)),kB 47 (decide (x3≥0)),kB 46 (decide (x3≥0)),kI 45 x3] ?_);rcases J1 h with ⟨hp,h⟩ | ⟨hp,h⟩
       ·refine F0 48 true (decide_eq_true hp) (g0 6 [kB 54 (!decide (x5<0)),kB 53 (!decide (x5<0)),kB 52 (!decide (x5<0)),kB 51 (decide (x5<0)),kB 50 (decide (x5<0)),kI 49 x5] ?_);rcases J1 h with ⟨hp,h⟩ | ⟨hp,h⟩
        ·refine F0 54 false (C2 hp) (g0 19 [kB 6 false,kB 72 false,kU 71,kU 70,kU 69,kU 68,kB 67 false,kB 66 false,kU 65,kU 64,kU 63,kU 62,kU 61,kU 60,kU 59,kU 58,kU 57,kU 56,kU 55] (u0 (m0 (C0 ?_))));cases h;exact fun a w hs=>rtR (rS hs)
        ·refine F0 54 true (A2 hp) (g0 3 [kB 57 (decide (x1<0)),kB 56 (decide (x1<0)),kI 55 x1] ?_);rcases J1 h with ⟨hp,h⟩ | ⟨hp,h⟩
         ·refine F0 57 true (decide_eq_true hp) (g0 4 [kB 61 (decide (x3≤0)),kB 60 (decide (x3≤0)),kB 59 (decide (x3≤0)),kI 58 x3] ?_);rcases J1 h with ⟨hp,h⟩ | ⟨hp,h⟩
          ·refine F0 61 true (decide_eq_true hp) (g0 6 [kB 67 (!decide (x5≥0)),kB 66 (!decide (x5≥0)),kB 65 (!decide (x5≥0)),kB 64 (decide (x5≥0)),kB 63 (decide (x5≥0)),kI 62 x5] ?_);rcases J1 h with ⟨hp,h⟩ | ⟨hp,h⟩
           ·refine F0 67 false (C2 hp) (g0 6 [kB 6 false,kB 72 false,kU 71,kU 70,kU 69,kU 68] (u0 (m0 (C0 ?_))));cases h;exact fun a w hs=>rtR (rS hs)
           ·refine F0 67 true (A2 hp) (g0 2 [kA 69 #[(vI .i64 a0_0),(vB a0_1),(vB a0_2),(Sl3.v a0_3),(vI .i64 a0_4),(Sl3.v a0_5),(vS a0_6),(vI .i64 a0_7),(vI .i64 a0_8),(vI .i64 a0_9),(vS a0_10),(Sl3.v a0_11),(Sl3.v a0_12),(Sl3.v a0_13),(Sl3.v a0_14)],kA 68 #[(vI .i64 a0_0),(vB a0_1),(vB a0_2),(Sl3.v a0_3),(vI .i64 a0_4),(Sl3.v a0_5),(vS a0_6),(vI .i64 a0_7),(vI .i64 a0_8),(vI .i64 a0_9),(vS a0_10),(Sl3.v a0_11),(Sl3.v a0_12),(Sl3.v a0_13),(Sl3.v a0_14)]] ?_);obtain ⟨⟨x10,H11⟩,hx,h⟩:=bind_some h;try dsimp only at h
            refine RS.cl (some 70) (v:=(vI .i64 x10)) 4 _ (T1 hx) (g0 3 [kB 6 (decide (x10=0)),kB 72 (decide (x10=0)),kB 71 (decide (x10=0))] (u0 (m0 (C0 ?_))));cases h;exact fun a w hs=>rtR (rS hs)
          ·refine F0 61 false (decide_eq_false hp) (g0 8 [kA 69 #[(vI .i64 a0_0),(vB a0_1),(vB a0_2),(Sl3.v a0_3),(vI .i64 a0_4),(Sl3.v a0_5),(vS a0_6),(vI .i64 a0_7),(vI .i64 a0_8),(vI .i64 a0_9),(vS a0_10),(Sl3.v a0_11),(Sl3.v a0_12),(Sl3.v a0_13),(Sl3.v a0_14)],kA 68 #[(vI .i64 a0_0),(vB a0_1),(vB a0_2),(Sl3.v a0_3),(vI .i64 a0_4),(Sl3.v a0_5),(vS a0_6),(vI .i64 a0_7),(vI .i64 a0_8),(vI .i64 a0_9),(vS a0_10),(Sl3.v a0_11),(Sl3.v a0_12),(Sl3.v a0_13),(Sl3.v a0_14)],kB 67 true,kB 66 true,kB 65 true,kB 64 false,kU 63,kU 62] ?_);obtain ⟨⟨x12,H13⟩,hx,h⟩:=bind_some h;try dsimp only at h
           refine RS.cl (some 70) (v:=(vI .i64 x12)) 4 _ (T1 hx) (g0 3 [kB 6 (decide (x12=0)),kB 72 (decide (x12=0)),kB 71 (decide (x12=0))] (u0 (m0 (C0 ?_))));cases h;exact fun a w hs=>rtR (rS hs)
         ·refine F0 57 false (decide_eq_false hp) (g0 12 [kA 69 #[(vI .i64 a0_0),(vB a0_1),(vB a0_2),(Sl3.v a0_3),(vI .i64 a0_4),(Sl3.v a0_5),(vS a0_6),(vI .i64 a0_7),(vI .i64 a0_8),(vI .i64 a0_9),(vS a0_10),(Sl3.v a0_11),(Sl3.v a0_12),(Sl3.v a0_13),(Sl3.v a0_14)],kA 68 #[(vI .i64 a0_0),(vB a0_1),(vB a0_2),(Sl3.v a0_3),(vI .i64 a0_4),(Sl3.v a0_5),(vS a0_6),(vI .i64 a0_7),(vI .i64 a0_8),(vI .i64 a0_9),(vS a0_10),(Sl3.v a0_11),(Sl3.v a0_12),(Sl3.v a0_13),(Sl3.v a0_14)],kB 67 true,kB 66 true,kB 65 true,kB 64 false,kU 63,kU 62,kB 61 false,kB 60 false,kU 59,kU 58] ?_);obtain ⟨⟨x14,H15⟩,hx,h⟩:=bind_some h;try dsimp only at h
          refine RS.cl (some 70) (v:=(vI .i64 x14)) 4 _ (T1 hx) (g0 3 [kB 6 (decide (x14=0)),kB 72 (decide (x14=0)),kB 71 (decide (x14=0))] (u0 (m0 (C0 ?_))));cases h;exact fun a w hs=>rtR (rS hs)
       ·refine F0 48 false (decide_eq_false hp) (g0 9 [kB 57 (decide (x1<0)),kB 56 (decide (x1<0)),kI 55 x1,kB 54 true,kB 53 true,kB 52 true,kB 51 false,kU 50,kU 49] ?_);rcases J1 h with ⟨hp,h⟩ | ⟨hp,h⟩
        ·refine F0 57 true (decide_eq_true hp) (g0 4 [kB 61 (decide (x3≤0)),kB 60 (decide (x3≤0)),kB 59 (decide (x3≤0)),kI 58 x3] ?_);rcases J1 h with ⟨hp,h⟩ | ⟨hp,h⟩
         ·refine F0 61 true (decide_eq_true hp) (g0 6 [kB 67 (!decide (x5≥0)),kB 66 (!decide (x5≥0)),kB 65 (!decide (x5≥0)),kB 64 (decide (x5≥0)),kB 63 (decide (x5≥0)),kI 62 x5] ?_);rcases J1 h with ⟨hp,h⟩ | ⟨hp,h⟩
          ·refine F0 67 false (C2 hp) (g0 6 [kB 6 false,kB 72 false,kU 71,kU 70,kU 69,kU 68] (u0 (m0 (C0 ?_))));cases h;exact fun a w hs=>rtR (rS hs)
          ·refine F0 67 true (A2 hp) (g0 2 [kA 69 #[(vI .i64 a0_0),(vB a0_1),(vB a0_2),(Sl3.v a0_3),(vI .i64 a0_4),(Sl3.v a0_5),(vS a0_6),(vI .i64 a0_7),(vI .i64 a0_8),(vI .i64 a0_9),(vS a0_10),(Sl3.v a0_11),(Sl3.v a0_12),(Sl3.v a0_13),(Sl3.v a0_14)],kA 68 #[(vI .i64 a0_0),(vB a0_1),(vB a0_2),(Sl3.v a0_3),(vI .i64 a0_4),(Sl3.v a0_5),(vS a0_6),(vI .i64 a0_7),(vI .i64 a0_8),(vI .i64 a0_9),(vS a0_10),(Sl3.v a0_11),(Sl3.v a0_12),(Sl3.v a0_13),(Sl3.v a0_14)]] ?_);obtain ⟨⟨x16,H17⟩,hx,h⟩:=bind_some h;try dsimp only at h
           refine RS.cl (some 70) (v:=(vI .i64 x16)) 4 _ (T1 hx) (g0 3 [kB 6 (decide (x16=0)),kB 72 (decide (x16=0)),kB 71 (decide (x16=0))] (u0 (m0 (C0 ?_))));cases h;exact fun a w hs=>rtR (rS hs)
         ·refine F0 61 false (decide_eq_false hp) (g0 8 [kA 69 #[(vI .i64 a0_0),(vB a0_1),(vB a0_2),(Sl3.v a0_3),(vI .i64 a0_4),(Sl3.v a0_5),(vS a0_6),(vI .i64 a0_7),(vI .i64 a0_8),(vI .i64 a0_9),(vS a0_10),(Sl3.v a0_11),(Sl3.v a0_12),(Sl3.v a0_13),(Sl3.v a0_14)],kA 68 #[(vI .i64 a0_0),(vB a0_1),(vB a0_2),(Sl3.v a0_3),(vI .i64 a0_4),(Sl3.v a0_5),(vS a0_6),(vI .i64 a0_7),(vI .i64 a0_8),(vI .i64 a0_9),(vS a0_10),(Sl3.v a0_11),(Sl3.v a0_12),(Sl3.v a0_13),(Sl3.v a0_14)],kB 67 true,kB 66 true,kB 65 true,kB 64 false,kU 63,kU 62] ?_);obtain ⟨⟨x18,H19⟩,hx,h⟩:=bind_some h;try dsimp only at h
          refine RS.cl (some 70) (v:=(vI .i64 x18)) 4 _ (T1 hx) (g0 3 [kB 6 (decide (x18=0)),kB 72 (decide (x18=0)),kB 71 (decide (x18=0))] (u0 (m0 (C0 ?_))));cases h;exact fun a w hs=>rtR (rS hs)
        ·refine F0 57 false (decide_eq_false hp) (g0 12 [kA 69 #[(vI .i64 a0_0),(vB a0_1),(vB a0_2),(Sl3.v a0_3),(vI .i64 a0_4),(Sl3.v a0_5),(vS a0_6),(vI .i64 a0_7),(vI .i64 a0_8),(vI .i64 a0_9),(vS a0_10),(Sl3.v a0_11),(Sl3.v a0_12),(Sl3.v a0_13),(Sl3.v a0_14)],kA 68 #[(vI .i64 a0_0),(vB a0_1),(vB a0_2),(Sl3.v a0_3),(vI .i64 a0_4),(Sl3.v a0_5),(vS a0_6),(vI .i64 a0_7),(vI .i64 a0_8),(vI .i64 a0_9),(vS a0_10),(Sl3.v a0_11),(Sl3.v a0_12),(Sl3.v a0_13),(Sl3.v a0_14)],kB 67 true,kB 66 true,kB 65 true,kB 64 false,kU 63,kU 62,kB 61 false,kB 60 false,kU 59,kU 58] ?_);obtain ⟨⟨x20,H21⟩,hx,h⟩:=bind_some h;try dsimp only at h
         refine RS.cl (some 70) (v:=(vI .i64 x20)) 4 _ (T1 hx) (g0 3 [kB 6 (decide (x20=0)),kB 72 (decide (x20=0)),kB 71 (decide (x20=0))] (u0 (m0 (C0 ?_))));cases h;exact fun a w hs=>rtR (rS hs)
      ·refine F0 44 false (decide_eq_false hp) (g0 13 [kB 57 (decide (x1<0)),kB 56 (decide (x1<0)),kI 55 x1,kB 54 true,kB 53 true,kB 52 true,kB 51 false,kU 50,kU 49,kB 48 false,kB 47 false,kU 46,kU 45] ?_);rcases J1 h with ⟨hp,h⟩ | ⟨hp,h⟩
       ·refine F0 57 true (decide_eq_true hp) (g0 4 [kB 61 (decide (x3≤0)),kB 60 (decide (x3≤0)),kB 59 (decide (x3≤0)),kI 58 x3] ?_);rcases J1 h with ⟨hp,h⟩ | ⟨hp,h⟩
        ·refine F0 61 true (decide_eq_true hp) (g0 6 [kB 67 (!decide (x5≥0)),kB 66 (!decide (x5≥0)),kB 65 (!decide (x5≥0)),kB 64 (decide (x5≥0)),kB 63 (decide (x5≥0)),kI 62 x5] ?_);rcases J1 h with ⟨hp,h⟩ | ⟨hp,h⟩
         ·refine F0 67 false (C2 hp) (g0 6 [kB 6 false,kB 72 false,kU 71,kU 70,kU 69,kU 68] (u0 (m0 (C0 ?_))));cases h;exact fun a w hs=>rtR (rS hs)
         ·refine F0 67 true (A2 hp) (g0 2 [kA 69 #[(vI .i64 a0_0),(vB a0_1),(vB a0_2),(Sl3.v a0_3),(vI .i64 a0_4),(Sl3.v a0_5),(vS a0_6),(vI .i64 a0_7),(vI .i64 a0_8),(vI .i64 a0_9),(vS a0_10),(Sl3.v a0_11),(Sl3.v a0_12),(Sl3.v a0_13),(Sl3.v a0_14)],kA 68 #[(vI .i64 a0_0),(vB a0_1),(vB a0_2),(Sl3.v a0_3),(vI .i64 a0_4),(Sl3.v a0_5),(vS a0_6),(vI .i64 a0_7),(vI .i64 a0_8),(vI .i64 a0_9),(vS a0_10),(Sl3.v a0_11),(Sl3.v a0_12),(Sl3.v a0_13),(Sl3.v a0_14)]] ?_);obtain ⟨⟨x22,H23⟩,hx,h⟩:=bind_some h;try dsimp only at h
          refine RS.cl (some 70) (v:=(vI .i64 x22)) 4 _ (T1 hx) (g0 3 [kB 6 (decide (x22=0)),kB 72 (decide (x22=0)),kB 71 (decide (x22=0))] (u0 (m0 (C0 ?_))));cases h;exact fun a w hs=>rtR (rS hs)
        ·refine F0 61 false (decide_eq_false hp) (g0 8 [kA 69 #[(vI .i64 a0_0),(vB a0_1),(vB a0_2),(Sl3.v a0_3),(vI .i64 a0_4),(Sl3.v a0_5),(vS a0_6),(vI .i64 a0_7),(vI .i64 a0_8),(vI .i64 a0_9),(vS a0_10),(Sl3.v a0_11),(Sl3.v a0_12),(Sl3.v a0_13),(Sl3.v a0_14)],kA 68 #[(vI .i64 a0_0),(vB a0_1),(vB a0_2),(Sl3.v a0_3),(vI .i64 a0_4),(Sl3.v a0_5),(vS a0_6),(vI .i64 a0_7),(vI .i64 a0_8),(vI .i64 a0_9),(vS a0_10),(Sl3.v a0_11),(Sl3.v a0_12),(Sl3.v a0_13),(Sl3.v a0_14)],kB 67 true,kB 66 true,kB 65 true,kB 64 false,kU 63,kU 62] ?_);obtain ⟨⟨x24,H25⟩,hx,h⟩:=bind_some h;try dsimp only at h
         refine RS.cl (some 70) (v:=(vI .i64 x24)) 4 _ (T1 hx) (g0 3 [kB 6 (decide (x24=0)),kB 72 (decide (x24=0)),kB 71 (decide (x24=0))] (u0 (m0 (C0 ?_))));cases h;exact fun a w hs=>rtR (rS hs)
       ·refine F0 57 false (decide_eq_false hp) (g0 12 [kA 69 #[(vI .i64 a0_0),(vB a0_1),(vB a0_2),(Sl3.v a0_3),(vI .i64 a0_4),(Sl3.v a0_5),(vS a0_6),(vI .i64 a0_7),(vI .i64 a0_8),(vI .i64 a0_9),(vS a0_10),(Sl3.v a0_11),(Sl3.v a0_12),(Sl3.v a0_13),(Sl3.v a0_14)],kA 68 #[(vI .i64 a0_0),(vB a0_1),(vB a0_2),(Sl3.v a0_3),(vI .i64 a0_4),(Sl3.v a0_5),(vS a0_6),(vI .i64 a0_7),(vI .i64 a0_8),(vI .i64 a0_9),(vS a0_10),(Sl3.v a0_11),(Sl3.v a0_12),(Sl3.v a0_13),(Sl3.v a0_14)],kB 67 true,kB 66 true,kB 65 true,kB 64 false,kU 63,kU 62,kB 61 false,kB 60 false,kU 59,kU 58] ?_);obtain ⟨⟨x26,H27⟩,hx,h⟩:=bind_some h;try dsimp only at h
        refine RS.cl (some 70) (v:=(vI .i64 x26)) 4 _ (T1 hx) (g0 3 [kB 6 (decide (x26=0)),kB 72 (decide (x26=0)),kB 71 (decide (x26=0))] (u0 (m0 (C0 ?_))));cases h;exact fun a w hs=>rtR (rS hs)
    ·refine F0 35 false (decide_eq_false hp) (g0 9 [kB 44 (decide (x1≥0)),kB 43 (decide (x1≥0)),kI 42 x1,kB 41 true,kB 40 true,kB 39 true,kB 38 false,kU 37,kU 36] ?_);rcases J1 h with ⟨hp,h⟩ | ⟨hp,h⟩
     ·refine F0 44 true (decide_eq_true hp) (g0 4 [kB 48 (decide (x3≥0)),kB 47 (decide (x3≥0)),kB 46 (decide (x3≥0)),kI 45 x3] ?_);rcases J1 h with ⟨hp,h⟩ | ⟨hp,h⟩
      ·refine F0 48 true (decide_eq_true hp) (g0 6 [kB 54 (!decide (x5<0)),kB 53 (!decide (x5<0)),kB 52 (!decide (x5<0)),kB 51 (decide (x5<0)),kB 50 (decide (x5<0)),kI 49 x5] ?_);rcases J1 h with ⟨hp,h⟩ | ⟨hp,h⟩
       ·refine F0 54 false (C2 hp) (g0 19 [kB 6 false,kB 72 false,kU 71,kU 70,kU 69,kU 68,kB 67 false,kB 66 false,kU 65,kU 64,kU 63,kU 62,kU 61,kU 60,kU 59,kU 58,kU 57,kU 56,kU 55] (u0 (m0 (C0 ?_))));cases h;exact fun a w hs=>rtR (rS hs)
       ·refine F0 54 true (A2 hp) (g0 3 [kB 57 (decide (x1<0)),kB 56 (decide (x1<0)),kI 55 x1] ?_);rcases J1 h with ⟨hp,h⟩ | ⟨hp,h⟩
        ·refine F0 57 true (decide_eq_true hp) (g0 4 [kB 61 (decide (x3≤0)),kB 60 (decide (x3≤0)),kB 59 (decide (x3≤0)),kI 58 x3] ?_);rcases J1 h with ⟨hp,h⟩ | ⟨hp,h⟩
         ·refine F0 61 true (decide_eq_true hp) (g0 6 [kB 67 (!decide (x5≥0)),kB 66 (!decide (x5≥0)),kB 65 (!decide (x5≥0)),kB 64 (decide (x5≥0)),kB 63 (decide (x5≥0)),kI 62 x5] ?_);rcases J1 h with ⟨hp,h⟩ | ⟨hp,h⟩
          ·refine F0 67 false (C2 hp) (g0 6 [kB 6 false,kB 72 false,kU 71,kU 70,kU 69,kU 68] (u0 (m0 (C0 ?_))));cases h;exact fun a w hs=>rtR (rS hs)
          ·refine F0 67 true (A2 hp) (g0 2 [kA 69 #[(vI .i64 a0_0),(vB a0_1),(vB a0_2),(Sl3.v a0_3),(vI .i64 a0_4),(Sl3.v a0_5),(vS a0_6),(vI .i64 a0_7),(vI .i64 a0_8),(vI .i64 a0_9),(vS a0_10),(Sl3.v a0_11),(Sl3.v a0_12),(Sl3.v a0_13),(Sl3.v a0_14)],kA 68 #[(vI .i64 a0_0),(vB a0_1),(vB a0_2),(Sl3.v a0_3),(vI .i64 a0_4),(Sl3.v a0_5),(vS a0_6),(vI .i64 a0_7),(vI .i64 a0_8),(vI .i64 a0_9),(vS a0_10),(Sl3.v a0_11),(Sl3.v a0_12),(Sl3.v a0_13),(Sl3.v a0_14)]] ?_);obtain ⟨⟨x28,H29⟩,hx,h⟩:=bind_some h;try dsimp only at h
           refine RS.cl (some 70) (v:=(vI .i64 x28)) 4 _ (T1 hx) (g0 3 [kB 6 (decide (x28=0)),kB 72 (decide (x28=0)),kB 71 (decide (x28=0))] (u0 (m0 (C0 ?_))));cases h;exact fun a w hs=>rtR (rS hs)
         ·refine F0 61 false (decide_eq_false hp) (g0 8 [kA 69 #[(vI .i64 a0_0),(vB a0_1),(vB a0_2),(Sl3.v a0_3),(vI .i64 a0_4),(Sl3.v a0_5),(vS a0_6),(vI .i64 a0_7),(vI .i64 a0_8),(vI .i64 a0_9),(vS a0_10),(Sl3.v a0_11),(Sl3.v a0_12),(Sl3.v a0_13),(Sl3.v a0_14)],kA 68 #[(vI .i64 a0_0),(vB a0_1),(vB a0_2),(Sl3.v a0_3),(vI .i64 a0_4),(Sl3.v a0_5),(vS a0_6),(vI .i64 a0_7),(vI .i64 a0_8),(vI .i64 a0_9),(vS a0_10),(Sl3.v a0_11),(Sl3.v a0_12),(Sl3.v a0_13),(Sl3.v a0_14)],kB 67 true,kB 66 true,kB 65 true,kB 64 false,kU 63,kU 62] ?_);obtain ⟨⟨x30,H31⟩,hx,h⟩:=bind_some h;try dsimp only at h
          refine RS.cl (some 70) (v:=(vI .i64 x30)) 4 _ (T1 hx) (g0 3 [kB 6 (decide (x30=0)),kB 72 (decide (x30=0)),kB 71 (decide (x30=0))] (u0 (m0 (C0 ?_))));cases h;exact fun a w hs=>rtR (rS hs)
        ·refine F0 57 false (decide_eq_false hp) (g0 12 [kA 69 #[(vI .i64 a0_0),(vB a0_1),(vB a0_2),(Sl3.v a0_3),(vI .i64 a0_4),(Sl3.v a0_5),(vS a0_6),(vI .i64 a0_7),(vI .i64 a0_8),(vI .i64 a0_9),(vS a0_10),(Sl3.v a0_11),(Sl3.v a0_12),(Sl3.v a0_13),(Sl3.v a0_14)],kA 68 #[(vI .i64 a0_0),(vB a0_1),(vB a0_2),(Sl3.v a0_3),(vI .i64 a0_4),(Sl3.v a0_5),(vS a0_6),(vI .i64 a0_7),(vI .i64 a0_8),(vI .i64 a0_9),(vS a0_10),(Sl3.v a0_11),(Sl3.v a0_12),(Sl3.v a0_13),(Sl3.v a0_14)],kB 67 true,kB 66 true,kB 65 true,kB 64 false,kU 63,kU 62,kB 61 false,kB 60 false,kU 59,kU 58] ?_);obtain ⟨⟨x32,H33⟩,hx,h⟩:=bind_some h;try dsimp only at h
         refine RS.cl (some 70) (v:=(vI .i64 x32)) 4 _ (T1 hx) (g0 3 [kB 6 (decide (x32=0)),kB 72 (decide (x32=0)),kB 71 (decide (x32=0))] (u0 (m0 (C0 ?_))));cases h;exact fun a w hs=>rtR (rS hs)
      ·refine F0 48 false (decide_eq_false hp) (g0 9 [kB 57 (decide (x1<0)),kB 56 (decide (x1<0)),kI 55 x1,kB 54 true,kB 53 true,kB 52 true,kB 51 false,kU 50,kU 49] ?_);rcases J1 h with ⟨hp,h⟩ | ⟨hp,h⟩
       ·refine F0 57 true (decide_eq_true hp) (g0 4 [kB 61 (decide (x3≤0)),kB 60 (decide (x3≤0)),kB 59 (decide (x3≤0)),kI 58 x3] ?_);rcases J1 h with ⟨hp,h⟩ | ⟨hp,h⟩
        ·refine F0 61 true (decide_eq_true hp) (g0 6 [kB 67 (!decide (x5≥0)),kB 66 (!decide (x5≥0)),kB 65 (!decide (x5≥0)),kB 64 (decide (x5≥0)),kB 63 (decide (x5≥0)),kI 62 x5] ?_);rcases J1 h with ⟨hp,h⟩ | ⟨hp,h⟩
         ·refine F0 67 false (C2 hp) (g0 6 [kB 6 false,kB 72 false,kU 71,kU 70,kU 69,kU 68] (u0 (m0 (C0 ?_))));cases h;exact fun a w hs=>rtR (rS hs)
         ·refine F0 67 true (A2 hp) (g0 2 [kA 69 #[(vI .i64 a0_0),(vB a0_1),(vB a0_2),(Sl3.v a0_3),(vI .i64 a0_4),(Sl3.v a0_5),(vS a0_6),(vI .i64 a0_7),(vI .i64 a0_8),(vI .i64 a0_9),(vS a0_10),(Sl3.v a0_11),(Sl3.v a0_12),(Sl3.v a0_13),(Sl3.v a0_14)],kA 68 #[(vI .i64 a0_0),(vB a0_1),(vB a0_2),(Sl3.v a0_3),(vI .i64 a0_4),(Sl3.v a0_5),(vS a0_6),(vI .i64 a0_7),(vI .i64 a0_8),(vI .i64 a0_9),(vS a0_10),(Sl3.v a0_11),(Sl3.v a0_12),(Sl3.v a0_13),(Sl3.v a0_14)]] ?_);obtain ⟨⟨x34,H35⟩,hx,h⟩:=bind_some h;try dsimp only at h
          refine RS.cl (some 70) (v:=(vI .i64 x34)) 4 _ (T1 hx) (g0 3 [kB 6 (decide (x34=0)),kB 72 (decide (x34=0)),kB 71 (decide (x34=0))] (u0 (m0 (C0 ?_))));cases h;exact fun a w hs=>rtR (rS hs)
        ·refine F0 61 false (decide_eq_false hp) (g0 8 [kA 69 #[(vI .i64 a0_0),(vB a0_1),(vB a0_2),(Sl3.v a0_3),(vI .i64 a0_4),(Sl3.v a0_5),(vS a0_6),(vI .i64 a0_7),(vI .i64 a0_8),(vI .i64 a0_9),(vS a0_10),(Sl3.v a0_11),(Sl3.v a0_12),(Sl3.v a0_13),(Sl3.v a0_14)],kA 68 #[(vI .i64 a0_0),(vB a0_1),(vB a0_2),(Sl3.v a0_3),(vI .i64 a0_4),(Sl3.v a0_5),(vS a0_6),(vI .i64 a0_7),(vI .i64 a0_8),(vI .i64 a0_9),(vS a0_10),(Sl3.v a0_11),(Sl3.v a0_12),(Sl3.v a0_13),(Sl3.v a0_14)],kB 67 true,kB 66 true,kB 65 true,kB 64 false,kU 63,kU 62] ?_);obtain ⟨⟨x36,H37⟩,hx,h⟩:=bind_some h;try dsimp only at h
         refine RS.cl (some 70) (v:=(vI .i64 x36)) 4 _ (T1 hx) (g0 3 [kB 6 (decide (x36=0)),kB 72 (decide (x36=0)),kB 71 (decide (x36=0))] (u0 (m0 (C0 ?_))));cases h;exact fun a w hs=>rtR (rS hs)
       ·refine F0 57 false (decide_eq_false hp) (g0 12 [kA 69 #[(vI .i64 a0_0),(vB a0_1),(vB a0_2),(Sl3.v a0_3),(vI .i64 a0_4),(Sl3.v a0_5),(vS a0_6),(vI .i64 a0_7),(vI .i64 a0_8),(vI .i64 a0_9),(vS a0_10),(Sl3.v a0_11),(Sl3.v a0_12),(Sl3.v a0_13),(Sl3.v a0_14)],kA 68 #[(vI .i64 a0_0),(vB a0_1),(vB a0_2),(Sl3.v a0_3),(vI .i64 a0_4),(Sl3.v a0_5),(vS a0_6),(vI .i64 a0_7),(vI .i64 a0_8),(vI .i64 a0_9),(vS a0_10),(Sl3.v a0_11),(Sl3.v a0_12),(Sl3.v a0_13),(Sl3.v a0_14)],kB 67 true,kB 66 true,kB 65 true,kB 64 false,kU 63,kU 62,kB 61 false,kB 60 false,kU 59,kU 58] ?_);obtain ⟨⟨x38,H39⟩,hx,h⟩:=bind_some h;try dsimp only at h
        refine RS.cl (some 70) (v:=(vI .i64 x38)) 4 _ (T1 hx) (g0 3 [kB 6 (decide (x38=0)),kB 72 (decide (x38=0)),kB 71 (decide (x38=0))] (u0 (m0 (C0 ?_))));cases h;exact fun a w hs=>rtR (rS hs)
     ·refine F0 44 false (decide_eq_false hp) (g0 13 [kB 57 (decide (x1<0)),kB 56 (decide (x1<0)),kI 55 x1,kB 54 true,kB 53 true,kB 52 true,kB 51 false,kU 50,kU 49,kB 48 false,kB 47 false,kU 46,kU 45] ?_);rcases J1 h with ⟨hp,h⟩ | ⟨hp,h⟩
      ·refine F0 57 true (decide_eq_true hp) (g0 4 [kB 61 (decide (x3≤0)),kB 60 (decide (x3≤0)),kB 59 (decide (x3≤0)),kI 58 x3] ?_);rcases J1 h with ⟨hp,h⟩ | ⟨hp,h⟩
       ·refine F0 61 true (decide_eq_true hp) (g0 6 [kB 67 (!decide (x5≥0)),kB 66 (!decide (x5≥0)),kB 65 (!decide (x5≥0)),kB 64 (decide (x5≥0)),kB 63 (decide (x5≥0)),kI 62 x5] ?_);rcases J1 h with ⟨hp,h⟩ | ⟨hp,h⟩
        ·refine F0 67 false (C2 hp) (g0 6 [kB 6 false,kB 72 false,kU 71,kU 70,kU 69,kU 68] (u0 (m0 (C0 ?_))));cases h;exact fun a w hs=>rtR (rS hs)
        ·refine F0 67 true (A2 hp) (g0 2 [kA 69 #[(vI .i64 a0_0),(vB a0_1),(vB a0_2),(Sl3.v a0_3),(vI .i64 a0_4),(Sl3.v a0_5),(vS a0_6),(vI .i64 a0_7),(vI .i64 a0_8),(vI .i64 a0_9),(vS a0_10),(Sl3.v a0_11),(Sl3.v a0_12),(Sl3.v a0_13),(Sl3.v a0_14)],kA 68 #[(vI .i64 a0_0),(vB a0_1),(vB a0_2),(Sl3.v a0_3),(vI .i64 a0_4),(Sl3.v a0_5),(vS a0_6),(vI .i64 a0_7),(vI .i64 a0_8),(vI .i64 a0_9),(vS a0_10),(Sl3.v a0_11),(Sl3.v a0_12),(Sl3.v a0_13),(Sl3.v a0_14)]] ?_);obtain ⟨⟨x40,H41⟩,hx,h⟩:=bind_some h;try dsimp only at h
         refine RS.cl (some 70) (v:=(vI .i64 x40)) 4 _ (T1 hx) (g0 3 [kB 6 (decide (x40=0)),kB 72 (decide (x40=0)),kB 71 (decide (x40=0))] (u0 (m0 (C0 ?_))));cases h;exact fun a w hs=>rtR (rS hs)
       ·refine F0 61 false (decide_eq_false hp) (g0 8 [kA 69 #[(vI .i64 a0_0),(vB a0_1),(vB a0_2),(Sl3.v a0_3),(vI .i64 a0_4),(Sl3.v a0_5),(vS a0_6),(vI .i64 a0_7),(vI .i64 a0_8),(vI .i64 a0_9),(vS a0_10),(Sl3.v a0_11),(Sl3.v a0_12),(Sl3.v a0_13),(Sl3.v a0_14)],kA 68 #[(vI .i64 a0_0),(vB a0_1),(vB a0_2),(Sl3.v a0_3),(vI .i64 a0_4),(Sl3.v a0_5),(vS a0_6),(vI .i64 a0_7),(vI .i64 a0_8),(vI .i64 a0_9),(vS a0_10),(Sl3.v a0_11),(Sl3.v a0_12),(Sl3.v a0_13),(Sl3.v a0_14)],kB 67 true,kB 66 true,kB 65 true,kB 64 false,kU 63,kU 62] ?_);obtain ⟨⟨x42,H43⟩,hx,h⟩:=bind_some h;try dsimp only at h
        refine RS.cl (some 70) (v:=(vI .i64 x42)) 4 _ (T1 hx) (g0 3 [kB 6 (decide (x42=0)),kB 72 (decide (x42=0)),kB 71 (decide (x42=0))] (u0 (m0 (C0 ?_))));cases h;exact fun a w hs=>rtR (rS hs)
      ·refine F0 57 false (decide_eq_false hp) (g0 12 [kA 69 #[(vI .i64 a0_0),(vB a0_1),(vB a0_2),(Sl3.v a0_3),(vI .i64 a0_4),(Sl3.v a0_5),(vS a0_6),(vI .i64 a0_7),(vI .i64 a0_8),(vI .i64 a0_9),(vS a0_10),(Sl3.v a0_11),(Sl3.v a0_12),(Sl3.v a0_13),(Sl3.v a0_14)],kA 68 #[(vI .i64 a0_0),(vB a0_1),(vB a0_2),(Sl3.v a0_3),(vI .i64 a0_4),(Sl3.v a0_5),(vS a0_6),(vI .i64 a0_7),(vI .i64 a0_8),(vI .i64 a0_9),(vS a0_10),(Sl3.v a0_11),(Sl3.v a0_12),(Sl3.v a0_13),(Sl3.v a0_14)],kB 67 true,kB 66 true,kB 65 true,kB 64 false,kU 63,kU 62,kB 61 false,kB 60 false,kU 59,kU 58] ?_);obtain ⟨⟨x44,H45⟩,hx,h⟩:=bind_some h;try dsimp only at h
       refine RS.cl (some 70) (v:=(vI .i64 x44)) 4 _ (T1 hx) (g0 3 [kB 6 (decide (x44=0)),kB 72 (decide (x44=0)),kB 71 (decide (x44=0))] (u0 (m0 (C0 ?_))));cases h;exact fun a w hs=>rtR (rS hs)
   ·refine F0 31 false (decide_eq_false hp) (g0 13 [kB 44 (decide (x1≥0)),kB 43 (decide (x1≥0)),kI 42 x1,kB 41 true,kB 40 true,kB 39 true,kB 38 false,kU 37,kU 36,kB 35 false,kB 34 false,kU 33,kU 32] ?_);rcases J1 h with ⟨hp,h⟩ | ⟨hp,h⟩
    ·refine F0 44 true (decide_eq_true hp) (g0 4 [kB 48 (decide (x3≥0)),kB 47 (decide (x3≥0)),kB 46 (decide (x3≥0)),kI 45 x3] ?_);rcases J1 h with ⟨hp,h⟩ | ⟨hp,h⟩
     ·refine F0 48 true (decide_eq_true hp) (g0 6 [kB 54 (!decide (x5<0)),kB 53 (!decide (x5<0)),kB 52 (!decide (x5<0)),kB 51 (decide (x5<0)),kB 50 (decide (x5<0)),kI 49 x5] ?_);rcases J1 h with ⟨hp,h⟩ | ⟨hp,h⟩
      ·refine F0 54 false (C2 hp) (g0 19 [kB 6 false,kB 72 false,kU 71,kU 70,kU 69,kU 68,kB 67 false,kB 66 false,kU 65,kU 64,kU 63,kU 62,kU 61,kU 60,kU 59,kU 58,kU 57,kU 56,kU 55] (u0 (m0 (C0 ?_))));cases h;exact fun a w hs=>rtR (rS hs)
      ·refine F0 54 true (A2 hp) (g0 3 [kB 57 (decide (x1<0)),kB 56 (decide (x1<0)),kI 55 x1] ?_);rcases J1 h with ⟨hp,h⟩ | ⟨hp,h⟩
       ·refine F0 57 true (decide_eq_true hp) (g0 4 [kB 61 (decide (x3≤0)),kB 60 (decide (x3≤0)),kB 59 (decide (x3≤0)),kI 58 x3] ?_);rcases J1 h with ⟨hp,h⟩ | ⟨hp,h⟩
        ·refine F0 61 true (decide_eq_true hp) (g0 6 [kB 67 (!decide (x5≥0)),kB 66 (!decide (x5≥0)),kB 65 (!decide (x5≥0)),kB 64 (decide (x5≥0)),kB 63 (decide (x5≥0)),kI 62 x5] ?_);rcases J1 h with ⟨hp,h⟩ | ⟨hp,h⟩
         ·refine F0 67 false (C2 hp) (g0 6 [kB 6 false,kB 72 false,kU 71,kU 70,kU 69,kU 68] (u0 (m0 (C0 ?_))));cases h;exact fun a w hs=>rtR (rS hs)
         ·refine F0 67 true (A2 hp) (g0 2 [kA 69 #[(vI .i64 a0_0),(vB a0_1),(vB a0_2),(Sl3.v a0_3),(vI .i64 a0_4),(Sl3.v a0_5),(vS a0_6),(vI .i64 a0_7),(vI .i64 a0_8),(vI .i64 a0_9),(vS a0_10),(Sl3.v a0_11),(Sl3.v a0_12),(Sl3.v a0_13),(Sl3.v a0_14)],kA 68 #[(vI .i64 a0_0),(vB a0_1),(vB a0_2),(Sl3.v a0_3),(vI .i64 a0_4),(Sl3.v a0_5),(vS a0_6),(vI .i64 a0_7),(vI .i64 a0_8),(vI .i64 a0_9),(vS a0_10),(Sl3.v a0_11),(Sl3.v a0_12),(Sl3.v a0_13),(Sl3.v a0_14)]] ?_);obtain ⟨⟨x46,H47⟩,hx,h⟩:=bind_some h;try dsimp only at h
          refine RS.cl (some 70) (v:=(vI .i64 x46)) 4 _ (T1 hx) (g0 3 [kB 6 (decide (x46=0)),kB 72 (decide (x46=0)),kB 71 (decide (x46=0))] (u0 (m0 (C0 ?_))));cases h;exact fun a w hs=>rtR (rS hs)
        ·refine F0 61 false (decide_eq_false hp) (g0 8 [kA 69 #[(vI .i64 a0_0),(vB a0_1),(vB a0_2),(Sl3.v a0_3),(vI .i64 a0_4),(Sl3.v a0_5),(vS a0_6),(vI .i64 a0_7),(vI .i64 a0_8),(vI .i64 a0_9),(vS a0_10),(Sl3.v a0_11),(Sl3.v a0_12),(Sl3.v a0_13),(Sl3.v a0_14)],kA 68 #[(vI .i64 a0_0),(vB a0_1),(vB a0_2),(Sl3.v a0_3),(vI .i64 a0_4),(Sl3.v a0_5),(vS a0_6),(vI .i64 a0_7),(vI .i64 a0_8),(vI .i64 a0_9),(vS a0_10),(Sl3.v a0_11),(Sl3.v a0_12),(Sl3.v a0_13),(Sl3.v a0_14)],kB 67 true,kB 66 true,kB 65 true,kB 64 false,kU 63,kU 62] ?_);obtain ⟨⟨x48,H49⟩,hx,h⟩:=bind_some h;try dsimp only at h
         refine RS.cl (some 70) (v:=(vI .i64 x48)) 4 _ (T1 hx) (g0 3 [kB 6 (decide (x48=0)),kB 72 (decide (x48=0)),kB 71 (decide (x48=0))] (u0 (m0 (C0 ?_))));cases h;exact fun a w hs=>rtR (rS hs)
       ·refine F0 57 false (decide_eq_false hp) (g0 12 [kA 69 #[(vI .i64 a0_0),(vB a0_1),(vB a0_2),(Sl3.v a0_3),(vI .i64 a0_4),(Sl3.v a0_5),(vS a0_6),(vI .i64 a0_7),(vI .i64 a0_8),(vI .i64 a0_9),(vS a0_10),(Sl3.v a0_11),(Sl3.v a0_12),(Sl3.v a0_13),(Sl3.v a0_14)],kA 68 #[(vI .i64 a0_0),(vB a0_1),(vB a0_2),(Sl3.v a0_3),(vI .i64 a0_4),(Sl3.v a0_5),(vS a0_6),(vI .i64 a0_7),(vI .i64 a0_8),(vI .i64 a0_9),(vS a0_10),(Sl3.v a0_11),(Sl3.v a0_12),(Sl3.v a0_13),(Sl3.v a0_14)],kB 67 true,kB 66 true,kB 65 true,kB 64 false,kU 63,kU 62,kB 61 false,kB 60 false,kU 59,kU 58] ?_);obtain ⟨⟨x50,H51⟩,hx,h⟩:=bind_some h;try dsimp only at h
        refine RS.cl (some 70) (v:=(vI .i64 x50)) 4 _ (T1 hx) (g0 3 [kB 6 (decide (x50=0)),kB 72 (decide (x50=0)),kB 71 (decide (x50=0))] (u0 (m0 (C0 ?_))));cases h;exact fun a w hs=>rtR (rS hs)
     ·refine F0 48 false (decide_eq_false hp) (g0 9 [kB 57 (decide (x1<0)),kB 56 (decide (x1<0)),kI 55 x1,kB 54 true,kB 53 true,kB 52 true,kB 51 false,kU 50,kU 49] ?_);rcases J1 h with ⟨hp,h⟩ | ⟨hp,h⟩
      ·refine F0 57 true (decide_eq_true hp) (g0 4 [kB 61 (decide (x3≤0)),kB 60 (decide (x3≤0)),kB 59 (decide (x3≤0)),kI 58 x3] ?_);rcases J1 h with ⟨hp,h⟩ | ⟨hp,h⟩
       ·refine F0 61 true (decide_eq_true hp) (g0 6 [kB 67 (!decide (x5≥0)),kB 66 (!decide (x5≥0)),kB 65 (!decide (x5≥0)),kB 64 (decide (x5≥0)),kB 63 (decide (x5≥0)),kI 62 x5] ?_);rcases J1 h with ⟨hp,h⟩ | ⟨hp,h⟩
        ·refine F0 67 false (C2 hp) (g0 6 [kB 6 false,kB 72 false,kU 71,kU 70,kU 69,kU 68] (u0 (m0 (C0 ?_))));cases h;exact fun a w hs=>rtR (rS hs)
        ·refine F0 67 true (A2 hp) (g0 2 [kA 69 #[(vI .i64 a0_0),(vB a0_1),(vB a0_2),(Sl3.v a0_3),(vI .i64 a0_4),(Sl3.v a0_5),(vS a0_6),(vI .i64 a0_7),(vI .i64 a0_8),(vI .i64 a0_9),(vS a0_10),(Sl3.v a0_11),(Sl3.v a0_12),(Sl3.v a0_13),(Sl3.v a0_14)],kA 68 #[(vI .i64 a0_0),(vB a0_1),(vB a0_2),(Sl3.v a0_3),(vI .i64 a0_4),(Sl3.v a0_5),(vS a0_6),(vI .i64 a0_7),(vI .i64 a0_8),(vI .i64 a0_9),(vS a0_10),(Sl3.v a0_11),(Sl3.v a0_12),(Sl3.v a0_13),(Sl3.v a0_14)]] ?_);obtain ⟨⟨x52,H53⟩,hx,h⟩:=bind_some h;try dsimp only at h
         refine RS.cl (some 70) (v:=(vI .i64 x52)) 4 _ (T1 hx) (g0 3 [kB 6 (decide (x52=0)),kB 72 (decide (x52=0)),kB 71 (decide (x52=0))] (u0 (m0 (C0 ?_))));cases h;exact fun a w hs=>rtR (rS hs)
       ·refine F0 61 false (decide_eq_false hp) (g0 8 [kA 69 #[(vI .i64 a0_0),(vB a0_1),(vB a0_2),(Sl3.v a0_3),(vI .i64 a0_4),(Sl3.v a0_5),(vS a0_6),(vI .i64 a0_7),(vI .i64 a0_8),(vI .i64 a0_9),(vS a0_10),(Sl3.v a0_11),(Sl3.v a0_12),(Sl3.v a0_13),(Sl3.v a0_14)],kA 68 #[(vI .i64 a0_0),(vB a0_1),(vB a0_2),(Sl3.v a0_3),(vI .i64 a0_4),(Sl3.v a0_5),(vS a0_6),(vI .i64 a0_7),(vI .i64 a0_8),(vI .i64 a0_9),(vS a0_10),(Sl3.v a0_11),(Sl3.v a0_12),(Sl3.v a0_13),(Sl3.v a0_14)],kB 67 true,kB 66 true,kB 65 true,kB 64 false,kU 63,kU 62] ?_);obtain ⟨⟨x54,H55⟩,hx,h⟩:=bind_some h;try dsimp only at h
        refine RS.cl (some 70) (v:=(vI .i64 x54)) 4 _ (T1 hx) (g0 3 [kB 6 (decide (x54=0)),kB 72 (decide (x54=0)),kB 71 (decide (x54=0))] (u0 (m0 (C0 ?_))));cases h;exact fun a w hs=>rtR (rS hs)
      ·refine F0 57 false (decide_eq_false hp) (g0 12 [kA 69 #[(vI .i64 a0_0),(vB a0_1),(vB a0_2),(Sl3.v a0_3),(vI .i64 a0_4),(Sl3.v a0_5),(vS a0_6),(vI .i64 a0_7),(vI .i64 a0_8),(vI .i64 a0_9),(vS a0_10),(Sl3.v a0_11),(Sl3.v a0_12),(Sl3.v a0_13),(Sl3.v a0_14)],kA 68 #[(vI .i64 a0_0),(vB a0_1),(vB a0_2),(Sl3.v a0_3),(vI .i64 a0_4),(Sl3.v a0_5),(vS a0_6),(vI .i64 a0_7),(vI .i64 a0_8),(vI .i64 a0_9),(vS a0_10),(Sl3.v a0_11),(Sl3.v a0_12),(Sl3.v a0_13),(Sl3.v a0_14)],kB 67 true,kB 66 true,kB 65 true,kB 64 false,kU 63,kU 62,kB 61 false,kB 60 false,kU 59,kU 58] ?_);obtain ⟨⟨x56,H57⟩,hx,h⟩:=bind_some h;try dsimp only at h
       refine RS.cl (some 70) (v:=(vI .i64 x56)) 4 _ (T1 hx) (g0 3 [kB 6 (decide (x56=0)),kB 72 (decide (x56=0)),kB 71 (decide (x56=0))] (u0 (m0 (C0 ?_))));cases h;exact fun a w hs=>rtR (rS hs)
    ·refine F0 44 false (decide_eq_false hp) (g0 13 [kB 57 (decide (x1<0)),kB 56 (decide (x1<0)),kI 55 x1,kB 54 true,kB 53 true,kB 52 true,kB 51 false,kU 50,kU 49,kB 48 false,kB 47 false,kU 46,kU 45] ?_);rcases J1 h with ⟨hp,h⟩ | ⟨hp,h⟩
     ·refine F0 57 true (decide_eq_true hp) (g0 4 [kB 61 (decide (x3≤0)),kB 60 (decide (x3≤0)),kB 59 (decide (x3≤0)),kI 58 x3] ?_);rcases J1 h with ⟨hp,h⟩ | ⟨hp,h⟩
      ·refine F0 61 true (decide_eq_true hp) (g0 6 [kB 67 (!decide (x5≥0)),kB 66 (!decide (x5≥0)),kB 65 (!decide (x5≥0)),kB 64 (decide (x5≥0)),kB 63 (decide (x5≥0)),kI 62 x5] ?_);rcases J1 h with ⟨hp,h⟩ | ⟨hp,h⟩
       ·refine F0 67 false (C2 hp) (g0 6 [kB 6 false,kB 72 false,kU 71,kU 70,kU 69,kU 68] (u0 (m0 (C0 ?_))));cases h;exact fun a w hs=>rtR (rS hs)
       ·refine F0 67 true (A2 hp) (g0 2 [kA 69 #[(vI .i64 a0_0),(vB a0_1),(vB a0_2),(Sl3.v a0_3),(vI .i64 a0_4),(Sl3.v a0_5),(vS a0_6),(vI .i64 a0_7),(vI .i64 a0_8),(vI .i64 a0_9),(vS a0_10),(Sl3.v a0_11),(Sl3.v a0_12),(Sl3.v a0_13),(Sl3.v a0_14)],kA 68 #[(vI .i64 a0_0),(vB a0_1),(vB a0_2),(Sl3.v a0_3),(vI .i64 a0_4),(Sl3.v a0_5),(vS a0_6),(vI .i64 a0_7),(vI .i64 a0_8),(vI .i64 a0_9),(vS a0_10),(Sl3.v a0_11),(Sl3.v a0_12),(Sl3.v a0_13),(Sl3.v a0_14)]] ?_);obtain ⟨⟨x58,H59⟩,hx,h⟩:=bind_some h;try dsimp only at h
        refine RS.cl (some 70) (v:=(vI .i64 x58)) 4 _ (T1 hx) (g0 3 [kB 6 (decide (x58=0)),kB 72 (decide (x58=0)),kB 71 (decide (x58=0))] (u0 (m0 (C0 ?_))));cases h;exact fun a w hs=>rtR (rS hs)
      ·refine F0 61 false (decide_eq_false hp) (g0 8 [kA 69 #[(vI .i64 a0_0),(vB a0_1),(vB a0_2),(Sl3.v a0_3),(vI .i64 a0_4),(Sl3.v a0_5),(vS a0_6),(vI .i64 a0_7),(vI .i64 a0_8),(vI .i64 a0_9),(vS a0_10),(Sl3.v a0_11),(Sl3.v a0_12),(Sl3.v a0_13),(Sl3.v a0_14)],kA 68 #[(vI .i64 a0_0),(vB a0_1),(vB a0_2),(Sl3.v a0_3),(vI .i64 a0_4),(Sl3.v a0_5),(vS a0_6),(vI .i64 a0_7),(vI .i64 a0_8),(vI .i64 a0_9),(vS a0_10),(Sl3.v a0_11),(Sl3.v a0_12),(Sl3.v a0_13),(Sl3.v a0_14)],kB 67 true,kB 66 true,kB 65 true,kB 64 false,kU 63,kU 62] ?_);obtain ⟨⟨x60,H61⟩,hx,h⟩:=bind_some h;try dsimp only at h
       refine RS.cl (some 70) (v:=(vI .i64 x60)) 4 _ (T1 hx) (g0 3 [kB 6 (decide (x60=0)),kB 72 (decide (x60=0)),kB 71 (decide (x60=0))] (u0 (m0 (C0 ?_))));cases h;exact fun a w hs=>rtR (rS hs)
     ·refine F0 57 false (decide_eq_false hp) (g0 12 [kA 69 #[(vI .i64 a0_0),(vB a0_1),(vB a0_2),(Sl3.v a0_3),(vI .i64 a0_4),(Sl3.v a0_5),(vS a0_6),(vI .i64 a0_7),(vI .i64 a0_8),(vI .i64 a0_9),(vS a0_10),(Sl3.v a0_11),(Sl3.v a0_12),(Sl3.v a0_13),(Sl3.v a0_14)],kA 68 #[(vI .i64 a0_0),(vB a0_1),(vB a0_2),(Sl3.v a0_3),(vI .i64 a0_4),(Sl3.v a0_5),(vS a0_6),(vI .i64 a0_7),(vI .i64 a0_8),(vI .i64 a0_9),(vS a0_10),(Sl3.v a0_11),(Sl3.v a0_12),(Sl3.v a0_13),(Sl3.v a0_14)],kB 67 true,kB 66 true,kB 65 true,kB 64 false,kU 63,kU 62,kB 61 false,kB 60 false,kU 59,kU 58] ?_);obtain ⟨⟨x62,H63⟩,hx,h⟩:=bind_some h;try dsimp only at h
      refine RS.cl (some 70) (v:=(vI .i64 x62)) 4 _ (T1 hx) (g0 3 [kB 6 (decide (x62=0)),kB 72 (decide (x62=0)),kB 71 (decide (x62=0))] (u0 (m0 (C0 ?_))));cases h;exact fun a w hs=>rtR (rS hs)
  ·refine F0 28 false (decide_eq_false hp) (g0 45 [kB 6 false,kB 72 false,kU 71,kU 70,kU 69,kU 68,kB 67 false,kB 66 false,kU 65,kU 64,kU 63,kU 62,kU 61,kU 60,kU 59,kU 58,kU 57,kU 56,kU 55,kB 54 false,kB 53 false,kU 52,kU 51,kU 50,kU 49,kU 48,kU 47,kU 46,kU 45,kU 44,kU 43,kU 42,kB 41 false,kB 40 false,kU 39,kU 38,kU 37,kU 36,kU 35,kU 34,kU 33,kU 32,kU 31,kU 30,kU 29] (u0 (m0 (C0 ?_))));cases h;exact fun a w hs=>rtR (rS hs)
 ·refine F0 20 false (b_not hp) (g0 53 [kB 6 false,kB 72 false,kU 71,kU 70,kU 69,kU 68,kB 67 false,kB 66 false,kU 65,kU 64,kU 63,kU 62,kU 61,kU 60,kU 59,kU 58,kU 57,kU 56,kU 55,kB 54 false,kB 53 false,kU 52,kU 51,kU 50,kU 49,kU 48,kU 47,kU 46,kU 45,kU 44,kU 43,kU 42,kB 41 false,kB 40 false,kU 39,kU 38,kU 37,kU 36,kU 35,kU 34,kU 33,kU 32,kU 31,kU 30,kU 29,kB 28 false,kB 27 false,kU 26,kU 25,kU 24,kU 23,kU 22,kU 21] (u0 (m0 (C0 ?_))));cases h;exact fun a w hs=>rtR (rS hs)
theorem ziy (k:Nat) (a b d:Vl) (ka:3*a.row.dep≤k) (kb:3*b.row.dep≤k) (m:Nat) {H:AH} (hT:HasT H) {xa xb xd:Sv} (va:VlA H a.l a.a a.r a.e xa) (vb:VlA H b.l b.a b.r b.e xb) (vd:VlA H d.l d.a d.r d.e xd) :
  ∃H',O7 (LCo k) m H a.l.k a.l.b a.l.ng xa.m a.l.w xa.v a.l.nm a.l.ix xa.k xa.w xa.n xa.z xa.a xa.r xa.e b.l.k b.l.b b.l.ng xb.m b.l.w xb.v b.l.nm b.l.ix xb.k xb.w xb.n xb.z xb.a xb.r xb.e d.l.k d.l.b d.l.ng xd.m d.l.w xd.v d.l.nm d.l.ix xd.k xd.w xd.n xd.z xd.a xd.r xd.e=some (true,H'):=by
 obtain ⟨H1,c1,e1⟩:=z49 k a ka (Nat.max m H.next) va vb;obtain ⟨H2,c2,e2⟩:=z49 k b kb (Nat.max m H1.next) (vb.ext c1) (vd.ext c1);have c12:=c1.trans c2;obtain ⟨H3,c3,e3⟩:=z49 k a ka m (va.ext c12) (vd.ext c12);have c13:=c12.trans c3;have aw:=ziw (LCo k) (hT.ext c13);obtain ⟨H4,c4,e4⟩:=z49 k b kb m (vb.ext c13) (va.ext c13);have c14:=c13.trans c4;obtain ⟨H5,c5,e5⟩:=z49 k a ka m (va.ext c14) (va.ext c14);refine ⟨H5,?_⟩;have ok:=ln_val.ok a b d;have x1:=ln_val.lo a b;have y1:=ln_val.lo b d;have z1:=ln_val.lo a d;have hw:valC b a=IntKind.i64.wrap (0 - valC a b):=by rw [z58 (by omega) (by omega),ln_val.anti a b]; omega
 rw [ln_val.refl] at e5;unfold O7;simp only [e1,e2,e3,aw,e4,e5,Option.bind_some,if_true,if_pos hw];generalize valC a b=x at ok x1 ⊢;generalize valC b d=y at ok y1 ⊢;generalize valC a d=z at ok z1 ⊢;obtain ⟨le,ge,g1,g2,g3,g4⟩:=ok;have hx:x=-1∨x=0∨x=1:=by omega
 have hy:y=-1∨y=0∨y=1:=by omega
 have hz:z=-1∨z=0∨z=1:=by omega
 clear e1 e2 e3 e4 e5 x1 y1 z1 hw va vb vd;rcases hx with rfl | rfl | rfl <;> rcases hy with rfl | rfl | rfl <;> rcases hz with rfl | rfl | rfl <;> first | (exfalso; omega) | rfl | simp
end Go.Proofs.YtiickgadpbifbaaGreatDoor
namespace Go.Proofs.YtiickgadpbifbaaGreatDoor
open Go Go.Abs Go.ChangeShapes Go.WideShapes
set_option maxRecDepth 100000
theorem zhz {H:Type} {enc:TypeId×Value→H} {W:World} {base:Nat} {args:Array Value} {ds:List (DataW H)} {ps:List MemPlace} (hg:Tryz.prog.globals.size≤W.heap.size)
  (hval:∀(j:Nat) t v,Tryz.f3.params[j]? = some t→args[j]? = some v→Value.okWide Tryz.prog W .any base t v)
  (hA:DataW.TrodAll enc Tryz.prog W 0 (fun _=>true) true Tryz.f3.params.toList args.toList ds ps) (hL:laidMet Tryz.prog Rows.valueLineUptoRow.laid W) (hsh:W.ShapedOpen Tryz.prog)
  (hwt:(DataW.weightsEach Tryz.prog (Tryz.f3.params.toList++[]) ds).all (·≤reachBytes)=true) :
  Calls Tryz.prog 3 args W fun e W'=>e=.returned (.bool true)∧RowKit.Below W.heap.size W W':=by
 rw [Tryz.params3] at hA hval hwt;obtain ⟨v0,vs0,d0,ds0,p0,q0,hargs,rfl,rfl,h0,r0⟩:=trodAll_cons hA;obtain ⟨v1,vs1,d1,ds1,p1,q1,rfl,rfl,rfl,h1,r1⟩:=trodAll_cons r0;obtain ⟨v2,vs2,d2,ds2,p2,q2,rfl,rfl,rfl,h2,r2⟩:=trodAll_cons r1;obtain ⟨rfl,rfl,rfl⟩:=trodAll_nil r2;obtain rfl:args=#[v0,v1,v2]:=by cases args; simp_all
 simp only [List.append_nil,DataW.weightsEach,List.all_append,Bool.and_eq_true] at hwt;obtain ⟨φ0,H0x,b0,x0,i0,le0,e0,vr0,va0⟩:=z74 (zk4 hg hL hsh) h0 (hval 0 36 v0 rfl rfl) hwt.1;obtain ⟨φ1,H1x,b1,x1,i1,le1,e1,vr1,va1⟩:=z74 i0 h1 (hval 1 36 v1 rfl rfl) hwt.2.1;obtain ⟨φ2,H2x,b2,x2,i2,le2,e2,vr2,va2⟩:=z74 i1 h2 (hval 2 36 v2 rfl rfl) hwt.2.2;obtain ⟨H',hr⟩:=ziy (3*(b0.row.dep+b1.row.dep)) b0 b1 b2 (by omega) (by omega) H2x.next (zhj.ext ((e0.trans e1).trans e2)) (va0.ext (e1.trans e2)) (va1.ext e2) va2;exact zdn (ne:=NE.plain 99) sane (z8j hr) i2 (ar3 ((vr0.mono le1).mono le2) (vr1.mono le2) vr2)
theorem zgy (os:Os) {H:Type} (enc:TypeId×Value→H):∃x,DataW.whole enc Tryz.prog ((laidW2 Tryz.prog Rows.valueLineUptoRow.laid os).forCall (fun _ _=>0) ⟨#[],#[.agg #[.int .i64 0,.bool false,.bool false,.slice none 0 0,.int .i64 0,.slice none 0 0,.string ⟨#[]⟩,.int .i64 0,.int .i64 0,.int .i64 0,.string ⟨#[]⟩,.slice none 0 0,.slice none 0 0,.slice none 0 0,.slice none 0 0],.agg #[.int .i64 0,.bool false,.bool false,.slice none 0 0,.int .i64 0,.slice none 0 0,.string ⟨#[]⟩,.int .i64 0,.int .i64 0,.int .i64 0,.string ⟨#[]⟩,.slice none 0 0,.slice none 0 0,.slice none 0 0,.slice none 0 0],.agg #[.int .i64 0,.bool false,.bool false,.slice none 0 0,.int .i64 0,.slice none 0 0,.string ⟨#[]⟩,.int .i64 0,.int .i64 0,.int .i64 0,.string ⟨#[]⟩,.slice none 0 0,.slice none 0 0,.slice none 0 0,.slice none 0 0]],[]⟩).memory Tryz.f3.params.toList Rows.valueLineSpec.vars false (#[.agg #[.int .i64 0,.bool false,.bool false,.slice none 0 0,.int .i64 0,.slice none 0 0,.string ⟨#[]⟩,.int .i64 0,.int .i64 0,.int .i64 0,.string ⟨#[]⟩,.slice none 0 0,.slice none 0 0,.slice none 0 0,.slice none 0 0],.agg #[.int .i64 0,.bool false,.bool false,.slice none 0 0,.int .i64 0,.slice none 0 0,.string ⟨#[]⟩,.int .i64 0,.int .i64 0,.int .i64 0,.string ⟨#[]⟩,.slice none 0 0,.slice none 0 0,.slice none 0 0,.slice none 0 0],.agg #[.int .i64 0,.bool false,.bool false,.slice none 0 0,.int .i64 0,.slice none 0 0,.string ⟨#[]⟩,.int .i64 0,.int .i64 0,.int .i64 0,.string ⟨#[]⟩,.slice none 0 0,.slice none 0 0,.slice none 0 0,.slice none 0 0]]:Array Value).toList 8=some ([.agg [.lit (.int .i64 0),.lit (.bool false),.agg [.lit (.bool false),.nil],.agg [.lit (.int .i64 0),.nil],.lit (.string []),.lit (.int .i64 0),.agg [.lit (.int .i64 0),.lit (.int .i64 0),.lit (.string []),.nil],.nil,.nil,.nil],.agg [.lit (.int .i64 0),.lit (.bool false),.agg [.lit (.bool false),.nil],.agg [.lit (.int .i64 0),.nil],.lit (.string []),.lit (.int .i64 0),.agg [.lit (.int .i64 0),.lit (.int .i64 0),.lit (.string []),.nil],.nil,.nil,.nil],.agg [.lit (.int .i64 0),.lit (.bool false),.agg [.lit (.bool false),.nil],.agg [.lit (.int .i64 0),.nil],.lit (.string []),.lit (.int .i64 0),.agg [.lit (.int .i64 0),.lit (.int .i64 0),.lit (.string []),.nil],.nil,.nil,.nil]],[],x) :=
 ⟨[],by kernel_rfl⟩
theorem zfw (os:Os) (started:os.Started) (H:Type) (enc:TypeId×Value→H) (F:Stop.Interp) :
  ReturnsInHanded {} Tryz.checked os 3 .any ((Rows.OpenSpec.upto Rows.valueLineSpec).preRow enc Tryz.prog Tryz.f3 Rows.valueLineUptoRow.domain false Rows.valueLineUptoRow.laid) (((Rows.OpenSpec.upto Rows.valueLineSpec).at F).post enc Tryz.prog Tryz.f3 false true false false):=by
 obtain ⟨x,hx⟩:=zgy os enc;exact zbi (C:=Tryz.checked) (s:=Rows.OpenSpec.upto Rows.valueLineSpec) (k:=Rows.uptoSmall) rfl own started (by kernel_rfl) Tryz.func3 zhl laidOut (by kernel_rfl) rfl (by kernel_rfl)
  (fun ds hds=>by
   have h1:ds.length=3:=hds
   match ds,h1 with
   | [d0,d1,d2],_=>exact ⟨rfl,rfl,rfl⟩)
  rfl (by kernel_rfl)
  (witness_row_atRef (enc:=enc) (C:=Tryz.checked) false (laidW2 Tryz.prog Rows.valueLineUptoRow.laid os) #[.agg #[.int .i64 0,.bool false,.bool false,.slice none 0 0,.int .i64 0,.slice none 0 0,.string ⟨#[]⟩,.int .i64 0,.int .i64 0,.int .i64 0,.string ⟨#[]⟩,.slice none 0 0,.slice none 0 0,.slice none 0 0,.slice none 0 0],.agg #[.int .i64 0,.bool false,.bool false,.slice none 0 0,.int .i64 0,.slice none 0 0,.string ⟨#[]⟩,.int .i64 0,.int .i64 0,.int .i64 0,.string ⟨#[]⟩,.slice none 0 0,.slice none 0 0,.slice none 0 0,.slice none 0 0],.agg #[.int .i64 0,.bool false,.bool false,.slice none 0 0,.int .i64 0,.slice none 0 0,.string ⟨#[]⟩,.int .i64 0,.int .i64 0,.int .i64 0,.string ⟨#[]⟩,.slice none 0 0,.slice none 0 0,.slice none 0 0,.slice none 0 0]] rfl (by kernel_rfl) (by kernel_rfl) (by kernel_rfl)
   (OpenSpec.preRow_of_cond 8 hx (by kernel_rfl) (fun k hk=>by cases hk; kernel_rfl) (by kernel_rfl) (zju os _)))
  (fun W base args ds ps hg hval hA _ hL hsh hwt=>zhz hg hval hA hL hsh hwt)
theorem ziq:Rows.ValueLineUptoSaid :=
 OpenClaim.holds_of_cond 3 Tryz.f3 rfl rfl rfl rfl rfl rfl rfl ⟨rfl,rfl,rfl,rfl,rfl⟩ rfl rfl rfl rfl rfl (by kernel_rfl) Tryz.func3 (by kernel_rfl)
  (of_decide_eq_true (by kernel_rfl)) (by unfold Func.isWrapper; first | (rw [if_pos (by decide +kernel)]; kernel_rfl) | (rw [if_neg (by decide +kernel)]; exact ⟨rfl,rfl⟩))
  (fun os started H enc _ F=>by rw [OpenClaim.pre_eq_preRow]; exact zfw os started H enc F)
theorem zho (f:FuncId) (fn:Func) (hf:Tryz.pinned.checked.prog.funcNamed "tribunal/tribunallaw10.ValueLine"=some f) (hfn:Tryz.pinned.checked.prog.funcs[f]? = some fn) :
  true=Tryz.pinned.checked.prog.looks []∧∀(j:Nat) t,fn.params[j]? = some t→Tryz.pinned.checked.prog.wantsStandIn t=false:=by
 obtain rfl:f=3:=Option.some.inj ((show Tryz.prog.funcNamed "tribunal/tribunallaw10.ValueLine"=some 3 by kernel_rfl).symm.trans hf) |>.symm;obtain rfl:fn=Tryz.f3:=(Option.some.inj (Tryz.func3.symm.trans hfn)).symm;exact ⟨by kernel_rfl,fun j t ht=>by
  have hall:(Tryz.f3.params.toList.all fun u=>!Tryz.prog.wantsStandIn u)=true:=by kernel_rfl
  have hm:t∈Tryz.f3.params.toList:=by simpa using Array.mem_of_getElem? ht
  exact (show Tryz.prog.wantsStandIn t=false by simpa using List.all_eq_true.1 hall t hm)⟩
theorem valueLine_holds:Rows.ValueLineUptoCardSaid :=
 Claim7.holds_tied_plain_at .later [] _ _ _ _ ziq (fun _ h=>by cases h) (by kernel_rfl) (fun _ h=>by cases h) valueLineUpto_row_tie rfl ⟨rfl,rfl⟩ (by kernel_rfl) rfl zho (by kernel_rfl)
#print axioms valueLine_holds
end Go.Proofs.YtiickgadpbifbaaGreatDoor
