/- Parts of the proof: an abstract interpreter of the loaded program and its soundness, printed functions, the law's own texts; part 5. No condition. -/
import Derived.Test.YtkecibinbgaedaaGreatDoorNb4
namespace Go.Proofs.YtkecibinbgaedaaGreatDoor
open Go Go.Abs
set_option maxRecDepth 100000
noncomputable def B142:Code:=(Tryz.f142.body).getD .skip
def zgk:(Int×Int×Int×Int)→Value
 | (r0,r1,r2,r3)=>(Value.tuple #[(Value.int .i64 r0),(Value.int .i64 r1),(Value.int .i64 r2),(Value.int .i64 r3)])
def zim (H:AH):(Int×Int×Int×Int)→AH:=fun _=>H
noncomputable def z7i (_L:LC) (a0:Int):Option (Int×Int×Int×Int) :=
 if a0=1 then
  none
 else
  if a0=2 then
   none
  else
   if a0=3 then
    none
   else
    if a0=4 then
     none
    else
     if a0=5 then
      none
     else
      if a0=6 then
       none
      else
       if a0=7 then
        none
       else
        if a0=8 then
         none
        else
         if a0=9 then
          none
         else
          if a0=10 then
           none
          else
           Option.bind (α:=Bool) (
            if a0=11 then
             some true
            else
             if a0=12 then
              none
             else
              if a0=13 then
               none
              else
               some (decide (a0=14))) fun v24_1 =>
           if v24_1=true then
            some (4,0,64,0)
           else
            if a0=20 then
             none
            else
             if a0=40 then
              none
             else
              if a0=21 then
               none
              else
               if a0=27 then
                none
               else
                if a0=22 then
                 none
                else
                 if a0=23 then
                  none
                 else
                  if a0=24 then
                   none
                  else
                   if a0=25 then
                    none
                   else
                    if a0=26 then
                     none
                    else
                     if a0=28 then
                      none
                     else
                      if a0=29 then
                       none
                      else
                       if a0=30 then
                        none
                       else
                        if a0=31 then
                         none
                        else
                         if a0=32 then
                          none
                         else
                          if a0=33 then
                           none
                          else
                           if a0=34 then
                            none
                           else
                            if a0=41 then
                             none
                            else
                             if a0=42 then
                              none
                             else
                              if a0=63 then
                               none
                              else
                               if a0=64 then
                                none
                               else
                                if a0=65 then
                                 none
                                else
                                 if a0=66 then
                                  none
                                 else
                                  if a0=67 then
                                   none
                                  else
                                   if a0=51 then
                                    none
                                   else
                                    if a0=43 then
                                     none
                                    else
                                     if a0=44 then
                                      none
                                     else
                                      if a0≥45 then
                                       if a0≤62 then
                                        some (9,2,2,0)
                                       else
                                        none
                                      else
                                       none
theorem zbp {L:LC} {m:Nat} {H:AH} {a0:Int} {r:(Int×Int×Int×Int)} (h:z7i L a0=some r) :
  CallS Tryz.prog (NE.plain 258) m 142 #[(Value.int .i64 a0)] H (zgk r) (zim H r):=by
 refine CallS.mk (args:=[(Value.int .i64 a0)]) Tryz.func142 (B:=B142) (by kernel_rfl) (fun E _=>?_)
 unfold z7i at h
 refine WS.sq (WS.rg (RS.mS 4 [kI 5 0,kI 4 0,kI 3 0,kI 2 0] (RS.dn (WS.nxt (WS.sq (WS.sq (WS.rg (RS.mS 1 [kI 6 a0] (RS.dn ?_)))))))))
 refine WS.nxt (WS.bk 0 (WS.sq (WS.sq (WS.rg (RS.mS 2 [kB 7 (decide (a0=1)),kB 8 (decide (a0=1))] (RS.dn (WS.nxt ?_)))))))
 rcases z0 h with ⟨hp,h⟩ | ⟨hp,h⟩
 ·refine WS.fx 7 true (decide_eq_true hp) (WS.cT ?_)
  cases h
 ·refine WS.fx 7 false (decide_eq_false hp) (WS.cF (WS.rg (RS.mS 2 [kB 7 (decide (a0=2)),kB 9 (decide (a0=2))] (RS.dn (WS.nxt ?_)))))
  rcases z0 h with ⟨hp,h⟩ | ⟨hp,h⟩
  ·refine WS.fx 7 true (decide_eq_true hp) (WS.cT ?_)
   cases h
  ·refine WS.fx 7 false (decide_eq_false hp) (WS.cF (WS.sq (WS.rg (RS.mS 2 [kB 10 (decide (a0=3)),kB 11 (decide (a0=3))] (RS.dn (WS.nxt ?_))))))
   rcases z0 h with ⟨hp,h⟩ | ⟨hp,h⟩
   ·refine WS.fx 10 true (decide_eq_true hp) (WS.cT ?_)
    cases h
   ·refine WS.fx 10 false (decide_eq_false hp) (WS.cF (WS.sq (WS.sq (WS.rg (RS.mS 2 [kB 12 (decide (a0=4)),kB 13 (decide (a0=4))] (RS.dn (WS.nxt ?_)))))))
    rcases z0 h with ⟨hp,h⟩ | ⟨hp,h⟩
    ·refine WS.fx 12 true (decide_eq_true hp) (WS.cT ?_)
     cases h
    ·refine WS.fx 12 false (decide_eq_false hp) (WS.cF (WS.rg (RS.mS 2 [kB 12 (decide (a0=5)),kB 14 (decide (a0=5))] (RS.dn (WS.nxt ?_)))))
     rcases z0 h with ⟨hp,h⟩ | ⟨hp,h⟩
     ·refine WS.fx 12 true (decide_eq_true hp) (WS.cT ?_)
      cases h
     ·refine WS.fx 12 false (decide_eq_false hp) (WS.cF (WS.sq (WS.sq (WS.rg (RS.mS 2 [kB 15 (decide (a0=6)),kB 16 (decide (a0=6))] (RS.dn (WS.nxt ?_)))))))
      rcases z0 h with ⟨hp,h⟩ | ⟨hp,h⟩
      ·refine WS.fx 15 true (decide_eq_true hp) (WS.cT ?_)
       cases h
      ·refine WS.fx 15 false (decide_eq_false hp) (WS.cF (WS.rg (RS.mS 2 [kB 15 (decide (a0=7)),kB 17 (decide (a0=7))] (RS.dn (WS.nxt ?_)))))
       rcases z0 h with ⟨hp,h⟩ | ⟨hp,h⟩
       ·refine WS.fx 15 true (decide_eq_true hp) (WS.cT ?_)
        cases h
       ·refine WS.fx 15 false (decide_eq_false hp) (WS.cF (WS.sq (WS.rg (RS.mS 2 [kB 18 (decide (a0=8)),kB 19 (decide (a0=8))] (RS.dn (WS.nxt ?_))))))
        rcases z0 h with ⟨hp,h⟩ | ⟨hp,h⟩
        ·refine WS.fx 18 true (decide_eq_true hp) (WS.cT ?_)
         cases h
        ·refine WS.fx 18 false (decide_eq_false hp) (WS.cF (WS.sq (WS.rg (RS.mS 2 [kB 20 (decide (a0=9)),kB 21 (decide (a0=9))] (RS.dn (WS.nxt ?_))))))
         rcases z0 h with ⟨hp,h⟩ | ⟨hp,h⟩
         ·refine WS.fx 20 true (decide_eq_true hp) (WS.cT ?_)
          cases h
         ·refine WS.fx 20 false (decide_eq_false hp) (WS.cF (WS.sq (WS.rg (RS.mS 2 [kB 22 (decide (a0=10)),kB 23 (decide (a0=10))] (RS.dn (WS.nxt ?_))))))
          rcases z0 h with ⟨hp,h⟩ | ⟨hp,h⟩
          ·refine WS.fx 22 true (decide_eq_true hp) (WS.cT ?_)
           cases h
          ·refine WS.fx 22 false (decide_eq_false hp) (WS.cF ?_)
           obtain ⟨v24_1,hx,h⟩:=bind_some h
           refine WS.sq ?_
           refine WS.join ([kB 24 v24_1,kI 0 a0,kI 6 a0]) ([]) H ?_ (fun a w hs=>WS.nxt ?_ a w hs)
           ·clear h; rename _=>h
            refine WS.sq (WS.rg (RS.mS 2 [kB 24 (decide (a0=11)),kB 25 (decide (a0=11))] (RS.dn (WS.nxt ?_))))
            rcases z0 h with ⟨hp,h⟩ | ⟨hp,h⟩
            ·refine WS.fx 24 true (decide_eq_true hp) (WS.cT (WS.sk ?_))
             cases h
             exact fun a w hs=>(jsN (hs.sb 0))
            ·refine WS.fx 24 false (decide_eq_false hp) (WS.cF (WS.sq (WS.rg (RS.mS 2 [kB 24 (decide (a0=12)),kB 26 (decide (a0=12))] (RS.dn (WS.nxt ?_))))))
             rcases z0 h with ⟨hp,h⟩ | ⟨hp,h⟩
             ·refine WS.fx 24 true (decide_eq_true hp) (WS.cT ?_)
              cases h
             ·refine WS.fx 24 false (decide_eq_false hp) (WS.cF (WS.sq (WS.rg (RS.mS 2 [kB 24 (decide (a0=13)),kB 27 (decide (a0=13))] (RS.dn (WS.nxt ?_))))))
              rcases z0 h with ⟨hp,h⟩ | ⟨hp,h⟩
              ·refine WS.fx 24 true (decide_eq_true hp) (WS.cT ?_)
               cases h
              ·refine WS.fx 24 false (decide_eq_false hp) (WS.cF (WS.rg (RS.mS 2 [kB 24 (decide (a0=14)),kB 28 (decide (a0=14))] (RS.dn ?_))))
               cases h
               exact fun a w hs=>(jsN (hs.sb 0))
           ·clear hx
            rcases z0 h with ⟨hp,h⟩ | ⟨hp,h⟩
            ·refine WS.fx 24 true hp (WS.cT (WS.sq (WS.rg (RS.mS 4 [kI 5 0,kI 4 64,kI 3 0,kI 2 4] (RS.dn (WS.nxt (WS.rt ?_)))))))
             cases h
             exact fun a w hs=>bkR (sqR (rtR (rS hs)))
            ·refine WS.fx 24 false (b_not hp) (WS.cF (WS.sq (WS.sq (WS.rg (RS.mS 2 [kB 29 (decide (a0=20)),kB 30 (decide (a0=20))] (RS.dn (WS.nxt ?_)))))))
             rcases z0 h with ⟨hp,h⟩ | ⟨hp,h⟩
             ·refine WS.fx 29 true (decide_eq_true hp) (WS.cT ?_)
              cases h
             ·refine WS.fx 29 false (decide_eq_false hp) (WS.cF (WS.rg (RS.mS 2 [kB 29 (decide (a0=40)),kB 31 (decide (a0=40))] (RS.dn (WS.nxt ?_)))))
              rcases z0 h with ⟨hp,h⟩ | ⟨hp,h⟩
              ·refine WS.fx 29 true (decide_eq_true hp) (WS.cT ?_)
               cases h
              ·refine WS.fx 29 false (decide_eq_false hp) (WS.cF (WS.sq (WS.sq (WS.rg (RS.mS 2 [kB 32 (decide (a0=21)),kB 33 (decide (a0=21))] (RS.dn (WS.nxt ?_)))))))
               rcases z0 h with ⟨hp,h⟩ | ⟨hp,h⟩
               ·refine WS.fx 32 true (decide_eq_true hp) (WS.cT ?_)
                cases h
               ·refine WS.fx 32 false (decide_eq_false hp) (WS.cF (WS.rg (RS.mS 2 [kB 32 (decide (a0=27)),kB 34 (decide (a0=27))] (RS.dn (WS.nxt ?_)))))
                rcases z0 h with ⟨hp,h⟩ | ⟨hp,h⟩
                ·refine WS.fx 32 true (decide_eq_true hp) (WS.cT ?_)
                 cases h
                ·refine WS.fx 32 false (decide_eq_false hp) (WS.cF (WS.sq (WS.rg (RS.mS 2 [kB 35 (decide (a0=22)),kB 36 (decide (a0=22))] (RS.dn (WS.nxt ?_))))))
                 rcases z0 h with ⟨hp,h⟩ | ⟨hp,h⟩
                 ·refine WS.fx 35 true (decide_eq_true hp) (WS.cT ?_)
                  cases h
                 ·refine WS.fx 35 false (decide_eq_false hp) (WS.cF (WS.sq (WS.sq (WS.rg (RS.mS 2 [kB 37 (decide (a0=23)),kB 38 (decide (a0=23))] (RS.dn (WS.nxt ?_)))))))
                  rcases z0 h with ⟨hp,h⟩ | ⟨hp,h⟩
                  ·refine WS.fx 37 true (decide_eq_true hp) (WS.cT ?_)
                   cases h
                  ·refine WS.fx 37 false (decide_eq_false hp) (WS.cF (WS.sq (WS.rg (RS.mS 2 [kB 37 (decide (a0=24)),kB 39 (decide (a0=24))] (RS.dn (WS.nxt ?_))))))
                   rcases z0 h with ⟨hp,h⟩ | ⟨hp,h⟩
                   ·refine WS.fx 37 true (decide_eq_true hp) (WS.cT ?_)
                    cases h
                   ·refine WS.fx 37 false (decide_eq_false hp) (WS.cF (WS.sq (WS.rg (RS.mS 2 [kB 37 (decide (a0=25)),kB 40 (decide (a0=25))] (RS.dn (WS.nxt ?_))))))
                    rcases z0 h with ⟨hp,h⟩ | ⟨hp,h⟩
                    ·refine WS.fx 37 true (decide_eq_true hp) (WS.cT ?_)
                     cases h
                    ·refine WS.fx 37 false (decide_eq_false hp) (WS.cF (WS.rg (RS.mS 2 [kB 37 (decide (a0=26)),kB 41 (decide (a0=26))] (RS.dn (WS.nxt ?_)))))
                     rcases z0 h with ⟨hp,h⟩ | ⟨hp,h⟩
                     ·refine WS.fx 37 true (decide_eq_true hp) (WS.cT ?_)
                      cases h
                     ·refine WS.fx 37 false (decide_eq_false hp) (WS.cF (WS.sq (WS.sq (WS.rg (RS.mS 2 [kB 42 (decide (a0=28)),kB 43 (decide (a0=28))] (RS.dn (WS.nxt ?_)))))))
                      rcases z0 h with ⟨hp,h⟩ | ⟨hp,h⟩
                      ·refine WS.fx 42 true (decide_eq_true hp) (WS.cT ?_)
                       cases h
                      ·refine WS.fx 42 false (decide_eq_false hp) (WS.cF (WS.sq (WS.rg (RS.mS 2 [kB 42 (decide (a0=29)),kB 44 (decide (a0=29))] (RS.dn (WS.nxt ?_))))))
                       rcases z0 h with ⟨hp,h⟩ | ⟨hp,h⟩
                       ·refine WS.fx 42 true (decide_eq_true hp) (WS.cT ?_)
                        cases h
                       ·refine WS.fx 42 false (decide_eq_false hp) (WS.cF (WS.sq (WS.rg (RS.mS 2 [kB 42 (decide (a0=30)),kB 45 (decide (a0=30))] (RS.dn (WS.nxt ?_))))))
                        rcases z0 h with ⟨hp,h⟩ | ⟨hp,h⟩
                        ·refine WS.fx 42 true (decide_eq_true hp) (WS.cT ?_)
                         cases h
                        ·refine WS.fx 42 false (decide_eq_false hp) (WS.cF (WS.rg (RS.mS 2 [kB 42 (decide (a0=31)),kB 46 (decide (a0=31))] (RS.dn (WS.nxt ?_)))))
                         rcases z0 h with ⟨hp,h⟩ | ⟨hp,h⟩
                         ·refine WS.fx 42 true (decide_eq_true hp) (WS.cT ?_)
                          cases h
                         ·refine WS.fx 42 false (decide_eq_false hp) (WS.cF (WS.sq (WS.rg (RS.mS 2 [kB 47 (decide (a0=32)),kB 48 (decide (a0=32))] (RS.dn (WS.nxt ?_))))))
                          rcases z0 h with ⟨hp,h⟩ | ⟨hp,h⟩
                          ·refine WS.fx 47 true (decide_eq_true hp) (WS.cT ?_)
                           cases h
                          ·refine WS.fx 47 false (decide_eq_false hp) (WS.cF (WS.sq (WS.rg (RS.mS 2 [kB 49 (decide (a0=33)),kB 50 (decide (a0=33))] (RS.dn (WS.nxt ?_))))))
                           rcases z0 h with ⟨hp,h⟩ | ⟨hp,h⟩
                           ·refine WS.fx 49 true (decide_eq_true hp) (WS.cT ?_)
                            cases h
                           ·refine WS.fx 49 false (decide_eq_false hp) (WS.cF (WS.sq (WS.rg (RS.mS 2 [kB 51 (decide (a0=34)),kB 52 (decide (a0=34))] (RS.dn (WS.nxt ?_))))))
                            rcases z0 h with ⟨hp,h⟩ | ⟨hp,h⟩
                            ·refine WS.fx 51 true (decide_eq_true hp) (WS.cT ?_)
                             cases h
                            ·refine WS.fx 51 false (decide_eq_false hp) (WS.cF (WS.sq (WS.rg (RS.mS 2 [kB 53 (decide (a0=41)),kB 54 (decide (a0=41))] (RS.dn (WS.nxt ?_))))))
                             rcases z0 h with ⟨hp,h⟩ | ⟨hp,h⟩
                             ·refine WS.fx 53 true (decide_eq_true hp) (WS.cT ?_)
                              cases h
                             ·refine WS.fx 53 false (decide_eq_false hp) (WS.cF (WS.sq (WS.rg (RS.mS 2 [kB 55 (decide (a0=42)),kB 56 (decide (a0=42))] (RS.dn (WS.nxt ?_))))))
                              rcases z0 h with ⟨hp,h⟩ | ⟨hp,h⟩
                              ·refine WS.fx 55 true (decide_eq_true hp) (WS.cT ?_)
                               cases h
                              ·refine WS.fx 55 false (decide_eq_false hp) (WS.cF (WS.sq (WS.sq (WS.rg (RS.mS 2 [kB 57 (decide (a0=63)),kB 58 (decide (a0=63))] (RS.dn (WS.nxt ?_)))))))
                               rcases z0 h with ⟨hp,h⟩ | ⟨hp,h⟩
                               ·refine WS.fx 57 true (decide_eq_true hp) (WS.cT ?_)
                                cases h
                               ·refine WS.fx 57 false (decide_eq_false hp) (WS.cF (WS.sq (WS.rg (RS.mS 2 [kB 57 (decide (a0=64)),kB 59 (decide (a0=64))] (RS.dn (WS.nxt ?_))))))
                                rcases z0 h with ⟨hp,h⟩ | ⟨hp,h⟩
                                ·refine WS.fx 57 true (decide_eq_true hp) (WS.cT ?_)
                                 cases h
                                ·refine WS.fx 57 false (decide_eq_false hp) (WS.cF (WS.sq (WS.rg (RS.mS 2 [kB 57 (decide (a0=65)),kB 60 (decide (a0=65))] (RS.dn (WS.nxt ?_))))))
                                 rcases z0 h with ⟨hp,h⟩ | ⟨hp,h⟩
                                 ·refine WS.fx 57 true (decide_eq_true hp) (WS.cT ?_)
                                  cases h
                                 ·refine WS.fx 57 false (decide_eq_false hp) (WS.cF (WS.sq (WS.rg (RS.mS 2 [kB 57 (decide (a0=66)),kB 61 (decide (a0=66))] (RS.dn (WS.nxt ?_))))))
                                  rcases z0 h with ⟨hp,h⟩ | ⟨hp,h⟩
                                  ·refine WS.fx 57 true (decide_eq_true hp) (WS.cT ?_)
                                   cases h
                                  ·refine WS.fx 57 false (decide_eq_false hp) (WS.cF (WS.rg (RS.mS 2 [kB 57 (decide (a0=67)),kB 62 (decide (a0=67))] (RS.dn (WS.nxt ?_)))))
                                   rcases z0 h with ⟨hp,h⟩ | ⟨hp,h⟩
                                   ·refine WS.fx 57 true (decide_eq_true hp) (WS.cT ?_)
                                    cases h
                                   ·refine WS.fx 57 false (decide_eq_false hp) (WS.cF (WS.sq (WS.rg (RS.mS 2 [kB 63 (decide (a0=51)),kB 64 (decide (a0=51))] (RS.dn (WS.nxt ?_))))))
                                    rcases z0 h with ⟨hp,h⟩ | ⟨hp,h⟩
                                    ·refine WS.fx 63 true (decide_eq_true hp) (WS.cT ?_)
                                     cases h
                                    ·refine WS.fx 63 false (decide_eq_false hp) (WS.cF (WS.sq (WS.sq (WS.rg (RS.mS 2 [kB 65 (decide (a0=43)),kB 66 (decide (a0=43))] (RS.dn (WS.nxt ?_)))))))
                                     rcases z0 h with ⟨hp,h⟩ | ⟨hp,h⟩
                                     ·refine WS.fx 65 true (decide_eq_true hp) (WS.cT ?_)
                                      cases h
                                     ·refine WS.fx 65 false (decide_eq_false hp) (WS.cF (WS.rg (RS.mS 2 [kB 65 (decide (a0=44)),kB 67 (decide (a0=44))] (RS.dn (WS.nxt ?_)))))
                                      rcases z0 h with ⟨hp,h⟩ | ⟨hp,h⟩
                                      ·refine WS.fx 65 true (decide_eq_true hp) (WS.cT ?_)
                                       cases h
                                      ·refine WS.fx 65 false (decide_eq_false hp) (WS.cF (WS.sk ?_))
                                       refine fun a w hs=>bkN ((WS.nxt ?_ a w hs))
                                       refine WS.sq (WS.sq (WS.rg (RS.mS 3 [kB 70 (decide (a0≥45)),kB 69 (decide (a0≥45)),kI 68 a0] ?_)))
                                       rcases z0 h with ⟨hp,h⟩ | ⟨hp,h⟩
                                       ·refine RS.fx 70 true (decide_eq_true hp) (RS.mS 3 [kB 73 (decide (a0≤62)),kB 72 (decide (a0≤62)),kI 71 a0] (RS.dn (WS.nxt ?_)))
                                        rcases z0 h with ⟨hp,h⟩ | ⟨hp,h⟩
                                        ·refine WS.fx 73 true (decide_eq_true hp) (WS.cT (WS.sq (WS.rg (RS.mS 4 [kI 5 0,kI 4 2,kI 3 2,kI 2 9] (RS.dn (WS.nxt (WS.rt ?_)))))))
                                         cases h
                                         exact fun a w hs=>sqR (rtR (rS hs))
                                        ·refine WS.fx 73 false (decide_eq_false hp) (WS.cF ?_)
                                         cases h
                                       ·refine RS.fx 70 false (decide_eq_false hp) ?_
                                        cases h
noncomputable def B144:Code:=(Tryz.f144.body).getD .skip
def z3j:Bool→Value
 | r0=>(Value.bool r0)
def z44 (H:AH):Bool→AH:=fun _=>H
noncomputable def z45 (_L:LC) (_H:AH) (_a0:Option Addr) (_a1_0:Int) (_a1_1:ByteArray) (_a1_2:Bool) (_a1_3:Sl3) (_a1_4:Int) (_a1_5:Sl3) (_a1_6 _a1_7:Int) (_a1_8:ByteArray) (_a1_9 _a1_10 _a1_11:Sl3) (a2:Int):Int→Option (Lp Int Bool):=fun v7_1 =>
 if v7_1<a2 then
  none
 else
  some (.brk v7_1)
def zf0 (_L:LC) (_H:AH) (a0:Option Addr) (a1_0:Int) (a1_1:ByteArray) (a1_2:Bool) (a1_3:Sl3) (a1_4:Int) (a1_5:Sl3) (a1_6 a1_7:Int) (a1_8:ByteArray) (a1_9 a1_10 a1_11:Sl3) (a2:Int):Int→KN×Lcs:=fun v7_1=>([kI 7 v7_1,(0,.val (Value.pointer a0)),kI 2 a2,kL 4 0 0],[some (82,[(Value.int .i64 a1_0),(Value.string a1_1),(Value.bool a1_2),(Sl3.v a1_3),(Value.int .i64 a1_4),(Sl3.v a1_5),(Value.int .i64 a1_6),(Value.int .i64 a1_7),(Value.string a1_8),(Sl3.v a1_9),(Sl3.v a1_10),(Sl3.v a1_11)])])
noncomputable def z3e (L:LC) (H:AH) (a0:Option Addr) (a1_0:Int) (a1_1:ByteArray) (a1_2:Bool) (a1_3:Sl3) (a1_4:Int) (a1_5:Sl3) (a1_6 a1_7:Int) (a1_8:ByteArray) (a1_9 a1_10 a1_11:Sl3) (a2:Int):Option Bool :=
 if (a1_10.n:Int)=a2 then
  Option.bind (L.run (z45 L H a0 a1_0 a1_1 a1_2 a1_3 a1_4 a1_5 a1_6 a1_7 a1_8 a1_9 a1_10 a1_11 a2) 0) fun o=>match o with
  | .inl _ =>
   if a1_0=42 then
    none
   else
    if a1_0=63 then
     none
    else
     if a1_0=34 then
      none
     else
      some true
  | .inr r=>some r
 else
  none
theorem z5q {E m L H a0 a1_0 a1_1 a1_2 a1_3 a1_4 a1_5 a1_6 a1_7 a1_8 a1_9 a1_10 a1_11 a2} :LoopF Tryz.prog (NE.plain 258) m E Tryz.f144 ((cfst (csnd (cfst (csnd (csnd B144)))))) (zf0 L H a0 a1_0 a1_1 a1_2 a1_3 a1_4 a1_5 a1_6 a1_7 a1_8 a1_9 a1_10 a1_11 a2) (fun _=>H) 0 z3j (z44 H) (z45 L H a0 a1_0 a1_1 a1_2 a1_3 a1_4 a1_5 a1_6 a1_7 a1_8 a1_9 a1_10 a1_11 a2):=by
 rintro v7_1 o h
 unfold z45 at h
 try dsimp only at h
 refine WS.sq (WS.sq (WS.rg (RS.mS 3 [kB 19 (decide (v7_1<a2)),kI 18 a2,kI 17 v7_1] (RS.dn (WS.nxt ?_)))))
 rcases z0 h with ⟨hp,h⟩ | ⟨hp,h⟩
 ·refine WS.fx 19 true (decide_eq_true hp) (WS.cT ?_)
  cases h
 ·refine WS.fx 19 false (decide_eq_false hp) (WS.cF (WS.ex 0 ?_))
  cases h
  exact fun a w hs=>sqE (lsB rfl (hs.sb 1))
theorem z8l {L:LC} {m:Nat} {H:AH} {a0:Option Addr} {a1_0:Int} {a1_1:ByteArray} {a1_2:Bool} {a1_3:Sl3} {a1_4:Int} {a1_5:Sl3} {a1_6 a1_7:Int} {a1_8:ByteArray} {a1_9 a1_10 a1_11:Sl3} {a2:Int} {r:Bool} (h:z3e L H a0 a1_0 a1_1 a1_2 a1_3 a1_4 a1_5 a1_6 a1_7 a1_8 a1_9 a1_10 a1_11 a2=some r) :
  CallS Tryz.prog (NE.plain 258) m 144 #[(Value.pointer a0),(Value.agg #[(Value.int .i64 a1_0),(Value.string a1_1),(Value.bool a1_2),(Sl3.v a1_3),(Value.int .i64 a1_4),(Sl3.v a1_5),(Value.int .i64 a1_6),(Value.int .i64 a1_7),(Value.string a1_8),(Sl3.v a1_9),(Sl3.v a1_10),(Sl3.v a1_11)]),(Value.int .i64 a2)] H (z3j r) (z44 H r):=by
 refine CallS.mk (args:=[(Value.pointer a0),(Value.agg #[(Value.int .i64 a1_0),(Value.string a1_1),(Value.bool a1_2),(Sl3.v a1_3),(Value.int .i64 a1_4),(Sl3.v a1_5),(Value.int .i64 a1_6),(Value.int .i64 a1_7),(Value.string a1_8),(Sl3.v a1_9),(Sl3.v a1_10),(Sl3.v a1_11)]),(Value.int .i64 a2)]) Tryz.func144 (B:=B144) (by kernel_rfl) (fun E _=>?_)
 unfold z3e at h
 refine WS.sq (WS.rg (RS.mL 2 [kB 6 false,kL 4 0 0] ([some (82,[(Value.int .i64 a1_0),(Value.string a1_1),(Value.bool a1_2),(Sl3.v a1_3),(Value.int .i64 a1_4),(Sl3.v a1_5),(Value.int .i64 a1_6),(Value.int .i64 a1_7),(Value.string a1_8),(Sl3.v a1_9),(Sl3.v a1_10),(Sl3.v a1_11)])]) (RS.dn (WS.nxt (WS.sq (WS.sq (WS.rg (RS.mS 6 [kB 13 (!decide ((a1_10.n:Int)=a2)),kB 12 (!decide ((a1_10.n:Int)=a2)),kI 11 a2,kI 10 (a1_10.n:Int),kS 9 a1_10,kL 8 0 10] ?_))))))))
 rcases z0 h with ⟨hp,h⟩ | ⟨hp,h⟩
 ·refine RS.fx 13 false (zd hp) (RS.mS 3 [kB 16 false,kU 15,kU 14] (RS.dn (WS.nxt (WS.cF (WS.sk (WS.nxt (WS.sq (WS.sq (WS.rg ?_)))))))))
  refine RS.mS 1 [kI 7 0] (RS.dn (WS.nxt (WS.bk 0 ?_)))
  obtain ⟨o,hl,h⟩:=bind_some h
  rcases o with v7_2 | r
  ·try dsimp only at h
   refine WS.lI (z5q (L:=L) (E:=E) (m:=m) (H:=H)) (L.ok hl) 1 ?_
   clear hl
   refine fun a w hs=>bkE ((WS.nxt ?_ a w hs))
   refine WS.sq (WS.sq (WS.rg (RS.mS 2 [kI 37 a1_0,kL 36 0 0] (RS.dn (WS.nxt (WS.bk 2 (WS.sq (WS.rg (RS.mS 2 [kB 38 (decide (a1_0=42)),kB 39 (decide (a1_0=42))] ?_)))))))))
   refine RS.dn (WS.nxt ?_)
   rcases z0 h with ⟨hp,h⟩ | ⟨hp,h⟩
   ·refine WS.fx 38 true (decide_eq_true hp) (WS.cT ?_)
    cases h
   ·refine WS.fx 38 false (decide_eq_false hp) (WS.cF (WS.sq (WS.rg (RS.mS 2 [kB 49 (decide (a1_0=63)),kB 50 (decide (a1_0=63))] (RS.dn (WS.nxt ?_))))))
    rcases z0 h with ⟨hp,h⟩ | ⟨hp,h⟩
    ·refine WS.fx 49 true (decide_eq_true hp) (WS.cT ?_)
     cases h
    ·refine WS.fx 49 false (decide_eq_false hp) (WS.cF (WS.sq (WS.rg (RS.mS 2 [kB 56 (decide (a1_0=34)),kB 57 (decide (a1_0=34))] (RS.dn (WS.nxt ?_))))))
     rcases z0 h with ⟨hp,h⟩ | ⟨hp,h⟩
     ·refine WS.fx 56 true (decide_eq_true hp) (WS.cT ?_)
      cases h
     ·refine WS.fx 56 false (decide_eq_false hp) (WS.cF (WS.sk ?_))
      refine fun a w hs=>bkN ((WS.nxt ?_ a w hs))
      refine WS.sq (WS.rg (RS.mS 1 [kB 6 true] (RS.dn (WS.nxt (WS.rt ?_)))))
      cases h
      exact fun a w hs=>rtR (rS hs)
  ·try dsimp only at h
   refine WS.lR (z5q (L:=L) (E:=E) (m:=m) (H:=H)) (L.ok hl) 1 ?_
   cases h
   exact fun a w hq=>bkR (sqR (rtR hq))
 ·refine RS.fx 13 true (z9 hp) ?_
  cases h
noncomputable def B151:Code:=(Tryz.f151.body).getD .skip
def z6a:Bool→Value
 | r0=>(Value.bool r0)
def z7u (H:AH):Bool→AH:=fun _=>H
noncomputable def zd7 (_L:LC) (_H:AH) (_a0_0 _a0_1:Int) (_a0_2:ByteArray) (a0_3:Sl3) (_a1_0 _a1_1:Int) (_a1_2:ByteArray) (_a1_3:Sl3):Int→Option (Lp Int Bool):=fun v5_1 =>
 if v5_1<(a0_3.n:Int) then
  none
 else
  some (.brk v5_1)
def zp2 (_L:LC) (_H:AH) (a0_0 a0_1:Int) (a0_2:ByteArray) (a0_3:Sl3) (a1_0 a1_1:Int) (a1_2:ByteArray) (a1_3:Sl3):Int→KN×Lcs:=fun v5_1=>([kI 5 v5_1,kL 2 0 0,kL 3 1 0],[some (56,[(Value.int .i64 a0_0),(Value.int .i64 a0_1),(Value.string a0_2),(Sl3.v a0_3)]),some (56,[(Value.int .i64 a1_0),(Value.int .i64 a1_1),(Value.string a1_2),(Sl3.v a1_3)])])
noncomputable def z9j (L:LC) (H:AH) (a0_0 a0_1:Int) (a0_2:ByteArray) (a0_3:Sl3) (a1_0 a1_1:Int) (a1_2:ByteArray) (a1_3:Sl3):Option Bool :=
 if a0_0=a1_0 then
  if a0_1=a1_1 then
   if (a0_2.toList == a1_2.toList)=true then
    if (a0_3.n:Int)=(a1_3.n:Int) then
     Option.bind (L.run (zd7 L H a0_0 a0_1 a0_2 a0_3 a1_0 a1_1 a1_2 a1_3) 0) fun o=>match o with
     | .inl _ =>
      some true
     | .inr r=>some r
    else
     none
   else
    none
  else
   none
 else
  none
noncomputable def zib (L:LC) (n:Nat):(AH→Int→Int→ByteArray→Sl3→Int→Int→ByteArray→Sl3→Option Bool):=Nat.rec (motive:=fun _=>(AH→Int→Int→ByteArray→Sl3→Int→Int→ByteArray→Sl3→Option Bool)) (fun _ _ _ _ _ _ _ _ _=>none) (fun _ _=>z9j L) n
noncomputable def zph (L:LC) (H:AH) (a0_0 a0_1:Int) (a0_2:ByteArray) (a0_3:Sl3) (a1_0 a1_1:Int) (a1_2:ByteArray) (a1_3:Sl3):Option Bool:=(zib L L.fuel) H a0_0 a0_1 a0_2 a0_3 a1_0 a1_1 a1_2 a1_3
theorem zey {E m L H a0_0 a0_1 a0_2 a0_3 a1_0 a1_1 a1_2 a1_3} :LoopF Tryz.prog (NE.plain 258) m E Tryz.f151 ((cfst (csnd (cfst (csnd (csnd B151)))))) (zp2 L H a0_0 a0_1 a0_2 a0_3 a1_0 a1_1 a1_2 a1_3) (fun _=>H) 0 z6a (z7u H) (zd7 L H a0_0 a0_1 a0_2 a0_3 a1_0 a1_1 a1_2 a1_3):=by
 rintro v5_1 o h
 unfold zd7 at h
 try dsimp only at h
 refine WS.sq (WS.sq (WS.rg (RS.mS 5 [kB 38 (decide (v5_1<(a0_3.n:Int))),kI 37 (a0_3.n:Int),kS 36 a0_3,kL 35 0 3,kI 34 v5_1] (RS.dn (WS.nxt ?_)))))
 rcases z0 h with ⟨hp,h⟩ | ⟨hp,h⟩
 ·refine WS.fx 38 true (decide_eq_true hp) (WS.cT ?_)
  cases h
 ·refine WS.fx 38 false (decide_eq_false hp) (WS.cF (WS.ex 0 ?_))
  cases h
  exact fun a w hs=>sqE (lsB rfl (hs.sb 2))
theorem zmh {L:LC} {m:Nat} {H:AH} {a0_0 a0_1:Int} {a0_2:ByteArray} {a0_3:Sl3} {a1_0 a1_1:Int} {a1_2:ByteArray} {a1_3:Sl3} {r:Bool} (h:z9j L H a0_0 a0_1 a0_2 a0_3 a1_0 a1_1 a1_2 a1_3=some r) :
  CallS Tryz.prog (NE.plain 258) m 151 #[(Value.agg #[(Value.int .i64 a0_0),(Value.int .i64 a0_1),(Value.string a0_2),(Sl3.v a0_3)]),(Value.agg #[(Value.int .i64 a1_0),(Value.int .i64 a1_1),(Value.string a1_2),(Sl3.v a1_3)])] H (z6a r) (z7u H r):=by
 refine CallS.mk (args:=[(Value.agg #[(Value.int .i64 a0_0),(Value.int .i64 a0_1),(Value.string a0_2),(Sl3.v a0_3)]),(Value.agg #[(Value.int .i64 a1_0),(Value.int .i64 a1_1),(Value.string a1_2),(Sl3.v a1_3)])]) Tryz.func151 (B:=B151) (by kernel_rfl) (fun E _=>?_)
 unfold z9j at h
 refine WS.sq (WS.rg (RS.mL 3 [kB 4 false,kL 3 1 0,kL 2 0 0] ([some (56,[(Value.int .i64 a0_0),(Value.int .i64 a0_1),(Value.string a0_2),(Sl3.v a0_3)]),some (56,[(Value.int .i64 a1_0),(Value.int .i64 a1_1),(Value.string a1_2),(Sl3.v a1_3)])]) (RS.dn (WS.nxt (WS.sq (WS.sq (WS.rg (RS.mS 6 [kB 11 (!decide (a0_0=a1_0)),kB 10 (!decide (a0_0=a1_0)),kI 9 a1_0,kL 8 1 0,kI 7 a0_0,kL 6 0 0] ?_))))))))
 rcases z0 h with ⟨hp,h⟩ | ⟨hp,h⟩
 ·refine RS.fx 11 false (zd hp) (RS.mS 7 [kB 18 (!decide (a0_1=a1_1)),kB 17 (!decide (a0_1=a1_1)),kB 16 (!decide (a0_1=a1_1)),kI 15 a1_1,kL 14 1 1,kI 13 a0_1,kL 12 0 1] ?_)
  rcases z0 h with ⟨hp,h⟩ | ⟨hp,h⟩
  ·refine RS.fx 18 false (zd hp) (RS.mS 7 [kB 25 (!(a0_2.toList == a1_2.toList)),kB 24 (!(a0_2.toList == a1_2.toList)),kB 23 (!(a0_2.toList == a1_2.toList)),kT 22 a1_2,kL 21 1 2,kT 20 a0_2,kL 19 0 2] ?_)
   rcases z0 h with ⟨hp,h⟩ | ⟨hp,h⟩
   ·refine RS.fx 25 false (nb_not hp) (RS.mS 8 [kB 33 (!decide ((a0_3.n:Int)=(a1_3.n:Int))),kB 32 (!decide ((a0_3.n:Int)=(a1_3.n:Int))),kI 31 (a1_3.n:Int),kS 30 a1_3,kL 29 1 3,kI 28 (a0_3.n:Int),kS 27 a0_3,kL 26 0 3] (RS.dn (WS.nxt ?_)))
    rcases z0 h with ⟨hp,h⟩ | ⟨hp,h⟩
    ·refine WS.fx 33 false (zd hp) (WS.cF (WS.sk (WS.nxt (WS.sq (WS.sq (WS.rg (RS.mS 1 [kI 5 0] (RS.dn (WS.nxt ?_)))))))))
     refine WS.bk 0 ?_
     obtain ⟨o,hl,h⟩:=bind_some h
     rcases o with v5_2 | r
     ·try dsimp only at h
      refine WS.lI (zey (L:=L) (E:=E) (m:=m) (H:=H)) (L.ok hl) 2 ?_
      clear hl
      refine fun a w hs=>bkE ((WS.nxt ?_ a w hs))
      refine WS.sq (WS.rg (RS.mS 1 [kB 4 true] (RS.dn (WS.nxt (WS.rt ?_)))))
      cases h
      exact fun a w hs=>rtR (rS hs)
     ·try dsimp only at h
      refine WS.lR (zey (L:=L) (E:=E) (m:=m) (H:=H)) (L.ok hl) 2 ?_
      cases h
      exact fun a w hq=>bkR (sqR (rtR hq))
    ·refine WS.fx 33 true (z9 hp) (WS.cT ?_)
     cases h
   ·refine RS.fx 25 true (zb hp) ?_
    cases h
  ·refine RS.fx 18 true (z9 hp) ?_
   cases h
 ·refine RS.fx 11 true (z9 hp) ?_
  cases h
theorem zno {L:LC}:∀n,(∀(m:Nat) (H:AH) (a0_0 a0_1:Int) (a0_2:ByteArray) (a0_3:Sl3) (a1_0 a1_1:Int) (a1_2:ByteArray) (a1_3:Sl3) (r:Bool),((zib L n)) H a0_0 a0_1 a0_2 a0_3 a1_0 a1_1 a1_2 a1_3=some r→CallS Tryz.prog (NE.plain 258) m 151 #[(Value.agg #[(Value.int .i64 a0_0),(Value.int .i64 a0_1),(Value.string a0_2),(Sl3.v a0_3)]),(Value.agg #[(Value.int .i64 a1_0),(Value.int .i64 a1_1),(Value.string a1_2),(Sl3.v a1_3)])] H (z6a r) (z7u H r)):=by
 intro n
 induction n with
 | zero=>exact (fun _ _ _ _ _ _ _ _ _ _ _ h=>(Option.some_ne_none _ h.symm).elim)
 | succ n ih=>exact (fun _ _ _ _ _ _ _ _ _ _ _ h=>zmh (L:=L)  h)
theorem zs0 {L:LC} {m:Nat} {H:AH} {a0_0 a0_1:Int} {a0_2:ByteArray} {a0_3:Sl3} {a1_0 a1_1:Int} {a1_2:ByteArray} {a1_3:Sl3} {r:Bool} (h:zph L H a0_0 a0_1 a0_2 a0_3 a1_0 a1_1 a1_2 a1_3=some r) :
  CallS Tryz.prog (NE.plain 258) m 151 #[(Value.agg #[(Value.int .i64 a0_0),(Value.int .i64 a0_1),(Value.string a0_2),(Sl3.v a0_3)]),(Value.agg #[(Value.int .i64 a1_0),(Value.int .i64 a1_1),(Value.string a1_2),(Sl3.v a1_3)])] H (z6a r) (z7u H r) :=
 (zno _) _ _ _ _ _ _ _ _ _ _ _ h
end Go.Proofs.YtkecibinbgaedaaGreatDoor
namespace Go.Proofs.YtkecibinbgaedaaGreatDoor
open Go Go.Abs
set_option maxRecDepth 100000
noncomputable def B222:Code:=(Tryz.f222.body).getD .skip
def zhr:Bool→Value
 | r0=>(Value.bool r0)
def zkm (H:AH):Bool→AH:=fun _=>H
noncomputable def zdc (L:LC) (H:AH) (a0:Sl3) (a1_0 a1_1:Int) (a1_2:ByteArray) (a1_3:Sl3):Int→Option (Lp Int Bool):=fun v5_1 =>
 if v5_1<(a0.n:Int) then
  Option.bind (idxA 4 a0 v5_1) fun p2 =>
  Option.bind (rd (deI .i64) H (Addr.add p2 0)) fun x3_0 =>
  Option.bind (rd (deI .i64) H (Addr.add p2 1)) fun x3_1 =>
  Option.bind (rd deS H (Addr.add p2 2)) fun x3_2 =>
  Option.bind (rd deSl H (Addr.add p2 3)) fun x3_3 =>
  Option.bind (zph L H x3_0 x3_1 x3_2 x3_3 a1_0 a1_1 a1_2 a1_3) fun x4 =>
  if x4=true then
   some (.next (IntKind.i64.wrap (v5_1+1)))
  else
   none
 else
  some (.brk v5_1)
def zol (_L:LC) (_H:AH) (a0:Sl3) (a1_0 a1_1:Int) (a1_2:ByteArray) (a1_3:Sl3):Int→KN×Lcs:=fun v5_1=>([kI 5 v5_1,kS 0 a0,kL 3 0 0],[some (56,[(Value.int .i64 a1_0),(Value.int .i64 a1_1),(Value.string a1_2),(Sl3.v a1_3)])])
noncomputable def zji (L:LC) (H:AH) (a0:Sl3) (a1_0 a1_1:Int) (a1_2:ByteArray) (a1_3:Sl3):Option Bool :=
 Option.bind (L.run (zdc L H a0 a1_0 a1_1 a1_2 a1_3) 0) fun o=>match o with
 | .inl _ =>
  some true
 | .inr r=>some r
theorem zei {E m L H a0 a1_0 a1_1 a1_2 a1_3} :LoopF Tryz.prog (NE.plain 258) m E Tryz.f222 ((cfst (csnd (cfst (csnd B222))))) (zol L H a0 a1_0 a1_1 a1_2 a1_3) (fun _=>H) 0 zhr (zkm H) (zdc L H a0 a1_0 a1_1 a1_2 a1_3):=by
 rintro v5_1 o h
 unfold zdc at h
 try dsimp only at h
 refine WS.sq (WS.sq (WS.rg (RS.mS 4 [kB 9 (decide (v5_1<(a0.n:Int))),kI 8 (a0.n:Int),kS 7 a0,kI 6 v5_1] (RS.dn (WS.nxt ?_)))))
 rcases z0 h with ⟨hp,h⟩ | ⟨hp,h⟩
 ·refine WS.fx 9 true (decide_eq_true hp) (WS.cT (WS.sk (WS.nxt (WS.sq (WS.bk 1 (WS.sq ?_))))))
  refine WS.dr [0,1,2,3,4] [0,0,3,7,0,31,63] 7 (fun hcl=>?_)
  refine DA.tK 0 (some 12) (Sl3.v a0) (DA.tK 1 (some 13) (Value.int .i64 v5_1) ?_)
  obtain ⟨p2,hx,h⟩:=bind_some h
  refine DA.tD 2 (some 14) (Value.pointer (some p2)) (Abs.det_idx (s:=a0) (k:=.i64) (t:=54) (e:=56) (x:=.tmp 12) (y:=.tmp 13) (by kernel_rfl) (by kernel_rfl) (by kernel_rfl) (by kernel_rfl) (by kernel_rfl) hx) ?_
  obtain ⟨x3_0,hx0,h⟩:=bind_some h
  obtain ⟨x3_1,hx1,h⟩:=bind_some h
  obtain ⟨x3_2,hx2,h⟩:=bind_some h
  obtain ⟨x3_3,hx3,h⟩:=bind_some h
  refine DA.tD 3 (some 15) (Value.agg #[(Value.int .i64 x3_0),(Value.int .i64 x3_1),(Value.string x3_2),(Sl3.v x3_3)]) (Abs.det_loadA (t:=56) (x:=.tmp 14) (a:=p2) (k:=4) (by kernel_rfl) (by kernel_rfl) (by kernel_rfl) (by kernel_rfl) (z2 (z1 hx0 z4) (z2 (z1 hx1 z4) (z2 (z1 hx2 za) (z2 (z1 hx3 z3) zq))))) (DA.tL 4 (some 16) (.val (Value.agg #[(Value.int .i64 a1_0),(Value.int .i64 a1_1),(Value.string a1_2),(Sl3.v a1_3)])) ?_)
  obtain ⟨x4,hx,h⟩:=bind_some h
  refine DA.on 5 (DA.aC 5 (some 17) (v:=(Value.bool x4)) 151 #[(Value.agg #[(Value.int .i64 x3_0),(Value.int .i64 x3_1),(Value.string x3_2),(Sl3.v x3_3)]),(Value.agg #[(Value.int .i64 a1_0),(Value.int .i64 a1_1),(Value.string a1_2),(Sl3.v a1_3)])] (zs0 hx) (DA.tP 6 (some 18) (Value.bool (!x4)) (DA.dn (WS.nxt ?_))))
  rcases z0 h with ⟨hp,h⟩ | ⟨hp,h⟩
  ·refine WS.fx 18 false (nb_not hp) (WS.cF (WS.sk ?_))
   refine fun a w hs=>bkN ((WS.nxt ?_ a w hs))
   refine WS.rg (RS.mS 3 [kI 5 (IntKind.i64.wrap (v5_1+1)),kI 11 (IntKind.i64.wrap (v5_1+1)),kI 10 v5_1] (RS.dn ?_))
   cases h
   exact fun a w hs=>lsN rfl (hs.sb 1)
  ·refine WS.fx 18 true (zb hp) (WS.cT ?_)
   cases h
 ·refine WS.fx 9 false (decide_eq_false hp) (WS.cF (WS.ex 0 ?_))
  cases h
  exact fun a w hs=>sqE (lsB rfl (hs.sb 1))
theorem zsm {L:LC} {m:Nat} {H:AH} {a0:Sl3} {a1_0 a1_1:Int} {a1_2:ByteArray} {a1_3:Sl3} {r:Bool} (h:zji L H a0 a1_0 a1_1 a1_2 a1_3=some r) :
  CallS Tryz.prog (NE.plain 258) m 222 #[(Sl3.v a0),(Value.agg #[(Value.int .i64 a1_0),(Value.int .i64 a1_1),(Value.string a1_2),(Sl3.v a1_3)])] H (zhr r) (zkm H r):=by
 refine CallS.mk (args:=[(Sl3.v a0),(Value.agg #[(Value.int .i64 a1_0),(Value.int .i64 a1_1),(Value.string a1_2),(Sl3.v a1_3)])]) Tryz.func222 (B:=B222) (by kernel_rfl) (fun E _=>?_)
 unfold zji at h
 refine WS.sq (WS.rg (RS.mL 2 [kB 4 false,kL 3 0 0] ([some (56,[(Value.int .i64 a1_0),(Value.int .i64 a1_1),(Value.string a1_2),(Sl3.v a1_3)])]) (RS.dn (WS.nxt (WS.sq (WS.sq (WS.rg (RS.mS 1 [kI 5 0] (RS.dn ?_)))))))))
 refine WS.nxt (WS.bk 0 ?_)
 obtain ⟨o,hl,h⟩:=bind_some h
 rcases o with v5_5 | r
 ·try dsimp only at h
  refine WS.lI (zei (L:=L) (E:=E) (m:=m) (H:=H)) (L.ok hl) 1 ?_
  clear hl
  refine fun a w hs=>bkE ((WS.nxt ?_ a w hs))
  refine WS.sq (WS.rg (RS.mS 1 [kB 4 true] (RS.dn (WS.nxt (WS.rt ?_)))))
  cases h
  exact fun a w hs=>rtR (rS hs)
 ·try dsimp only at h
  refine WS.lR (zei (L:=L) (E:=E) (m:=m) (H:=H)) (L.ok hl) 1 ?_
  cases h
  exact fun a w hq=>bkR (sqR (rtR hq))
noncomputable def B225:Code:=(Tryz.f225.body).getD .skip
def zv0:(Int×Int×ByteArray×Sl3)→Value
 | (r0,r1,r2,r3)=>(Value.agg #[(Value.int .i64 r0),(Value.int .i64 r1),(Value.string r2),(Sl3.v r3)])
def zvg (H:AH):(Int×Int×ByteArray×Sl3)→AH:=fun _=>H
noncomputable def zqz (_L:LC) (a0:Int):Option (Int×Int×ByteArray×Sl3) :=
 some (3,a0,(⟨#[]⟩:ByteArray),Sl3.nil)
theorem zvu {L:LC} {m:Nat} {H:AH} {a0:Int} {r:(Int×Int×ByteArray×Sl3)} (h:zqz L a0=some r) :
  CallS Tryz.prog (NE.plain 258) m 225 #[(Value.int .i64 a0)] H (zv0 r) (zvg H r):=by
 refine CallS.mk (args:=[(Value.int .i64 a0)]) Tryz.func225 (B:=B225) (by kernel_rfl) (fun E _=>?_)
 unfold zqz at h
 refine WS.sq (WS.rg (RS.mL 1 [kL 2 0 0] ([some (56,[(Value.int .i64 0),(Value.int .i64 0),(Value.string (⟨#[]⟩:ByteArray)),(Sl3.v Sl3.nil)])]) (RS.dn (WS.nxt (WS.sq (WS.rg (RS.mL 3 [kA 4 #[(Value.int .i64 3),(Value.int .i64 a0),(Value.string (⟨#[]⟩:ByteArray)),(Sl3.v Sl3.nil)],kI 3 a0] ([some (56,[(Value.int .i64 3),(Value.int .i64 a0),(Value.string (⟨#[]⟩:ByteArray)),(Sl3.v Sl3.nil)])]) (RS.dn (WS.nxt ?_)))))))))
 refine WS.rt ?_
 cases h
 exact fun a w hs=>rtR (rS hs)
noncomputable def B226:Code:=(Tryz.f226.body).getD .skip
def zq3:(Int×Bool)→Value
 | (r0,r1)=>(Value.tuple #[(Value.int .i64 r0),(Value.bool r1)])
def zr7 (H:AH):(Int×Bool)→AH:=fun _=>H
noncomputable def zh7 (_L:LC) (H:AH) (a0_0:Int) (_a0_1:ByteArray) (_a0_2:Bool) (_a0_3:Sl3) (_a0_4:Int) (_a0_5:Sl3) (_a0_6 _a0_7:Int) (_a0_8:ByteArray) (_a0_9 _a0_10:Sl3) (_a0_11 a1:Sl3):Option (Int×Bool) :=
 Option.bind (idxA 4 a1 0) fun p1 =>
 Option.bind (rd (deI .i64) H (Addr.add p1 1)) fun x2 =>
 if a0_0=41 then
  none
 else
  if a0_0=42 then
   none
  else
   if a0_0=63 then
    none
   else
    if a0_0=64 then
     none
    else
     if a0_0=65 then
      none
     else
      if a0_0=51 then
       none
      else
       some (x2,(decide (x2≤4096)))
theorem zrd {L:LC} {m:Nat} {H:AH} {a0_0:Int} {a0_1:ByteArray} {a0_2:Bool} {a0_3:Sl3} {a0_4:Int} {a0_5:Sl3} {a0_6 a0_7:Int} {a0_8:ByteArray} {a0_9 a0_10:Sl3} {a0_11 a1:Sl3} {r:(Int×Bool)} (h:zh7 L H a0_0 a0_1 a0_2 a0_3 a0_4 a0_5 a0_6 a0_7 a0_8 a0_9 a0_10 a0_11 a1=some r) :
  CallS Tryz.prog (NE.plain 258) m 226 #[(Value.agg #[(Value.int .i64 a0_0),(Value.string a0_1),(Value.bool a0_2),(Sl3.v a0_3),(Value.int .i64 a0_4),(Sl3.v a0_5),(Value.int .i64 a0_6),(Value.int .i64 a0_7),(Value.string a0_8),(Sl3.v a0_9),(Sl3.v a0_10),(Sl3.v a0_11)]),(Sl3.v a1)] H (zq3 r) (zr7 H r):=by
 refine CallS.mk (args:=[(Value.agg #[(Value.int .i64 a0_0),(Value.string a0_1),(Value.bool a0_2),(Sl3.v a0_3),(Value.int .i64 a0_4),(Sl3.v a0_5),(Value.int .i64 a0_6),(Value.int .i64 a0_7),(Value.string a0_8),(Sl3.v a0_9),(Sl3.v a0_10),(Sl3.v a0_11)]),(Sl3.v a1)]) Tryz.func226 (B:=B226) (by kernel_rfl) (fun E _=>?_)
 unfold zh7 at h
 refine WS.sq (WS.rg (RS.mL 3 [kB 5 false,kI 4 0,kL 2 0 0] ([some (82,[(Value.int .i64 a0_0),(Value.string a0_1),(Value.bool a0_2),(Sl3.v a0_3),(Value.int .i64 a0_4),(Sl3.v a0_5),(Value.int .i64 a0_6),(Value.int .i64 a0_7),(Value.string a0_8),(Sl3.v a0_9),(Sl3.v a0_10),(Sl3.v a0_11)])]) (RS.dn (WS.nxt (WS.sq (WS.rg (RS.mS 1 [kS 7 a1] ?_)))))))
 obtain ⟨p1,hx,h⟩:=bind_some h
 refine RS.ix 8 54 56 (.tmp 7) (.const (Value.int .i64 0)) hx (RS.mS 1 [(9,.val (Value.pointer (some (Addr.add p1 1))))] ?_)
 obtain ⟨x2,hx,h⟩:=bind_some h
 refine RS.ld 10 3 (.tmp 9) (z1 hx z4) (RS.mS 1 [kI 6 x2] (RS.dn (WS.nxt (WS.sq (WS.sq (WS.rg (RS.mS 2 [kI 12 a0_0,kL 11 0 0] (RS.dn (WS.nxt ?_)))))))))
 refine WS.bk 0 (WS.sq (WS.rg (RS.mS 2 [kB 13 (decide (a0_0=41)),kB 14 (decide (a0_0=41))] (RS.dn (WS.nxt ?_)))))
 rcases z0 h with ⟨hp,h⟩ | ⟨hp,h⟩
 ·refine WS.fx 13 true (decide_eq_true hp) (WS.cT ?_)
  cases h
 ·refine WS.fx 13 false (decide_eq_false hp) (WS.cF (WS.sq (WS.rg (RS.mS 2 [kB 21 (decide (a0_0=42)),kB 22 (decide (a0_0=42))] (RS.dn (WS.nxt ?_))))))
  rcases z0 h with ⟨hp,h⟩ | ⟨hp,h⟩
  ·refine WS.fx 21 true (decide_eq_true hp) (WS.cT ?_)
   cases h
  ·refine WS.fx 21 false (decide_eq_false hp) (WS.cF (WS.sq (WS.rg (RS.mS 2 [kB 39 (decide (a0_0=63)),kB 40 (decide (a0_0=63))] (RS.dn (WS.nxt ?_))))))
   rcases z0 h with ⟨hp,h⟩ | ⟨hp,h⟩
   ·refine WS.fx 39 true (decide_eq_true hp) (WS.cT ?_)
    cases h
   ·refine WS.fx 39 false (decide_eq_false hp) (WS.cF (WS.sq (WS.sq (WS.rg (RS.mS 2 [kB 47 (decide (a0_0=64)),kB 48 (decide (a0_0=64))] (RS.dn (WS.nxt ?_)))))))
    rcases z0 h with ⟨hp,h⟩ | ⟨hp,h⟩
    ·refine WS.fx 47 true (decide_eq_true hp) (WS.cT ?_)
     cases h
    ·refine WS.fx 47 false (decide_eq_false hp) (WS.cF (WS.rg (RS.mS 2 [kB 47 (decide (a0_0=65)),kB 49 (decide (a0_0=65))] (RS.dn (WS.nxt ?_)))))
     rcases z0 h with ⟨hp,h⟩ | ⟨hp,h⟩
     ·refine WS.fx 47 true (decide_eq_true hp) (WS.cT ?_)
      cases h
     ·refine WS.fx 47 false (decide_eq_false hp) (WS.cF (WS.sq (WS.rg (RS.mS 2 [kB 56 (decide (a0_0=51)),kB 57 (decide (a0_0=51))] (RS.dn (WS.nxt ?_))))))
      rcases z0 h with ⟨hp,h⟩ | ⟨hp,h⟩
      ·refine WS.fx 56 true (decide_eq_true hp) (WS.cT ?_)
       cases h
      ·refine WS.fx 56 false (decide_eq_false hp) (WS.cF (WS.sk ?_))
       refine fun a w hs=>bkN ((WS.nxt ?_ a w hs))
       refine WS.sq (WS.rg (RS.mS 5 [kB 5 (decide (x2≤4096)),kI 4 x2,kB 60 (decide (x2≤4096)),kI 59 x2,kI 58 x2] (RS.dn (WS.nxt (WS.rt ?_)))))
       cases h
       exact fun a w hs=>rtR (rS hs)
noncomputable def B147:Code:=(Tryz.f147.body).getD .skip
def z4e:(Int×Int×ByteArray×Sl3×Int×AH)→Value
 | (r0,r1,r2,r3,r4,_)=>(Value.tuple #[(Value.agg #[(Value.int .i64 r0),(Value.int .i64 r1),(Value.string r2),(Sl3.v r3)]),(Value.int .i64 r4)])
def z4u (_:AH):(Int×Int×ByteArray×Sl3×Int×AH)→AH:=fun r=>r.2.2.2.2.2
noncomputable def z52 (_L:LC) (H:AH) (_a1_0:Int) (_a1_1:ByteArray) (_a1_2:Bool) (_a1_3:Sl3) (_a1_4:Int) (_a1_5:Sl3) (_a1_6 _a1_7:Int) (_a1_8:ByteArray) (_a1_9 _a1_10 _a1_11:Sl3) (_a2:Int) (a3:Sl3):(Int×Int×Int×ByteArray×Sl3)→Option (Lp (Int×Int×Int×ByteArray×Sl3) (Int×Int×ByteArray×Sl3×Int×AH)):=fun (v14_1,w1_2,w1_3,w1_4,w1_5) =>
 if v14_1<(a3.n:Int) then
  Option.bind (idxA 4 a3 v14_1) fun p6 =>
  Option.bind (rd (deI .i64) H (Addr.add p6 0)) fun x7 =>
  if x7=3 then
   some (.next ((IntKind.i64.wrap (v14_1+1)),w1_2,w1_3,w1_4,w1_5))
  else
   none
 else
  some (.brk (v14_1,w1_2,w1_3,w1_4,w1_5))
def zgz (_L:LC) (_H:AH) (a1_0:Int) (a1_1:ByteArray) (a1_2:Bool) (a1_3:Sl3) (a1_4:Int) (a1_5:Sl3) (a1_6 a1_7:Int) (a1_8:ByteArray) (a1_9 a1_10 a1_11:Sl3) (a2:Int) (a3:Sl3):(Int×Int×Int×ByteArray×Sl3)→KN×Lcs:=fun (v14_1,w1_2,w1_3,w1_4,w1_5)=>([kI 14 v14_1,kI 2 a2,kS 3 a3,kL 5 0 0,kL 8 1 0],[some (82,[(Value.int .i64 a1_0),(Value.string a1_1),(Value.bool a1_2),(Sl3.v a1_3),(Value.int .i64 a1_4),(Sl3.v a1_5),(Value.int .i64 a1_6),(Value.int .i64 a1_7),(Value.string a1_8),(Sl3.v a1_9),(Sl3.v a1_10),(Sl3.v a1_11)]),some (56,[(Value.int .i64 w1_2),(Value.int .i64 w1_3),(Value.string w1_4),(Sl3.v w1_5)])])
noncomputable def z4c (L:LC) (_m:Nat) (H:AH) (_a0:Option Addr) (a1_0:Int) (a1_1:ByteArray) (a1_2:Bool) (a1_3:Sl3) (a1_4:Int) (a1_5:Sl3) (a1_6 a1_7:Int) (a1_8:ByteArray) (a1_9 a1_10 a1_11:Sl3) (a2:Int) (a3:Sl3):Option (Int×Int×ByteArray×Sl3×Int×AH) :=
 if a2=1 then
  none
 else
  if a2=2 then
   none
  else
   if a2=3 then
    none
   else
    if a2=4 then
     none
    else
     if a2=5 then
      none
     else
      if a2=6 then
       none
      else
       if a2=7 then
        none
       else
        if a2=8 then
         none
        else
         Option.bind (L.run (z52 L H a1_0 a1_1 a1_2 a1_3 a1_4 a1_5 a1_6 a1_7 a1_8 a1_9 a1_10 a1_11 a2 a3) (0,0,0,(⟨#[]⟩:ByteArray),Sl3.nil)) fun o=>match o with
         | .inl (_,_,_,_,_) =>
          if a1_0=41 then
           none
          else
           Option.bind (idxA 4 a3 0) fun p13 =>
           Option.bind (rd (deI .i64) H (Addr.add p13 0)) fun x14_0 =>
           Option.bind (rd (deI .i64) H (Addr.add p13 1)) fun x14_1 =>
           Option.bind (rd deS H (Addr.add p13 2)) fun x14_2 =>
           Option.bind (rd deSl H (Addr.add p13 3)) fun x14_3 =>
           Option.bind (zji L H a3 x14_0 x14_1 x14_2 x14_3) fun x15 =>
           if x15=true then
            if a2=11 then
             none
            else
             Option.bind (zh7 L H a1_0 a1_1 a1_2 a1_3 a1_4 a1_5 a1_6 a1_7 a1_8 a1_9 a1_10 a1_11 a3) fun (x16,x17) =>
             if x17=true then
              Option.bind (zqz L x16) fun (x18_0,x18_1,x18_2,x18_3) =>
              some (x18_0,x18_1,x18_2,x18_3,0,H)
             else
              none
           else
            none
         | .inr r=>some r
theorem z7e {E m L H a1_0 a1_1 a1_2 a1_3 a1_4 a1_5 a1_6 a1_7 a1_8 a1_9 a1_10 a1_11 a2 a3} :LoopF Tryz.prog (NE.plain 258) m E Tryz.f147 ((cfst (csnd (cfst (csnd (csnd B147)))))) (zgz L H a1_0 a1_1 a1_2 a1_3 a1_4 a1_5 a1_6 a1_7 a1_8 a1_9 a1_10 a1_11 a2 a3) (fun _=>H) 3 z4e (z4u H) (z52 L H a1_0 a1_1 a1_2 a1_3 a1_4 a1_5 a1_6 a1_7 a1_8 a1_9 a1_10 a1_11 a2 a3):=by
 rintro ⟨v14_1,w1_2,w1_3,w1_4,w1_5⟩ o h
 unfold z52 at h
 try dsimp only at h
 refine WS.sq (WS.sq (WS.rg (RS.mS 4 [kB 121 (decide (v14_1<(a3.n:Int))),kI 120 (a3.n:Int),kS 119 a3,kI 118 v14_1] (RS.dn (WS.nxt ?_)))))
 rcases z0 h with ⟨hp,h⟩ | ⟨hp,h⟩
 ·refine WS.fx 121 true (decide_eq_true hp) (WS.cT (WS.sk (WS.nxt (WS.sq (WS.bk 4 (WS.sq (WS.rg (RS.mS 2 [kI 125 v14_1,kS 124 a3] ?_))))))))
  obtain ⟨p6,hx,h⟩:=bind_some h
  refine RS.ix 126 54 56 (.tmp 124) (.tmp 125) hx (RS.mS 1 [(127,.val (Value.pointer (some (Addr.add p6 0))))] ?_)
  obtain ⟨x7,hx,h⟩:=bind_some h
  refine RS.ld 128 53 (.tmp 127) (z1 hx z4) (RS.mS 1 [kB 129 (!decide (x7=3))] (RS.dn (WS.nxt ?_)))
  rcases z0 h with ⟨hp,h⟩ | ⟨hp,h⟩
  ·refine WS.fx 129 false (zd hp) (WS.cF (WS.sk ?_))
   refine fun a w hs=>bkN ((WS.nxt ?_ a w hs))
   refine WS.rg (RS.mS 3 [kI 14 (IntKind.i64.wrap (v14_1+1)),kI 123 (IntKind.i64.wrap (v14_1+1)),kI 122 v14_1] (RS.dn ?_))
   cases h
   exact fun a w hs=>lsN rfl (hs.sb 2)
  ·refine WS.fx 129 true (z9 hp) (WS.cT ?_)
   cases h
 ·refine WS.fx 121 false (decide_eq_false hp) (WS.cF (WS.ex 3 ?_))
  cases h
  exact fun a w hs=>sqE (lsB rfl (hs.sb 2))
theorem zao {L:LC} {m:Nat} {H:AH} {a0:Option Addr} {a1_0:Int} {a1_1:ByteArray} {a1_2:Bool} {a1_3:Sl3} {a1_4:Int} {a1_5:Sl3} {a1_6 a1_7:Int} {a1_8:ByteArray} {a1_9 a1_10 a1_11:Sl3} {a2:Int} {a3:Sl3} {r:(Int×Int×ByteArray×Sl3×Int×AH)} (h:z4c L m H a0 a1_0 a1_1 a1_2 a1_3 a1_4 a1_5 a1_6 a1_7 a1_8 a1_9 a1_10 a1_11 a2 a3=some r) :
  CallS Tryz.prog (NE.plain 258) m 147 #[(Value.pointer a0),(Value.agg #[(Value.int .i64 a1_0),(Value.string a1_1),(Value.bool a1_2),(Sl3.v a1_3),(Value.int .i64 a1_4),(Sl3.v a1_5),(Value.int .i64 a1_6),(Value.int .i64 a1_7),(Value.string a1_8),(Sl3.v a1_9),(Sl3.v a1_10),(Sl3.v a1_11)]),(Value.int .i64 a2),(Sl3.v a3)] H (z4e r) (z4u H r):=by
 refine CallS.mk (args:=[(Value.pointer a0),(Value.agg #[(Value.int .i64 a1_0),(Value.string a1_1),(Value.bool a1_2),(Sl3.v a1_3),(Value.int .i64 a1_4),(Sl3.v a1_5),(Value.int .i64 a1_6),(Value.int .i64 a1_7),(Value.string a1_8),(Sl3.v a1_9),(Sl3.v a1_10),(Sl3.v a1_11)]),(Value.int .i64 a2),(Sl3.v a3)]) Tryz.func147 (B:=B147) (by kernel_rfl) (fun E _=>?_)
 unfold z4c at h
 refine WS.sq (WS.rg (RS.mL 3 [kI 9 0,kL 8 1 0,kL 5 0 0] ([some (82,[(Value.int .i64 a1_0),(Value.string a1_1),(Value.bool a1_2),(Sl3.v a1_3),(Value.int .i64 a1_4),(Sl3.v a1_5),(Value.int .i64 a1_6),(Value.int .i64 a1_7),(Value.string a1_8),(Sl3.v a1_9),(Sl3.v a1_10),(Sl3.v a1_11)]),some (56,[(Value.int .i64 0),(Value.int .i64 0),(Value.string (⟨#[]⟩:ByteArray)),(Sl3.v Sl3.nil)])]) (RS.dn (WS.nxt (WS.sq (WS.sq (WS.rg (RS.mS 1 [kI 17 a2] (RS.dn ?_)))))))))
 refine WS.nxt (WS.bk 0 (WS.sq (WS.rg (RS.mS 2 [kB 18 (decide (a2=1)),kB 19 (decide (a2=1))] (RS.dn (WS.nxt ?_))))))
 rcases z0 h with ⟨hp,h⟩ | ⟨hp,h⟩
 ·refine WS.fx 18 true (decide_eq_true hp) (WS.cT ?_)
  cases h
 ·refine WS.fx 18 false (decide_eq_false hp) (WS.cF (WS.sq (WS.rg (RS.mS 2 [kB 25 (decide (a2=2)),kB 26 (decide (a2=2))] (RS.dn (WS.nxt ?_))))))
  rcases z0 h with ⟨hp,h⟩ | ⟨hp,h⟩
  ·refine WS.fx 25 true (decide_eq_true hp) (WS.cT ?_)
   cases h
  ·refine WS.fx 25 false (decide_eq_false hp) (WS.cF (WS.sq (WS.rg (RS.mS 2 [kB 34 (decide (a2=3)),kB 35 (decide (a2=3))] (RS.dn (WS.nxt ?_))))))
   rcases z0 h with ⟨hp,h⟩ | ⟨hp,h⟩
   ·refine WS.fx 34 true (decide_eq_true hp) (WS.cT ?_)
    cases h
   ·refine WS.fx 34 false (decide_eq_false hp) (WS.cF (WS.sq (WS.rg (RS.mS 2 [kB 54 (decide (a2=4)),kB 55 (decide (a2=4))] (RS.dn (WS.nxt ?_))))))
    rcases z0 h with ⟨hp,h⟩ | ⟨hp,h⟩
    ·refine WS.fx 54 true (decide_eq_true hp) (WS.cT (WS.sq ?_))
     cases h
    ·refine WS.fx 54 false (decide_eq_false hp) (WS.cF (WS.sq (WS.rg (RS.mS 2 [kB 87 (decide (a2=5)),kB 88 (decide (a2=5))] (RS.dn (WS.nxt ?_))))))
     rcases z0 h with ⟨hp,h⟩ | ⟨hp,h⟩
     ·refine WS.fx 87 true (decide_eq_true hp) (WS.cT ?_)
      cases h
     ·refine WS.fx 87 false (decide_eq_false hp) (WS.cF (WS.sq (WS.rg (RS.mS 2 [kB 94 (decide (a2=6)),kB 95 (decide (a2=6))] (RS.dn (WS.nxt ?_))))))
      rcases z0 h with ⟨hp,h⟩ | ⟨hp,h⟩
      ·refine WS.fx 94 true (decide_eq_true hp) (WS.cT ?_)
       cases h
      ·refine WS.fx 94 false (decide_eq_false hp) (WS.cF (WS.sq (WS.rg (RS.mS 2 [kB 101 (decide (a2=7)),kB 102 (decide (a2=7))] (RS.dn (WS.nxt ?_))))))
       rcases z0 h with ⟨hp,h⟩ | ⟨hp,h⟩
       ·refine WS.fx 101 true (decide_eq_true hp) (WS.cT ?_)
        cases h
       ·refine WS.fx 101 false (decide_eq_false hp) (WS.cF (WS.sq (WS.rg (RS.mS 2 [kB 108 (decide (a2=8)),kB 109 (decide (a2=8))] (RS.dn (WS.nxt ?_))))))
        rcases z0 h with ⟨hp,h⟩ | ⟨hp,h⟩
        ·refine WS.fx 108 true (decide_eq_true hp) (WS.cT ?_)
         cases h
        ·refine WS.fx 108 false (decide_eq_false hp) (WS.cF (WS.sk ?_))
         refine fun a w hs=>bkN ((WS.nxt ?_ a w hs))
         refine WS.sq (WS.sq (WS.rg (RS.mS 1 [kI 14 0] (RS.dn (WS.nxt (WS.bk 3 ?_))))))
         obtain ⟨o,hl,h⟩:=bind_some h
         rcases o with ⟨v14_8,w1_9,w1_10,w1_11,w1_12⟩ | r
         ·try dsimp only at h
          refine WS.lI (z7e (L:=L) (E:=E) (m:=m) (H:=H)) (L.ok hl) 2 ?_
          clear hl
          refine fun a w hs=>bkE ((WS.nxt ?_ a w hs))
          refine WS.sq (WS.sq (WS.rg (RS.mS 4 [kB 134 (!decide (a1_0=41)),kB 133 (!decide (a1_0=41)),kI 132 a1_0,kL 131 0 0] ?_)))
          rcases z0 h with ⟨hp,h⟩ | ⟨hp,h⟩
          ·refine RS.fx 134 false (zd hp) ?_
           cases h
          ·refine RS.fx 134 true (z9 hp) (RS.mS 2 [kS 136 a3,kS 135 a3] ?_)
           obtain ⟨p13,hx,h⟩:=bind_some h
           refine RS.ix 137 54 56 (.tmp 136) (.const (Value.int .i64 0)) hx ?_
           obtain ⟨x14_0,hx0,h⟩:=bind_some h
           obtain ⟨x14_1,hx1,h⟩:=bind_some h
           obtain ⟨x14_2,hx2,h⟩:=bind_some h
           obtain ⟨x14_3,hx3,h⟩:=bind_some h
           refine RS.la 138 56 (.tmp 137) 4 (z2 (z1 hx0 z4) (z2 (z1 hx1 z4) (z2 (z1 hx2 za) (z2 (z1 hx3 z3) zq)))) ?_
           obtain ⟨x15,hx,h⟩:=bind_some h
           refine RS.cl (some 139) (v:=(Value.bool x15)) 222 #[(Sl3.v a3),(Value.agg #[(Value.int .i64 x14_0),(Value.int .i64 x14_1),(Value.string x14_2),(Sl3.v x14_3)])] (zsm hx) (RS.mS 2 [kB 141 (!x15),kB 140 (!x15)] (RS.dn (WS.nxt ?_)))
           rcases z0 h with ⟨hp,h⟩ | ⟨hp,h⟩
           ·refine WS.fx 141 false (nb_not hp) (WS.cF (WS.sk (WS.nxt (WS.sq (WS.sq (WS.rg (RS.mS 2 [kB 144 (decide (a2=11)),kI 143 a2] (RS.dn (WS.nxt ?_)))))))))
            rcases z0 h with ⟨hp,h⟩ | ⟨hp,h⟩
            ·refine WS.fx 144 true (decide_eq_true hp) (WS.cT ?_)
             cases h
            ·refine WS.fx 144 false (decide_eq_false hp) (WS.cF (WS.sk (WS.nxt (WS.sq (WS.rg (RS.mS 2 [kS 148 a3,kA 147 #[(Value.int .i64 a1_0),(Value.string a1_1),(Value.bool a1_2),(Sl3.v a1_3),(Value.int .i64 a1_4),(Sl3.v a1_5),(Value.int .i64 a1_6),(Value.int .i64 a1_7),(Value.string a1_8),(Sl3.v a1_9),(Sl3.v a1_10),(Sl3.v a1_11)]] ?_))))))
             obtain ⟨⟨x16,x17⟩,hx,h⟩:=bind_some h
             try dsimp only at h
             refine RS.cl (some 149) (v:=(Value.tuple #[(Value.int .i64 x16),(Value.bool x17)])) 226 #[(Value.agg #[(Value.int .i64 a1_0),(Value.string a1_1),(Value.bool a1_2),(Sl3.v a1_3),(Value.int .i64 a1_4),(Sl3.v a1_5),(Value.int .i64 a1_6),(Value.int .i64 a1_7),(Value.string a1_8),(Sl3.v a1_9),(Sl3.v a1_10),(Sl3.v a1_11)]),(Sl3.v a3)] (zrd hx) (RS.mS 5 [kB 16 x17,kI 15 x16,kB 151 x17,kI 150 x16,(146,.val (Value.tuple #[(Value.int .i64 x16),(Value.bool x17)]))] (RS.dn (WS.nxt (WS.sq (WS.sq (WS.rg (RS.mS 2 [kB 153 (!x17),kB 152 x17] (RS.dn (WS.nxt ?_)))))))))
             rcases z0 h with ⟨hp,h⟩ | ⟨hp,h⟩
             ·refine WS.fx 153 false (nb_not hp) (WS.cF (WS.sk (WS.nxt (WS.sq (WS.rg (RS.mS 1 [kI 155 x16] ?_))))))
              obtain ⟨⟨x18_0,x18_1,x18_2,x18_3⟩,hx,h⟩:=bind_some h
              try dsimp only at h
              refine RS.cl (some 156) (v:=(Value.agg #[(Value.int .i64 x18_0),(Value.int .i64 x18_1),(Value.string x18_2),(Sl3.v x18_3)])) 225 #[(Value.int .i64 x16)] (zvu hx) (RS.mL 2 [kI 9 0] ([some (82,[(Value.int .i64 a1_0),(Value.string a1_1),(Value.bool a1_2),(Sl3.v a1_3),(Value.int .i64 a1_4),(Sl3.v a1_5),(Value.int .i64 a1_6),(Value.int .i64 a1_7),(Value.string a1_8),(Sl3.v a1_9),(Sl3.v a1_10),(Sl3.v a1_11)]),some (56,[(Value.int .i64 x18_0),(Value.int .i64 x18_1),(Value.string x18_2),(Sl3.v x18_3)])]) (RS.dn (WS.nxt (WS.rt ?_))))
              cases h
              exact fun a w hs=>rtR (rS hs)
             ·refine WS.fx 153 true (zb hp) (WS.cT ?_)
              cases h
           ·refine WS.fx 141 true (zb hp) (WS.cT ?_)
            cases h
         ·try dsimp only at h
          refine WS.lR (z7e (L:=L) (E:=E) (m:=m) (H:=H)) (L.ok hl) 2 ?_
          cases h
          exact fun a w hq=>bkR (sqR (rtR hq))
noncomputable def B148:Code:=(Tryz.f148.body).getD .skip
def z7l:Bool→Value
 | r0=>(Value.bool r0)
def z8n (H:AH):Bool→AH:=fun _=>H
noncomputable def z3c (_L:LC) (_H:AH) (_a0:Option Addr) (a1_0:Int) (_a1_1:ByteArray) (_a1_2:Bool) (_a1_3:Sl3) (_a1_4:Int) (_a1_5:Sl3) (_a1_6 _a1_7:Int) (_a1_8:ByteArray) (_a1_9 _a1_10 _a1_11:Sl3):Option Bool :=
 if a1_0=24 then
  none
 else
  if a1_0=25 then
   none
  else
   if a1_0=26 then
    none
   else
    some true
theorem z8j {L:LC} {m:Nat} {H:AH} {a0:Option Addr} {a1_0:Int} {a1_1:ByteArray} {a1_2:Bool} {a1_3:Sl3} {a1_4:Int} {a1_5:Sl3} {a1_6 a1_7:Int} {a1_8:ByteArray} {a1_9 a1_10 a1_11:Sl3} {r:Bool} (h:z3c L H a0 a1_0 a1_1 a1_2 a1_3 a1_4 a1_5 a1_6 a1_7 a1_8 a1_9 a1_10 a1_11=some r) :
  CallS Tryz.prog (NE.plain 258) m 148 #[(Value.pointer a0),(Value.agg #[(Value.int .i64 a1_0),(Value.string a1_1),(Value.bool a1_2),(Sl3.v a1_3),(Value.int .i64 a1_4),(Sl3.v a1_5),(Value.int .i64 a1_6),(Value.int .i64 a1_7),(Value.string a1_8),(Sl3.v a1_9),(Sl3.v a1_10),(Sl3.v a1_11)])] H (z7l r) (z8n H r):=by
 refine CallS.mk (args:=[(Value.pointer a0),(Value.agg #[(Value.int .i64 a1_0),(Value.string a1_1),(Value.bool a1_2),(Sl3.v a1_3),(Value.int .i64 a1_4),(Sl3.v a1_5),(Value.int .i64 a1_6),(Value.int .i64 a1_7),(Value.string a1_8),(Sl3.v a1_9),(Sl3.v a1_10),(Sl3.v a1_11)])]) Tryz.func148 (B:=B148) (by kernel_rfl) (fun E _=>?_)
 unfold z3c at h
 refine WS.sq (WS.rg (RS.mL 2 [kB 4 false,kL 3 0 0] ([some (82,[(Value.int .i64 a1_0),(Value.string a1_1),(Value.bool a1_2),(Sl3.v a1_3),(Value.int .i64 a1_4),(Sl3.v a1_5),(Value.int .i64 a1_6),(Value.int .i64 a1_7),(Value.string a1_8),(Sl3.v a1_9),(Sl3.v a1_10),(Sl3.v a1_11)])]) (RS.dn (WS.nxt (WS.sq (WS.sq (WS.rg (RS.mS 2 [kI 12 a1_0,kL 11 0 0] (RS.dn ?_)))))))))
 refine WS.nxt (WS.bk 0 (WS.sq (WS.rg (RS.mS 2 [kB 13 (decide (a1_0=24)),kB 14 (decide (a1_0=24))] (RS.dn (WS.nxt ?_))))))
 rcases z0 h with ⟨hp,h⟩ | ⟨hp,h⟩
 ·refine WS.fx 13 true (decide_eq_true hp) (WS.cT ?_)
  cases h
 ·refine WS.fx 13 false (decide_eq_false hp) (WS.cF (WS.sq (WS.sq (WS.rg (RS.mS 2 [kB 37 (decide (a1_0=25)),kB 38 (decide (a1_0=25))] (RS.dn (WS.nxt ?_)))))))
  rcases z0 h with ⟨hp,h⟩ | ⟨hp,h⟩
  ·refine WS.fx 37 true (decide_eq_true hp) (WS.cT ?_)
   cases h
  ·refine WS.fx 37 false (decide_eq_false hp) (WS.cF (WS.rg (RS.mS 2 [kB 37 (decide (a1_0=26)),kB 39 (decide (a1_0=26))] (RS.dn (WS.nxt ?_)))))
   rcases z0 h with ⟨hp,h⟩ | ⟨hp,h⟩
   ·refine WS.fx 37 true (decide_eq_true hp) (WS.cT ?_)
    cases h
   ·refine WS.fx 37 false (decide_eq_false hp) (WS.cF (WS.sk ?_))
    refine fun a w hs=>bkN ((WS.nxt ?_ a w hs))
    refine WS.sq (WS.rg (RS.mS 1 [kB 4 true] (RS.dn (WS.nxt (WS.rt ?_)))))
    cases h
    exact fun a w hs=>rtR (rS hs)
end Go.Proofs.YtkecibinbgaedaaGreatDoor
namespace Go.Proofs.YtkecibinbgaedaaGreatDoor
open Go Go.Abs
set_option maxRecDepth 100000
noncomputable def B77:Code:=(Tryz.f77.body).getD .skip
def z3v:(Int×Int×ByteArray×Sl3×Int×AH)→Value
 | (r0,r1,r2,r3,r4,_)=>(Value.tuple #[(Value.agg #[(Value.int .i64 r0),(Value.int .i64 r1),(Value.string r2),(Sl3.v r3)]),(Value.int .i64 r4)])
def z4g (_:AH):(Int×Int×ByteArray×Sl3×Int×AH)→AH:=fun r=>r.2.2.2.2.2
noncomputable def z4n (_L:LC) (m:Nat) (a0:Option Addr) (_a1_0:Int) (_a1_1:ByteArray) (_a1_2:Bool) (_a1_3:Sl3) (_a1_4:Int) (_a1_5:Sl3) (_a1_6 _a1_7:Int) (_a1_8:ByteArray) (_a1_9 _a1_10 a1_11:Sl3) (_x1 _x4:Int):(AH×Sl3×Int×Int×Int×ByteArray×Sl3)→Option (Lp (AH×Sl3×Int×Int×Int×ByteArray×Sl3) (Int×Int×ByteArray×Sl3×Int×AH)):=fun (H5,v13_6,v14_7,w1_8,w1_9,w1_10,w1_11) =>
 if v14_7<(a1_11.n:Int) then
  Option.bind (idxA 1 a1_11 v14_7) fun p12 =>
  Option.bind (rd (deI .i64) H5 p12) fun x13 =>
  if x13<0 then
   none
  else
   Option.bind (idxA 1 a1_11 v14_7) fun p14 =>
   Option.bind (rd (deI .i64) H5 p14) fun x15 =>
   Option.bind a0 fun q16 =>
   Option.bind (rd deSl H5 (Addr.add q16 3)) fun x17 =>
   if x15≥(x17.n:Int) then
    none
   else
    Option.bind (rd deSl H5 (Addr.add q16 4)) fun x18 =>
    Option.bind (idxA 1 a1_11 v14_7) fun p19 =>
    Option.bind (rd (deI .i64) H5 p19) fun x20 =>
    Option.bind (idxA 4 x18 x20) fun p21 =>
    Option.bind (rd (deI .i64) H5 (Addr.add p21 0)) fun x22_0 =>
    Option.bind (rd (deI .i64) H5 (Addr.add p21 1)) fun x22_1 =>
    Option.bind (rd deS H5 (Addr.add p21 2)) fun x22_2 =>
    Option.bind (rd deSl H5 (Addr.add p21 3)) fun x22_3 =>
    Option.bind (newR 56 1 #[(Value.int .i64 x22_0),(Value.int .i64 x22_1),(Value.string x22_2),(Sl3.v x22_3)] H5) fun (s23,H24) =>
    Option.bind (appS m 56 4 56 H24 v13_6 s23) fun (s25,H26) =>
    some (.next (H26,s25,(IntKind.i64.wrap (v14_7+1)),w1_8,w1_9,w1_10,w1_11))
 else
  some (.brk (H5,v13_6,v14_7,w1_8,w1_9,w1_10,w1_11))
def zfs (_L:LC) (_m:Nat) (a0:Option Addr) (a1_0:Int) (a1_1:ByteArray) (a1_2:Bool) (a1_3:Sl3) (a1_4:Int) (a1_5:Sl3) (a1_6 a1_7:Int) (a1_8:ByteArray) (a1_9 a1_10 a1_11:Sl3) (x1 x4:Int):(AH×Sl3×Int×Int×Int×ByteArray×Sl3)→KN×Lcs:=fun (_,v13_6,v14_7,w1_8,w1_9,w1_10,w1_11)=>([kS 13 v13_6,kI 14 v14_7,(0,.val (Value.pointer a0)),kL 3 0 0,kL 4 1 0,kI 6 x1,kI 9 x4],[some (82,[(Value.int .i64 a1_0),(Value.string a1_1),(Value.bool a1_2),(Sl3.v a1_3),(Value.int .i64 a1_4),(Sl3.v a1_5),(Value.int .i64 a1_6),(Value.int .i64 a1_7),(Value.string a1_8),(Sl3.v a1_9),(Sl3.v a1_10),(Sl3.v a1_11)]),some (56,[(Value.int .i64 w1_8),(Value.int .i64 w1_9),(Value.string w1_10),(Sl3.v w1_11)])])
noncomputable def z7a (L:LC) (m:Nat) (H:AH) (a0:Option Addr) (a1_0:Int) (a1_1:ByteArray) (a1_2:Bool) (a1_3:Sl3) (a1_4:Int) (a1_5:Sl3) (a1_6 a1_7:Int) (a1_8:ByteArray) (a1_9 a1_10 a1_11:Sl3):Option (Int×Int×ByteArray×Sl3×Int×AH) :=
 Option.bind (z7i L a1_0) fun (x1,x2,x3,x4) =>
 if x1=0 then
  none
 else
  if x1=4 then
   none
  else
   if (a1_11.n:Int)<x2 then
    none
   else
    if (a1_11.n:Int) > x3 then
     none
    else
     Option.bind (L.run (z4n L m a0 a1_0 a1_1 a1_2 a1_3 a1_4 a1_5 a1_6 a1_7 a1_8 a1_9 a1_10 a1_11 x1 x4) (H,Sl3.nil,0,0,0,(⟨#[]⟩:ByteArray),Sl3.nil)) fun o=>match o with
     | .inl (H27,v13_28,_,_,_,_,_) =>
      Option.bind (z3e L H27 a0 a1_0 a1_1 a1_2 a1_3 a1_4 a1_5 a1_6 a1_7 a1_8 a1_9 a1_10 a1_11 x4) fun x34 =>
      if x34=true then
       if a1_0=20 then
        none
       else
        if a1_0=40 then
         none
        else
         Option.bind (z4c L m H27 a0 a1_0 a1_1 a1_2 a1_3 a1_4 a1_5 a1_6 a1_7 a1_8 a1_9 a1_10 a1_11 x1 v13_28) fun (x35_0,x35_1,x35_2,x35_3,x36,H37) =>
         if x36=0 then
          Option.bind (z3c L H37 a0 a1_0 a1_1 a1_2 a1_3 a1_4 a1_5 a1_6 a1_7 a1_8 a1_9 a1_10 a1_11) fun x38 =>
          if x38=true then
           some (x35_0,x35_1,x35_2,x35_3,0,H37)
          else
           none
         else
          none
      else
       none
     | .inr r=>some r
theorem z6k {E H L m a0 a1_0 a1_1 a1_2 a1_3 a1_4 a1_5 a1_6 a1_7 a1_8 a1_9 a1_10 a1_11 x1 x4} :LoopF Tryz.prog (NE.plain 258) m E Tryz.f77 ((cfst (csnd (cfst (csnd (csnd (csnd (csnd (csnd (csnd B77)))))))))) (zfs L m a0 a1_0 a1_1 a1_2 a1_3 a1_4 a1_5 a1_6 a1_7 a1_8 a1_9 a1_10 a1_11 x1 x4) (fun s=>s.1) 0 z3v (z4g H) (z4n L m a0 a1_0 a1_1 a1_2 a1_3 a1_4 a1_5 a1_6 a1_7 a1_8 a1_9 a1_10 a1_11 x1 x4):=by
 rintro ⟨H5,v13_6,v14_7,w1_8,w1_9,w1_10,w1_11⟩ o h
 unfold z4n at h
 try dsimp only at h
 refine WS.sq (WS.sq (WS.rg (RS.mS 5 [kB 67 (decide (v14_7<(a1_11.n:Int))),kI 66 (a1_11.n:Int),kS 65 a1_11,kL 64 0 11,kI 63 v14_7] (RS.dn (WS.nxt ?_)))))
 rcases z0 h with ⟨hp,h⟩ | ⟨hp,h⟩
 ·refine WS.fx 67 true (decide_eq_true hp) (WS.cT (WS.sk (WS.nxt (WS.sq (WS.bk 1 (WS.sq (WS.sq ?_)))))))
  refine WS.dr [0,1,2,3,4,5,6,7,8,9,10,11,12,13,14,15] [0,1,0,7,15,31,63,127,255,127,1023,2047,127,4223,12415,28799,61567,131071,262143] 19 (fun hcl=>?_)
  refine DA.tL 0 (some 70) (.loc 0 11) (DA.tL 1 (some 71) (.val (Sl3.v a1_11)) (DA.tK 2 (some 72) (Value.int .i64 v14_7) ?_))
  obtain ⟨p12,hx,h⟩:=bind_some h
  refine DA.tD 3 (some 73) (Value.pointer (some p12)) (Abs.det_idx (s:=a1_11) (k:=.i64) (t:=28) (e:=3) (x:=.tmp 71) (y:=.tmp 72) (by kernel_rfl) (by kernel_rfl) (by kernel_rfl) (by kernel_rfl) (by kernel_rfl) hx) ?_
  obtain ⟨x13,hx,h⟩:=bind_some h
  refine DA.tD 4 (some 74) (Value.int .i64 x13) (Abs.det_load (t:=3) (x:=.tmp 73) (a:=p12) (by kernel_rfl) (by kernel_rfl) (by kernel_rfl) (by kernel_rfl) (z1 hx z4)) (DA.tK 5 (some 75) (Value.bool (decide (x13<0))) (DA.tK 6 (some 76) (Value.bool (decide (x13<0))) ?_))
  rcases z0 h with ⟨hp,h⟩ | ⟨hp,h⟩
  ·refine DA.fx 76 true (decide_eq_true hp) ?_
   cases h
  ·refine DA.fx 76 false (decide_eq_false hp) (DA.tL 7 (some 77) (.loc 0 11) (DA.tL 8 (some 78) (.val (Sl3.v a1_11)) (DA.tK 9 (some 79) (Value.int .i64 v14_7) ?_)))
   obtain ⟨p14,hx,h⟩:=bind_some h
   refine DA.tD 10 (some 80) (Value.pointer (some p14)) (Abs.det_idx (s:=a1_11) (k:=.i64) (t:=28) (e:=3) (x:=.tmp 78) (y:=.tmp 79) (by kernel_rfl) (by kernel_rfl) (by kernel_rfl) (by kernel_rfl) (by kernel_rfl) hx) ?_
   obtain ⟨x15,hx,h⟩:=bind_some h
   refine DA.tD 11 (some 81) (Value.int .i64 x15) (Abs.det_load (t:=3) (x:=.tmp 80) (a:=p14) (by kernel_rfl) (by kernel_rfl) (by kernel_rfl) (by kernel_rfl) (z1 hx z4)) (DA.tK 12 (some 82) (Value.pointer a0) ?_)
   obtain ⟨q16,hx,hq16⟩:=bind_some h
   subst hx
   have h:=hq16
   refine DA.tK 13 (some 83) (Value.pointer (some q16)) (DA.tK 14 (some 84) (Value.pointer (some (Addr.add q16 3))) ?_)
   obtain ⟨x17,hx,h⟩:=bind_some h
   refine DA.tD 15 (some 85) (Sl3.v x17) (Abs.det_load (t:=83) (x:=.tmp 84) (a:=(Addr.add q16 3)) (by kernel_rfl) (by kernel_rfl) (by kernel_rfl) (by kernel_rfl) (z1 hx z3)) (DA.on 16 (DA.aHj (H':=H5) 16 (some 86) false (Value.int .i64 (x17.n:Int)) (by kernel_rfl) (DA.tP 17 (some 87) (Value.bool (decide (x15≥(x17.n:Int)))) (DA.tP 18 (some 88) (Value.bool (decide (x15≥(x17.n:Int)))) (DA.dn (WS.nxt ?_))))))
   rcases z0 h with ⟨hp,h⟩ | ⟨hp,h⟩
   ·refine WS.fx 88 true (decide_eq_true hp) (WS.cT ?_)
    cases h
   ·refine WS.fx 88 false (decide_eq_false hp) (WS.cF (WS.sk (WS.nxt ?_)))
    refine WS.dr [1,2,3,4,5,6,7,8,9,10,11] [0,0,2,6,14,0,32,0,224,480,1022,2046,4094,8191,16383] 15 (fun hcl=>?_)
    refine DA.tK 1 (some 91) (Value.pointer (some q16)) (DA.tK 2 (some 92) (Value.pointer (some q16)) (DA.tK 3 (some 93) (Value.pointer (some (Addr.add q16 4))) ?_))
    obtain ⟨x18,hx,h⟩:=bind_some h
    refine DA.tD 4 (some 94) (Sl3.v x18) (Abs.det_load (t:=54) (x:=.tmp 93) (a:=(Addr.add q16 4)) (by kernel_rfl) (by kernel_rfl) (by kernel_rfl) (by kernel_rfl) (z1 hx z3)) (DA.tL 5 (some 95) (.loc 0 11) (DA.tL 6 (some 96) (.val (Sl3.v a1_11)) (DA.tK 7 (some 97) (Value.int .i64 v14_7) ?_)))
    obtain ⟨p19,hx,h⟩:=bind_some h
    refine DA.tD 8 (some 98) (Value.pointer (some p19)) (Abs.det_idx (s:=a1_11) (k:=.i64) (t:=28) (e:=3) (x:=.tmp 96) (y:=.tmp 97) (by kernel_rfl) (by kernel_rfl) (by kernel_rfl) (by kernel_rfl) (by kernel_rfl) hx) ?_
    obtain ⟨x20,hx,h⟩:=bind_some h
    refine DA.tD 9 (some 99) (Value.int .i64 x20) (Abs.det_load (t:=3) (x:=.tmp 98) (a:=p19) (by kernel_rfl) (by kernel_rfl) (by kernel_rfl) (by kernel_rfl) (z1 hx z4)) ?_
    obtain ⟨p21,hx,h⟩:=bind_some h
    refine DA.tD 10 (some 100) (Value.pointer (some p21)) (Abs.det_idx (s:=x18) (k:=.i64) (t:=54) (e:=56) (x:=.tmp 94) (y:=.tmp 99) (by kernel_rfl) (by kernel_rfl) (by kernel_rfl) (by kernel_rfl) (by kernel_rfl) hx) ?_
    obtain ⟨x22_0,hx0,h⟩:=bind_some h
    obtain ⟨x22_1,hx1,h⟩:=bind_some h
    obtain ⟨x22_2,hx2,h⟩:=bind_some h
    obtain ⟨x22_3,hx3,h⟩:=bind_some h
    refine DA.tD 11 (some 101) (Value.agg #[(Value.int .i64 x22_0),(Value.int .i64 x22_1),(Value.string x22_2),(Sl3.v x22_3)]) (Abs.det_loadA (t:=56) (x:=.tmp 100) (a:=p21) (k:=4) (by kernel_rfl) (by kernel_rfl) (by kernel_rfl) (by kernel_rfl) (z2 (z1 hx0 z4) (z2 (z1 hx1 z4) (z2 (z1 hx2 za) (z2 (z1 hx3 z3) zq))))) (DA.tP 0 (some 90) (Sl3.v v13_6) ?_)
    obtain ⟨⟨s23,H24⟩,hx,h⟩:=bind_some h
    try dsimp only at h
    refine DA.on 12 (DA.aH (H':=H24) 12 (some 102) (Sl3.v s23) (Abs.run_newR (by kernel_rfl) (by kernel_rfl) hx) ?_)
    obtain ⟨⟨s25,H26⟩,hx,h⟩:=bind_some h
    try dsimp only at h
    refine DA.on 13 (DA.aH (H':=H26) 13 (some 103) (Sl3.v s25) (Abs.run_app (x:=.tmp 90) (y:=.tmp 102) (ts:=#[54,54]) (s:=v13_6) (z:=s23) (by kernel_rfl) (by kernel_rfl) (by kernel_rfl) (by kernel_rfl) hx) (DA.tP 14 (some 13) (Sl3.v s25) (DA.dn ?_)))
    refine fun a w hs=>bkN ((WS.nxt ?_ a w hs))
    refine WS.rg (RS.mS 3 [kI 14 (IntKind.i64.wrap (v14_7+1)),kI 69 (IntKind.i64.wrap (v14_7+1)),kI 68 v14_7] (RS.dn ?_))
    cases h
    exact fun a w hs=>lsN rfl (hs.sb 2)
 ·refine WS.fx 67 false (decide_eq_false hp) (WS.cF (WS.ex 0 ?_))
  cases h
  exact fun a w hs=>sqE (lsB rfl (hs.sb 2))
theorem zju {L:LC} {m:Nat} {H:AH} {a0:Option Addr} {a1_0:Int} {a1_1:ByteArray} {a1_2:Bool} {a1_3:Sl3} {a1_4:Int} {a1_5:Sl3} {a1_6 a1_7:Int} {a1_8:ByteArray} {a1_9 a1_10 a1_11:Sl3} {r:(Int×Int×ByteArray×Sl3×Int×AH)} (h:z7a L m H a0 a1_0 a1_1 a1_2 a1_3 a1_4 a1_5 a1_6 a1_7 a1_8 a1_9 a1_10 a1_11=some r) :
  CallS Tryz.prog (NE.plain 258) m 77 #[(Value.pointer a0),(Value.agg #[(Value.int .i64 a1_0),(Value.string a1_1),(Value.bool a1_2),(Sl3.v a1_3),(Value.int .i64 a1_4),(Sl3.v a1_5),(Value.int .i64 a1_6),(Value.int .i64 a1_7),(Value.string a1_8),(Sl3.v a1_9),(Sl3.v a1_10),(Sl3.v a1_11)])] H (z3v r) (z4g H r):=by
 refine CallS.mk (args:=[(Value.pointer a0),(Value.agg #[(Value.int .i64 a1_0),(Value.string a1_1),(Value.bool a1_2),(Sl3.v a1_3),(Value.int .i64 a1_4),(Sl3.v a1_5),(Value.int .i64 a1_6),(Value.int .i64 a1_7),(Value.string a1_8),(Sl3.v a1_9),(Sl3.v a1_10),(Sl3.v a1_11)])]) Tryz.func77 (B:=B77) (by kernel_rfl) (fun E _=>?_)
 unfold z7a at h
 refine WS.sq (WS.rg (RS.mL 3 [kI 5 0,kL 4 1 0,kL 3 0 0] ([some (82,[(Value.int .i64 a1_0),(Value.string a1_1),(Value.bool a1_2),(Sl3.v a1_3),(Value.int .i64 a1_4),(Sl3.v a1_5),(Value.int .i64 a1_6),(Value.int .i64 a1_7),(Value.string a1_8),(Sl3.v a1_9),(Sl3.v a1_10),(Sl3.v a1_11)]),some (56,[(Value.int .i64 0),(Value.int .i64 0),(Value.string (⟨#[]⟩:ByteArray)),(Sl3.v Sl3.nil)])]) (RS.dn (WS.nxt (WS.sq (WS.rg (RS.mS 2 [kI 19 a1_0,kL 18 0 0] ?_)))))))
 obtain ⟨⟨x1,x2,x3,x4⟩,hx,h⟩:=bind_some h
 try dsimp only at h
 refine RS.cl (some 20) (v:=(Value.tuple #[(Value.int .i64 x1),(Value.int .i64 x2),(Value.int .i64 x3),(Value.int .i64 x4)])) 142 #[(Value.int .i64 a1_0)] (zbp hx) (RS.mS 9 [kI 9 x4,kI 8 x3,kI 7 x2,kI 6 x1,kI 24 x4,kI 23 x3,kI 22 x2,kI 21 x1,(17,.val (Value.tuple #[(Value.int .i64 x1),(Value.int .i64 x2),(Value.int .i64 x3),(Value.int .i64 x4)]))] (RS.dn (WS.nxt (WS.sq (WS.sq (WS.rg (RS.mS 2 [kB 26 (decide (x1=0)),kI 25 x1] (RS.dn (WS.nxt ?_)))))))))
 rcases z0 h with ⟨hp,h⟩ | ⟨hp,h⟩
 ·refine WS.fx 26 true (decide_eq_true hp) (WS.cT ?_)
  cases h
 ·refine WS.fx 26 false (decide_eq_false hp) (WS.cF (WS.sk (WS.nxt (WS.sq (WS.sq (WS.rg (RS.mS 2 [kB 29 (decide (x1=4)),kI 28 x1] (RS.dn (WS.nxt ?_)))))))))
  rcases z0 h with ⟨hp,h⟩ | ⟨hp,h⟩
  ·refine WS.fx 29 true (decide_eq_true hp) (WS.cT (WS.sq ?_))
   cases h
  ·refine WS.fx 29 false (decide_eq_false hp) (WS.cF (WS.sk (WS.nxt (WS.sq (WS.sq (WS.rg (RS.mS 6 [kB 55 (decide ((a1_11.n:Int)<x2)),kB 54 (decide ((a1_11.n:Int)<x2)),kI 53 x2,kI 52 (a1_11.n:Int),kS 51 a1_11,kL 50 0 11] ?_)))))))
   rcases z0 h with ⟨hp,h⟩ | ⟨hp,h⟩
   ·refine RS.fx 55 true (decide_eq_true hp) ?_
    cases h
   ·refine RS.fx 55 false (decide_eq_false hp) (RS.mS 6 [kB 61 (decide ((a1_11.n:Int) > x3)),kB 60 (decide ((a1_11.n:Int) > x3)),kI 59 x3,kI 58 (a1_11.n:Int),kS 57 a1_11,kL 56 0 11] (RS.dn (WS.nxt ?_)))
    rcases z0 h with ⟨hp,h⟩ | ⟨hp,h⟩
    ·refine WS.fx 61 true (decide_eq_true hp) (WS.cT ?_)
     cases h
    ·refine WS.fx 61 false (decide_eq_false hp) (WS.cF (WS.sk (WS.nxt (WS.sq (WS.rg (RS.mS 1 [kS 13 Sl3.nil] (RS.dn (WS.nxt (WS.sq ?_)))))))))
     refine WS.sq (WS.rg (RS.mS 1 [kI 14 0] (RS.dn (WS.nxt (WS.bk 0 ?_)))))
     obtain ⟨o,hl,h⟩:=bind_some h
     rcases o with ⟨H27,v13_28,v14_29,w1_30,w1_31,w1_32,w1_33⟩ | r
     ·try dsimp only at h
      refine WS.lI (z6k (L:=L) (E:=E) (m:=m) (H:=H)) (L.ok hl) 2 ?_
      clear hl
      refine fun a w hs=>bkE ((WS.nxt ?_ a w hs))
      refine WS.sq (WS.sq (WS.rg (RS.mS 3 [kI 106 x4,kA 105 #[(Value.int .i64 a1_0),(Value.string a1_1),(Value.bool a1_2),(Sl3.v a1_3),(Value.int .i64 a1_4),(Sl3.v a1_5),(Value.int .i64 a1_6),(Value.int .i64 a1_7),(Value.string a1_8),(Sl3.v a1_9),(Sl3.v a1_10),(Sl3.v a1_11)],(104,.val (Value.pointer a0))] ?_)))
      obtain ⟨x34,hx,h⟩:=bind_some h
      refine RS.cl (some 107) (v:=(Value.bool x34)) 144 #[(Value.pointer a0),(Value.agg #[(Value.int .i64 a1_0),(Value.string a1_1),(Value.bool a1_2),(Sl3.v a1_3),(Value.int .i64 a1_4),(Sl3.v a1_5),(Value.int .i64 a1_6),(Value.int .i64 a1_7),(Value.string a1_8),(Sl3.v a1_9),(Sl3.v a1_10),(Sl3.v a1_11)]),(Value.int .i64 x4)] (z8l hx) (RS.mS 1 [kB 108 (!x34)] (RS.dn (WS.nxt ?_)))
      rcases z0 h with ⟨hp,h⟩ | ⟨hp,h⟩
      ·refine WS.fx 108 false (nb_not hp) (WS.cF (WS.sk (WS.nxt (WS.sq (WS.sq (WS.rg (RS.mS 4 [kB 113 (decide (a1_0=20)),kB 112 (decide (a1_0=20)),kI 111 a1_0,kL 110 0 0] ?_)))))))
       rcases z0 h with ⟨hp,h⟩ | ⟨hp,h⟩
       ·refine RS.fx 113 true (decide_eq_true hp) ?_
        cases h
       ·refine RS.fx 113 false (decide_eq_false hp) (RS.mS 7 [kB 120 false,kU 119,kU 118,kU 117,kU 116,kU 115,kU 114] (RS.dn (WS.nxt (WS.cF (WS.sk (WS.nxt (WS.sq (WS.sq ?_))))))))
        refine WS.dr [0,1,2,3,4,5,6,7,8,9,10,11,12,13,14,15,16,17] [0,1,3,7,15,31,63,127,255,511,1023,2047,4095,8191,16383,32767,65535,131071,262143,32767,557055,1605631,4194303,8388607,16777215] 25 (fun hcl=>?_)
        refine DA.tL 0 (some 122) (.loc 0 0) (DA.tL 1 (some 123) (.val (Value.int .i64 a1_0)) (DA.tK 2 (some 124) (Value.bool (decide (a1_0=40))) (DA.tK 3 (some 125) (Value.bool (decide (a1_0=40))) ?_)))
        rcases z0 h with ⟨hp,h⟩ | ⟨hp,h⟩
        ·refine DA.fx 125 true (decide_eq_true hp) ?_
         cases h
        ·refine DA.fx 125 false (decide_eq_false hp) ?_
         refine DA.tskipD 4 (some 126) (by kernel_rfl) (by kernel_rfl) (by kernel_rfl) hcl (fun _ _ _ h=>h) (by kernel_rfl) ?_
         refine DA.tskipD 5 (some 127) (by kernel_rfl) (by kernel_rfl) (by kernel_rfl) hcl (fun _ _ _ h=>h) (by kernel_rfl) ?_
         refine DA.tskipD 6 (some 128) (by kernel_rfl) (by kernel_rfl) (by kernel_rfl) hcl (fun _ _ _ h=>h) (by kernel_rfl) ?_
         refine DA.tskipD 7 (some 129) (by kernel_rfl) (by kernel_rfl) (by kernel_rfl) hcl (fun _ _ _ h=>h) (by kernel_rfl) ?_
         refine DA.tskipD 8 (some 130) (by kernel_rfl) (by kernel_rfl) (by kernel_rfl) hcl (fun _ _ _ h=>h) (by kernel_rfl) ?_
         refine DA.tskipD 9 (some 131) (by kernel_rfl) (by kernel_rfl) (by kernel_rfl) hcl (fun _ _ _ h=>h) (by kernel_rfl) ?_
         refine DA.tskipD 10 (some 132) (by kernel_rfl) (by kernel_rfl) (by kernel_rfl) hcl (fun _ _ _ h=>h) (by kernel_rfl) ?_
         refine DA.tskipD 11 (some 133) (by kernel_rfl) (by kernel_rfl) (by kernel_rfl) hcl (fun _ _ _ h=>h) (by kernel_rfl) ?_
         refine DA.tskipD 12 (some 134) (by kernel_rfl) (by kernel_rfl) (by kernel_rfl) hcl (fun _ _ _ h=>h) (by kernel_rfl) ?_
         refine DA.tskipD 13 (some 135) (by kernel_rfl) (by kernel_rfl) (by kernel_rfl) hcl (fun _ _ _ h=>h) (by kernel_rfl) ?_
         refine DA.tskipD 14 (some 136) (by kernel_rfl) (by kernel_rfl) (by kernel_rfl) hcl (fun _ _ _ h=>h) (by kernel_rfl) ?_
         refine DA.tskipD 15 (some 137) (by kernel_rfl) (by kernel_rfl) (by kernel_rfl) hcl (fun _ _ _ h=>h) (by kernel_rfl) ?_
         refine DA.tskipD 16 (some 138) (by kernel_rfl) (by kernel_rfl) (by kernel_rfl) hcl (fun _ _ _ h=>h) (by kernel_rfl) ?_
         refine DA.tskipD 17 (some 139) (by kernel_rfl) (by kernel_rfl) (by kernel_rfl) hcl (fun _ _ _ h=>h) (by kernel_rfl) ?_
         refine DA.tskipP 18 (some 140) (by kernel_rfl) (by kernel_rfl) (by kernel_rfl) hcl (fun _ _ _ h=>h) (by kernel_rfl) ?_
         refine DA.on 19 (DA.askipD 19 (some 141) (by kernel_rfl) (by kernel_rfl) (by kernel_rfl) hcl (by kernel_rfl) (by kernel_rfl) (DA.on 20 (DA.askipD 20 (some 142) (by kernel_rfl) (by kernel_rfl) (by kernel_rfl) hcl (by kernel_rfl) (by kernel_rfl) (DA.on 21 (DA.askipD 21 (some 143) (by kernel_rfl) (by kernel_rfl) (by kernel_rfl) hcl (by kernel_rfl) (by kernel_rfl) ?_)))))
         refine DA.tskipP 22 (some 144) (by kernel_rfl) (by kernel_rfl) (by kernel_rfl) hcl (fun _ _ _ h=>h) (by kernel_rfl) ?_
         refine DA.tskipP 23 (some 145) (by kernel_rfl) (by kernel_rfl) (by kernel_rfl) hcl (fun _ _ _ h=>h) (by kernel_rfl) ?_
         refine DA.tP 24 (some 146) (Value.bool false) (DA.dn (WS.nxt (WS.cF (WS.sk (WS.nxt (WS.sq (WS.rg (RS.mS 4 [kS 152 v13_28,kI 151 x1,kA 150 #[(Value.int .i64 a1_0),(Value.string a1_1),(Value.bool a1_2),(Sl3.v a1_3),(Value.int .i64 a1_4),(Sl3.v a1_5),(Value.int .i64 a1_6),(Value.int .i64 a1_7),(Value.string a1_8),(Sl3.v a1_9),(Sl3.v a1_10),(Sl3.v a1_11)],(149,.val (Value.pointer a0))] ?_))))))))
         obtain ⟨⟨x35_0,x35_1,x35_2,x35_3,x36,H37⟩,hx,h⟩:=bind_some h
         try dsimp only at h
         refine RS.cl (some 153) (v:=(Value.tuple #[(Value.agg #[(Value.int .i64 x35_0),(Value.int .i64 x35_1),(Value.string x35_2),(Sl3.v x35_3)]),(Value.int .i64 x36)])) 147 #[(Value.pointer a0),(Value.agg #[(Value.int .i64 a1_0),(Value.string a1_1),(Value.bool a1_2),(Sl3.v a1_3),(Value.int .i64 a1_4),(Sl3.v a1_5),(Value.int .i64 a1_6),(Value.int .i64 a1_7),(Value.string a1_8),(Sl3.v a1_9),(Sl3.v a1_10),(Sl3.v a1_11)]),(Value.int .i64 x1),(Sl3.v v13_28)] (zao hx) (RS.mL 6 [kI 16 x36,kL 15 2 0,kI 155 x36,kA 154 #[(Value.int .i64 x35_0),(Value.int .i64 x35_1),(Value.string x35_2),(Sl3.v x35_3)],(148,.val (Value.tuple #[(Value.agg #[(Value.int .i64 x35_0),(Value.int .i64 x35_1),(Value.string x35_2),(Sl3.v x35_3)]),(Value.int .i64 x36)]))] ([some (82,[(Value.int .i64 a1_0),(Value.string a1_1),(Value.bool a1_2),(Sl3.v a1_3),(Value.int .i64 a1_4),(Sl3.v a1_5),(Value.int .i64 a1_6),(Value.int .i64 a1_7),(Value.string a1_8),(Sl3.v a1_9),(Sl3.v a1_10),(Sl3.v a1_11)]),some (56,[(Value.int .i64 w1_30),(Value.int .i64 w1_31),(Value.string w1_32),(Sl3.v w1_33)]),some (56,[(Value.int .i64 x35_0),(Value.int .i64 x35_1),(Value.string x35_2),(Sl3.v x35_3)])]) (RS.dn (WS.nxt (WS.sq (WS.sq (WS.rg (RS.mS 2 [kB 157 (!decide (x36=0)),kI 156 x36] (RS.dn (WS.nxt ?_)))))))))
         rcases z0 h with ⟨hp,h⟩ | ⟨hp,h⟩
         ·refine WS.fx 157 false (zd hp) (WS.cF (WS.sk (WS.nxt (WS.sq (WS.sq (WS.rg (RS.mS 2 [kA 161 #[(Value.int .i64 a1_0),(Value.string a1_1),(Value.bool a1_2),(Sl3.v a1_3),(Value.int .i64 a1_4),(Sl3.v a1_5),(Value.int .i64 a1_6),(Value.int .i64 a1_7),(Value.string a1_8),(Sl3.v a1_9),(Sl3.v a1_10),(Sl3.v a1_11)],(160,.val (Value.pointer a0))] ?_)))))))
          obtain ⟨x38,hx,h⟩:=bind_some h
          refine RS.cl (some 162) (v:=(Value.bool x38)) 148 #[(Value.pointer a0),(Value.agg #[(Value.int .i64 a1_0),(Value.string a1_1),(Value.bool a1_2),(Sl3.v a1_3),(Value.int .i64 a1_4),(Sl3.v a1_5),(Value.int .i64 a1_6),(Value.int .i64 a1_7),(Value.string a1_8),(Sl3.v a1_9),(Sl3.v a1_10),(Sl3.v a1_11)])] (z8j hx) (RS.mS 1 [kB 163 (!x38)] (RS.dn (WS.nxt ?_)))
          rcases z0 h with ⟨hp,h⟩ | ⟨hp,h⟩
          ·refine WS.fx 163 false (nb_not hp) (WS.cF (WS.sk (WS.nxt (WS.sq (WS.rg (RS.mL 3 [kI 5 0,kA 165 #[(Value.int .i64 x35_0),(Value.int .i64 x35_1),(Value.string x35_2),(Sl3.v x35_3)]] ([some (82,[(Value.int .i64 a1_0),(Value.string a1_1),(Value.bool a1_2),(Sl3.v a1_3),(Value.int .i64 a1_4),(Sl3.v a1_5),(Value.int .i64 a1_6),(Value.int .i64 a1_7),(Value.string a1_8),(Sl3.v a1_9),(Sl3.v a1_10),(Sl3.v a1_11)]),some (56,[(Value.int .i64 x35_0),(Value.int .i64 x35_1),(Value.string x35_2),(Sl3.v x35_3)]),some (56,[(Value.int .i64 x35_0),(Value.int .i64 x35_1),(Value.string x35_2),(Sl3.v x35_3)])]) (RS.dn (WS.nxt (WS.rt ?_)))))))))
           cases h
           exact fun a w hs=>rtR (rS hs)
          ·refine WS.fx 163 true (zb hp) (WS.cT ?_)
           cases h
         ·refine WS.fx 157 true (z9 hp) (WS.cT ?_)
          cases h
      ·refine WS.fx 108 true (zb hp) (WS.cT ?_)
       cases h
     ·try dsimp only at h
      refine WS.lR (z6k (L:=L) (E:=E) (m:=m) (H:=H)) (L.ok hl) 2 ?_
      cases h
      exact fun a w hq=>bkR (sqR (rtR hq))
noncomputable def B78:Code:=(Tryz.f78.body).getD .skip
def zga:(Int×ByteArray×Bool×Sl3×Int×Sl3×Int×Int×ByteArray×Sl3×Sl3×Sl3×AH)→Value
 | (r0,r1,r2,r3,r4,r5,r6,r7,r8,r9,r10,r11,_)=>(Value.agg #[(Value.int .i64 r0),(Value.string r1),(Value.bool r2),(Sl3.v r3),(Value.int .i64 r4),(Sl3.v r5),(Value.int .i64 r6),(Value.int .i64 r7),(Value.string r8),(Sl3.v r9),(Sl3.v r10),(Sl3.v r11)])
def zi5 (_:AH):(Int×ByteArray×Bool×Sl3×Int×Sl3×Int×Int×ByteArray×Sl3×Sl3×Sl3×AH)→AH:=fun r=>r.2.2.2.2.2.2.2.2.2.2.2.2
noncomputable def zhf (L:LC) (m:Nat) (H:AH) (a0_0:Int) (a0_1:ByteArray) (_a0_2:Bool) (_a0_3:Sl3) (_a0_4:Int) (_a0_5:Sl3) (_a0_6 _a0_7:Int) (_a0_8:ByteArray) (_a0_9 _a0_10 a0_11:Sl3):Option (Int×ByteArray×Bool×Sl3×Int×Sl3×Int×Int×ByteArray×Sl3×Sl3×Sl3×AH) :=
 Option.bind (z7i L a0_0) fun (x1,_,_,x4) =>
 Option.bind (α:=(Int×ByteArray×Bool×Sl3×Int×Sl3×Int×Int×ByteArray×Sl3×Sl3×Sl3)) (
  if x1=4 then
   some (a0_0,a0_1,false,Sl3.nil,0,Sl3.nil,0,0,(⟨#[]⟩:ByteArray),Sl3.nil,Sl3.nil,Sl3.nil)
  else
   some (a0_0,(⟨#[]⟩:ByteArray),false,Sl3.nil,0,Sl3.nil,0,0,(⟨#[]⟩:ByteArray),Sl3.nil,Sl3.nil,Sl3.nil)) fun (w2_5,w2_6,w2_7,w2_8,w2_9,w2_10,w2_11,w2_12,w2_13,w2_14,w2_15,w2_16) =>
 if a0_0=20 then
  none
 else
  if a0_0=40 then
   none
  else
   if a0_0=34 then
    none
   else
    if x4 > 0 then
     none
    else
     Option.bind (appS m 3 1 8 H w2_16 a0_11) fun (s17,H18) =>
     some (w2_5,w2_6,w2_7,w2_8,w2_9,w2_10,w2_11,w2_12,w2_13,w2_14,w2_15,s17,H18)
theorem zrb {L:LC} {m:Nat} {H:AH} {a0_0:Int} {a0_1:ByteArray} {a0_2:Bool} {a0_3:Sl3} {a0_4:Int} {a0_5:Sl3} {a0_6 a0_7:Int} {a0_8:ByteArray} {a0_9 a0_10 a0_11:Sl3} {r:(Int×ByteArray×Bool×Sl3×Int×Sl3×Int×Int×ByteArray×Sl3×Sl3×Sl3×AH)} (h:zhf L m H a0_0 a0_1 a0_2 a0_3 a0_4 a0_5 a0_6 a0_7 a0_8 a0_9 a0_10 a0_11=some r) :
  CallS Tryz.prog (NE.plain 258) m 78 #[(Value.agg #[(Value.int .i64 a0_0),(Value.string a0_1),(Value.bool a0_2),(Sl3.v a0_3),(Value.int .i64 a0_4),(Sl3.v a0_5),(Value.int .i64 a0_6),(Value.int .i64 a0_7),(Value.string a0_8),(Sl3.v a0_9),(Sl3.v a0_10),(Sl3.v a0_11)])] H (zga r) (zi5 H r):=by
 refine CallS.mk (args:=[(Value.agg #[(Value.int .i64 a0_0),(Value.string a0_1),(Value.bool a0_2),(Sl3.v a0_3),(Value.int .i64 a0_4),(Sl3.v a0_5),(Value.int .i64 a0_6),(Value.int .i64 a0_7),(Value.string a0_8),(Sl3.v a0_9),(Sl3.v a0_10),(Sl3.v a0_11)])]) Tryz.func78 (B:=B78) (by kernel_rfl) (fun E _=>?_)
 unfold zhf at h
 refine WS.sq (WS.rg (RS.mL 2 [kL 2 1 0,kL 1 0 0] ([some (82,[(Value.int .i64 a0_0),(Value.string a0_1),(Value.bool a0_2),(Sl3.v a0_3),(Value.int .i64 a0_4),(Sl3.v a0_5),(Value.int .i64 a0_6),(Value.int .i64 a0_7),(Value.string a0_8),(Sl3.v a0_9),(Sl3.v a0_10),(Sl3.v a0_11)]),some (82,[(Value.int .i64 0),(Value.string (⟨#[]⟩:ByteArray)),(Value.bool false),(Sl3.v Sl3.nil),(Value.int .i64 0),(Sl3.v Sl3.nil),(Value.int .i64 0),(Value.int .i64 0),(Value.string (⟨#[]⟩:ByteArray)),(Sl3.v Sl3.nil),(Sl3.v Sl3.nil),(Sl3.v Sl3.nil)])]) (RS.dn (WS.nxt (WS.sq (WS.rg (RS.mL 5 [kL 3 2 0,kA 10 #[(Value.int .i64 a0_0),(Value.string (⟨#[]⟩:ByteArray)),(Value.bool false),(Sl3.v Sl3.nil),(Value.int .i64 0),(Sl3.v Sl3.nil),(Value.int .i64 0),(Value.int .i64 0),(Value.string (⟨#[]⟩:ByteArray)),(Sl3.v Sl3.nil),(Sl3.v Sl3.nil),(Sl3.v Sl3.nil)],kI 9 a0_0,kL 8 0 0] ([some (82,[(Value.int .i64 a0_0),(Value.string a0_1),(Value.bool a0_2),(Sl3.v a0_3),(Value.int .i64 a0_4),(Sl3.v a0_5),(Value.int .i64 a0_6),(Value.int .i64 a0_7),(Value.string a0_8),(Sl3.v a0_9),(Sl3.v a0_10),(Sl3.v a0_11)]),some (82,[(Value.int .i64 0),(Value.string (⟨#[]⟩:ByteArray)),(Value.bool false),(Sl3.v Sl3.nil),(Value.int .i64 0),(Sl3.v Sl3.nil),(Value.int .i64 0),(Value.int .i64 0),(Value.string (⟨#[]⟩:ByteArray)),(Sl3.v Sl3.nil),(Sl3.v Sl3.nil),(Sl3.v Sl3.nil)]),some (82,[(Value.int .i64 a0_0),(Value.string (⟨#[]⟩:ByteArray)),(Value.bool false),(Sl3.v Sl3.nil),(Value.int .i64 0),(Sl3.v Sl3.nil),(Value.int .i64 0),(Value.int .i64 0),(Value.string (⟨#[]⟩:ByteArray)),(Sl3.v Sl3.nil),(Sl3.v Sl3.nil),(Sl3.v Sl3.nil)])]) (RS.dn (WS.nxt ?_)))))))))
 refine WS.sq (WS.rg (RS.mS 2 [kI 13 a0_0,kL 12 0 0] ?_))
 obtain ⟨⟨x1,x2,x3,x4⟩,hx,h⟩:=bind_some h
 try dsimp only at h
 refine RS.cl (some 14) (v:=(Value.tuple #[(Value.int .i64 x1),(Value.int .i64 x2),(Value.int .i64 x3),(Value.int .i64 x4)])) 142 #[(Value.int .i64 a0_0)] (zbp hx) (RS.mS 9 [kI 7 x4,kI 6 x3,kI 5 x2,kI 4 x1,kI 18 x4,kI 17 x3,kI 16 x2,kI 15 x1,(11,.val (Value.tuple #[(Value.int .i64 x1),(Value.int .i64 x2),(Value.int .i64 x3),(Value.int .i64 x4)]))] (RS.dn (WS.nxt ?_)))
 obtain ⟨⟨w2_5,w2_6,w2_7,w2_8,w2_9,w2_10,w2_11,w2_12,w2_13,w2_14,w2_15,w2_16⟩,hx,h⟩:=bind_some h
 try dsimp only at h
 refine WS.sq ?_
 refine WS.join ([kL 1 0 0,kL 2 1 0,kL 3 2 0,kI 7 x4]) ([some (82,[(Value.int .i64 a0_0),(Value.string a0_1),(Value.bool a0_2),(Sl3.v a0_3),(Value.int .i64 a0_4),(Sl3.v a0_5),(Value.int .i64 a0_6),(Value.int .i64 a0_7),(Value.string a0_8),(Sl3.v a0_9),(Sl3.v a0_10),(Sl3.v a0_11)]),some (82,[(Value.int .i64 0),(Value.string (⟨#[]⟩:ByteArray)),(Value.bool false),(Sl3.v Sl3.nil),(Value.int .i64 0),(Sl3.v Sl3.nil),(Value.int .i64 0),(Value.int .i64 0),(Value.string (⟨#[]⟩:ByteArray)),(Sl3.v Sl3.nil),(Sl3.v Sl3.nil),(Sl3.v Sl3.nil)]),some (82,[(Value.int .i64 w2_5),(Value.string w2_6),(Value.bool w2_7),(Sl3.v w2_8),(Value.int .i64 w2_9),(Sl3.v w2_10),(Value.int .i64 w2_11),(Value.int .i64 w2_12),(Value.string w2_13),(Sl3.v w2_14),(Sl3.v w2_15),(Sl3.v w2_16)])]) H ?_ (fun a w hs=>WS.nxt ?_ a w hs)
 ·clear h; rename _=>h
  refine WS.sq (WS.rg (RS.mS 2 [kB 20 (decide (x1=4)),kI 19 x1] (RS.dn (WS.nxt ?_))))
  rcases z0 h with ⟨hp,h⟩ | ⟨hp,h⟩
  ·refine WS.fx 20 true (decide_eq_true hp) (WS.cT (WS.rg (RS.mL 4 [kL 23 2 1,kT 22 a0_1,kL 21 0 1] ([some (82,[(Value.int .i64 a0_0),(Value.string a0_1),(Value.bool a0_2),(Sl3.v a0_3),(Value.int .i64 a0_4),(Sl3.v a0_5),(Value.int .i64 a0_6),(Value.int .i64 a0_7),(Value.string a0_8),(Sl3.v a0_9),(Sl3.v a0_10),(Sl3.v a0_11)]),some (82,[(Value.int .i64 0),(Value.string (⟨#[]⟩:ByteArray)),(Value.bool false),(Sl3.v Sl3.nil),(Value.int .i64 0),(Sl3.v Sl3.nil),(Value.int .i64 0),(Value.int .i64 0),(Value.string (⟨#[]⟩:ByteArray)),(Sl3.v Sl3.nil),(Sl3.v Sl3.nil),(Sl3.v Sl3.nil)]),some (82,[(Value.int .i64 a0_0),(Value.string a0_1),(Value.bool false),(Sl3.v Sl3.nil),(Value.int .i64 0),(Sl3.v Sl3.nil),(Value.int .i64 0),(Value.int .i64 0),(Value.string (⟨#[]⟩:ByteArray)),(Sl3.v Sl3.nil),(Sl3.v Sl3.nil),(Sl3.v Sl3.nil)])]) (RS.dn ?_))))
   cases h
   exact fun a w hs=>(jsN (hs.sb 3))
  ·refine WS.fx 20 false (decide_eq_false hp) (WS.cF (WS.sk ?_))
   cases h
   exact fun a w hs=>(jsN (hs.sb 3))
 ·clear hx
  refine WS.sq (WS.sq (WS.rg (RS.mS 3 [kB 26 (decide (a0_0=20)),kI 25 a0_0,kL 24 0 0] (RS.dn (WS.nxt ?_)))))
  rcases z0 h with ⟨hp,h⟩ | ⟨hp,h⟩
  ·refine WS.fx 26 true (decide_eq_true hp) (WS.cT ?_)
   cases h
  ·refine WS.fx 26 false (decide_eq_false hp) (WS.cF (WS.sk (WS.nxt (WS.sq (WS.sq (WS.rg (RS.mS 3 [kB 33 (decide (a0_0=40)),kI 32 a0_0,kL 31 0 0] (RS.dn (WS.nxt ?_)))))))))
   rcases z0 h with ⟨hp,h⟩ | ⟨hp,h⟩
   ·refine WS.fx 33 true (decide_eq_true hp) (WS.cT ?_)
    cases h
   ·refine WS.fx 33 false (decide_eq_false hp) (WS.cF (WS.sk (WS.nxt (WS.sq (WS.sq (WS.rg (RS.mS 3 [kB 47 (decide (a0_0=34)),kI 46 a0_0,kL 45 0 0] (RS.dn (WS.nxt ?_)))))))))
    rcases z0 h with ⟨hp,h⟩ | ⟨hp,h⟩
    ·refine WS.fx 47 true (decide_eq_true hp) (WS.cT ?_)
     cases h
    ·refine WS.fx 47 false (decide_eq_false hp) (WS.cF (WS.sk (WS.nxt (WS.sq (WS.sq (WS.rg (RS.mS 2 [kB 52 (decide (x4 > 0)),kI 51 x4] (RS.dn (WS.nxt ?_)))))))))
     rcases z0 h with ⟨hp,h⟩ | ⟨hp,h⟩
     ·refine WS.fx 52 true (decide_eq_true hp) (WS.cT ?_)
      cases h
     ·refine WS.fx 52 false (decide_eq_false hp) (WS.cF (WS.sk (WS.nxt (WS.sq (WS.rg (RS.mS 4 [kS 62 a0_11,kL 61 0 11,kS 60 w2_16,kL 59 2 11] ?_))))))
      obtain ⟨⟨s17,H18⟩,hx,h⟩:=bind_some h
      try dsimp only at h
      refine RS.o (H':=H18) (some 63) (Sl3.v s17) (Abs.run_app (x:=.tmp 60) (y:=.tmp 62) (ts:=#[28,28]) (s:=w2_16) (z:=a0_11) (by kernel_rfl) (by kernel_rfl) (by kernel_rfl) (by kernel_rfl) hx) (RS.mL 2 [kL 64 2 11] ([some (82,[(Value.int .i64 a0_0),(Value.string a0_1),(Value.bool a0_2),(Sl3.v a0_3),(Value.int .i64 a0_4),(Sl3.v a0_5),(Value.int .i64 a0_6),(Value.int .i64 a0_7),(Value.string a0_8),(Sl3.v a0_9),(Sl3.v a0_10),(Sl3.v a0_11)]),some (82,[(Value.int .i64 0),(Value.string (⟨#[]⟩:ByteArray)),(Value.bool false),(Sl3.v Sl3.nil),(Value.int .i64 0),(Sl3.v Sl3.nil),(Value.int .i64 0),(Value.int .i64 0),(Value.string (⟨#[]⟩:ByteArray)),(Sl3.v Sl3.nil),(Sl3.v Sl3.nil),(Sl3.v Sl3.nil)]),some (82,[(Value.int .i64 w2_5),(Value.string w2_6),(Value.bool w2_7),(Sl3.v w2_8),(Value.int .i64 w2_9),(Sl3.v w2_10),(Value.int .i64 w2_11),(Value.int .i64 w2_12),(Value.string w2_13),(Sl3.v w2_14),(Sl3.v w2_15),(Sl3.v s17)])]) (RS.dn (WS.nxt (WS.sq (WS.rg (RS.mL 2 [kA 65 #[(Value.int .i64 w2_5),(Value.string w2_6),(Value.bool w2_7),(Sl3.v w2_8),(Value.int .i64 w2_9),(Sl3.v w2_10),(Value.int .i64 w2_11),(Value.int .i64 w2_12),(Value.string w2_13),(Sl3.v w2_14),(Sl3.v w2_15),(Sl3.v s17)]] ([some (82,[(Value.int .i64 a0_0),(Value.string a0_1),(Value.bool a0_2),(Sl3.v a0_3),(Value.int .i64 a0_4),(Sl3.v a0_5),(Value.int .i64 a0_6),(Value.int .i64 a0_7),(Value.string a0_8),(Sl3.v a0_9),(Sl3.v a0_10),(Sl3.v a0_11)]),some (82,[(Value.int .i64 w2_5),(Value.string w2_6),(Value.bool w2_7),(Sl3.v w2_8),(Value.int .i64 w2_9),(Sl3.v w2_10),(Value.int .i64 w2_11),(Value.int .i64 w2_12),(Value.string w2_13),(Sl3.v w2_14),(Sl3.v w2_15),(Sl3.v s17)]),some (82,[(Value.int .i64 w2_5),(Value.string w2_6),(Value.bool w2_7),(Sl3.v w2_8),(Value.int .i64 w2_9),(Sl3.v w2_10),(Value.int .i64 w2_11),(Value.int .i64 w2_12),(Value.string w2_13),(Sl3.v w2_14),(Sl3.v w2_15),(Sl3.v s17)])]) (RS.dn (WS.nxt (WS.rt ?_)))))))))
      cases h
      exact fun a w hs=>rtR (rS hs)
noncomputable def B79:Code:=(Tryz.f79.body).getD .skip
def ziz:Bool→Value
 | r0=>(Value.bool r0)
def zkj (H:AH):Bool→AH:=fun _=>H
noncomputable def zjh (_L:LC) (_H:AH) (a0_0:Int) (a0_1:ByteArray) (_a0_2:Bool) (_a0_3:Sl3) (_a0_4:Int) (_a0_5:Sl3) (_a0_6 _a0_7:Int) (_a0_8:ByteArray) (_a0_9 _a0_10 _a0_11:Sl3) (a1_0:Int) (a1_1:ByteArray) (_a1_2:Bool) (_a1_3:Sl3) (_a1_4:Int) (_a1_5:Sl3) (_a1_6 _a1_7:Int) (_a1_8:ByteArray) (_a1_9 _a1_10 _a1_11:Sl3):Option Bool :=
 if a0_0=a1_0 then
  if (a0_1.toList == a1_1.toList)=true then
   none
  else
   some false
 else
  some false
theorem zrw {L:LC} {m:Nat} {H:AH} {a0_0:Int} {a0_1:ByteArray} {a0_2:Bool} {a0_3:Sl3} {a0_4:Int} {a0_5:Sl3} {a0_6 a0_7:Int} {a0_8:ByteArray} {a0_9 a0_10 a0_11:Sl3} {a1_0:Int} {a1_1:ByteArray} {a1_2:Bool} {a1_3:Sl3} {a1_4:Int} {a1_5:Sl3} {a1_6 a1_7:Int} {a1_8:ByteArray} {a1_9 a1_10 a1_11:Sl3} {r:Bool} (h:zjh L H a0_0 a0_1 a0_2 a0_3 a0_4 a0_5 a0_6 a0_7 a0_8 a0_9 a0_10 a0_11 a1_0 a1_1 a1_2 a1_3 a1_4 a1_5 a1_6 a1_7 a1_8 a1_9 a1_10 a1_11=some r) :
  CallS Tryz.prog (NE.plain 258) m 79 #[(Value.agg #[(Value.int .i64 a0_0),(Value.string a0_1),(Value.bool a0_2),(Sl3.v a0_3),(Value.int .i64 a0_4),(Sl3.v a0_5),(Value.int .i64 a0_6),(Value.int .i64 a0_7),(Value.string a0_8),(Sl3.v a0_9),(Sl3.v a0_10),(Sl3.v a0_11)]),(Value.agg #[(Value.int .i64 a1_0),(Value.string a1_1),(Value.bool a1_2),(Sl3.v a1_3),(Value.int .i64 a1_4),(Sl3.v a1_5),(Value.int .i64 a1_6),(Value.int .i64 a1_7),(Value.string a1_8),(Sl3.v a1_9),(Sl3.v a1_10),(Sl3.v a1_11)])] H (ziz r) (zkj H r):=by
 refine CallS.mk (args:=[(Value.agg #[(Value.int .i64 a0_0),(Value.string a0_1),(Value.bool a0_2),(Sl3.v a0_3),(Value.int .i64 a0_4),(Sl3.v a0_5),(Value.int .i64 a0_6),(Value.int .i64 a0_7),(Value.string a0_8),(Sl3.v a0_9),(Sl3.v a0_10),(Sl3.v a0_11)]),(Value.agg #[(Value.int .i64 a1_0),(Value.string a1_1),(Value.bool a1_2),(Sl3.v a1_3),(Value.int .i64 a1_4),(Sl3.v a1_5),(Value.int .i64 a1_6),(Value.int .i64 a1_7),(Value.string a1_8),(Sl3.v a1_9),(Sl3.v a1_10),(Sl3.v a1_11)])]) Tryz.func79 (B:=B79) (by kernel_rfl) (fun E _=>?_)
 unfold zjh at h
 refine WS.sq (WS.rg (RS.mL 3 [kB 4 false,kL 3 1 0,kL 2 0 0] ([some (82,[(Value.int .i64 a0_0),(Value.string a0_1),(Value.bool a0_2),(Sl3.v a0_3),(Value.int .i64 a0_4),(Sl3.v a0_5),(Value.int .i64 a0_6),(Value.int .i64 a0_7),(Value.string a0_8),(Sl3.v a0_9),(Sl3.v a0_10),(Sl3.v a0_11)]),some (82,[(Value.int .i64 a1_0),(Value.string a1_1),(Value.bool a1_2),(Sl3.v a1_3),(Value.int .i64 a1_4),(Sl3.v a1_5),(Value.int .i64 a1_6),(Value.int .i64 a1_7),(Value.string a1_8),(Sl3.v a1_9),(Sl3.v a1_10),(Sl3.v a1_11)])]) (RS.dn (WS.nxt (WS.sq (WS.rg (RS.mS 6 [kB 10 (decide (a0_0=a1_0)),kB 9 (decide (a0_0=a1_0)),kI 8 a1_0,kL 7 1 0,kI 6 a0_0,kL 5 0 0] ?_)))))))
 rcases z0 h with ⟨hp,h⟩ | ⟨hp,h⟩
 ·refine RS.fx 10 true (decide_eq_true hp) (RS.mS 7 [kB 17 (a0_1.toList == a1_1.toList),kB 16 (a0_1.toList == a1_1.toList),kB 15 (a0_1.toList == a1_1.toList),kT 14 a1_1,kL 13 1 1,kT 12 a0_1,kL 11 0 1] ?_)
  rcases z0 h with ⟨hp,h⟩ | ⟨hp,h⟩
  ·refine RS.fx 17 true hp ?_
   cases h
  ·refine RS.fx 17 false (b_not hp) (RS.mS 46 [kB 4 false,kB 62 false,kU 61,kU 60,kU 59,kU 58,kU 57,kB 56 false,kB 55 false,kU 54,kU 53,kU 52,kU 51,kU 50,kB 49 false,kB 48 false,kU 47,kU 46,kU 45,kU 44,kU 43,kB 42 false,kB 41 false,kU 40,kU 39,kU 38,kU 37,kU 36,kU 35,kU 34,kB 33 false,kB 32 false,kU 31,kU 30,kU 29,kU 28,kU 27,kU 26,kU 25,kB 24 false,kB 23 false,kU 22,kU 21,kU 20,kU 19,kU 18] (RS.dn (WS.nxt (WS.rt ?_))))
   cases h
   exact fun a w hs=>rtR (rS hs)
 ·refine RS.fx 10 false (decide_eq_false hp) (RS.mS 53 [kB 4 false,kB 62 false,kU 61,kU 60,kU 59,kU 58,kU 57,kB 56 false,kB 55 false,kU 54,kU 53,kU 52,kU 51,kU 50,kB 49 false,kB 48 false,kU 47,kU 46,kU 45,kU 44,kU 43,kB 42 false,kB 41 false,kU 40,kU 39,kU 38,kU 37,kU 36,kU 35,kU 34,kB 33 false,kB 32 false,kU 31,kU 30,kU 29,kU 28,kU 27,kU 26,kU 25,kB 24 false,kB 23 false,kU 22,kU 21,kU 20,kU 19,kU 18,kB 17 false,kB 16 false,kU 15,kU 14,kU 13,kU 12,kU 11] (RS.dn (WS.nxt (WS.rt ?_))))
  cases h
  exact fun a w hs=>rtR (rS hs)
noncomputable def B143:Code:=(Tryz.f143.body).getD .skip
def z5o:(Sl3×Int×Int×ByteArray×Sl3×Bool×AH)→Value
 | (r0,r1,r2,r3,r4,r5,_)=>(Value.tuple #[(Sl3.v r0),(Value.agg #[(Value.int .i64 r1),(Value.int .i64 r2),(Value.string r3),(Sl3.v r4)]),(Value.bool r5)])
def z6z (_:AH):(Sl3×Int×Int×ByteArray×Sl3×Bool×AH)→AH:=fun r=>r.2.2.2.2.2.2
noncomputable def z6w (_L:LC) (H:AH) (_a0_0 _a0_1 a0_2:Sl3) (a2:ByteArray):(Int×Int×Int×ByteArray×Sl3)→Option (Lp (Int×Int×Int×ByteArray×Sl3) (Sl3×Int×Int×ByteArray×Sl3×Bool×AH)):=fun (v9_1,w1_2,w1_3,w1_4,w1_5) =>
 if v9_1<(a0_2.n:Int) then
  Option.bind (idxA 6 a0_2 v9_1) fun p6 =>
  Option.bind (rd deS H (Addr.add p6 0)) fun x7 =>
  if (x7.toList == a2.toList)=true then
   Option.bind (idxA 6 a0_2 v9_1) fun p8 =>
   Option.bind (rd deSl H (Addr.add p8 1)) fun x9 =>
   Option.bind (idxA 6 a0_2 v9_1) fun p10 =>
   Option.bind (rd (deI .i64) H (Addr.add (Addr.add p10 2) 0)) fun x11_0 =>
   Option.bind (rd (deI .i64) H (Addr.add (Addr.add p10 2) 1)) fun x11_1 =>
   Option.bind (rd deS H (Addr.add (Addr.add p10 2) 2)) fun x11_2 =>
   Option.bind (rd deSl H (Addr.add (Addr.add p10 2) 3)) fun x11_3 =>
   some (.ret (x9,x11_0,x11_1,x11_2,x11_3,true,H))
  else
   some (.next ((IntKind.i64.wrap (v9_1+1)),w1_2,w1_3,w1_4,w1_5))
 else
  none
def zk3 (_L:LC) (_H:AH) (a0_0 a0_1 a0_2:Sl3) (a2:ByteArray):(Int×Int×Int×ByteArray×Sl3)→KN×Lcs:=fun (v9_1,w1_2,w1_3,w1_4,w1_5)=>([kI 9 v9_1,kT 2 a2,kL 3 0 0,kL 7 1 0],[some (77,[(Sl3.v a0_0),(Sl3.v a0_1),(Sl3.v a0_2)]),some (56,[(Value.int .i64 w1_2),(Value.int .i64 w1_3),(Value.string w1_4),(Sl3.v w1_5)])])
noncomputable def zbd (L:LC) (_m:Nat) (H:AH) (a0_0 a0_1 a0_2:Sl3) (a1:Int) (a2:ByteArray):Option (Sl3×Int×Int×ByteArray×Sl3×Bool×AH) :=
 if a1=11 then
  Option.bind (L.run (z6w L H a0_0 a0_1 a0_2 a2) (0,0,0,(⟨#[]⟩:ByteArray),Sl3.nil)) fun o=>match o with
  | .inl (_,_,_,_,_) =>
   some (Sl3.nil,0,0,(⟨#[]⟩:ByteArray),Sl3.nil,false,H)
  | .inr r=>some r
 else
  none
theorem z97 {E m L H a0_0 a0_1 a0_2 a2} :LoopF Tryz.prog (NE.plain 258) m E Tryz.f143 ((cfst (csnd (cfst (cfst (csnd (cfst (csnd B143)))))))) (zk3 L H a0_0 a0_1 a0_2 a2) (fun _=>H) 0 z5o (z6z H) (z6w L H a0_0 a0_1 a0_2 a2):=by
 rintro ⟨v9_1,w1_2,w1_3,w1_4,w1_5⟩ o h
 unfold z6w at h
 try dsimp only at h
 refine WS.sq (WS.sq (WS.rg (RS.mS 5 [kB 22 (decide (v9_1<(a0_2.n:Int))),kI 21 (a0_2.n:Int),kS 20 a0_2,kL 19 0 2,kI 18 v9_1] (RS.dn (WS.nxt ?_)))))
 rcases z0 h with ⟨hp,h⟩ | ⟨hp,h⟩
 ·refine WS.fx 22 true (decide_eq_true hp) (WS.cT (WS.sk (WS.nxt (WS.sq (WS.bk 1 (WS.sq (WS.rg (RS.mS 3 [kI 27 v9_1,kS 26 a0_2,kL 25 0 2] ?_))))))))
  obtain ⟨p6,hx,h⟩:=bind_some h
  refine RS.ix 28 73 72 (.tmp 26) (.tmp 27) hx (RS.mS 1 [(29,.val (Value.pointer (some (Addr.add p6 0))))] ?_)
  obtain ⟨x7,hx,h⟩:=bind_some h
  refine RS.ld 30 9 (.tmp 29) (z1 hx za) (RS.mS 2 [kB 32 (x7.toList == a2.toList),kT 31 a2] (RS.dn (WS.nxt ?_)))
  rcases z0 h with ⟨hp,h⟩ | ⟨hp,h⟩
  ·refine WS.fx 32 true hp (WS.cT (WS.sq ?_))
   refine WS.dr [0,1,2,3,4,5,6,7,8,9,10,11] [0,1,0,7,15,31,0,64,0,448,960,1984,63,8191,16383] 15 (fun hcl=>?_)
   refine DA.tL 0 (some 33) (.loc 0 2) (DA.tL 1 (some 34) (.val (Sl3.v a0_2)) (DA.tK 2 (some 35) (Value.int .i64 v9_1) ?_))
   obtain ⟨p8,hx,h⟩:=bind_some h
   refine DA.tD 3 (some 36) (Value.pointer (some p8)) (Abs.det_idx (s:=a0_2) (k:=.i64) (t:=73) (e:=72) (x:=.tmp 34) (y:=.tmp 35) (by kernel_rfl) (by kernel_rfl) (by kernel_rfl) (by kernel_rfl) (by kernel_rfl) hx) (DA.tK 4 (some 37) (Value.pointer (some (Addr.add p8 1))) ?_)
   obtain ⟨x9,hx,h⟩:=bind_some h
   refine DA.tD 5 (some 38) (Sl3.v x9) (Abs.det_load (t:=54) (x:=.tmp 37) (a:=(Addr.add p8 1)) (by kernel_rfl) (by kernel_rfl) (by kernel_rfl) (by kernel_rfl) (z1 hx z3)) (DA.tL 6 (some 39) (.loc 0 2) (DA.tL 7 (some 40) (.val (Sl3.v a0_2)) (DA.tK 8 (some 41) (Value.int .i64 v9_1) ?_)))
   obtain ⟨p10,hx,h⟩:=bind_some h
   refine DA.tD 9 (some 42) (Value.pointer (some p10)) (Abs.det_idx (s:=a0_2) (k:=.i64) (t:=73) (e:=72) (x:=.tmp 40) (y:=.tmp 41) (by kernel_rfl) (by kernel_rfl) (by kernel_rfl) (by kernel_rfl) (by kernel_rfl) hx) (DA.tK 10 (some 43) (Value.pointer (some (Addr.add p10 2))) ?_)
   obtain ⟨x11_0,hx0,h⟩:=bind_some h
   obtain ⟨x11_1,hx1,h⟩:=bind_some h
   obtain ⟨x11_2,hx2,h⟩:=bind_some h
   obtain ⟨x11_3,hx3,h⟩:=bind_some h
   refine DA.tD 11 (some 44) (Value.agg #[(Value.int .i64 x11_0),(Value.int .i64 x11_1),(Value.string x11_2),(Sl3.v x11_3)]) (Abs.det_loadA (t:=56) (x:=.tmp 43) (a:=(Addr.add p10 2)) (k:=4) (by kernel_rfl) (by kernel_rfl) (by kernel_rfl) (by kernel_rfl) (z2 (z1 hx0 z4) (z2 (z1 hx1 z4) (z2 (z1 hx2 za) (z2 (z1 hx3 z3) zq))))) (DA.tP 12 (some 6) (Sl3.v x9) (DA.on 13 (DA.aL 13 none (.val undef) ([some (77,[(Sl3.v a0_0),(Sl3.v a0_1),(Sl3.v a0_2)]),some (56,[(Value.int .i64 x11_0),(Value.int .i64 x11_1),(Value.string x11_2),(Sl3.v x11_3)])]) false (DA.tP 14 (some 8) (Value.bool true) (DA.dn (WS.nxt (WS.rt ?_)))))))
   cases h
   exact fun a w hs=>bkR (sqR (lsR rfl (rS hs)))
  ·refine WS.fx 32 false (b_not hp) (WS.cF (WS.sk ?_))
   refine fun a w hs=>bkN ((WS.nxt ?_ a w hs))
   refine WS.rg (RS.mS 3 [kI 9 (IntKind.i64.wrap (v9_1+1)),kI 24 (IntKind.i64.wrap (v9_1+1)),kI 23 v9_1] (RS.dn ?_))
   cases h
   exact fun a w hs=>lsN rfl (hs.sb 2)
 ·refine WS.fx 22 false (decide_eq_false hp) (WS.cF ?_)
  cases h
theorem znn {L:LC} {m:Nat} {H:AH} {a0_0 a0_1 a0_2:Sl3} {a1:Int} {a2:ByteArray} {r:(Sl3×Int×Int×ByteArray×Sl3×Bool×AH)} (h:zbd L m H a0_0 a0_1 a0_2 a1 a2=some r) :
  CallS Tryz.prog (NE.plain 258) m 143 #[(Value.agg #[(Sl3.v a0_0),(Sl3.v a0_1),(Sl3.v a0_2)]),(Value.int .i64 a1),(Value.string a2)] H (z5o r) (z6z H r):=by
 refine CallS.mk (args:=[(Value.agg #[(Sl3.v a0_0),(Sl3.v a0_1),(Sl3.v a0_2)]),(Value.int .i64 a1),(Value.string a2)]) Tryz.func143 (B:=B143) (by kernel_rfl) (fun E _=>?_)
 unfold zbd at h
 refine WS.sq (WS.rg (RS.mL 4 [kB 8 false,kL 7 1 0,kS 6 Sl3.nil,kL 3 0 0] ([some (77,[(Sl3.v a0_0),(Sl3.v a0_1),(Sl3.v a0_2)]),some (56,[(Value.int .i64 0),(Value.int .i64 0),(Value.string (⟨#[]⟩:ByteArray)),(Sl3.v Sl3.nil)])]) (RS.dn (WS.nxt (WS.sq (WS.sq (WS.rg (RS.mS 2 [kB 17 (decide (a1=11)),kI 16 a1] (RS.dn ?_)))))))))
 refine WS.nxt ?_
 rcases z0 h with ⟨hp,h⟩ | ⟨hp,h⟩
 ·refine WS.fx 17 true (decide_eq_true hp) (WS.cT (WS.sq (WS.sq (WS.rg (RS.mS 1 [kI 9 0] (RS.dn (WS.nxt (WS.bk 0 ?_))))))))
  obtain ⟨o,hl,h⟩:=bind_some h
  rcases o with ⟨v9_12,w1_13,w1_14,w1_15,w1_16⟩ | r
  ·try dsimp only at h
   refine WS.lI (z97 (L:=L) (E:=E) (m:=m) (H:=H)) (L.ok hl) 2 ?_
   clear hl
   refine fun a w hs=>bkE ((WS.nxt ?_ a w hs))
   refine WS.sq (WS.rg (RS.mL 4 [kB 8 false,kS 6 Sl3.nil,kA 45 #[(Value.int .i64 0),(Value.int .i64 0),(Value.string (⟨#[]⟩:ByteArray)),(Sl3.v Sl3.nil)]] ([some (77,[(Sl3.v a0_0),(Sl3.v a0_1),(Sl3.v a0_2)]),some (56,[(Value.int .i64 0),(Value.int .i64 0),(Value.string (⟨#[]⟩:ByteArray)),(Sl3.v Sl3.nil)])]) (RS.dn (WS.nxt (WS.rt ?_)))))
   cases h
   exact fun a w hs=>sqR (rtR (rS hs))
  ·try dsimp only at h
   refine WS.lR (z97 (L:=L) (E:=E) (m:=m) (H:=H)) (L.ok hl) 2 ?_
   cases h
   exact fun a w hq=>bkR (sqR (sqR (rtR hq)))
 ·refine WS.fx 17 false (decide_eq_false hp) (WS.cF ?_)
  cases h
end Go.Proofs.YtkecibinbgaedaaGreatDoor
namespace Go.Proofs.YtkecibinbgaedaaGreatDoor
open Go Go.Abs
set_option maxRecDepth 100000
noncomputable def B41:Code:=(Tryz.f41.body).getD .skip
def zl3:(Int×Int×AH)→Value
 | (r0,r1,_)=>(Value.tuple #[(Value.int .i64 r0),(Value.int .i64 r1)])
def zln (_:AH):(Int×Int×AH)→AH:=fun r=>r.2.2
noncomputable def z54 (L:LC):Nat→FuncId→Array Value→AH→Option (Value×AH) :=
 (orO (orF 77 (dcC dcP (dcC (dcG (dcC (dcI .i64) (dcC dcS (dcC dcB (dcC dcSl (dcC (dcI .i64) (dcC dcSl (dcC (dcI .i64) (dcC (dcI .i64) (dcC dcS (dcC dcSl (dcC dcSl (dcC dcSl dcN))))))))))))) dcN)) fun m H (a0,((a1_0,(a1_1,(a1_2,(a1_3,(a1_4,(a1_5,(a1_6,(a1_7,(a1_8,(a1_9,(a1_10,(a1_11,_)))))))))))),_))=>(z7a L m H a0 a1_0 a1_1 a1_2 a1_3 a1_4 a1_5 a1_6 a1_7 a1_8 a1_9 a1_10 a1_11).map fun r=>(z3v r,z4g H r))
  (orO (orF 78 (dcC (dcG (dcC (dcI .i64) (dcC dcS (dcC dcB (dcC dcSl (dcC (dcI .i64) (dcC dcSl (dcC (dcI .i64) (dcC (dcI .i64) (dcC dcS (dcC dcSl (dcC dcSl (dcC dcSl dcN))))))))))))) dcN) fun m H ((a0_0,(a0_1,(a0_2,(a0_3,(a0_4,(a0_5,(a0_6,(a0_7,(a0_8,(a0_9,(a0_10,(a0_11,_)))))))))))),_)=>(zhf L m H a0_0 a0_1 a0_2 a0_3 a0_4 a0_5 a0_6 a0_7 a0_8 a0_9 a0_10 a0_11).map fun r=>(zga r,zi5 H r))
  (orO (orF 79 (dcC (dcG (dcC (dcI .i64) (dcC dcS (dcC dcB (dcC dcSl (dcC (dcI .i64) (dcC dcSl (dcC (dcI .i64) (dcC (dcI .i64) (dcC dcS (dcC dcSl (dcC dcSl (dcC dcSl dcN))))))))))))) (dcC (dcG (dcC (dcI .i64) (dcC dcS (dcC dcB (dcC dcSl (dcC (dcI .i64) (dcC dcSl (dcC (dcI .i64) (dcC (dcI .i64) (dcC dcS (dcC dcSl (dcC dcSl (dcC dcSl dcN))))))))))))) dcN)) fun _ H ((a0_0,(a0_1,(a0_2,(a0_3,(a0_4,(a0_5,(a0_6,(a0_7,(a0_8,(a0_9,(a0_10,(a0_11,_)))))))))))),((a1_0,(a1_1,(a1_2,(a1_3,(a1_4,(a1_5,(a1_6,(a1_7,(a1_8,(a1_9,(a1_10,(a1_11,_)))))))))))),_))=>(zjh L H a0_0 a0_1 a0_2 a0_3 a0_4 a0_5 a0_6 a0_7 a0_8 a0_9 a0_10 a0_11 a1_0 a1_1 a1_2 a1_3 a1_4 a1_5 a1_6 a1_7 a1_8 a1_9 a1_10 a1_11).map fun r=>(ziz r,zkj H r))
  (orO (orF 142 (dcC (dcI .i64) dcN) fun _ H (a0,_)=>(z7i L a0).map fun r=>(zgk r,zim H r))
  (orO (orF 143 (dcC (dcG (dcC dcSl (dcC dcSl (dcC dcSl dcN)))) (dcC (dcI .i64) (dcC dcS dcN))) fun m H ((a0_0,(a0_1,(a0_2,_))),(a1,(a2,_)))=>(zbd L m H a0_0 a0_1 a0_2 a1 a2).map fun r=>(z5o r,z6z H r))
  (orO (orF 144 (dcC dcP (dcC (dcG (dcC (dcI .i64) (dcC dcS (dcC dcB (dcC dcSl (dcC (dcI .i64) (dcC dcSl (dcC (dcI .i64) (dcC (dcI .i64) (dcC dcS (dcC dcSl (dcC dcSl (dcC dcSl dcN))))))))))))) (dcC (dcI .i64) dcN))) fun _ H (a0,((a1_0,(a1_1,(a1_2,(a1_3,(a1_4,(a1_5,(a1_6,(a1_7,(a1_8,(a1_9,(a1_10,(a1_11,_)))))))))))),(a2,_)))=>(z3e L H a0 a1_0 a1_1 a1_2 a1_3 a1_4 a1_5 a1_6 a1_7 a1_8 a1_9 a1_10 a1_11 a2).map fun r=>(z3j r,z44 H r))
  (orO (orF 147 (dcC dcP (dcC (dcG (dcC (dcI .i64) (dcC dcS (dcC dcB (dcC dcSl (dcC (dcI .i64) (dcC dcSl (dcC (dcI .i64) (dcC (dcI .i64) (dcC dcS (dcC dcSl (dcC dcSl (dcC dcSl dcN))))))))))))) (dcC (dcI .i64) (dcC dcSl dcN)))) fun m H (a0,((a1_0,(a1_1,(a1_2,(a1_3,(a1_4,(a1_5,(a1_6,(a1_7,(a1_8,(a1_9,(a1_10,(a1_11,_)))))))))))),(a2,(a3,_))))=>(z4c L m H a0 a1_0 a1_1 a1_2 a1_3 a1_4 a1_5 a1_6 a1_7 a1_8 a1_9 a1_10 a1_11 a2 a3).map fun r=>(z4e r,z4u H r))
  (orO (orF 148 (dcC dcP (dcC (dcG (dcC (dcI .i64) (dcC dcS (dcC dcB (dcC dcSl (dcC (dcI .i64) (dcC dcSl (dcC (dcI .i64) (dcC (dcI .i64) (dcC dcS (dcC dcSl (dcC dcSl (dcC dcSl dcN))))))))))))) dcN)) fun _ H (a0,((a1_0,(a1_1,(a1_2,(a1_3,(a1_4,(a1_5,(a1_6,(a1_7,(a1_8,(a1_9,(a1_10,(a1_11,_)))))))))))),_))=>(z3c L H a0 a1_0 a1_1 a1_2 a1_3 a1_4 a1_5 a1_6 a1_7 a1_8 a1_9 a1_10 a1_11).map fun r=>(z7l r,z8n H r))
  orN))))))))
noncomputable def zg0 (L:LC) (m:Nat) (H:AH) (a0:Option Addr) (a1_0:Int) (a1_1:ByteArray) (a1_2:Bool) (a1_3:Sl3) (a1_4:Int) (a1_5:Sl3) (a1_6 a1_7:Int) (a1_8:ByteArray) (a1_9 a1_10 a1_11:Sl3):Option (Int×Int×AH) :=
 byRun Tryz.prog 258 (z54 L) m 41 #[(Value.pointer a0),(Value.agg #[(Value.int .i64 a1_0),(Value.string a1_1),(Value.bool a1_2),(Sl3.v a1_3),(Value.int .i64 a1_4),(Sl3.v a1_5),(Value.int .i64 a1_6),(Value.int .i64 a1_7),(Value.string a1_8),(Sl3.v a1_9),(Sl3.v a1_10),(Sl3.v a1_11)])] H (dcT (dcC (dcI .i64) (dcC (dcI .i64) dcN))) fun (r_0,(r_1,_)) H2=>(r_0,r_1,H2)
theorem zhh {L:LC}:OrOK Tryz.prog (NE.plain 258) (z54 L):=by
 unfold z54
 refine orO_ok (orF_ok fun m H ⟨a0,⟨⟨a1_0,⟨a1_1,⟨a1_2,⟨a1_3,⟨a1_4,⟨a1_5,⟨a1_6,⟨a1_7,⟨a1_8,⟨a1_9,⟨a1_10,⟨a1_11,_⟩⟩⟩⟩⟩⟩⟩⟩⟩⟩⟩⟩,_⟩⟩ v H' h=>by
  obtain ⟨r,h1,rfl,rfl⟩:=zx h
  exact zju h1) ?_
 refine orO_ok (orF_ok fun m H ⟨⟨a0_0,⟨a0_1,⟨a0_2,⟨a0_3,⟨a0_4,⟨a0_5,⟨a0_6,⟨a0_7,⟨a0_8,⟨a0_9,⟨a0_10,⟨a0_11,_⟩⟩⟩⟩⟩⟩⟩⟩⟩⟩⟩⟩,_⟩ v H' h=>by
  obtain ⟨r,h1,rfl,rfl⟩:=zx h
  exact zrb h1) ?_
 refine orO_ok (orF_ok fun m H ⟨⟨a0_0,⟨a0_1,⟨a0_2,⟨a0_3,⟨a0_4,⟨a0_5,⟨a0_6,⟨a0_7,⟨a0_8,⟨a0_9,⟨a0_10,⟨a0_11,_⟩⟩⟩⟩⟩⟩⟩⟩⟩⟩⟩⟩,⟨⟨a1_0,⟨a1_1,⟨a1_2,⟨a1_3,⟨a1_4,⟨a1_5,⟨a1_6,⟨a1_7,⟨a1_8,⟨a1_9,⟨a1_10,⟨a1_11,_⟩⟩⟩⟩⟩⟩⟩⟩⟩⟩⟩⟩,_⟩⟩ v H' h=>by
  obtain ⟨r,h1,rfl,rfl⟩:=zx h
  exact zrw h1) ?_
 refine orO_ok (orF_ok fun m H ⟨a0,_⟩ v H' h=>by
  obtain ⟨r,h1,rfl,rfl⟩:=zx h
  exact zbp h1) ?_
 refine orO_ok (orF_ok fun m H ⟨⟨a0_0,⟨a0_1,⟨a0_2,_⟩⟩⟩,⟨a1,⟨a2,_⟩⟩⟩ v H' h=>by
  obtain ⟨r,h1,rfl,rfl⟩:=zx h
  exact znn h1) ?_
 refine orO_ok (orF_ok fun m H ⟨a0,⟨⟨a1_0,⟨a1_1,⟨a1_2,⟨a1_3,⟨a1_4,⟨a1_5,⟨a1_6,⟨a1_7,⟨a1_8,⟨a1_9,⟨a1_10,⟨a1_11,_⟩⟩⟩⟩⟩⟩⟩⟩⟩⟩⟩⟩,⟨a2,_⟩⟩⟩ v H' h=>by
  obtain ⟨r,h1,rfl,rfl⟩:=zx h
  exact z8l h1) ?_
 refine orO_ok (orF_ok fun m H ⟨a0,⟨⟨a1_0,⟨a1_1,⟨a1_2,⟨a1_3,⟨a1_4,⟨a1_5,⟨a1_6,⟨a1_7,⟨a1_8,⟨a1_9,⟨a1_10,⟨a1_11,_⟩⟩⟩⟩⟩⟩⟩⟩⟩⟩⟩⟩,⟨a2,⟨a3,_⟩⟩⟩⟩ v H' h=>by
  obtain ⟨r,h1,rfl,rfl⟩:=zx h
  exact zao h1) ?_
 refine orO_ok (orF_ok fun m H ⟨a0,⟨⟨a1_0,⟨a1_1,⟨a1_2,⟨a1_3,⟨a1_4,⟨a1_5,⟨a1_6,⟨a1_7,⟨a1_8,⟨a1_9,⟨a1_10,⟨a1_11,_⟩⟩⟩⟩⟩⟩⟩⟩⟩⟩⟩⟩,_⟩⟩ v H' h=>by
  obtain ⟨r,h1,rfl,rfl⟩:=zx h
  exact z8j h1) ?_
 exact orN_ok
theorem zmi {L:LC} {m:Nat} {H:AH} {a0:Option Addr} {a1_0:Int} {a1_1:ByteArray} {a1_2:Bool} {a1_3:Sl3} {a1_4:Int} {a1_5:Sl3} {a1_6 a1_7:Int} {a1_8:ByteArray} {a1_9 a1_10 a1_11:Sl3} {r:(Int×Int×AH)} (h:zg0 L m H a0 a1_0 a1_1 a1_2 a1_3 a1_4 a1_5 a1_6 a1_7 a1_8 a1_9 a1_10 a1_11=some r) :
  CallS Tryz.prog (NE.plain 258) m 41 #[(Value.pointer a0),(Value.agg #[(Value.int .i64 a1_0),(Value.string a1_1),(Value.bool a1_2),(Sl3.v a1_3),(Value.int .i64 a1_4),(Sl3.v a1_5),(Value.int .i64 a1_6),(Value.int .i64 a1_7),(Value.string a1_8),(Sl3.v a1_9),(Sl3.v a1_10),(Sl3.v a1_11)])] H (zl3 r) (zln H r):=by
 obtain ⟨⟨r_0,⟨r_1,_⟩⟩,H2,rfl,hc⟩:=zea zhh Tryz.func41 (show Tryz.f41.body=some B41 by kernel_rfl) h
 exact hc
noncomputable def B80:Code:=(Tryz.f80.body).getD .skip
def zjj:Bool→Value
 | r0=>(Value.bool r0)
def zla (H:AH):Bool→AH:=fun _=>H
noncomputable def z82 (_L:LC) (H:AH) (a0:Option Addr) (a1:Int):Option Bool :=
 Option.bind a0 fun q1 =>
 Option.bind (rd deSl H (Addr.add q1 3)) fun x2 =>
 Option.bind (idxA 12 x2 a1) fun p3 =>
 Option.bind (rd (deI .i64) H (Addr.add p3 0)) fun x4_0 =>
 Option.bind (rd deS H (Addr.add p3 1)) fun _ =>
 Option.bind (rd deB H (Addr.add p3 2)) fun _ =>
 Option.bind (rd deSl H (Addr.add p3 3)) fun _ =>
 Option.bind (rd (deI .i64) H (Addr.add p3 4)) fun _ =>
 Option.bind (rd deSl H (Addr.add p3 5)) fun _ =>
 Option.bind (rd (deI .i64) H (Addr.add p3 6)) fun _ =>
 Option.bind (rd (deI .i64) H (Addr.add p3 7)) fun _ =>
 Option.bind (rd deS H (Addr.add p3 8)) fun _ =>
 Option.bind (rd deSl H (Addr.add p3 9)) fun _ =>
 Option.bind (rd deSl H (Addr.add p3 10)) fun _ =>
 Option.bind (rd deSl H (Addr.add p3 11)) fun _ =>
 if x4_0≥68 then
  none
 else
  if x4_0=8 then
   none
  else
   if x4_0=9 then
    none
   else
    some false
theorem zl9 {L:LC} {m:Nat} {H:AH} {a0:Option Addr} {a1:Int} {r:Bool} (h:z82 L H a0 a1=some r) :
  CallS Tryz.prog (NE.plain 258) m 80 #[(Value.pointer a0),(Value.int .i64 a1)] H (zjj r) (zla H r):=by
 refine CallS.mk (args:=[(Value.pointer a0),(Value.int .i64 a1)]) Tryz.func80 (B:=B80) (by kernel_rfl) (fun E _=>?_)
 unfold z82 at h
 refine WS.sq (WS.rg (RS.mS 1 [kB 4 false] (RS.dn (WS.nxt (WS.sq (WS.rg (RS.mS 1 [(6,.val (Value.pointer a0))] ?_)))))))
 obtain ⟨q1,hx,hq1⟩:=bind_some h
 subst hx
 have h:=hq1
 refine RS.mS 2 [(8,.val (Value.pointer (some (Addr.add q1 3)))),kP 7 q1] ?_
 obtain ⟨x2,hx,h⟩:=bind_some h
 refine RS.ld 9 83 (.tmp 8) (z1 hx z3) (RS.mS 1 [kI 10 a1] ?_)
 obtain ⟨p3,hx,h⟩:=bind_some h
 refine RS.ix 11 83 82 (.tmp 9) (.tmp 10) hx ?_
 obtain ⟨x4_0,hx0,h⟩:=bind_some h
 obtain ⟨x4_1,hx1,h⟩:=bind_some h
 obtain ⟨x4_2,hx2,h⟩:=bind_some h
 obtain ⟨x4_3,hx3,h⟩:=bind_some h
 obtain ⟨x4_4,hx4,h⟩:=bind_some h
 obtain ⟨x4_5,hx5,h⟩:=bind_some h
 obtain ⟨x4_6,hx6,h⟩:=bind_some h
 obtain ⟨x4_7,hx7,h⟩:=bind_some h
 obtain ⟨x4_8,hx8,h⟩:=bind_some h
 obtain ⟨x4_9,hx9,h⟩:=bind_some h
 obtain ⟨x4_10,hx10,h⟩:=bind_some h
 obtain ⟨x4_11,hx11,h⟩:=bind_some h
 refine RS.la 12 82 (.tmp 11) 12 (z2 (z1 hx0 z4) (z2 (z1 hx1 za) (z2 (z1 hx2 zaz) (z2 (z1 hx3 z3) (z2 (z1 hx4 z4) (z2 (z1 hx5 z3) (z2 (z1 hx6 z4) (z2 (z1 hx7 z4) (z2 (z1 hx8 za) (z2 (z1 hx9 z3) (z2 (z1 hx10 z3) (z2 (z1 hx11 z3) zq)))))))))))) (RS.mL 2 [kL 5 0 0] ([some (82,[(Value.int .i64 x4_0),(Value.string x4_1),(Value.bool x4_2),(Sl3.v x4_3),(Value.int .i64 x4_4),(Sl3.v x4_5),(Value.int .i64 x4_6),(Value.int .i64 x4_7),(Value.string x4_8),(Sl3.v x4_9),(Sl3.v x4_10),(Sl3.v x4_11)])]) (RS.dn (WS.nxt (WS.sq (WS.sq (WS.rg (RS.mS 4 [kB 16 (decide (x4_0≥68)),kB 15 (decide (x4_0≥68)),kI 14 x4_0,kL 13 0 0] ?_)))))))
 rcases z0 h with ⟨hp,h⟩ | ⟨hp,h⟩
 ·refine RS.fx 16 true (decide_eq_true hp) ?_
  cases h
 ·refine RS.fx 16 false (decide_eq_false hp) (RS.mS 4 [kB 20 false,kU 19,kU 18,kU 17] (RS.dn (WS.nxt (WS.cF (WS.sk (WS.nxt (WS.sq ?_)))))))
  refine WS.dr [0,1,2,3,4,5,6,7,8,9,10,11,12,13,14,15,16,17,18,19] [0,1,3,7,15,31,63,127,255,511,1023,2047,4095,511,8703,25087,57855,131071,262143,524287,1048575,2097151,4194303] 23 (fun hcl=>?_)
  refine DA.tL 0 (some 21) (.loc 0 0) (DA.tL 1 (some 22) (.val (Value.int .i64 x4_0)) (DA.tK 2 (some 23) (Value.bool (decide (x4_0=8))) (DA.tK 3 (some 24) (Value.bool (decide (x4_0=8))) ?_)))
  rcases z0 h with ⟨hp,h⟩ | ⟨hp,h⟩
  ·refine DA.fx 24 true (decide_eq_true hp) ?_
   cases h
  ·refine DA.fx 24 false (decide_eq_false hp) (DA.tL 4 (some 25) (.loc 0 0) (DA.tL 5 (some 26) (.val (Value.int .i64 x4_0)) (DA.tK 6 (some 27) (Value.bool (decide (x4_0=9))) (DA.tK 7 (some 28) (Value.bool (decide (x4_0=9))) (DA.tK 8 (some 29) (Value.bool (decide (x4_0=9))) ?_)))))
   rcases z0 h with ⟨hp,h⟩ | ⟨hp,h⟩
   ·refine DA.fx 29 true (decide_eq_true hp) ?_
    cases h
   ·refine DA.fx 29 false (decide_eq_false hp) ?_
    refine DA.tskipD 9 (some 30) (by kernel_rfl) (by kernel_rfl) (by kernel_rfl) hcl (fun _ _ _ h=>h) (by kernel_rfl) ?_
    refine DA.tskipD 10 (some 31) (by kernel_rfl) (by kernel_rfl) (by kernel_rfl) hcl (fun _ _ _ h=>h) (by kernel_rfl) ?_
    refine DA.tskipD 11 (some 32) (by kernel_rfl) (by kernel_rfl) (by kernel_rfl) hcl (fun _ _ _ h=>h) (by kernel_rfl) ?_
    refine DA.tskipD 12 (some 33) (by kernel_rfl) (by kernel_rfl) (by kernel_rfl) hcl (fun _ _ _ h=>h) (by kernel_rfl) ?_
    refine DA.tskipD 13 (some 34) (by kernel_rfl) (by kernel_rfl) (by kernel_rfl) hcl (fun _ _ _ h=>h) (by kernel_rfl) ?_
    refine DA.tskipD 14 (some 35) (by kernel_rfl) (by kernel_rfl) (by kernel_rfl) hcl (fun _ _ _ h=>h) (by kernel_rfl) ?_
    refine DA.tskipD 15 (some 36) (by kernel_rfl) (by kernel_rfl) (by kernel_rfl) hcl (fun _ _ _ h=>h) (by kernel_rfl) ?_
    refine DA.tskipD 16 (some 37) (by kernel_rfl) (by kernel_rfl) (by kernel_rfl) hcl (fun _ _ _ h=>h) (by kernel_rfl) ?_
    refine DA.tskipD 17 (some 38) (by kernel_rfl) (by kernel_rfl) (by kernel_rfl) hcl (fun _ _ _ h=>h) (by kernel_rfl) ?_
    refine DA.tskipD 18 (some 39) (by kernel_rfl) (by kernel_rfl) (by kernel_rfl) hcl (fun _ _ _ h=>h) (by kernel_rfl) ?_
    refine DA.tskipD 19 (some 40) (by kernel_rfl) (by kernel_rfl) (by kernel_rfl) hcl (fun _ _ _ h=>h) (by kernel_rfl) ?_
    refine DA.tskipP 20 (some 41) (by kernel_rfl) (by kernel_rfl) (by kernel_rfl) hcl (fun _ _ _ h=>h) (by kernel_rfl) ?_
    refine DA.tP 21 (some 42) (Value.bool false) (DA.tP 22 (some 4) (Value.bool false) (DA.dn (WS.nxt (WS.rt ?_))))
    cases h
    exact fun a w hs=>rtR (rS hs)
noncomputable def B42:Code:=(Tryz.f42.body).getD .skip
def zgi:Bool→Value
 | r0=>(Value.bool r0)
def zij (H:AH):Bool→AH:=fun _=>H
noncomputable def zba (L:LC) (H:AH) (a0:Option Addr):(Int×Int)→Option (Lp (Int×Int) Bool):=fun (v3_1,v4_2) =>
 Option.bind a0 fun q3 =>
 Option.bind (rd deSl H (Addr.add q3 3)) fun x4 =>
 if v4_2<(x4.n:Int) then
  Option.bind (z82 L H (some q3) v4_2) fun x5 =>
  if x5=true then
   none
  else
   Option.bind (rd deSl H (Addr.add q3 4)) fun x6 =>
   Option.bind (idxA 4 x6 v4_2) fun p7 =>
   Option.bind (rd (deI .i64) H (Addr.add p7 0)) fun x8 =>
   if x8=1 then
    none
   else
    Option.bind (rd deSl H (Addr.add q3 4)) fun x9 =>
    Option.bind (idxA 4 x9 v4_2) fun p10 =>
    Option.bind (rd (deI .i64) H (Addr.add p10 0)) fun x11 =>
    if x11=3 then
     Option.bind (rd deSl H (Addr.add q3 4)) fun x12 =>
     Option.bind (idxA 4 x12 v4_2) fun p13 =>
     Option.bind (rd (deI .i64) H (Addr.add p13 1)) fun x14 =>
     Option.bind (rd deSl H (Addr.add q3 3)) fun x15 =>
     Option.bind (idxA 12 x15 v4_2) fun p16 =>
     Option.bind (rd (deI .i64) H (Addr.add p16 0)) fun x17 =>
     if x17≥54 then
      none
     else
      if (IntKind.i64.wrap ((IntKind.i64.wrap (v3_1+1))+(IntKind.i64.wrap (x14*4)))) > 60000 then
       none
      else
       some (.next ((IntKind.i64.wrap ((IntKind.i64.wrap (v3_1+1))+(IntKind.i64.wrap (x14*4)))),(IntKind.i64.wrap (v4_2+1))))
    else
     none
 else
  some (.brk (v3_1,v4_2))
def zns (_L:LC) (_H:AH) (a0:Option Addr):(Int×Int)→KN×Lcs:=fun (v3_1,v4_2)=>([kI 3 v3_1,kI 4 v4_2,(0,.val (Value.pointer a0))],[])
noncomputable def zgr (L:LC) (H:AH) (a0:Option Addr):Option Bool :=
 Option.bind (L.run (zba L H a0) (0,0)) fun o=>match o with
 | .inl (_,_) =>
  some false
 | .inr r=>some r
theorem zdp {E m L H a0} :LoopF Tryz.prog (NE.plain 258) m E Tryz.f42 ((cfst (csnd (cfst (csnd (csnd B42)))))) (zns L H a0) (fun _=>H) 0 zgi (zij H) (zba L H a0):=by
 rintro ⟨v3_1,v4_2⟩ o h
 unfold zba at h
 try dsimp only at h
 refine WS.sq (WS.sq (WS.rg (RS.mS 2 [(7,.val (Value.pointer a0)),kI 6 v4_2] ?_)))
 obtain ⟨q3,hx,hq3⟩:=bind_some h
 subst hx
 have h:=hq3
 refine RS.mS 2 [(9,.val (Value.pointer (some (Addr.add q3 3)))),kP 8 q3] ?_
 obtain ⟨x4,hx,h⟩:=bind_some h
 refine RS.ld 10 83 (.tmp 9) (z1 hx z3) (RS.mS 2 [kB 12 (decide (v4_2<(x4.n:Int))),kI 11 (x4.n:Int)] (RS.dn (WS.nxt ?_)))
 rcases z0 h with ⟨hp,h⟩ | ⟨hp,h⟩
 ·refine WS.fx 12 true (decide_eq_true hp) (WS.cT (WS.sk (WS.nxt (WS.sq (WS.bk 1 (WS.sq (WS.rg (RS.mS 3 [kI 3 (IntKind.i64.wrap (v3_1+1)),kI 16 (IntKind.i64.wrap (v3_1+1)),kI 15 v3_1] (RS.dn ?_)))))))))
  refine WS.nxt (WS.sq (WS.sq (WS.rg (RS.mS 2 [kI 18 v4_2,kP 17 q3] ?_))))
  obtain ⟨x5,hx,h⟩:=bind_some h
  refine RS.cl (some 19) (v:=(Value.bool x5)) 80 #[(Value.pointer (some q3)),(Value.int .i64 v4_2)] (zl9 hx) (RS.dn (WS.nxt ?_))
  rcases z0 h with ⟨hp,h⟩ | ⟨hp,h⟩
  ·refine WS.fx 19 true hp (WS.cT ?_)
   cases h
  ·refine WS.fx 19 false (b_not hp) (WS.cF (WS.sq (WS.rg (RS.mS 3 [(55,.val (Value.pointer (some (Addr.add q3 4)))),kP 54 q3,kP 53 q3] ?_))))
   obtain ⟨x6,hx,h⟩:=bind_some h
   refine RS.ld 56 54 (.tmp 55) (z1 hx z3) (RS.mS 1 [kI 57 v4_2] ?_)
   obtain ⟨p7,hx,h⟩:=bind_some h
   refine RS.ix 58 54 56 (.tmp 56) (.tmp 57) hx (RS.mS 1 [(59,.val (Value.pointer (some (Addr.add p7 0))))] ?_)
   obtain ⟨x8,hx,h⟩:=bind_some h
   refine RS.ld 60 53 (.tmp 59) (z1 hx z4) (RS.mS 1 [kB 61 (decide (x8=1))] (RS.dn (WS.nxt ?_)))
   rcases z0 h with ⟨hp,h⟩ | ⟨hp,h⟩
   ·refine WS.fx 61 true (decide_eq_true hp) (WS.cT ?_)
    cases h
   ·refine WS.fx 61 false (decide_eq_false hp) (WS.cF (WS.sk (WS.nxt (WS.sq (WS.sq (WS.rg (RS.mS 3 [(77,.val (Value.pointer (some (Addr.add q3 4)))),kP 76 q3,kP 75 q3] ?_)))))))
    obtain ⟨x9,hx,h⟩:=bind_some h
    refine RS.ld 78 54 (.tmp 77) (z1 hx z3) (RS.mS 1 [kI 79 v4_2] ?_)
    obtain ⟨p10,hx,h⟩:=bind_some h
    refine RS.ix 80 54 56 (.tmp 78) (.tmp 79) hx (RS.mS 1 [(81,.val (Value.pointer (some (Addr.add p10 0))))] ?_)
    obtain ⟨x11,hx,h⟩:=bind_some h
    refine RS.ld 82 53 (.tmp 81) (z1 hx z4) (RS.mS 1 [kB 83 (decide (x11=3))] (RS.dn (WS.nxt ?_)))
    rcases z0 h with ⟨hp,h⟩ | ⟨hp,h⟩
    ·refine WS.fx 83 true (decide_eq_true hp) (WS.cT (WS.sq (WS.rg (RS.mS 4 [(87,.val (Value.pointer (some (Addr.add q3 4)))),kP 86 q3,kP 85 q3,kI 84 (IntKind.i64.wrap (v3_1+1))] ?_))))
     obtain ⟨x12,hx,h⟩:=bind_some h
     refine RS.ld 88 54 (.tmp 87) (z1 hx z3) (RS.mS 1 [kI 89 v4_2] ?_)
     obtain ⟨p13,hx,h⟩:=bind_some h
     refine RS.ix 90 54 56 (.tmp 88) (.tmp 89) hx (RS.mS 1 [(91,.val (Value.pointer (some (Addr.add p13 1))))] ?_)
     obtain ⟨x14,hx,h⟩:=bind_some h
     refine RS.ld 92 3 (.tmp 91) (z1 hx z4) (RS.mS 3 [kI 3 (IntKind.i64.wrap ((IntKind.i64.wrap (v3_1+1))+(IntKind.i64.wrap (x14*4)))),kI 94 (IntKind.i64.wrap ((IntKind.i64.wrap (v3_1+1))+(IntKind.i64.wrap (x14*4)))),kI 93 (IntKind.i64.wrap (x14*4))] (RS.dn (WS.nxt (WS.sq (WS.rg (RS.mS 3 [(97,.val (Value.pointer (some (Addr.add q3 3)))),kP 96 q3,kP 95 q3] ?_))))))
     obtain ⟨x15,hx,h⟩:=bind_some h
     refine RS.ld 98 83 (.tmp 97) (z1 hx z3) (RS.mS 1 [kI 99 v4_2] ?_)
     obtain ⟨p16,hx,h⟩:=bind_some h
     refine RS.ix 100 83 82 (.tmp 98) (.tmp 99) hx (RS.mS 1 [(101,.val (Value.pointer (some (Addr.add p16 0))))] ?_)
     obtain ⟨x17,hx,h⟩:=bind_some h
     refine RS.ld 102 78 (.tmp 101) (z1 hx z4) (RS.mS 2 [kB 104 (decide (x17≥54)),kB 103 (decide (x17≥54))] ?_)
     rcases z0 h with ⟨hp,h⟩ | ⟨hp,h⟩
     ·refine RS.fx 104 true (decide_eq_true hp) ?_
      cases h
     ·refine RS.fx 104 false (decide_eq_false hp) (RS.mS 10 [kB 114 false,kU 113,kU 112,kU 111,kU 110,kU 109,kU 108,kU 107,kU 106,kU 105] (RS.dn (WS.nxt (WS.cF (WS.sk (WS.nxt (WS.sq (WS.rg (RS.mS 2 [kB 136 (decide ((IntKind.i64.wrap ((IntKind.i64.wrap (v3_1+1))+(IntKind.i64.wrap (x14*4)))) > 60000)),kI 135 (IntKind.i64.wrap ((IntKind.i64.wrap (v3_1+1))+(IntKind.i64.wrap (x14*4))))] ?_)))))))))
      refine RS.dn (WS.nxt ?_)
      rcases z0 h with ⟨hp,h⟩ | ⟨hp,h⟩
      ·refine WS.fx 136 true (decide_eq_true hp) (WS.cT ?_)
       cases h
      ·refine WS.fx 136 false (decide_eq_false hp) (WS.cF (WS.sk ?_))
       refine fun a w hs=>bkN ((WS.nxt ?_ a w hs))
       refine WS.rg (RS.mS 3 [kI 4 (IntKind.i64.wrap (v4_2+1)),kI 14 (IntKind.i64.wrap (v4_2+1)),kI 13 v4_2] (RS.dn ?_))
       cases h
       exact fun a w hs=>lsN rfl (hs.sb 0)
    ·refine WS.fx 83 false (decide_eq_false hp) (WS.cF ?_)
     cases h
 ·refine WS.fx 12 false (decide_eq_false hp) (WS.cF (WS.ex 0 ?_))
  cases h
  exact fun a w hs=>sqE (lsB rfl (hs.sb 0))
theorem zr8 {L:LC} {m:Nat} {H:AH} {a0:Option Addr} {r:Bool} (h:zgr L H a0=some r) :
  CallS Tryz.prog (NE.plain 258) m 42 #[(Value.pointer a0)] H (zgi r) (zij H r):=by
 refine CallS.mk (args:=[(Value.pointer a0)]) Tryz.func42 (B:=B42) (by kernel_rfl) (fun E _=>?_)
 unfold zgr at h
 refine WS.sq (WS.rg (RS.mS 1 [kB 2 false] (RS.dn (WS.nxt (WS.sq (WS.rg (RS.mS 1 [kI 3 0] (RS.dn (WS.nxt ?_)))))))))
 refine WS.sq (WS.sq (WS.rg (RS.mS 1 [kI 4 0] (RS.dn (WS.nxt (WS.bk 0 ?_))))))
 obtain ⟨o,hl,h⟩:=bind_some h
 rcases o with ⟨v3_18,v4_19⟩ | r
 ·try dsimp only at h
  refine WS.lI (zdp (L:=L) (E:=E) (m:=m) (H:=H)) (L.ok hl) 0 ?_
  clear hl
  refine fun a w hs=>bkE ((WS.nxt ?_ a w hs))
  refine WS.sq (WS.rg (RS.mS 1 [kB 2 false] (RS.dn (WS.nxt (WS.rt ?_)))))
  cases h
  exact fun a w hs=>rtR (rS hs)
 ·try dsimp only at h
  refine WS.lR (zdp (L:=L) (E:=E) (m:=m) (H:=H)) (L.ok hl) 0 ?_
  cases h
  exact fun a w hq=>bkR (sqR (rtR hq))
noncomputable def B43:Code:=(Tryz.f43.body).getD .skip
def zqw:((Option Addr)×Int×AH)→Value
 | (r0,r1,_)=>(Value.tuple #[(Value.pointer r0),(Value.int .i64 r1)])
def zso (_:AH):((Option Addr)×Int×AH)→AH:=fun r=>r.2.2
noncomputable def zjn (L:LC) (m:Nat) (H:AH) (a0:Option Addr):Option ((Option Addr)×Int×AH) :=
 Option.bind (z6f L m H a0 0 (⟨#[]⟩:ByteArray) false Sl3.nil 0 Sl3.nil 0 0 (⟨#[]⟩:ByteArray) Sl3.nil Sl3.nil Sl3.nil) fun (_,x2,H3) =>
 if x2=4 then
  none
 else
  Option.bind (newM H3) fun (p4,H5) =>
  Option.bind (newB 49 [(Value.int .i64 0),(Sl3.v Sl3.nil),(Value.bool false),(Value.pointer a0),(Value.map (some p4)),(Sl3.v Sl3.nil),(Value.int .i64 0)] H5) fun (p6,H7) =>
  some ((some p6),0,H7)
theorem zsb {L:LC} {m:Nat} {H:AH} {a0:Option Addr} {r:((Option Addr)×Int×AH)} (h:zjn L m H a0=some r) :
  CallS Tryz.prog (NE.plain 258) m 43 #[(Value.pointer a0)] H (zqw r) (zso H r):=by
 refine CallS.mk (args:=[(Value.pointer a0)]) Tryz.func43 (B:=B43) (by kernel_rfl) (fun E _=>?_)
 unfold zjn at h
 refine WS.sq (WS.rg (RS.mS 2 [kI 3 0,(2,.val (Value.pointer none))] (RS.dn (WS.nxt (WS.sq (WS.sq (WS.rg (RS.mS 2 [kA 8 #[(Value.int .i64 0),(Value.string (⟨#[]⟩:ByteArray)),(Value.bool false),(Sl3.v Sl3.nil),(Value.int .i64 0),(Sl3.v Sl3.nil),(Value.int .i64 0),(Value.int .i64 0),(Value.string (⟨#[]⟩:ByteArray)),(Sl3.v Sl3.nil),(Sl3.v Sl3.nil),(Sl3.v Sl3.nil)],(7,.val (Value.pointer a0))] ?_))))))))
 obtain ⟨⟨x1,x2,H3⟩,hx,h⟩:=bind_some h
 try dsimp only at h
 refine RS.cl (some 9) (v:=(Value.tuple #[(Value.int .i64 x1),(Value.int .i64 x2)])) 40 #[(Value.pointer a0),(Value.agg #[(Value.int .i64 0),(Value.string (⟨#[]⟩:ByteArray)),(Value.bool false),(Sl3.v Sl3.nil),(Value.int .i64 0),(Sl3.v Sl3.nil),(Value.int .i64 0),(Value.int .i64 0),(Value.string (⟨#[]⟩:ByteArray)),(Sl3.v Sl3.nil),(Sl3.v Sl3.nil),(Sl3.v Sl3.nil)])] (zdg hx) (RS.mS 5 [kI 5 x2,kI 4 x1,kI 11 x2,kI 10 x1,(6,.val (Value.tuple #[(Value.int .i64 x1),(Value.int .i64 x2)]))] (RS.dn (WS.nxt (WS.sq (WS.rg (RS.mS 2 [kB 13 (decide (x2=4)),kI 12 x2] (RS.dn (WS.nxt ?_))))))))
 rcases z0 h with ⟨hp,h⟩ | ⟨hp,h⟩
 ·refine WS.fx 13 true (decide_eq_true hp) (WS.cT ?_)
  cases h
 ·refine WS.fx 13 false (decide_eq_false hp) (WS.cF (WS.sk (WS.nxt (WS.sq (WS.rg (RS.mS 1 [(14,.val (Value.pointer a0))] ?_))))))
  obtain ⟨⟨p4,H5⟩,hx,h⟩:=bind_some h
  try dsimp only at h
  refine RS.o (H':=H5) (some 15) (Value.map (some p4)) (Abs.run_newM (by kernel_rfl) hx) (RS.mS 1 [kA 16 #[(Value.int .i64 0),(Sl3.v Sl3.nil),(Value.bool false),(Value.pointer a0),(Value.map (some p4)),(Sl3.v Sl3.nil),(Value.int .i64 0)]] ?_)
  obtain ⟨⟨p6,H7⟩,hx,h⟩:=bind_some h
  try dsimp only at h
  refine RS.o (H':=H7) (some 17) (Value.pointer (some p6)) (Abs.run_newB (by kernel_rfl) hx) (RS.mS 2 [kI 3 0,kP 2 p6] (RS.dn (WS.nxt (WS.rt ?_))))
  cases h
  exact fun a w hs=>rtR (rS hs)
noncomputable def B18:Code:=(Tryz.f18.body).getD .skip
def zgg:((Option Addr)×Bool×AH)→Value
 | (r0,r1,_)=>(Value.tuple #[(Value.pointer r0),(Value.bool r1)])
def ziy (_:AH):((Option Addr)×Bool×AH)→AH:=fun r=>r.2.2
noncomputable def zbn (L:LC) (m:Nat) (_a0_0 _a0_1:Sl3) (_a0_2 a1:Sl3) (q7 q8:Addr):(AH×Int)→Option (Lp (AH×Int) ((Option Addr)×Bool×AH)):=fun (H9,v10_10) =>
 if v10_10<(a1.n:Int) then
  Option.bind (idxA 12 a1 v10_10) fun p11 =>
  Option.bind (rd (deI .i64) H9 (Addr.add p11 0)) fun x12_0 =>
  Option.bind (rd deS H9 (Addr.add p11 1)) fun x12_1 =>
  Option.bind (rd deB H9 (Addr.add p11 2)) fun x12_2 =>
  Option.bind (rd deSl H9 (Addr.add p11 3)) fun x12_3 =>
  Option.bind (rd (deI .i64) H9 (Addr.add p11 4)) fun x12_4 =>
  Option.bind (rd deSl H9 (Addr.add p11 5)) fun x12_5 =>
  Option.bind (rd (deI .i64) H9 (Addr.add p11 6)) fun x12_6 =>
  Option.bind (rd (deI .i64) H9 (Addr.add p11 7)) fun x12_7 =>
  Option.bind (rd deS H9 (Addr.add p11 8)) fun x12_8 =>
  Option.bind (rd deSl H9 (Addr.add p11 9)) fun x12_9 =>
  Option.bind (rd deSl H9 (Addr.add p11 10)) fun x12_10 =>
  Option.bind (rd deSl H9 (Addr.add p11 11)) fun x12_11 =>
  Option.bind (z6f L m H9 (some q7) x12_0 x12_1 x12_2 x12_3 x12_4 x12_5 x12_6 x12_7 x12_8 x12_9 x12_10 x12_11) fun (x13,x14,H15) =>
  Option.bind (idxA 12 a1 v10_10) fun p16 =>
  Option.bind (rd (deI .i64) H15 (Addr.add p16 0)) fun x17_0 =>
  Option.bind (rd deS H15 (Addr.add p16 1)) fun x17_1 =>
  Option.bind (rd deB H15 (Addr.add p16 2)) fun x17_2 =>
  Option.bind (rd deSl H15 (Addr.add p16 3)) fun x17_3 =>
  Option.bind (rd (deI .i64) H15 (Addr.add p16 4)) fun x17_4 =>
  Option.bind (rd deSl H15 (Addr.add p16 5)) fun x17_5 =>
  Option.bind (rd (deI .i64) H15 (Addr.add p16 6)) fun x17_6 =>
  Option.bind (rd (deI .i64) H15 (Addr.add p16 7)) fun x17_7 =>
  Option.bind (rd deS H15 (Addr.add p16 8)) fun x17_8 =>
  Option.bind (rd deSl H15 (Addr.add p16 9)) fun x17_9 =>
  Option.bind (rd deSl H15 (Addr.add p16 10)) fun x17_10 =>
  Option.bind (rd deSl H15 (Addr.add p16 11)) fun x17_11 =>
  Option.bind (zg0 L m H15 (some q8) x17_0 x17_1 x17_2 x17_3 x17_4 x17_5 x17_6 x17_7 x17_8 x17_9 x17_10 x17_11) fun (x18,x19,H20) =>
  if x13=x18 then
   if x14=x19 then
    some (.next (H20,(IntKind.i64.wrap (v10_10+1))))
   else
    none
  else
   none
 else
  some (.brk (H9,v10_10))
def zny (_L:LC) (_m:Nat) (a0_0 a0_1:Sl3) (a0_2 a1:Sl3) (q7 q8:Addr):(AH×Int)→KN×Lcs:=fun (_,v10_10)=>([kI 10 v10_10,kS 1 a1,kP 6 q7,kP 8 q8],[some (77,[(Sl3.v a0_0),(Sl3.v a0_1),(Sl3.v a0_2)])])
noncomputable def zh8 (L:LC) (m:Nat) (H:AH) (a0_0 a0_1:Sl3) (a0_2 a1:Sl3):Option ((Option Addr)×Bool×AH) :=
 Option.bind (zor L m H a0_0 a0_1 a0_2) fun (x1,_,H3) =>
 Option.bind (zmt L m H3 a0_0 a0_1 a0_2) fun (x4,_,H6) =>
 match x1 with
 | none =>
  none
 | some q7 =>
  match x4 with
  | none =>
   none
  | some q8 =>
   Option.bind (L.run (zbn L m a0_0 a0_1 a0_2 a1 q7 q8) (H6,0)) fun o=>match o with
   | .inl (H21,_) =>
    Option.bind (zgr L H21 (some q8)) fun x23 =>
    if x23=true then
     none
    else
     Option.bind (zjn L m H21 (some q7)) fun (x24,x25,H26) =>
     if x25=0 then
      match x24 with
      | none =>
       none
      | some q27 =>
       Option.bind (zc1 L m H26 (some q27)) fun (x28,x29,H30) =>
       if x29=0 then
        match x28 with
        | none =>
         none
        | some q31 =>
         Option.bind (newB 86 [(Value.pointer (some q7)),(Value.pointer (some q27)),(Value.pointer (some q31)),(Value.pointer (some q8))] H30) fun (p32,H33) =>
         some ((some p32),true,H33)
       else
        none
     else
      none
   | .inr r=>some r
theorem zds {E H L m a0_0 a0_1 a0_2 a1 q7 q8} :LoopF Tryz.prog (NE.plain 258) m E Tryz.f18 ((cfst (csnd (cfst (csnd (csnd (csnd (csnd B18)))))))) (zny L m a0_0 a0_1 a0_2 a1 q7 q8) (fun s=>s.1) 0 zgg (ziy H) (zbn L m a0_0 a0_1 a0_2 a1 q7 q8):=by
 rintro ⟨H9,v10_10⟩ o h
 unfold zbn at h
 try dsimp only at h
 refine WS.sq (WS.sq (WS.rg (RS.mS 4 [kB 47 (decide (v10_10<(a1.n:Int))),kI 46 (a1.n:Int),kS 45 a1,kI 44 v10_10] (RS.dn (WS.nxt ?_)))))
 rcases z0 h with ⟨hp,h⟩ | ⟨hp,h⟩
 ·refine WS.fx 47 true (decide_eq_true hp) (WS.cT (WS.sk (WS.nxt (WS.sq (WS.bk 1 (WS.sq (WS.rg (RS.mS 3 [kI 53 v10_10,kS 52 a1,kP 51 q7] ?_))))))))
  obtain ⟨p11,hx,h⟩:=bind_some h
  refine RS.ix 54 83 82 (.tmp 52) (.tmp 53) hx ?_
  obtain ⟨x12_0,hx0,h⟩:=bind_some h
  obtain ⟨x12_1,hx1,h⟩:=bind_some h
  obtain ⟨x12_2,hx2,h⟩:=bind_some h
  obtain ⟨x12_3,hx3,h⟩:=bind_some h
  obtain ⟨x12_4,hx4,h⟩:=bind_some h
  obtain ⟨x12_5,hx5,h⟩:=bind_some h
  obtain ⟨x12_6,hx6,h⟩:=bind_some h
  obtain ⟨x12_7,hx7,h⟩:=bind_some h
  obtain ⟨x12_8,hx8,h⟩:=bind_some h
  obtain ⟨x12_9,hx9,h⟩:=bind_some h
  obtain ⟨x12_10,hx10,h⟩:=bind_some h
  obtain ⟨x12_11,hx11,h⟩:=bind_some h
  refine RS.la 55 82 (.tmp 54) 12 (z2 (z1 hx0 z4) (z2 (z1 hx1 za) (z2 (z1 hx2 zaz) (z2 (z1 hx3 z3) (z2 (z1 hx4 z4) (z2 (z1 hx5 z3) (z2 (z1 hx6 z4) (z2 (z1 hx7 z4) (z2 (z1 hx8 za) (z2 (z1 hx9 z3) (z2 (z1 hx10 z3) (z2 (z1 hx11 z3) zq)))))))))))) ?_
  obtain ⟨⟨x13,x14,H15⟩,hx,h⟩:=bind_some h
  try dsimp only at h
  refine RS.cl (some 56) (v:=(Value.tuple #[(Value.int .i64 x13),(Value.int .i64 x14)])) 40 #[(Value.pointer (some q7)),(Value.agg #[(Value.int .i64 x12_0),(Value.string x12_1),(Value.bool x12_2),(Sl3.v x12_3),(Value.int .i64 x12_4),(Sl3.v x12_5),(Value.int .i64 x12_6),(Value.int .i64 x12_7),(Value.string x12_8),(Sl3.v x12_9),(Sl3.v x12_10),(Sl3.v x12_11)])] (zdg hx) (RS.mS 5 [kI 12 x14,kI 11 x13,kI 58 x14,kI 57 x13,(50,.val (Value.tuple #[(Value.int .i64 x13),(Value.int .i64 x14)]))] (RS.dn (WS.nxt (WS.sq (WS.rg (RS.mS 3 [kI 62 v10_10,kS 61 a1,kP 60 q8] ?_))))))
  obtain ⟨p16,hx,h⟩:=bind_some h
  refine RS.ix 63 83 82 (.tmp 61) (.tmp 62) hx ?_
  obtain ⟨x17_0,hx0,h⟩:=bind_some h
  obtain ⟨x17_1,hx1,h⟩:=bind_some h
  obtain ⟨x17_2,hx2,h⟩:=bind_some h
  obtain ⟨x17_3,hx3,h⟩:=bind_some h
  obtain ⟨x17_4,hx4,h⟩:=bind_some h
  obtain ⟨x17_5,hx5,h⟩:=bind_some h
  obtain ⟨x17_6,hx6,h⟩:=bind_some h
  obtain ⟨x17_7,hx7,h⟩:=bind_some h
  obtain ⟨x17_8,hx8,h⟩:=bind_some h
  obtain ⟨x17_9,hx9,h⟩:=bind_some h
  obtain ⟨x17_10,hx10,h⟩:=bind_some h
  obtain ⟨x17_11,hx11,h⟩:=bind_some h
  refine RS.la 64 82 (.tmp 63) 12 (z2 (z1 hx0 z4) (z2 (z1 hx1 za) (z2 (z1 hx2 zaz) (z2 (z1 hx3 z3) (z2 (z1 hx4 z4) (z2 (z1 hx5 z3) (z2 (z1 hx6 z4) (z2 (z1 hx7 z4) (z2 (z1 hx8 za) (z2 (z1 hx9 z3) (z2 (z1 hx10 z3) (z2 (z1 hx11 z3) zq)))))))))))) ?_
  obtain ⟨⟨x18,x19,H20⟩,hx,h⟩:=bind_some h
  try dsimp only at h
  refine RS.cl (some 65) (v:=(Value.tuple #[(Value.int .i64 x18),(Value.int .i64 x19)])) 41 #[(Value.pointer (some q8)),(Value.agg #[(Value.int .i64 x17_0),(Value.string x17_1),(Value.bool x17_2),(Sl3.v x17_3),(Value.int .i64 x17_4),(Sl3.v x17_5),(Value.int .i64 x17_6),(Value.int .i64 x17_7),(Value.string x17_8),(Sl3.v x17_9),(Sl3.v x17_10),(Sl3.v x17_11)])] (zmi hx) (RS.mS 5 [kI 14 x19,kI 13 x18,kI 67 x19,kI 66 x18,(59,.val (Value.tuple #[(Value.int .i64 x18),(Value.int .i64 x19)]))] (RS.dn (WS.nxt (WS.sq (WS.rg (RS.mS 4 [kB 71 (!decide (x13=x18)),kB 70 (!decide (x13=x18)),kI 69 x18,kI 68 x13] ?_))))))
  rcases z0 h with ⟨hp,h⟩ | ⟨hp,h⟩
  ·refine RS.fx 71 false (zd hp) (RS.mS 4 [kB 75 (!decide (x14=x19)),kB 74 (!decide (x14=x19)),kI 73 x19,kI 72 x14] (RS.dn (WS.nxt ?_)))
   rcases z0 h with ⟨hp,h⟩ | ⟨hp,h⟩
   ·refine WS.fx 75 false (zd hp) (WS.cF (WS.sk ?_))
    refine fun a w hs=>bkN ((WS.nxt ?_ a w hs))
    refine WS.rg (RS.mS 3 [kI 10 (IntKind.i64.wrap (v10_10+1)),kI 49 (IntKind.i64.wrap (v10_10+1)),kI 48 v10_10] (RS.dn ?_))
    cases h
    exact fun a w hs=>lsN rfl (hs.sb 1)
   ·refine WS.fx 75 true (z9 hp) (WS.cT ?_)
    cases h
  ·refine RS.fx 71 true (z9 hp) ?_
   cases h
 ·refine WS.fx 47 false (decide_eq_false hp) (WS.cF (WS.ex 0 ?_))
  cases h
  exact fun a w hs=>sqE (lsB rfl (hs.sb 1))
theorem zqj {L:LC} {m:Nat} {H:AH} {a0_0 a0_1:Sl3} {a0_2 a1:Sl3} {r:((Option Addr)×Bool×AH)} (h:zh8 L m H a0_0 a0_1 a0_2 a1=some r) :
  CallS Tryz.prog (NE.plain 258) m 18 #[(Value.agg #[(Sl3.v a0_0),(Sl3.v a0_1),(Sl3.v a0_2)]),(Sl3.v a1)] H (zgg r) (ziy H r):=by
 refine CallS.mk (args:=[(Value.agg #[(Sl3.v a0_0),(Sl3.v a0_1),(Sl3.v a0_2)]),(Sl3.v a1)]) Tryz.func18 (B:=B18) (by kernel_rfl) (fun E _=>?_)
 unfold zh8 at h
 refine WS.sq (WS.rg (RS.mL 3 [kB 5 false,(4,.val (Value.pointer none)),kL 2 0 0] ([some (77,[(Sl3.v a0_0),(Sl3.v a0_1),(Sl3.v a0_2)])]) (RS.dn (WS.nxt (WS.sq (WS.rg (RS.mS 1 [kA 18 #[(Sl3.v a0_0),(Sl3.v a0_1),(Sl3.v a0_2)]] ?_)))))))
 obtain ⟨⟨x1,x2,H3⟩,hx,h⟩:=bind_some h
 try dsimp only at h
 refine RS.cl (some 19) (v:=(Value.tuple #[(Value.pointer x1),(Value.int .i64 x2)])) 38 #[(Value.agg #[(Sl3.v a0_0),(Sl3.v a0_1),(Sl3.v a0_2)])] (zuj hx) (RS.mS 5 [kI 7 x2,(6,.val (Value.pointer x1)),kI 21 x2,(20,.val (Value.pointer x1)),(17,.val (Value.tuple #[(Value.pointer x1),(Value.int .i64 x2)]))] (RS.dn (WS.nxt (WS.sq (WS.rg (RS.mS 1 [kA 23 #[(Sl3.v a0_0),(Sl3.v a0_1),(Sl3.v a0_2)]] ?_))))))
 obtain ⟨⟨x4,x5,H6⟩,hx,h⟩:=bind_some h
 try dsimp only at h
 refine RS.cl (some 24) (v:=(Value.tuple #[(Value.pointer x4),(Value.int .i64 x5)])) 39 #[(Value.agg #[(Sl3.v a0_0),(Sl3.v a0_1),(Sl3.v a0_2)])] (zth hx) (RS.mS 5 [kI 9 x5,(8,.val (Value.pointer x4)),kI 26 x5,(25,.val (Value.pointer x4)),(22,.val (Value.tuple #[(Value.pointer x4),(Value.int .i64 x5)]))] (RS.dn (WS.nxt (WS.sq (WS.sq (WS.rg (RS.mS 1 [(27,.val (Value.pointer x1))] ?_)))))))
 rcases x1 with _ | q7
 ·try dsimp only at h
  cases h
 ·try dsimp only at h
  refine RS.mS 3 [(30,.val (Value.pointer x4)),kB 29 false,kB 28 false] ?_
  rcases x4 with _ | q8
  ·try dsimp only at h
   cases h
  ·try dsimp only at h
   refine RS.mS 2 [kB 32 false,kB 31 false] (RS.dn (WS.nxt (WS.cF (WS.sk (WS.nxt (WS.sq (WS.sq (WS.rg (RS.mS 1 [kI 10 0] ?_)))))))))
   refine RS.dn (WS.nxt (WS.bk 0 ?_))
   obtain ⟨o,hl,h⟩:=bind_some h
   rcases o with ⟨H21,v10_22⟩ | r
   ·try dsimp only at h
    refine WS.lI (zds (L:=L) (E:=E) (m:=m) (H:=H)) (L.ok hl) 1 ?_
    clear hl
    refine fun a w hs=>bkE ((WS.nxt ?_ a w hs))
    refine WS.sq (WS.sq (WS.rg (RS.mS 1 [kP 76 q8] ?_)))
    obtain ⟨x23,hx,h⟩:=bind_some h
    refine RS.cl (some 77) (v:=(Value.bool x23)) 42 #[(Value.pointer (some q8))] (zr8 hx) (RS.dn (WS.nxt ?_))
    rcases z0 h with ⟨hp,h⟩ | ⟨hp,h⟩
    ·refine WS.fx 77 true hp (WS.cT ?_)
     cases h
    ·refine WS.fx 77 false (b_not hp) (WS.cF (WS.sk (WS.nxt (WS.sq (WS.rg (RS.mS 1 [kP 79 q7] ?_))))))
     obtain ⟨⟨x24,x25,H26⟩,hx,h⟩:=bind_some h
     try dsimp only at h
     refine RS.cl (some 80) (v:=(Value.tuple #[(Value.pointer x24),(Value.int .i64 x25)])) 43 #[(Value.pointer (some q7))] (zsb hx) (RS.mS 5 [kI 7 x25,(15,.val (Value.pointer x24)),kI 82 x25,(81,.val (Value.pointer x24)),(78,.val (Value.tuple #[(Value.pointer x24),(Value.int .i64 x25)]))] (RS.dn (WS.nxt (WS.sq (WS.sq (WS.rg (RS.mS 3 [kB 85 (!decide (x25=0)),kB 84 (!decide (x25=0)),kI 83 x25] ?_)))))))
     rcases z0 h with ⟨hp,h⟩ | ⟨hp,h⟩
     ·refine RS.fx 85 false (zd hp) (RS.mS 1 [(86,.val (Value.pointer x24))] ?_)
      rcases x24 with _ | q27
      ·try dsimp only at h
       cases h
      ·try dsimp only at h
       refine RS.mS 2 [kB 88 false,kB 87 false] (RS.dn (WS.nxt (WS.cF (WS.sk (WS.nxt (WS.sq (WS.rg (RS.mS 1 [kP 90 q27] ?_))))))))
       obtain ⟨⟨x28,x29,H30⟩,hx,h⟩:=bind_some h
       try dsimp only at h
       refine RS.cl (some 91) (v:=(Value.tuple #[(Value.pointer x28),(Value.int .i64 x29)])) 7 #[(Value.pointer (some q27))] (zfb hx) (RS.mS 5 [kI 7 x29,(16,.val (Value.pointer x28)),kI 93 x29,(92,.val (Value.pointer x28)),(89,.val (Value.tuple #[(Value.pointer x28),(Value.int .i64 x29)]))] (RS.dn (WS.nxt (WS.sq (WS.sq (WS.rg (RS.mS 3 [kB 96 (!decide (x29=0)),kB 95 (!decide (x29=0)),kI 94 x29] ?_)))))))
       rcases z0 h with ⟨hp,h⟩ | ⟨hp,h⟩
       ·refine RS.fx 96 false (zd hp) (RS.mS 1 [(97,.val (Value.pointer x28))] ?_)
        rcases x28 with _ | q31
        ·try dsimp only at h
         cases h
        ·try dsimp only at h
         refine RS.mS 2 [kB 99 false,kB 98 false] (RS.dn (WS.nxt (WS.cF (WS.sk (WS.nxt (WS.sq (WS.rg (RS.mS 5 [kA 104 #[(Value.pointer (some q7)),(Value.pointer (some q27)),(Value.pointer (some q31)),(Value.pointer (some q8))],kP 103 q8,kP 102 q31,kP 101 q27,kP 100 q7] ?_))))))))
         obtain ⟨⟨p32,H33⟩,hx,h⟩:=bind_some h
         try dsimp only at h
         refine RS.o (H':=H33) (some 105) (Value.pointer (some p32)) (Abs.run_newB (by kernel_rfl) hx) (RS.mS 2 [kB 5 true,kP 4 p32] (RS.dn (WS.nxt (WS.rt ?_))))
         cases h
         exact fun a w hs=>rtR (rS hs)
       ·refine RS.fx 96 true (z9 hp) ?_
        cases h
     ·refine RS.fx 85 true (z9 hp) ?_
      cases h
   ·try dsimp only at h
    refine WS.lR (zds (L:=L) (E:=E) (m:=m) (H:=H)) (L.ok hl) 1 ?_
    cases h
    exact fun a w hq=>bkR (sqR (rtR hq))
noncomputable def B109:Code:=(Tryz.f109.body).getD .skip
def z7k:AH→Value
 | _=>(Value.tuple #[])
def z8o (_:AH):AH→AH:=fun r=>r
noncomputable def z3f (_L:LC) (m:Nat) (H:AH) (a0:Option Addr) (a1:Sl3):Option AH :=
 Option.bind a0 fun q1 =>
 Option.bind (rd deSl H (Addr.add q1 1)) fun x2 =>
 if (x2.n:Int)≥4194304 then
  none
 else
  Option.bind (rd deSl H (Addr.add q1 1)) fun x3 =>
  Option.bind (newR 28 1 #[(Sl3.v a1)] H) fun (s4,H5) =>
  Option.bind (appS m 28 1 24 H5 x3 s4) fun (s6,H7) =>
  Option.bind (H7.setCell m (Addr.add q1 1) (Sl3.v s6)) fun H8 =>
  some H8
theorem z8h {L:LC} {m:Nat} {H:AH} {a0:Option Addr} {a1:Sl3} {r:AH} (h:z3f L m H a0 a1=some r) :
  CallS Tryz.prog (NE.plain 258) m 109 #[(Value.pointer a0),(Sl3.v a1)] H (z7k r) (z8o H r):=by
 refine CallS.mk (args:=[(Value.pointer a0),(Sl3.v a1)]) Tryz.func109 (B:=B109) (by kernel_rfl) (fun E _=>?_)
 unfold z3f at h
 refine WS.sq (WS.sq (WS.rg (RS.mS 1 [(4,.val (Value.pointer a0))] ?_)))
 obtain ⟨q1,hx,hq1⟩:=bind_some h
 subst hx
 have h:=hq1
 refine RS.mS 2 [(6,.val (Value.pointer (some (Addr.add q1 1)))),kP 5 q1] ?_
 obtain ⟨x2,hx,h⟩:=bind_some h
 refine RS.ld 7 44 (.tmp 6) (z1 hx z3) (RS.mS 2 [kB 9 (decide ((x2.n:Int)≥4194304)),kI 8 (x2.n:Int)] (RS.dn (WS.nxt ?_)))
 rcases z0 h with ⟨hp,h⟩ | ⟨hp,h⟩
 ·refine WS.fx 9 true (decide_eq_true hp) (WS.cT ?_)
  cases h
 ·refine WS.fx 9 false (decide_eq_false hp) (WS.cF (WS.sk (WS.nxt (WS.rg (RS.mS 4 [(16,.val (Value.pointer (some (Addr.add q1 1)))),kP 15 q1,kP 14 q1,kP 13 q1] ?_)))))
  obtain ⟨x3,hx,h⟩:=bind_some h
  refine RS.ld 17 44 (.tmp 16) (z1 hx z3) (RS.mS 1 [kS 18 a1] ?_)
  obtain ⟨⟨s4,H5⟩,hx,h⟩:=bind_some h
  try dsimp only at h
  refine RS.o (H':=H5) (some 19) (Sl3.v s4) (Abs.run_newR (by kernel_rfl) (by kernel_rfl) hx) ?_
  obtain ⟨⟨s6,H7⟩,hx,h⟩:=bind_some h
  try dsimp only at h
  refine RS.o (H':=H7) (some 20) (Sl3.v s6) (Abs.run_app (x:=.tmp 17) (y:=.tmp 19) (ts:=#[44,44]) (s:=x3) (z:=s4) (by kernel_rfl) (by kernel_rfl) (by kernel_rfl) (by kernel_rfl) hx) (RS.mS 2 [(22,.val (Value.pointer (some (Addr.add q1 1)))),kP 21 q1] ?_)
  obtain ⟨H8,hx,h⟩:=bind_some h
  refine RS.o (H':=H8) none undef (Abs.run_store1 (t:=44) (x:=.tmp 22) (y:=.tmp 20) (a:=(Addr.add q1 1)) (v:=(Sl3.v s6)) (by kernel_rfl) (by kernel_rfl) (by kernel_rfl) (by kernel_rfl) (by kernel_rfl) hx) (RS.dn ?_)
  cases h
  exact fun a w hs=>rtN (rS hs)
noncomputable def B112:Code:=(Tryz.f112.body).getD .skip
def zhs:Bool→Value
 | r0=>(Value.bool r0)
def zki (H:AH):Bool→AH:=fun _=>H
noncomputable def z6y (_L:LC) (H:AH) (a0:Int) (a1:Option Addr):Option Bool :=
 if a0=0 then
  none
 else
  Option.bind a1 fun q1 =>
  Option.bind (rd deP H q1) fun x2 =>
  Option.bind x2 fun q3 =>
  Option.bind (rd (deI .i64) H (Addr.add (Addr.add q3 0) 0)) fun x4 =>
  if a0 > x4 then
   none
  else
   Option.bind (rd deP H q1) fun x5 =>
   Option.bind x5 fun q6 =>
   Option.bind (rd (deI .i64) H (Addr.add (Addr.add q6 0) 0)) fun x7 =>
   some (decide (a0<(IntKind.i64.wrap (0 - x7))))
theorem zk4 {L:LC} {m:Nat} {H:AH} {a0:Int} {a1:Option Addr} {r:Bool} (h:z6y L H a0 a1=some r) :
  CallS Tryz.prog (NE.plain 258) m 112 #[(Value.int .i64 a0),(Value.pointer a1)] H (zhs r) (zki H r):=by
 refine CallS.mk (args:=[(Value.int .i64 a0),(Value.pointer a1)]) Tryz.func112 (B:=B112) (by kernel_rfl) (fun E _=>?_)
 unfold z6y at h
 refine WS.sq (WS.rg (RS.mS 1 [kB 3 false] (RS.dn (WS.nxt (WS.sq (WS.rg (RS.mS 3 [kB 6 (decide (a0=0)),kB 5 (decide (a0=0)),kI 4 a0] ?_)))))))
 rcases z0 h with ⟨hp,h⟩ | ⟨hp,h⟩
 ·refine RS.fx 6 true (decide_eq_true hp) ?_
  cases h
 ·refine RS.fx 6 false (decide_eq_false hp) (RS.mS 1 [kI 7 a0] ?_)
  obtain ⟨q1,hx,hq1⟩:=bind_some h
  subst hx
  have h:=hq1
  obtain ⟨x2,hx,h⟩:=bind_some h
  refine RS.ld 8 24 (.tmp 1) (z1 hx zu) ?_
  obtain ⟨q3,hx,hq3⟩:=bind_some h
  subst hx
  have h:=hq3
  refine RS.mS 3 [(11,.val (Value.pointer (some (Addr.add (Addr.add q3 0) 0)))),(10,.val (Value.pointer (some (Addr.add q3 0)))),kP 9 q3] ?_
  obtain ⟨x4,hx,h⟩:=bind_some h
  refine RS.ld 12 3 (.tmp 11) (z1 hx z4) (RS.mS 3 [kB 15 (decide (a0 > x4)),kB 14 (decide (a0 > x4)),kB 13 (decide (a0 > x4))] ?_)
  rcases z0 h with ⟨hp,h⟩ | ⟨hp,h⟩
  ·refine RS.fx 15 true (decide_eq_true hp) ?_
   cases h
  ·refine RS.fx 15 false (decide_eq_false hp) (RS.mS 1 [kI 16 a0] ?_)
   obtain ⟨x5,hx,h⟩:=bind_some h
   refine RS.ld 17 24 (.tmp 1) (z1 hx zu) ?_
   obtain ⟨q6,hx,hq6⟩:=bind_some h
   subst hx
   have h:=hq6
   refine RS.mS 3 [(20,.val (Value.pointer (some (Addr.add (Addr.add q6 0) 0)))),(19,.val (Value.pointer (some (Addr.add q6 0)))),kP 18 q6] ?_
   obtain ⟨x7,hx,h⟩:=bind_some h
   refine RS.ld 21 3 (.tmp 20) (z1 hx z4) (RS.mS 4 [kB 3 (decide (a0<(IntKind.i64.wrap (0 - x7)))),kB 24 (decide (a0<(IntKind.i64.wrap (0 - x7)))),kB 23 (decide (a0<(IntKind.i64.wrap (0 - x7)))),kI 22 (IntKind.i64.wrap (0 - x7))] (RS.dn (WS.nxt (WS.rt ?_))))
   cases h
   exact fun a w hs=>rtR (rS hs)
noncomputable def B32:Code:=(Tryz.f32.body).getD .skip
def zf7:(Int×AH)→Value
 | (r0,_)=>(Value.int .i64 r0)
def zfv (_:AH):(Int×AH)→AH:=fun r=>r.2
noncomputable def z4d (_L:LC) (m:Nat) (H:AH) (a0:Option Addr):Option (Int×AH) :=
 Option.bind a0 fun q1 =>
 Option.bind (rd (deI .i64) H (Addr.add q1 0)) fun x2 =>
 if x2≥1048576 then
  none
 else
  Option.bind (rd (deI .i64) H (Addr.add q1 0)) fun x3 =>
  Option.bind (H.setCell m (Addr.add q1 0) (Value.int .i64 (IntKind.i64.wrap (x3+1)))) fun H4 =>
  Option.bind (rd (deI .i64) H4 (Addr.add q1 0)) fun x5 =>
  some (x5,H4)
theorem zfn {L:LC} {m:Nat} {H:AH} {a0:Option Addr} {r:(Int×AH)} (h:z4d L m H a0=some r) :
  CallS Tryz.prog (NE.plain 258) m 32 #[(Value.pointer a0)] H (zf7 r) (zfv H r):=by
 refine CallS.mk (args:=[(Value.pointer a0)]) Tryz.func32 (B:=B32) (by kernel_rfl) (fun E _=>?_)
 unfold z4d at h
 refine WS.sq (WS.rg (RS.mS 1 [kI 2 0] (RS.dn (WS.nxt (WS.sq (WS.sq (WS.rg (RS.mS 1 [(3,.val (Value.pointer a0))] ?_))))))))
 obtain ⟨q1,hx,hq1⟩:=bind_some h
 subst hx
 have h:=hq1
 refine RS.mS 2 [(5,.val (Value.pointer (some (Addr.add q1 0)))),kP 4 q1] ?_
 obtain ⟨x2,hx,h⟩:=bind_some h
 refine RS.ld 6 3 (.tmp 5) (z1 hx z4) (RS.mS 1 [kB 7 (decide (x2≥1048576))] (RS.dn (WS.nxt ?_)))
 rcases z0 h with ⟨hp,h⟩ | ⟨hp,h⟩
 ·refine WS.fx 7 true (decide_eq_true hp) (WS.cT ?_)
  cases h
 ·refine WS.fx 7 false (decide_eq_false hp) (WS.cF (WS.sk (WS.nxt (WS.sq (WS.rg (RS.mS 3 [(13,.val (Value.pointer (some (Addr.add q1 0)))),kP 12 q1,kP 11 q1] ?_))))))
  obtain ⟨x3,hx,h⟩:=bind_some h
  refine RS.ld 14 3 (.tmp 13) (z1 hx z4) (RS.mS 3 [(17,.val (Value.pointer (some (Addr.add q1 0)))),kP 16 q1,kI 15 (IntKind.i64.wrap (x3+1))] ?_)
  obtain ⟨H4,hx,h⟩:=bind_some h
  refine RS.o (H':=H4) none undef (Abs.run_store1 (t:=3) (x:=.tmp 17) (y:=.tmp 15) (a:=(Addr.add q1 0)) (v:=(Value.int .i64 (IntKind.i64.wrap (x3+1)))) (by kernel_rfl) (by kernel_rfl) (by kernel_rfl) (by kernel_rfl) (by kernel_rfl) hx) (RS.dn (WS.nxt (WS.sq (WS.rg (RS.mS 3 [(20,.val (Value.pointer (some (Addr.add q1 0)))),kP 19 q1,kP 18 q1] ?_)))))
  obtain ⟨x5,hx,h⟩:=bind_some h
  refine RS.ld 21 3 (.tmp 20) (z1 hx z4) (RS.mS 1 [kI 2 x5] (RS.dn (WS.nxt (WS.rt ?_))))
  cases h
  exact fun a w hs=>rtR (rS hs)
noncomputable def B94:Code:=(Tryz.f94.body).getD .skip
def zi0:(Int×Int×AH)→Value
 | (r0,r1,_)=>(Value.tuple #[(Value.int .i64 r0),(Value.int .i64 r1)])
def zj2 (_:AH):(Int×Int×AH)→AH:=fun r=>r.2.2
noncomputable def z70 (L:LC) (m:Nat) (H:AH) (a0:Option Addr):Option (Int×Int×AH) :=
 Option.bind (z18 L H a0) fun x1 =>
 if x1=true then
  Option.bind a0 fun q2 =>
  Option.bind (rd (deI .i64) H (Addr.add (Addr.add q2 0) 0)) fun x3 =>
  if x3≥1048576 then
   none
  else
   Option.bind (z4d L m H (some (Addr.add q2 0))) fun (x4,H5) =>
   some (x4,0,H5)
 else
  none
theorem zjm {L:LC} {m:Nat} {H:AH} {a0:Option Addr} {r:(Int×Int×AH)} (h:z70 L m H a0=some r) :
  CallS Tryz.prog (NE.plain 258) m 94 #[(Value.pointer a0)] H (zi0 r) (zj2 H r):=by
 refine CallS.mk (args:=[(Value.pointer a0)]) Tryz.func94 (B:=B94) (by kernel_rfl) (fun E _=>?_)
 unfold z70 at h
 refine WS.sq (WS.rg (RS.mS 2 [kI 3 0,kI 2 0] (RS.dn (WS.nxt (WS.sq (WS.sq (WS.rg (RS.mS 1 [(4,.val (Value.pointer a0))] ?_))))))))
 obtain ⟨x1,hx,h⟩:=bind_some h
 refine RS.cl (some 5) (v:=(Value.bool x1)) 27 #[(Value.pointer a0)] (z1p hx) (RS.mS 1 [kB 6 (!x1)] (RS.dn (WS.nxt ?_)))
 rcases z0 h with ⟨hp,h⟩ | ⟨hp,h⟩
 ·refine WS.fx 6 false (nb_not hp) (WS.cF (WS.sk (WS.nxt (WS.sq (WS.sq (WS.rg (RS.mS 1 [(7,.val (Value.pointer a0))] ?_)))))))
  obtain ⟨q2,hx,hq2⟩:=bind_some h
  subst hx
  have h:=hq2
  refine RS.mS 3 [(10,.val (Value.pointer (some (Addr.add (Addr.add q2 0) 0)))),(9,.val (Value.pointer (some (Addr.add q2 0)))),kP 8 q2] ?_
  obtain ⟨x3,hx,h⟩:=bind_some h
  refine RS.ld 11 3 (.tmp 10) (z1 hx z4) (RS.mS 1 [kB 12 (decide (x3≥1048576))] (RS.dn (WS.nxt ?_)))
  rcases z0 h with ⟨hp,h⟩ | ⟨hp,h⟩
  ·refine WS.fx 12 true (decide_eq_true hp) (WS.cT ?_)
   cases h
  ·refine WS.fx 12 false (decide_eq_false hp) (WS.cF (WS.sk (WS.nxt (WS.sq (WS.rg (RS.mS 3 [(15,.val (Value.pointer (some (Addr.add q2 0)))),kP 14 q2,kP 13 q2] ?_))))))
   obtain ⟨⟨x4,H5⟩,hx,h⟩:=bind_some h
   try dsimp only at h
   refine RS.cl (some 16) (v:=(Value.int .i64 x4)) 32 #[(Value.pointer (some (Addr.add q2 0)))] (zfn hx) (RS.mS 2 [kI 3 0,kI 2 x4] (RS.dn (WS.nxt (WS.rt ?_))))
   cases h
   exact fun a w hs=>rtR (rS hs)
 ·refine WS.fx 6 true (zb hp) (WS.cT ?_)
  cases h
noncomputable def B57:Code:=(Tryz.f57.body).getD .skip
def z32:(Int×AH)→Value
 | (r0,_)=>(Value.int .i64 r0)
def z3h (_:AH):(Int×AH)→AH:=fun r=>r.2
noncomputable def z1q (L:LC) (m:Nat) (H:AH) (a0:Option Addr):Option (Int×AH) :=
 Option.bind a0 fun q1 =>
 Option.bind (rd deP H (Addr.add q1 0)) fun x2 =>
 Option.bind (z70 L m H x2) fun (x3,x4,H5) =>
 if x4=0 then
  some (x3,H5)
 else
  none
theorem z3k {L:LC} {m:Nat} {H:AH} {a0:Option Addr} {r:(Int×AH)} (h:z1q L m H a0=some r) :
  CallS Tryz.prog (NE.plain 258) m 57 #[(Value.pointer a0)] H (z32 r) (z3h H r):=by
 refine CallS.mk (args:=[(Value.pointer a0)]) Tryz.func57 (B:=B57) (by kernel_rfl) (fun E _=>?_)
 unfold z1q at h
 refine WS.sq (WS.rg (RS.mS 1 [kI 2 0] (RS.dn (WS.nxt (WS.sq (WS.rg (RS.mS 1 [(6,.val (Value.pointer a0))] ?_)))))))
 obtain ⟨q1,hx,hq1⟩:=bind_some h
 subst hx
 have h:=hq1
 refine RS.mS 2 [(8,.val (Value.pointer (some (Addr.add q1 0)))),kP 7 q1] ?_
 obtain ⟨x2,hx,h⟩:=bind_some h
 refine RS.ld 9 24 (.tmp 8) (z1 hx zu) ?_
 obtain ⟨⟨x3,x4,H5⟩,hx,h⟩:=bind_some h
 try dsimp only at h
 refine RS.cl (some 10) (v:=(Value.tuple #[(Value.int .i64 x3),(Value.int .i64 x4)])) 94 #[(Value.pointer x2)] (zjm hx) (RS.mS 5 [kI 4 x4,kI 3 x3,kI 12 x4,kI 11 x3,(5,.val (Value.tuple #[(Value.int .i64 x3),(Value.int .i64 x4)]))] (RS.dn (WS.nxt (WS.sq (WS.sq (WS.rg (RS.mS 2 [kB 14 (!decide (x4=0)),kI 13 x4] (RS.dn (WS.nxt ?_)))))))))
 rcases z0 h with ⟨hp,h⟩ | ⟨hp,h⟩
 ·refine WS.fx 14 false (zd hp) (WS.cF (WS.sk (WS.nxt (WS.sq (WS.rg (RS.mS 2 [kI 2 x3,kI 19 x3] (RS.dn (WS.nxt (WS.rt ?_)))))))))
  cases h
  exact fun a w hs=>rtR (rS hs)
 ·refine WS.fx 14 true (z9 hp) (WS.cT ?_)
  cases h
end Go.Proofs.YtkecibinbgaedaaGreatDoor
namespace Go.Proofs.YtkecibinbgaedaaGreatDoor
open Go Go.Abs
set_option maxRecDepth 100000
noncomputable def B83:Code:=(Tryz.f83.body).getD .skip
def zpk:Bool→Value
 | r0=>(Value.bool r0)
def zr3 (H:AH):Bool→AH:=fun _=>H
noncomputable def zhj (_L:LC) (a0 a1:Int):Option Bool :=
 if a0=0 then
  none
 else
  if a0≤a1 then
   some (decide (a0≥(IntKind.i64.wrap (0 - a1))))
  else
   none
theorem zqr {L:LC} {m:Nat} {H:AH} {a0 a1:Int} {r:Bool} (h:zhj L a0 a1=some r) :
  CallS Tryz.prog (NE.plain 258) m 83 #[(Value.int .i64 a0),(Value.int .i64 a1)] H (zpk r) (zr3 H r):=by
 refine CallS.mk (args:=[(Value.int .i64 a0),(Value.int .i64 a1)]) Tryz.func83 (B:=B83) (by kernel_rfl) (fun E _=>?_)
 unfold zhj at h
 refine WS.sq (WS.rg (RS.mS 1 [kB 4 false] (RS.dn (WS.nxt (WS.sq (WS.rg (RS.mS 3 [kB 7 (!decide (a0=0)),kB 6 (!decide (a0=0)),kI 5 a0] ?_)))))))
 rcases z0 h with ⟨hp,h⟩ | ⟨hp,h⟩
 ·refine RS.fx 7 false (zd hp) ?_
  cases h
 ·refine RS.fx 7 true (z9 hp) (RS.mS 5 [kB 12 (decide (a0≤a1)),kB 11 (decide (a0≤a1)),kB 10 (decide (a0≤a1)),kI 9 a1,kI 8 a0] ?_)
  rcases z0 h with ⟨hp,h⟩ | ⟨hp,h⟩
  ·refine RS.fx 12 true (decide_eq_true hp) (RS.mS 6 [kB 4 (decide (a0≥(IntKind.i64.wrap (0 - a1)))),kB 17 (decide (a0≥(IntKind.i64.wrap (0 - a1)))),kB 16 (decide (a0≥(IntKind.i64.wrap (0 - a1)))),kI 15 (IntKind.i64.wrap (0 - a1)),kI 14 a1,kI 13 a0] (RS.dn (WS.nxt (WS.rt ?_))))
   cases h
   exact fun a w hs=>rtR (rS hs)
  ·refine RS.fx 12 false (decide_eq_false hp) ?_
   cases h
noncomputable def B82:Code:=(Tryz.f82.body).getD .skip
def zsd:Bool→Value
 | r0=>(Value.bool r0)
def zu0 (H:AH):Bool→AH:=fun _=>H
noncomputable def zme (L:LC) (H:AH) (a0:Int) (a1:Option Addr):Option Bool :=
 Option.bind a1 fun q1 =>
 Option.bind (rd (deI .i64) H q1) fun x2 =>
 Option.bind (zhj L a0 x2) fun x3 =>
 some (!x3)
theorem zt1 {L:LC} {m:Nat} {H:AH} {a0:Int} {a1:Option Addr} {r:Bool} (h:zme L H a0 a1=some r) :
  CallS Tryz.prog (NE.plain 258) m 82 #[(Value.int .i64 a0),(Value.pointer a1)] H (zsd r) (zu0 H r):=by
 refine CallS.mk (args:=[(Value.int .i64 a0),(Value.pointer a1)]) Tryz.func82 (B:=B82) (by kernel_rfl) (fun E _=>?_)
 unfold zme at h
 refine WS.sq (WS.rg (RS.mS 1 [kB 3 false] (RS.dn (WS.nxt (WS.sq (WS.rg (RS.mS 1 [kI 4 a0] ?_)))))))
 obtain ⟨q1,hx,hq1⟩:=bind_some h
 subst hx
 have h:=hq1
 obtain ⟨x2,hx,h⟩:=bind_some h
 refine RS.ld 5 3 (.tmp 1) (z1 hx z4) ?_
 obtain ⟨x3,hx,h⟩:=bind_some h
 refine RS.cl (some 6) (v:=(Value.bool x3)) 83 #[(Value.int .i64 a0),(Value.int .i64 x2)] (zqr hx) (RS.mS 2 [kB 3 (!x3),kB 7 (!x3)] (RS.dn (WS.nxt (WS.rt ?_))))
 cases h
 exact fun a w hs=>rtR (rS hs)
noncomputable def B153:Code:=(Tryz.f153.body).getD .skip
noncomputable def B37:Code:=(Tryz.f37.body).getD .skip
noncomputable def B54:Code:=(Tryz.f54.body).getD .skip
noncomputable def B71:Code:=(Tryz.f71.body).getD .skip
noncomputable def B81:Code:=(Tryz.f81.body).getD .skip
def z1d:Int→Value
 | r0=>(Value.int .i64 r0)
def z1j (H:AH):Int→AH:=fun _=>H
def z1h:Int→Value
 | r0=>(Value.int .i64 r0)
def z1o (H:AH):Int→AH:=fun _=>H
def z42:AH→Value
 | _=>(Value.tuple #[])
def z4k (_:AH):AH→AH:=fun r=>r
def z33:(Int×AH)→Value
 | (r0,_)=>(Value.int .i64 r0)
def z3n (_:AH):(Int×AH)→AH:=fun r=>r.2
def z51:(Int×AH)→Value
 | (r0,_)=>(Value.int .i64 r0)
def z5i (_:AH):(Int×AH)→AH:=fun r=>r.2
def z1v:Bool→Value
 | r0=>(Value.bool r0)
def z27 (H:AH):Bool→AH:=fun _=>H
def z26:Bool→Value
 | r0=>(Value.bool r0)
def z2d (H:AH):Bool→AH:=fun _=>H
noncomputable def z2u (L:LC) (H:AH) (a0:Sl3) (a1_0:Option Addr):Int→Option (Lp Int Int):=fun v8_1 =>
 if v8_1<(a0.n:Int) then
  Option.bind (idxA 1 a0 v8_1) fun p2 =>
  Option.bind (rd (deI .i64) H p2) fun x3 =>
  Option.bind (z6y L H x3 a1_0) fun x4 =>
  if x4=true then
   none
  else
   some (.next (IntKind.i64.wrap (v8_1+1)))
 else
  some (.brk v8_1)
def zc3 (_L:LC) (_H:AH) (a0:Sl3) (a1_0:Option Addr):Int→KN×Lcs:=fun v8_1=>([kI 8 v8_1,kS 0 a0,(1,.val (Value.func (.func 112) #[] #[(Value.pointer a1_0)])),kI 7 (a0.n:Int)],[])
noncomputable def z2b (L:LC) (H:AH) (a0:Sl3) (a1_0:Option Addr):Option Int :=
 Option.bind (L.run (z2u L H a0 a1_0) 0) fun o=>match o with
 | .inl _ =>
  some (-1)
 | .inr r=>some r
noncomputable def z34 (L:LC) (H:AH) (a0:Sl3) (a1_0:Option Addr):Int→Option (Lp Int Int):=fun v8_1 =>
 if v8_1<(a0.n:Int) then
  Option.bind (idxA 1 a0 v8_1) fun p2 =>
  Option.bind (rd (deI .i64) H p2) fun x3 =>
  Option.bind (zme L H x3 a1_0) fun x4 =>
  if x4=true then
   none
  else
   some (.next (IntKind.i64.wrap (v8_1+1)))
 else
  some (.brk v8_1)
def zck (_L:LC) (_H:AH) (a0:Sl3) (a1_0:Option Addr):Int→KN×Lcs:=fun v8_1=>([kI 8 v8_1,kS 0 a0,(1,.val (Value.func (.func 82) #[] #[(Value.pointer a1_0)])),kI 7 (a0.n:Int)],[])
noncomputable def z2i (L:LC) (H:AH) (a0:Sl3) (a1_0:Option Addr):Option Int :=
 Option.bind (L.run (z34 L H a0 a1_0) 0) fun o=>match o with
 | .inl _ =>
  some (-1)
 | .inr r=>some r
noncomputable def z3g (_L:LC) (rec_clause_Book_Put:Nat→AH→(Option Addr)→Sl3→Option (Int×AH)) (m:Nat) (H:AH) (a0:Option Addr) (a1:Sl3):Option AH :=
 Option.bind a0 fun q1 =>
 Option.bind (rd (deI .i64) H (Addr.add q1 6)) fun x2 =>
 if x2=0 then
  Option.bind (rd deP H (Addr.add q1 0)) fun x3 =>
  Option.bind (rec_clause_Book_Put m H x3 a1) fun (x4,H5) =>
  Option.bind (H5.setCell m (Addr.add q1 6) (Value.int .i64 x4)) fun H6 =>
  some H6
 else
  none
noncomputable def z2t (L:LC) (rec_blast_Blaster_put:Nat→AH→(Option Addr)→Sl3→Option AH) (m:Nat) (H:AH) (a0:Option Addr):Option (Int×AH) :=
 Option.bind a0 fun q1 =>
 Option.bind (rd (deI .i64) H (Addr.add q1 5)) fun x2 =>
 if x2=0 then
  Option.bind (z1q L m H (some q1)) fun (x3,H4) =>
  Option.bind (H4.setCell m (Addr.add q1 5) (Value.int .i64 x3)) fun H5 =>
  Option.bind (rd (deI .i64) H5 (Addr.add q1 5)) fun x6 =>
  Option.bind (newR 3 1 #[(Value.int .i64 x6)] H5) fun (s7,H8) =>
  Option.bind (rec_blast_Blaster_put m H8 (some q1) s7) fun H9 =>
  Option.bind (rd (deI .i64) H9 (Addr.add q1 5)) fun x10 =>
  some (x10,H9)
 else
  none
noncomputable def z4m (L:LC) (rec_slices_ContainsFunc__112:AH→Sl3→(Option Addr)→Option Bool) (m:Nat) (H:AH) (a0:Option Addr) (a1:Sl3):Option (Int×AH) :=
 Option.bind (newB 24 [(Value.pointer a0)] H) fun (p1,H2) =>
 Option.bind (rd deP H2 p1) fun x3 =>
 Option.bind (z18 L H2 x3) fun x4 =>
 if x4=true then
  Option.bind (rec_slices_ContainsFunc__112 H2 a1 (some p1)) fun x5 =>
  if x5=true then
   none
  else
   Option.bind (rd deP H2 p1) fun x6 =>
   Option.bind x6 fun q7 =>
   Option.bind (rd deSl H2 (Addr.add (Addr.add q7 0) 1)) fun x8 =>
   if (x8.n:Int)≥4194304 then
    none
   else
    Option.bind (rd deP H2 p1) fun x9 =>
    Option.bind x9 fun q10 =>
    Option.bind (z1k L (Nat.max m H2.next) H2 a1) fun (x11,H12) =>
    Option.bind (z3f L m H12 (some (Addr.add q10 0)) x11) fun H13 =>
    some (0,H13)
 else
  none
noncomputable def z1m (_L:LC) (rec_slices_IndexFunc__112:AH→Sl3→(Option Addr)→Option Int) (H:AH) (a0:Sl3) (a1_0:Option Addr):Option Bool :=
 Option.bind (rec_slices_IndexFunc__112 H a0 a1_0) fun x1 =>
 some (decide (x1≥0))
noncomputable def z1s (_L:LC) (rec_slices_IndexFunc__82:AH→Sl3→(Option Addr)→Option Int) (H:AH) (a0:Sl3) (a1_0:Option Addr):Option Bool :=
 Option.bind (rec_slices_IndexFunc__82 H a0 a1_0) fun x1 =>
 some (decide (x1≥0))
noncomputable def zg (L:LC) (n:Nat):(AH→Sl3→(Option Addr)→Option Int)×(AH→Sl3→(Option Addr)→Option Int)×(Nat→AH→(Option Addr)→Sl3→Option AH)×(Nat→AH→(Option Addr)→Option (Int×AH))×(Nat→AH→(Option Addr)→Sl3→Option (Int×AH))×(AH→Sl3→(Option Addr)→Option Bool)×(AH→Sl3→(Option Addr)→Option Bool):=Nat.rec (motive:=fun _=>(AH→Sl3→(Option Addr)→Option Int)×(AH→Sl3→(Option Addr)→Option Int)×(Nat→AH→(Option Addr)→Sl3→Option AH)×(Nat→AH→(Option Addr)→Option (Int×AH))×(Nat→AH→(Option Addr)→Sl3→Option (Int×AH))×(AH→Sl3→(Option Addr)→Option Bool)×(AH→Sl3→(Option Addr)→Option Bool)) ((fun _ _ _=>none),(fun _ _ _=>none),(fun _ _ _ _=>none),(fun _ _ _=>none),(fun _ _ _ _=>none),(fun _ _ _=>none),(fun _ _ _=>none)) (fun _ p=>(z2b L,z2i L,z3g L p.2.2.2.2.1,z2t L p.2.2.1,z4m L p.2.2.2.2.2.1,z1m L p.1,z1s L p.2.1)) n
noncomputable def zan (L:LC) (m:Nat) (H:AH) (a0:Option Addr):Option (Int×AH):=((zg L L.fuel).2.2.2.1) m H a0
noncomputable def z6m (L:LC) (H:AH) (a0:Sl3) (a1_0:Option Addr):Option Bool:=((zg L L.fuel).2.2.2.2.2.2) H a0 a1_0
theorem z48 {E m L H a0 a1_0} :LoopF Tryz.prog (NE.plain 258) m E Tryz.f153 ((cfst (csnd (cfst (csnd B153))))) (zc3 L H a0 a1_0) (fun _=>H) 0 z1d (z1j H) (z2u L H a0 a1_0):=by
 rintro v8_1 o h
 unfold z2u at h
 try dsimp only at h
 refine WS.sq (WS.rg (RS.mS 1 [kB 9 (decide (v8_1<(a0.n:Int)))] (RS.dn (WS.nxt (WS.sq ?_)))))
 rcases z0 h with ⟨hp,h⟩ | ⟨hp,h⟩
 ·refine WS.fx 9 true (decide_eq_true hp) (WS.cT (WS.sk (WS.nxt (WS.sq (WS.bk 1 (WS.sq (WS.rg (RS.mS 2 [kI 5 v8_1,kI 10 v8_1] (RS.dn ?_)))))))))
  refine WS.nxt (WS.sq (WS.rg (RS.mS 3 [kI 13 v8_1,kS 12 a0,(11,.val (Value.func (.func 112) #[] #[(Value.pointer a1_0)]))] ?_)))
  obtain ⟨p2,hx,h⟩:=bind_some h
  refine RS.ix 14 28 3 (.tmp 12) (.tmp 13) hx ?_
  obtain ⟨x3,hx,h⟩:=bind_some h
  refine RS.ld 15 3 (.tmp 14) (z1 hx z4) ?_
  obtain ⟨x4,hx,h⟩:=bind_some h
  refine RS.cl (some 16) (v:=(Value.bool x4)) 112 #[(Value.int .i64 x3),(Value.pointer a1_0)] (zk4 hx) (RS.dn (WS.nxt ?_))
  rcases z0 h with ⟨hp,h⟩ | ⟨hp,h⟩
  ·refine WS.fx 16 true hp (WS.cT ?_)
   cases h
  ·refine WS.fx 16 false (b_not hp) (WS.cF (WS.sk ?_))
   refine fun a w hs=>bkN ((WS.nxt ?_ a w hs))
   refine WS.rg (RS.mS 2 [kI 8 (IntKind.i64.wrap (v8_1+1)),kI 18 (IntKind.i64.wrap (v8_1+1))] (RS.dn ?_))
   cases h
   exact fun a w hs=>lsN rfl (hs.sb 0)
 ·refine WS.fx 9 false (decide_eq_false hp) (WS.cF (WS.ex 0 ?_))
  cases h
  exact fun a w hs=>sqE (lsB rfl (hs.sb 0))
theorem zac {L:LC} {m:Nat} {H:AH} {a0:Sl3} {a1_0:Option Addr} {r:Int} (h:z2b L H a0 a1_0=some r) :
  CallS Tryz.prog (NE.plain 258) m 153 #[(Sl3.v a0),(Value.func (.func 112) #[] #[(Value.pointer a1_0)])] H (z1d r) (z1j H r):=by
 refine CallS.mk (args:=[(Sl3.v a0),(Value.func (.func 112) #[] #[(Value.pointer a1_0)])]) Tryz.func153 (B:=B153) (by kernel_rfl) (fun E _=>?_)
 unfold z2b at h
 refine WS.sq (WS.rg (RS.mS 1 [kI 4 0] (RS.dn (WS.nxt (WS.sq (WS.sq (WS.rg (RS.mS 3 [kI 8 0,kI 7 (a0.n:Int),kS 6 a0] (RS.dn ?_)))))))))
 refine WS.nxt (WS.bk 0 ?_)
 obtain ⟨o,hl,h⟩:=bind_some h
 rcases o with v8_5 | r
 ·try dsimp only at h
  refine WS.lI (z48 (L:=L) (E:=E) (m:=m) (H:=H)) (L.ok hl) 0 ?_
  clear hl
  refine fun a w hs=>bkE ((WS.nxt ?_ a w hs))
  refine WS.sq (WS.rg (RS.mS 1 [kI 4 (-1)] (RS.dn (WS.nxt (WS.rt ?_)))))
  cases h
  exact fun a w hs=>rtR (rS hs)
 ·try dsimp only at h
  refine WS.lR (z48 (L:=L) (E:=E) (m:=m) (H:=H)) (L.ok hl) 0 ?_
  cases h
  exact fun a w hq=>bkR (sqR (rtR hq))
theorem z4p {E m L H a0 a1_0} :LoopF Tryz.prog (NE.plain 258) m E Tryz.f153 ((cfst (csnd (cfst (csnd B153))))) (zck L H a0 a1_0) (fun _=>H) 0 z1h (z1o H) (z34 L H a0 a1_0):=by
 rintro v8_1 o h
 unfold z34 at h
 try dsimp only at h
 refine WS.sq (WS.rg (RS.mS 1 [kB 9 (decide (v8_1<(a0.n:Int)))] (RS.dn (WS.nxt (WS.sq ?_)))))
 rcases z0 h with ⟨hp,h⟩ | ⟨hp,h⟩
 ·refine WS.fx 9 true (decide_eq_true hp) (WS.cT (WS.sk (WS.nxt (WS.sq (WS.bk 1 (WS.sq (WS.rg (RS.mS 2 [kI 5 v8_1,kI 10 v8_1] (RS.dn ?_)))))))))
  refine WS.nxt (WS.sq (WS.rg (RS.mS 3 [kI 13 v8_1,kS 12 a0,(11,.val (Value.func (.func 82) #[] #[(Value.pointer a1_0)]))] ?_)))
  obtain ⟨p2,hx,h⟩:=bind_some h
  refine RS.ix 14 28 3 (.tmp 12) (.tmp 13) hx ?_
  obtain ⟨x3,hx,h⟩:=bind_some h
  refine RS.ld 15 3 (.tmp 14) (z1 hx z4) ?_
  obtain ⟨x4,hx,h⟩:=bind_some h
  refine RS.cl (some 16) (v:=(Value.bool x4)) 82 #[(Value.int .i64 x3),(Value.pointer a1_0)] (zt1 hx) (RS.dn (WS.nxt ?_))
  rcases z0 h with ⟨hp,h⟩ | ⟨hp,h⟩
  ·refine WS.fx 16 true hp (WS.cT ?_)
   cases h
  ·refine WS.fx 16 false (b_not hp) (WS.cF (WS.sk ?_))
   refine fun a w hs=>bkN ((WS.nxt ?_ a w hs))
   refine WS.rg (RS.mS 2 [kI 8 (IntKind.i64.wrap (v8_1+1)),kI 18 (IntKind.i64.wrap (v8_1+1))] (RS.dn ?_))
   cases h
   exact fun a w hs=>lsN rfl (hs.sb 0)
 ·refine WS.fx 9 false (decide_eq_false hp) (WS.cF (WS.ex 0 ?_))
  cases h
  exact fun a w hs=>sqE (lsB rfl (hs.sb 0))
theorem zb7 {L:LC} {m:Nat} {H:AH} {a0:Sl3} {a1_0:Option Addr} {r:Int} (h:z2i L H a0 a1_0=some r) :
  CallS Tryz.prog (NE.plain 258) m 153 #[(Sl3.v a0),(Value.func (.func 82) #[] #[(Value.pointer a1_0)])] H (z1h r) (z1o H r):=by
 refine CallS.mk (args:=[(Sl3.v a0),(Value.func (.func 82) #[] #[(Value.pointer a1_0)])]) Tryz.func153 (B:=B153) (by kernel_rfl) (fun E _=>?_)
 unfold z2i at h
 refine WS.sq (WS.rg (RS.mS 1 [kI 4 0] (RS.dn (WS.nxt (WS.sq (WS.sq (WS.rg (RS.mS 3 [kI 8 0,kI 7 (a0.n:Int),kS 6 a0] (RS.dn ?_)))))))))
 refine WS.nxt (WS.bk 0 ?_)
 obtain ⟨o,hl,h⟩:=bind_some h
 rcases o with v8_5 | r
 ·try dsimp only at h
  refine WS.lI (z4p (L:=L) (E:=E) (m:=m) (H:=H)) (L.ok hl) 0 ?_
  clear hl
  refine fun a w hs=>bkE ((WS.nxt ?_ a w hs))
  refine WS.sq (WS.rg (RS.mS 1 [kI 4 (-1)] (RS.dn (WS.nxt (WS.rt ?_)))))
  cases h
  exact fun a w hs=>rtR (rS hs)
 ·try dsimp only at h
  refine WS.lR (z4p (L:=L) (E:=E) (m:=m) (H:=H)) (L.ok hl) 0 ?_
  cases h
  exact fun a w hq=>bkR (sqR (rtR hq))
theorem ze1 {L:LC} {rec_clause_Book_Put:Nat→AH→(Option Addr)→Sl3→Option (Int×AH)} (hrec_clause_Book_Put:∀(m:Nat) (H:AH) (a0:Option Addr) (a1:Sl3) (r:(Int×AH)),rec_clause_Book_Put m H a0 a1=some r→CallS Tryz.prog (NE.plain 258) m 71 #[(Value.pointer a0),(Sl3.v a1)] H (z51 r) (z5i H r)) {m:Nat} {H:AH} {a0:Option Addr} {a1:Sl3} {r:AH} (h:z3g L rec_clause_Book_Put m H a0 a1=some r) :
  CallS Tryz.prog (NE.plain 258) m 37 #[(Value.pointer a0),(Sl3.v a1)] H (z42 r) (z4k H r):=by
 refine CallS.mk (args:=[(Value.pointer a0),(Sl3.v a1)]) Tryz.func37 (B:=B37) (by kernel_rfl) (fun E _=>?_)
 unfold z3g at h
 refine WS.sq (WS.sq (WS.rg (RS.mS 1 [(4,.val (Value.pointer a0))] ?_)))
 obtain ⟨q1,hx,hq1⟩:=bind_some h
 subst hx
 have h:=hq1
 refine RS.mS 2 [(6,.val (Value.pointer (some (Addr.add q1 6)))),kP 5 q1] ?_
 obtain ⟨x2,hx,h⟩:=bind_some h
 refine RS.ld 7 29 (.tmp 6) (z1 hx z4) (RS.mS 1 [kB 8 (!decide (x2=0))] (RS.dn (WS.nxt ?_)))
 rcases z0 h with ⟨hp,h⟩ | ⟨hp,h⟩
 ·refine WS.fx 8 false (zd hp) (WS.cF (WS.sk (WS.nxt (WS.rg (RS.mS 4 [(12,.val (Value.pointer (some (Addr.add q1 0)))),kP 11 q1,kP 10 q1,kP 9 q1] ?_)))))
  obtain ⟨x3,hx,h⟩:=bind_some h
  refine RS.ld 13 24 (.tmp 12) (z1 hx zu) (RS.mS 1 [kS 14 a1] ?_)
  obtain ⟨⟨x4,H5⟩,hx,h⟩:=bind_some h
  try dsimp only at h
  refine RS.cl (some 15) (v:=(Value.int .i64 x4)) 71 #[(Value.pointer x3),(Sl3.v a1)] (hrec_clause_Book_Put _ _ _ _ _ hx) (RS.mS 2 [(17,.val (Value.pointer (some (Addr.add q1 6)))),kP 16 q1] ?_)
  obtain ⟨H6,hx,h⟩:=bind_some h
  refine RS.o (H':=H6) none undef (Abs.run_store1 (t:=29) (x:=.tmp 17) (y:=.tmp 15) (a:=(Addr.add q1 6)) (v:=(Value.int .i64 x4)) (by kernel_rfl) (by kernel_rfl) (by kernel_rfl) (by kernel_rfl) (by kernel_rfl) hx) (RS.dn ?_)
  cases h
  exact fun a w hs=>rtN (rS hs)
 ·refine WS.fx 8 true (z9 hp) (WS.cT ?_)
  cases h
theorem zce {L:LC} {rec_blast_Blaster_put:Nat→AH→(Option Addr)→Sl3→Option AH} (hrec_blast_Blaster_put:∀(m:Nat) (H:AH) (a0:Option Addr) (a1:Sl3) (r:AH),rec_blast_Blaster_put m H a0 a1=some r→CallS Tryz.prog (NE.plain 258) m 37 #[(Value.pointer a0),(Sl3.v a1)] H (z42 r) (z4k H r)) {m:Nat} {H:AH} {a0:Option Addr} {r:(Int×AH)} (h:z2t L rec_blast_Blaster_put m H a0=some r) :
  CallS Tryz.prog (NE.plain 258) m 54 #[(Value.pointer a0)] H (z33 r) (z3n H r):=by
 refine CallS.mk (args:=[(Value.pointer a0)]) Tryz.func54 (B:=B54) (by kernel_rfl) (fun E _=>?_)
 unfold z2t at h
 refine WS.sq (WS.rg (RS.mS 1 [kI 2 0] (RS.dn (WS.nxt (WS.sq (WS.sq (WS.rg (RS.mS 1 [(3,.val (Value.pointer a0))] ?_))))))))
 obtain ⟨q1,hx,hq1⟩:=bind_some h
 subst hx
 have h:=hq1
 refine RS.mS 2 [(5,.val (Value.pointer (some (Addr.add q1 5)))),kP 4 q1] ?_
 obtain ⟨x2,hx,h⟩:=bind_some h
 refine RS.ld 6 3 (.tmp 5) (z1 hx z4) (RS.mS 1 [kB 7 (decide (x2=0))] (RS.dn (WS.nxt ?_)))
 rcases z0 h with ⟨hp,h⟩ | ⟨hp,h⟩
 ·refine WS.fx 7 true (decide_eq_true hp) (WS.cT (WS.sq (WS.rg (RS.mS 2 [kP 9 q1,kP 8 q1] ?_))))
  obtain ⟨⟨x3,H4⟩,hx,h⟩:=bind_some h
  try dsimp only at h
  refine RS.cl (some 10) (v:=(Value.int .i64 x3)) 57 #[(Value.pointer (some q1))] (z3k hx) (RS.mS 2 [(12,.val (Value.pointer (some (Addr.add q1 5)))),kP 11 q1] ?_)
  obtain ⟨H5,hx,h⟩:=bind_some h
  refine RS.o (H':=H5) none undef (Abs.run_store1 (t:=3) (x:=.tmp 12) (y:=.tmp 10) (a:=(Addr.add q1 5)) (v:=(Value.int .i64 x3)) (by kernel_rfl) (by kernel_rfl) (by kernel_rfl) (by kernel_rfl) (by kernel_rfl) hx) (RS.dn (WS.nxt (WS.rg (RS.mS 4 [(16,.val (Value.pointer (some (Addr.add q1 5)))),kP 15 q1,kP 14 q1,kP 13 q1] ?_))))
  obtain ⟨x6,hx,h⟩:=bind_some h
  refine RS.ld 17 3 (.tmp 16) (z1 hx z4) ?_
  obtain ⟨⟨s7,H8⟩,hx,h⟩:=bind_some h
  try dsimp only at h
  refine RS.o (H':=H8) (some 18) (Sl3.v s7) (Abs.run_newR (by kernel_rfl) (by kernel_rfl) hx) ?_
  obtain ⟨H9,hx,h⟩:=bind_some h
  refine RS.cl (some 19) (v:=(Value.tuple #[])) 37 #[(Value.pointer (some q1)),(Sl3.v s7)] (hrec_blast_Blaster_put _ _ _ _ _ hx) (RS.dn (WS.nxt (WS.sq (WS.rg (RS.mS 3 [(22,.val (Value.pointer (some (Addr.add q1 5)))),kP 21 q1,kP 20 q1] ?_)))))
  obtain ⟨x10,hx,h⟩:=bind_some h
  refine RS.ld 23 3 (.tmp 22) (z1 hx z4) (RS.mS 1 [kI 2 x10] (RS.dn (WS.nxt (WS.rt ?_))))
  cases h
  exact fun a w hs=>rtR (rS hs)
 ·refine WS.fx 7 false (decide_eq_false hp) (WS.cF ?_)
  cases h
theorem zfx {L:LC} {rec_slices_ContainsFunc__112:AH→Sl3→(Option Addr)→Option Bool} (hrec_slices_ContainsFunc__112:∀(m:Nat) (H:AH) (a0:Sl3) (a1_0:Option Addr) (r:Bool),rec_slices_ContainsFunc__112 H a0 a1_0=some r→CallS Tryz.prog (NE.plain 258) m 81 #[(Sl3.v a0),(Value.func (.func 112) #[] #[(Value.pointer a1_0)])] H (z1v r) (z27 H r)) {m:Nat} {H:AH} {a0:Option Addr} {a1:Sl3} {r:(Int×AH)} (h:z4m L rec_slices_ContainsFunc__112 m H a0 a1=some r) :
  CallS Tryz.prog (NE.plain 258) m 71 #[(Value.pointer a0),(Sl3.v a1)] H (z51 r) (z5i H r):=by
 refine CallS.mk (args:=[(Value.pointer a0),(Sl3.v a1)]) Tryz.func71 (B:=B71) (by kernel_rfl) (fun E _=>?_)
 unfold z4m at h
 refine WS.sq (WS.rg ?_)
 obtain ⟨⟨p1,H2⟩,hx,h⟩:=bind_some h
 try dsimp only at h
 refine RS.o (H':=H2) (some 2) (Value.pointer (some p1)) (Abs.run_newB (by kernel_rfl) hx) (RS.mS 1 [kI 4 0] (RS.dn (WS.nxt (WS.sq (WS.sq (WS.rg ?_))))))
 obtain ⟨x3,hx,h⟩:=bind_some h
 refine RS.ld 5 24 (.tmp 2) (z1 hx zu) ?_
 obtain ⟨x4,hx,h⟩:=bind_some h
 refine RS.cl (some 6) (v:=(Value.bool x4)) 27 #[(Value.pointer x3)] (z1p hx) (RS.mS 1 [kB 7 (!x4)] (RS.dn (WS.nxt ?_)))
 rcases z0 h with ⟨hp,h⟩ | ⟨hp,h⟩
 ·refine WS.fx 7 false (nb_not hp) (WS.cF (WS.sk (WS.nxt (WS.sq (WS.sq (WS.rg (RS.mS 2 [(9,.val (Value.func (.func 112) #[] #[(Value.pointer (some p1))])),kS 8 a1] ?_)))))))
  obtain ⟨x5,hx,h⟩:=bind_some h
  refine RS.cl (some 10) (v:=(Value.bool x5)) 81 #[(Sl3.v a1),(Value.func (.func 112) #[] #[(Value.pointer (some p1))])] (hrec_slices_ContainsFunc__112 _ _ _ _ _ hx) (RS.dn (WS.nxt ?_))
  rcases z0 h with ⟨hp,h⟩ | ⟨hp,h⟩
  ·refine WS.fx 10 true hp (WS.cT ?_)
   cases h
  ·refine WS.fx 10 false (b_not hp) (WS.cF (WS.sk (WS.nxt (WS.sq (WS.sq (WS.rg ?_))))))
   obtain ⟨x6,hx,h⟩:=bind_some h
   refine RS.ld 11 24 (.tmp 2) (z1 hx zu) ?_
   obtain ⟨q7,hx,hq7⟩:=bind_some h
   subst hx
   have h:=hq7
   refine RS.mS 3 [(14,.val (Value.pointer (some (Addr.add (Addr.add q7 0) 1)))),(13,.val (Value.pointer (some (Addr.add q7 0)))),kP 12 q7] ?_
   obtain ⟨x8,hx,h⟩:=bind_some h
   refine RS.ld 15 44 (.tmp 14) (z1 hx z3) (RS.mS 2 [kB 17 (decide ((x8.n:Int)≥4194304)),kI 16 (x8.n:Int)] (RS.dn (WS.nxt ?_)))
   rcases z0 h with ⟨hp,h⟩ | ⟨hp,h⟩
   ·refine WS.fx 17 true (decide_eq_true hp) (WS.cT ?_)
    cases h
   ·refine WS.fx 17 false (decide_eq_false hp) (WS.cF (WS.sk (WS.nxt (WS.sq ?_))))
    refine WS.dr [0] [0,1,3,0,8,31] 6 (fun hcl=>?_)
    obtain ⟨x9,hx,h⟩:=bind_some h
    refine DA.tD 0 (some 18) (Value.pointer x9) (Abs.det_load (t:=24) (x:=.tmp 2) (a:=p1) (by kernel_rfl) (by kernel_rfl) (by kernel_rfl) (by kernel_rfl) (z1 hx zu)) ?_
    obtain ⟨q10,hx,hq10⟩:=bind_some h
    subst hx
    have h:=hq10
    refine DA.tP 1 (some 19) (Value.pointer (some q10)) (DA.tP 2 (some 20) (Value.pointer (some (Addr.add q10 0))) (DA.tP 3 (some 21) (Sl3.v a1) ?_))
    obtain ⟨⟨x11,H12⟩,hx,h⟩:=bind_some h
    try dsimp only at h
    refine DA.on 4 (DA.aCj 4 (some 22) false (v:=(Sl3.v x11)) 14 #[(Sl3.v a1)] (zm hx) ?_)
    obtain ⟨H13,hx,h⟩:=bind_some h
    refine DA.on 5 (DA.aC 5 (some 23) (v:=(Value.tuple #[])) 109 #[(Value.pointer (some (Addr.add q10 0))),(Sl3.v x11)] (z8h hx) (DA.dn (WS.nxt (WS.sq (WS.rg (RS.mS 1 [kI 4 0] (RS.dn (WS.nxt (WS.rt ?_)))))))))
    cases h
    exact fun a w hs=>rtR (rS hs)
 ·refine WS.fx 7 true (zb hp) (WS.cT ?_)
  cases h
theorem z8a {L:LC} {rec_slices_IndexFunc__112:AH→Sl3→(Option Addr)→Option Int} (hrec_slices_IndexFunc__112:∀(m:Nat) (H:AH) (a0:Sl3) (a1_0:Option Addr) (r:Int),rec_slices_IndexFunc__112 H a0 a1_0=some r→CallS Tryz.prog (NE.plain 258) m 153 #[(Sl3.v a0),(Value.func (.func 112) #[] #[(Value.pointer a1_0)])] H (z1d r) (z1j H r)) {m:Nat} {H:AH} {a0:Sl3} {a1_0:Option Addr} {r:Bool} (h:z1m L rec_slices_IndexFunc__112 H a0 a1_0=some r) :
  CallS Tryz.prog (NE.plain 258) m 81 #[(Sl3.v a0),(Value.func (.func 112) #[] #[(Value.pointer a1_0)])] H (z1v r) (z27 H r):=by
 refine CallS.mk (args:=[(Sl3.v a0),(Value.func (.func 112) #[] #[(Value.pointer a1_0)])]) Tryz.func81 (B:=B81) (by kernel_rfl) (fun E _=>?_)
 unfold z1m at h
 refine WS.sq (WS.rg (RS.mS 1 [kB 4 false] (RS.dn (WS.nxt (WS.sq (WS.rg (RS.mS 2 [(6,.val (Value.func (.func 112) #[] #[(Value.pointer a1_0)])),kS 5 a0] ?_)))))))
 obtain ⟨x1,hx,h⟩:=bind_some h
 refine RS.cl (some 7) (v:=(Value.int .i64 x1)) 153 #[(Sl3.v a0),(Value.func (.func 112) #[] #[(Value.pointer a1_0)])] (hrec_slices_IndexFunc__112 _ _ _ _ _ hx) (RS.mS 2 [kB 4 (decide (x1≥0)),kB 8 (decide (x1≥0))] (RS.dn (WS.nxt (WS.rt ?_))))
 cases h
 exact fun a w hs=>rtR (rS hs)
theorem z8x {L:LC} {rec_slices_IndexFunc__82:AH→Sl3→(Option Addr)→Option Int} (hrec_slices_IndexFunc__82:∀(m:Nat) (H:AH) (a0:Sl3) (a1_0:Option Addr) (r:Int),rec_slices_IndexFunc__82 H a0 a1_0=some r→CallS Tryz.prog (NE.plain 258) m 153 #[(Sl3.v a0),(Value.func (.func 82) #[] #[(Value.pointer a1_0)])] H (z1h r) (z1o H r)) {m:Nat} {H:AH} {a0:Sl3} {a1_0:Option Addr} {r:Bool} (h:z1s L rec_slices_IndexFunc__82 H a0 a1_0=some r) :
  CallS Tryz.prog (NE.plain 258) m 81 #[(Sl3.v a0),(Value.func (.func 82) #[] #[(Value.pointer a1_0)])] H (z26 r) (z2d H r):=by
 refine CallS.mk (args:=[(Sl3.v a0),(Value.func (.func 82) #[] #[(Value.pointer a1_0)])]) Tryz.func81 (B:=B81) (by kernel_rfl) (fun E _=>?_)
 unfold z1s at h
 refine WS.sq (WS.rg (RS.mS 1 [kB 4 false] (RS.dn (WS.nxt (WS.sq (WS.rg (RS.mS 2 [(6,.val (Value.func (.func 82) #[] #[(Value.pointer a1_0)])),kS 5 a0] ?_)))))))
 obtain ⟨x1,hx,h⟩:=bind_some h
 refine RS.cl (some 7) (v:=(Value.int .i64 x1)) 153 #[(Sl3.v a0),(Value.func (.func 82) #[] #[(Value.pointer a1_0)])] (hrec_slices_IndexFunc__82 _ _ _ _ _ hx) (RS.mS 2 [kB 4 (decide (x1≥0)),kB 8 (decide (x1≥0))] (RS.dn (WS.nxt (WS.rt ?_))))
 cases h
 exact fun a w hs=>rtR (rS hs)
theorem z3z {L:LC}:∀n,(∀(m:Nat) (H:AH) (a0:Sl3) (a1_0:Option Addr) (r:Int),((zg L n).1) H a0 a1_0=some r→CallS Tryz.prog (NE.plain 258) m 153 #[(Sl3.v a0),(Value.func (.func 112) #[] #[(Value.pointer a1_0)])] H (z1d r) (z1j H r))∧(∀(m:Nat) (H:AH) (a0:Sl3) (a1_0:Option Addr) (r:Int),((zg L n).2.1) H a0 a1_0=some r→CallS Tryz.prog (NE.plain 258) m 153 #[(Sl3.v a0),(Value.func (.func 82) #[] #[(Value.pointer a1_0)])] H (z1h r) (z1o H r))∧(∀(m:Nat) (H:AH) (a0:Option Addr) (a1:Sl3) (r:AH),((zg L n).2.2.1) m H a0 a1=some r→CallS Tryz.prog (NE.plain 258) m 37 #[(Value.pointer a0),(Sl3.v a1)] H (z42 r) (z4k H r))∧(∀(m:Nat) (H:AH) (a0:Option Addr) (r:(Int×AH)),((zg L n).2.2.2.1) m H a0=some r→CallS Tryz.prog (NE.plain 258) m 54 #[(Value.pointer a0)] H (z33 r) (z3n H r))∧(∀(m:Nat) (H:AH) (a0:Option Addr) (a1:Sl3) (r:(Int×AH)),((zg L n).2.2.2.2.1) m H a0 a1=some r→CallS Tryz.prog (NE.plain 258) m 71 #[(Value.pointer a0),(Sl3.v a1)] H (z51 r) (z5i H r))∧(∀(m:Nat) (H:AH) (a0:Sl3) (a1_0:Option Addr) (r:Bool),((zg L n).2.2.2.2.2.1) H a0 a1_0=some r→CallS Tryz.prog (NE.plain 258) m 81 #[(Sl3.v a0),(Value.func (.func 112) #[] #[(Value.pointer a1_0)])] H (z1v r) (z27 H r))∧(∀(m:Nat) (H:AH) (a0:Sl3) (a1_0:Option Addr) (r:Bool),((zg L n).2.2.2.2.2.2) H a0 a1_0=some r→CallS Tryz.prog (NE.plain 258) m 81 #[(Sl3.v a0),(Value.func (.func 82) #[] #[(Value.pointer a1_0)])] H (z26 r) (z2d H r)):=by
 intro n
 induction n with
 | zero=>exact ⟨(fun _ _ _ _ _ h=>(Option.some_ne_none _ h.symm).elim),(fun _ _ _ _ _ h=>(Option.some_ne_none _ h.symm).elim),(fun _ _ _ _ _ h=>(Option.some_ne_none _ h.symm).elim),(fun _ _ _ _ h=>(Option.some_ne_none _ h.symm).elim),(fun _ _ _ _ _ h=>(Option.some_ne_none _ h.symm).elim),(fun _ _ _ _ _ h=>(Option.some_ne_none _ h.symm).elim),(fun _ _ _ _ _ h=>(Option.some_ne_none _ h.symm).elim)⟩
 | succ n ih=>exact ⟨(fun _ _ _ _ _ h=>zac (L:=L)  h),(fun _ _ _ _ _ h=>zb7 (L:=L)  h),(fun _ _ _ _ _ h=>ze1 (L:=L) ih.2.2.2.2.1 h),(fun _ _ _ _ h=>zce (L:=L) ih.2.2.1 h),(fun _ _ _ _ _ h=>zfx (L:=L) ih.2.2.2.2.2.1 h),(fun _ _ _ _ _ h=>z8a (L:=L) ih.1 h),(fun _ _ _ _ _ h=>z8x (L:=L) ih.2.1 h)⟩
theorem zhb {L:LC} {m:Nat} {H:AH} {a0:Option Addr} {r:(Int×AH)} (h:zan L m H a0=some r) :
  CallS Tryz.prog (NE.plain 258) m 54 #[(Value.pointer a0)] H (z33 r) (z3n H r) :=
 ((z3z _).2.2.2.1) _ _ _ _ h
theorem zd3 {L:LC} {m:Nat} {H:AH} {a0:Sl3} {a1_0:Option Addr} {r:Bool} (h:z6m L H a0 a1_0=some r) :
  CallS Tryz.prog (NE.plain 258) m 81 #[(Sl3.v a0),(Value.func (.func 82) #[] #[(Value.pointer a1_0)])] H (z26 r) (z2d H r) :=
 ((z3z _).2.2.2.2.2.2) _ _ _ _ _ h
noncomputable def B45:Code:=(Tryz.f45.body).getD .skip
def zul:(Bool×AH)→Value
 | (r0,_)=>(Value.bool r0)
def zvx (_:AH):(Bool×AH)→AH:=fun r=>r.2
noncomputable def zn8 (L:LC) (_m:Nat) (H:AH) (a0:Sl3) (a1:Int):Option (Bool×AH) :=
 Option.bind (newB 3 [(Value.int .i64 a1)] H) fun (p1,H2) =>
 Option.bind (z6m L H2 a0 (some p1)) fun x3 =>
 some ((!x3),H2)
theorem zq8 {L:LC} {m:Nat} {H:AH} {a0:Sl3} {a1:Int} {r:(Bool×AH)} (h:zn8 L m H a0 a1=some r) :
  CallS Tryz.prog (NE.plain 258) m 45 #[(Sl3.v a0),(Value.int .i64 a1)] H (zul r) (zvx H r):=by
 refine CallS.mk (args:=[(Sl3.v a0),(Value.int .i64 a1)]) Tryz.func45 (B:=B45) (by kernel_rfl) (fun E _=>?_)
 unfold zn8 at h
 refine WS.sq (WS.rg ?_)
 obtain ⟨⟨p1,H2⟩,hx,h⟩:=bind_some h
 try dsimp only at h
 refine RS.o (H':=H2) (some 3) (Value.pointer (some p1)) (Abs.run_newB (by kernel_rfl) hx) (RS.mS 1 [kB 4 false] (RS.dn (WS.nxt (WS.sq (WS.rg (RS.mS 2 [(6,.val (Value.func (.func 82) #[] #[(Value.pointer (some p1))])),kS 5 a0] ?_))))))
 obtain ⟨x3,hx,h⟩:=bind_some h
 refine RS.cl (some 7) (v:=(Value.bool x3)) 81 #[(Sl3.v a0),(Value.func (.func 82) #[] #[(Value.pointer (some p1))])] (zd3 hx) (RS.mS 2 [kB 4 (!x3),kB 8 (!x3)] (RS.dn (WS.nxt (WS.rt ?_))))
 cases h
 exact fun a w hs=>rtR (rS hs)
noncomputable def B44:Code:=(Tryz.f44.body).getD .skip
def zkr:(Int×AH)→Value
 | (r0,_)=>(Value.int .i64 r0)
def zmd (_:AH):(Int×AH)→AH:=fun r=>r.2
noncomputable def zej (L:LC) (m:Nat) (a0_0:Int) (a0_1:Sl3):(AH×Int)→Option (Lp (AH×Int) (Int×AH)):=fun (H1,v22_2) =>
 if v22_2<(a0_1.n:Int) then
  Option.bind (idxA 1 a0_1 v22_2) fun p3 =>
  Option.bind (rd deSl H1 p3) fun x4 =>
  Option.bind (zn8 L m H1 x4 a0_0) fun (x5,H6) =>
  if x5=true then
   some (.next (H6,(IntKind.i64.wrap (v22_2+1))))
  else
   none
 else
  some (.brk (H1,v22_2))
def zpn (_L:LC) (_m:Nat) (a0_0:Int) (a0_1:Sl3):(AH×Int)→KN×Lcs:=fun (_,v22_2)=>([kI 22 v22_2,kL 1 0 0,kS 20 a0_1,kI 21 (a0_1.n:Int)],[some (90,[(Value.int .i64 a0_0),(Sl3.v a0_1)])])
noncomputable def zmn (L:LC) (m:Nat) (H:AH) (a0_0:Int) (a0_1:Sl3):Option (Int×AH) :=
 if a0_0<0 then
  none
 else
  if a0_0 > 1048576 then
   none
  else
   if (a0_1.n:Int) > 4194304 then
    none
   else
    Option.bind (L.run (zej L m a0_0 a0_1) (H,0)) fun o=>match o with
    | .inl (H7,_) =>
     some (0,H7)
    | .inr r=>some r
theorem zgf {E H L m a0_0 a0_1} :LoopF Tryz.prog (NE.plain 258) m E Tryz.f44 ((cfst (csnd (cfst (csnd (csnd B44)))))) (zpn L m a0_0 a0_1) (fun s=>s.1) 0 zkr (zmd H) (zej L m a0_0 a0_1):=by
 rintro ⟨H1,v22_2⟩ o h
 unfold zej at h
 try dsimp only at h
 refine WS.sq (WS.rg (RS.mS 1 [kB 23 (decide (v22_2<(a0_1.n:Int)))] (RS.dn (WS.nxt (WS.sq ?_)))))
 rcases z0 h with ⟨hp,h⟩ | ⟨hp,h⟩
 ·refine WS.fx 23 true (decide_eq_true hp) (WS.cT (WS.sk (WS.nxt (WS.sq (WS.bk 1 (WS.sq (WS.rg ?_)))))))
  obtain ⟨p3,hx,h⟩:=bind_some h
  refine RS.ix 24 44 28 (.tmp 20) (.tmp 22) hx ?_
  obtain ⟨x4,hx,h⟩:=bind_some h
  refine RS.ld 25 28 (.tmp 24) (z1 hx z3) (RS.mS 1 [kS 4 x4] (RS.dn (WS.nxt (WS.sq (WS.rg (RS.mS 3 [kI 28 a0_0,kL 27 0 0,kS 26 x4] ?_))))))
  obtain ⟨⟨x5,H6⟩,hx,h⟩:=bind_some h
  try dsimp only at h
  refine RS.cl (some 29) (v:=(Value.bool x5)) 45 #[(Sl3.v x4),(Value.int .i64 a0_0)] (zq8 hx) (RS.mS 1 [kB 30 (!x5)] (RS.dn (WS.nxt ?_)))
  rcases z0 h with ⟨hp,h⟩ | ⟨hp,h⟩
  ·refine WS.fx 30 false (nb_not hp) (WS.cF (WS.sk ?_))
   refine fun a w hs=>bkN ((WS.nxt ?_ a w hs))
   refine WS.rg (RS.mS 2 [kI 22 (IntKind.i64.wrap (v22_2+1)),kI 31 (IntKind.i64.wrap (v22_2+1))] (RS.dn ?_))
   cases h
   exact fun a w hs=>lsN rfl (hs.sb 1)
  ·refine WS.fx 30 true (zb hp) (WS.cT ?_)
   cases h
 ·refine WS.fx 23 false (decide_eq_false hp) (WS.cF (WS.ex 0 ?_))
  cases h
  exact fun a w hs=>sqE (lsB rfl (hs.sb 1))
theorem ztf {L:LC} {m:Nat} {H:AH} {a0_0:Int} {a0_1:Sl3} {r:(Int×AH)} (h:zmn L m H a0_0 a0_1=some r) :
  CallS Tryz.prog (NE.plain 258) m 44 #[(Value.agg #[(Value.int .i64 a0_0),(Sl3.v a0_1)])] H (zkr r) (zmd H r):=by
 refine CallS.mk (args:=[(Value.agg #[(Value.int .i64 a0_0),(Sl3.v a0_1)])]) Tryz.func44 (B:=B44) (by kernel_rfl) (fun E _=>?_)
 unfold zmn at h
 refine WS.sq (WS.rg (RS.mL 2 [kI 2 0,kL 1 0 0] ([some (90,[(Value.int .i64 a0_0),(Sl3.v a0_1)])]) (RS.dn (WS.nxt (WS.sq (WS.sq (WS.rg (RS.mS 4 [kB 8 (decide (a0_0<0)),kB 7 (decide (a0_0<0)),kI 6 a0_0,kL 5 0 0] ?_))))))))
 rcases z0 h with ⟨hp,h⟩ | ⟨hp,h⟩
 ·refine RS.fx 8 true (decide_eq_true hp) ?_
  cases h
 ·refine RS.fx 8 false (decide_eq_false hp) (RS.mS 5 [kB 13 (decide (a0_0 > 1048576)),kB 12 (decide (a0_0 > 1048576)),kB 11 (decide (a0_0 > 1048576)),kI 10 a0_0,kL 9 0 0] ?_)
  rcases z0 h with ⟨hp,h⟩ | ⟨hp,h⟩
  ·refine RS.fx 13 true (decide_eq_true hp) ?_
   cases h
  ·refine RS.fx 13 false (decide_eq_false hp) (RS.mS 5 [kB 18 (decide ((a0_1.n:Int) > 4194304)),kB 17 (decide ((a0_1.n:Int) > 4194304)),kI 16 (a0_1.n:Int),kS 15 a0_1,kL 14 0 1] (RS.dn (WS.nxt ?_)))
   rcases z0 h with ⟨hp,h⟩ | ⟨hp,h⟩
   ·refine WS.fx 18 true (decide_eq_true hp) (WS.cT ?_)
    cases h
   ·refine WS.fx 18 false (decide_eq_false hp) (WS.cF (WS.sk (WS.nxt (WS.sq (WS.sq (WS.rg (RS.mS 4 [kI 22 0,kI 21 (a0_1.n:Int),kS 20 a0_1,kL 19 0 1] (RS.dn (WS.nxt ?_)))))))))
    refine WS.bk 0 ?_
    obtain ⟨o,hl,h⟩:=bind_some h
    rcases o with ⟨H7,v22_8⟩ | r
    ·try dsimp only at h
     refine WS.lI (zgf (L:=L) (E:=E) (m:=m) (H:=H)) (L.ok hl) 1 ?_
     clear hl
     refine fun a w hs=>bkE ((WS.nxt ?_ a w hs))
     refine WS.sq (WS.rg (RS.mS 1 [kI 2 0] (RS.dn (WS.nxt (WS.rt ?_)))))
     cases h
     exact fun a w hs=>rtR (rS hs)
    ·try dsimp only at h
     refine WS.lR (zgf (L:=L) (E:=E) (m:=m) (H:=H)) (L.ok hl) 1 ?_
     cases h
     exact fun a w hq=>bkR (sqR (rtR hq))
noncomputable def B46:Code:=(Tryz.f46.body).getD .skip
def zne:((Option Addr)×AH)→Value
 | (r0,_)=>(Value.pointer r0)
def zoz (_:AH):((Option Addr)×AH)→AH:=fun r=>r.2
noncomputable def zd4 (_L:LC) (_m:Nat) (H:AH) (a0:Int):Option ((Option Addr)×AH) :=
 Option.bind (mkN 1 (IntKind.i64.wrap (a0+1))) fun c1 =>
 Option.bind (mkN 24 (IntKind.i64.wrap ((IntKind.i64.wrap (2*a0))+2))) fun c2 =>
 Option.bind (newS 237 (mkCells #[(Value.int .i8 0)] 1 c1) H) fun (k3,H4) =>
 Option.bind (newS 28 (mkCells #[(Sl3.v Sl3.nil)] 1 c2) H4) fun (k5,H6) =>
 Option.bind (newS 132 [(Sl3.v (⟨some ⟨k3,0,none⟩,c1,c1⟩:Sl3)),(Sl3.v Sl3.nil),(Sl3.v (⟨some ⟨k5,0,none⟩,c2,c2⟩:Sl3)),(Sl3.v Sl3.nil),(Value.int .i64 0)] H6) fun (k7,H8) =>
 some ((some (⟨k7,0,none⟩:Addr)),H8)
theorem zp0 {L:LC} {m:Nat} {H:AH} {a0:Int} {r:((Option Addr)×AH)} (h:zd4 L m H a0=some r) :
  CallS Tryz.prog (NE.plain 258) m 46 #[(Value.int .i64 a0)] H (zne r) (zoz H r):=by
 refine CallS.mk (args:=[(Value.int .i64 a0)]) Tryz.func46 (B:=B46) (by kernel_rfl) (fun E _=>?_)
 unfold zd4 at h
 refine WS.sq (WS.rg (RS.mS 1 [(2,.val (Value.pointer none))] (RS.dn (WS.nxt (WS.sq ?_)))))
 obtain ⟨c1,hx_2,h⟩:=bind_some h
 obtain ⟨c2,hx_6,h⟩:=bind_some h
 obtain ⟨⟨k3,H4⟩,hx_k3,h⟩:=bind_some h
 try dsimp only at h
 obtain ⟨⟨k5,H6⟩,hx_k5,h⟩:=bind_some h
 try dsimp only at h
 obtain ⟨⟨k7,H8⟩,hx_k7,h⟩:=bind_some h
 try dsimp only at h
 refine WS.toone ([kL 2 2 0]) ([none,none,some (132,[(Sl3.v (⟨some ⟨k3,0,none⟩,c1,c1⟩:Sl3)),(Sl3.v Sl3.nil),(Sl3.v (⟨some ⟨k5,0,none⟩,c2,c2⟩:Sl3)),(Sl3.v Sl3.nil),(Value.int .i64 0)])]) H6 ?_ ?_
 ·clear h
  refine WS.dr [] [0,1,3,0,8,24,56,127,255,511] 10 (fun hcl=>?_)
  refine DA.tP 0 (some 3) (Value.int .i64 a0) (DA.tP 1 (some 4) (Value.int .i64 (IntKind.i64.wrap (a0+1))) (DA.tP 3 (some 6) (Value.int .i64 a0) (DA.tP 4 (some 7) (Value.int .i64 (IntKind.i64.wrap (2*a0))) (DA.tP 5 (some 8) (Value.int .i64 (IntKind.i64.wrap ((IntKind.i64.wrap (2*a0))+2))) ?_))))
  refine DA.two 2 6 (by kernel_rfl) ?_ ?_
  ·refine DA.actM (k1:=.i64) (k2:=.i64) 2 (some 5) 130 237 1 1 #[(Value.int .i8 0)] (.tmp 4) (.tmp 4) hx_2 (DA.on 6 (DA.actM (k1:=.i64) (k2:=.i64) 6 (some 9) 44 28 1 24 #[(Sl3.v Sl3.nil)] (.tmp 8) (.tmp 8) hx_6 (DA.on 7 (DA.pubK 0 _ _ hx_k3 (by kernel_rfl) rfl rfl (DA.pubK 1 _ _ hx_k5 (by kernel_rfl) rfl rfl (DA.aH (H':=H6) 7 (some 10) (Value.agg #[(Sl3.v (⟨some ⟨k3,0,none⟩,c1,c1⟩:Sl3)),(Sl3.v Sl3.nil),(Sl3.v (⟨some ⟨k5,0,none⟩,c2,c2⟩:Sl3)),(Sl3.v Sl3.nil),(Value.int .i64 0)]) (by kernel_rfl) (DA.on 8 (DA.aL 8 (some 11) (.loc 2 0) ([none,none,some (132,[(Sl3.v (⟨some ⟨k3,0,none⟩,c1,c1⟩:Sl3)),(Sl3.v Sl3.nil),(Sl3.v (⟨some ⟨k5,0,none⟩,c2,c2⟩:Sl3)),(Sl3.v Sl3.nil),(Value.int .i64 0)])]) false (DA.tPL 9 (some 2) (.loc 2 0) ?_)))))))))
   refine DA.dn ?_
   exact fun a w hs=>jsN (hs.sb 3)
  ·refine DA.actM (k1:=.i64) (k2:=.i64) 6 (some 9) 44 28 1 24 #[(Sl3.v Sl3.nil)] (.tmp 8) (.tmp 8) hx_6 (DA.on 2 (DA.actM (k1:=.i64) (k2:=.i64) 2 (some 5) 130 237 1 1 #[(Value.int .i8 0)] (.tmp 4) (.tmp 4) hx_2 (DA.on 7 (DA.pubK 1 _ _ hx_k3 (by kernel_rfl) rfl rfl (DA.pubK 0 _ _ hx_k5 (by kernel_rfl) rfl rfl (DA.aH (H':=H6) 7 (some 10) (Value.agg #[(Sl3.v (⟨some ⟨k3,0,none⟩,c1,c1⟩:Sl3)),(Sl3.v Sl3.nil),(Sl3.v (⟨some ⟨k5,0,none⟩,c2,c2⟩:Sl3)),(Sl3.v Sl3.nil),(Value.int .i64 0)]) (by kernel_rfl) (DA.on 8 (DA.aL 8 (some 11) (.loc 2 0) ([none,none,some (132,[(Sl3.v (⟨some ⟨k3,0,none⟩,c1,c1⟩:Sl3)),(Sl3.v Sl3.nil),(Sl3.v (⟨some ⟨k5,0,none⟩,c2,c2⟩:Sl3)),(Sl3.v Sl3.nil),(Value.int .i64 0)])]) false (DA.tPL 9 (some 2) (.loc 2 0) ?_)))))))))
   refine DA.dn ?_
   exact fun a w hs=>jsN (hs.sb 3)
 ·refine WS.pubS 2 ([(2,.val (Value.pointer (some (⟨k7,0,none⟩:Addr))))]) ([none,none,none]) hx_k7 (by kernel_rfl) (by kernel_rfl) (by kernel_rfl) (WS.nxt (WS.rt ?_))
  cases h
  exact fun a w hs=>rtR (rS hs)
noncomputable def B84:Code:=(Tryz.f84.body).getD .skip
def zkn:Int→Value
 | r0=>(Value.int .i64 r0)
def zmb (H:AH):Int→AH:=fun _=>H
noncomputable def zgl (_L:LC) (a0:Int):Option Int :=
 if a0 > 0 then
  some (IntKind.i64.wrap (2*a0))
 else
  some (IntKind.i64.wrap ((IntKind.i64.wrap ((-2)*a0))+1))
theorem zm6 {L:LC} {m:Nat} {H:AH} {a0 r:Int} (h:zgl L a0=some r) :
  CallS Tryz.prog (NE.plain 258) m 84 #[(Value.int .i64 a0)] H (zkn r) (zmb H r):=by
 refine CallS.mk (args:=[(Value.int .i64 a0)]) Tryz.func84 (B:=B84) (by kernel_rfl) (fun E _=>?_)
 unfold zgl at h
 refine WS.sq (WS.rg (RS.mS 1 [kI 2 0] (RS.dn (WS.nxt (WS.sq (WS.sq (WS.rg (RS.mS 2 [kB 4 (decide (a0 > 0)),kI 3 a0] (RS.dn ?_)))))))))
 refine WS.nxt ?_
 rcases z0 h with ⟨hp,h⟩ | ⟨hp,h⟩
 ·refine WS.fx 4 true (decide_eq_true hp) (WS.cT (WS.sq (WS.rg (RS.mS 3 [kI 2 (IntKind.i64.wrap (2*a0)),kI 6 (IntKind.i64.wrap (2*a0)),kI 5 a0] (RS.dn (WS.nxt (WS.rt ?_)))))))
  cases h
  exact fun a w hs=>sqR (rtR (rS hs))
 ·refine WS.fx 4 false (decide_eq_false hp) (WS.cF (WS.sk (WS.nxt (WS.sq (WS.rg (RS.mS 4 [kI 2 (IntKind.i64.wrap ((IntKind.i64.wrap ((-2)*a0))+1)),kI 9 (IntKind.i64.wrap ((IntKind.i64.wrap ((-2)*a0))+1)),kI 8 (IntKind.i64.wrap ((-2)*a0)),kI 7 a0] (RS.dn (WS.nxt (WS.rt ?_)))))))))
  cases h
  exact fun a w hs=>rtR (rS hs)
noncomputable def B47:Code:=(Tryz.f47.body).getD .skip
def zlw:AH→Value
 | _=>(Value.tuple #[])
def znf (_:AH):AH→AH:=fun r=>r
noncomputable def z5v (L:LC):Nat→FuncId→Array Value→AH→Option (Value×AH) :=
 (orO (orF 14 (dcC dcSl dcN) fun m H (a0,_)=>(z1k L m H a0).map fun r=>(z7z r,z96 H r))
  (orO (orF 84 (dcC (dcI .i64) dcN) fun _ H (a0,_)=>(zgl L a0).map fun r=>(zkn r,zmb H r))
  orN))
noncomputable def zis (L:LC) (m:Nat) (H:AH) (a0:Option Addr) (a1:Sl3):Option AH :=
 byRun Tryz.prog 258 (z5v L) m 47 #[(Value.pointer a0),(Sl3.v a1)] H (dcT dcN) fun _ H2=>H2
theorem zi8 {L:LC}:OrOK Tryz.prog (NE.plain 258) (z5v L):=by
 unfold z5v
 refine orO_ok (orF_ok fun m H ⟨a0,_⟩ v H' h=>by
  obtain ⟨r,h1,rfl,rfl⟩:=zx h
  exact zm h1) ?_
 refine orO_ok (orF_ok fun m H ⟨a0,_⟩ v H' h=>by
  obtain ⟨r,h1,rfl,rfl⟩:=zx h
  exact zm6 h1) ?_
 exact orN_ok
theorem znt {L:LC} {m:Nat} {H:AH} {a0:Option Addr} {a1:Sl3} {r:AH} (h:zis L m H a0 a1=some r) :
  CallS Tryz.prog (NE.plain 258) m 47 #[(Value.pointer a0),(Sl3.v a1)] H (zlw r) (znf H r):=by
 obtain ⟨_,H2,rfl,hc⟩:=zea zi8 Tryz.func47 (show Tryz.f47.body=some B47 by kernel_rfl) h
 exact hc
noncomputable def B154:Code:=(Tryz.f154.body).getD .skip
def znk:Int→Value
 | r0=>(Value.int .i8 r0)
def zop (H:AH):Int→AH:=fun _=>H
noncomputable def z37 (_L:LC) (H:AH) (a0:Option Addr) (a1:Int):Option Int :=
 if a1 > 0 then
  Option.bind a0 fun q1 =>
  Option.bind (rd deSl H (Addr.add q1 0)) fun x2 =>
  Option.bind (idxA 1 x2 a1) fun p3 =>
  Option.bind (rd (deI .i8) H p3) fun x4 =>
  some x4
 else
  Option.bind a0 fun q5 =>
  Option.bind (rd deSl H (Addr.add q5 0)) fun x6 =>
  Option.bind (idxA 1 x6 (IntKind.i64.wrap (0 - a1))) fun p7 =>
  Option.bind (rd (deI .i8) H p7) fun x8 =>
  some (IntKind.i8.wrap (0 - x8))
theorem z19 {L:LC} {m:Nat} {H:AH} {a0:Option Addr} {a1 r:Int} (h:z37 L H a0 a1=some r) :
  CallS Tryz.prog (NE.plain 258) m 154 #[(Value.pointer a0),(Value.int .i64 a1)] H (znk r) (zop H r):=by
 refine CallS.mk (args:=[(Value.pointer a0),(Value.int .i64 a1)]) Tryz.func154 (B:=B154) (by kernel_rfl) (fun E _=>?_)
 unfold z37 at h
 refine WS.sq (WS.rg (RS.mS 1 [(4,.val (Value.int .i8 0))] (RS.dn (WS.nxt (WS.sq (WS.sq (WS.rg (RS.mS 2 [kB 6 (decide (a1 > 0)),kI 5 a1] (RS.dn ?_)))))))))
 refine WS.nxt ?_
 rcases z0 h with ⟨hp,h⟩ | ⟨hp,h⟩
 ·refine WS.fx 6 true (decide_eq_true hp) (WS.cT (WS.sq (WS.rg (RS.mS 1 [(7,.val (Value.pointer a0))] ?_))))
  obtain ⟨q1,hx,hq1⟩:=bind_some h
  subst hx
  have h:=hq1
  refine RS.mS 2 [(9,.val (Value.pointer (some (Addr.add q1 0)))),kP 8 q1] ?_
  obtain ⟨x2,hx,h⟩:=bind_some h
  refine RS.ld 10 130 (.tmp 9) (z1 hx z3) (RS.mS 1 [kI 11 a1] ?_)
  obtain ⟨p3,hx,h⟩:=bind_some h
  refine RS.ix 12 130 237 (.tmp 10) (.tmp 11) hx ?_
  obtain ⟨x4,hx,h⟩:=bind_some h
  refine RS.ld 13 237 (.tmp 12) (z1 hx z4) (RS.mS 1 [(4,.val (Value.int .i8 x4))] (RS.dn (WS.nxt (WS.rt ?_))))
  cases h
  exact fun a w hs=>sqR (rtR (rS hs))
 ·refine WS.fx 6 false (decide_eq_false hp) (WS.cF (WS.sk (WS.nxt (WS.sq (WS.rg (RS.mS 1 [(14,.val (Value.pointer a0))] ?_))))))
  obtain ⟨q5,hx,hq5⟩:=bind_some h
  subst hx
  have h:=hq5
  refine RS.mS 2 [(16,.val (Value.pointer (some (Addr.add q5 0)))),kP 15 q5] ?_
  obtain ⟨x6,hx,h⟩:=bind_some h
  refine RS.ld 17 130 (.tmp 16) (z1 hx z3) (RS.mS 2 [kI 19 (IntKind.i64.wrap (0 - a1)),kI 18 a1] ?_)
  obtain ⟨p7,hx,h⟩:=bind_some h
  refine RS.ix 20 130 237 (.tmp 17) (.tmp 19) hx ?_
  obtain ⟨x8,hx,h⟩:=bind_some h
  refine RS.ld 21 237 (.tmp 20) (z1 hx z4) (RS.mS 2 [(4,.val (Value.int .i8 (IntKind.i8.wrap (0 - x8)))),(22,.val (Value.int .i8 (IntKind.i8.wrap (0 - x8))))] (RS.dn (WS.nxt (WS.rt ?_))))
  cases h
  exact fun a w hs=>rtR (rS hs)
end Go.Proofs.YtkecibinbgaedaaGreatDoor
namespace Go.Proofs.YtkecibinbgaedaaGreatDoor
open Go Go.Abs
set_option maxRecDepth 100000
noncomputable def B85:Code:=(Tryz.f85.body).getD .skip
def zmw:(Bool×AH)→Value
 | (r0,_)=>(Value.bool r0)
def znz (_:AH):(Bool×AH)→AH:=fun r=>r.2
noncomputable def z63 (L:LC) (m:Nat) (H:AH) (a0:Option Addr) (a1:Int):Option (Bool×AH) :=
 Option.bind (z37 L H a0 a1) fun x1 =>
 if x1=0 then
  Option.bind a0 fun q2 =>
  Option.bind (rd deSl H (Addr.add q2 3)) fun x3 =>
  Option.bind (newR 3 1 #[(Value.int .i64 a1)] H) fun (s4,H5) =>
  Option.bind (appS m 3 1 8 H5 x3 s4) fun (s6,H7) =>
  Option.bind (H7.setCell m (Addr.add q2 3) (Sl3.v s6)) fun H8 =>
  Option.bind (α:=AH) (
   if a1 > 0 then
    Option.bind (rd deSl H8 (Addr.add q2 0)) fun x10 =>
    Option.bind (idxA 1 x10 a1) fun p11 =>
    Option.bind (H8.setCell m p11 (Value.int .i8 1)) fun H12 =>
    some H12
   else
    Option.bind (rd deSl H8 (Addr.add q2 0)) fun x13 =>
    Option.bind (idxA 1 x13 (IntKind.i64.wrap (0 - a1))) fun p14 =>
    Option.bind (H8.setCell m p14 (Value.int .i8 (-1))) fun H15 =>
    some H15) fun H9 =>
  some (true,H9)
 else
  none
theorem zdo {L:LC} {m:Nat} {H:AH} {a0:Option Addr} {a1:Int} {r:(Bool×AH)} (h:z63 L m H a0 a1=some r) :
  CallS Tryz.prog (NE.plain 258) m 85 #[(Value.pointer a0),(Value.int .i64 a1)] H (zmw r) (znz H r):=by
 refine CallS.mk (args:=[(Value.pointer a0),(Value.int .i64 a1)]) Tryz.func85 (B:=B85) (by kernel_rfl) (fun E _=>?_)
 unfold z63 at h
 refine WS.sq (WS.rg (RS.mS 1 [kB 4 false] (RS.dn (WS.nxt (WS.sq (WS.sq (WS.rg (RS.mS 2 [kI 6 a1,(5,.val (Value.pointer a0))] ?_))))))))
 obtain ⟨x1,hx,h⟩:=bind_some h
 refine RS.cl (some 7) (v:=(Value.int .i8 x1)) 154 #[(Value.pointer a0),(Value.int .i64 a1)] (z19 hx) (RS.mS 1 [kB 8 (!decide (x1=0))] (RS.dn (WS.nxt ?_)))
 rcases z0 h with ⟨hp,h⟩ | ⟨hp,h⟩
 ·refine WS.fx 8 false (zd hp) (WS.cF (WS.sk (WS.nxt (WS.sq (WS.rg (RS.mS 2 [(14,.val (Value.pointer a0)),(13,.val (Value.pointer a0))] ?_))))))
  obtain ⟨q2,hx,hq2⟩:=bind_some h
  subst hx
  have h:=hq2
  refine RS.mS 2 [(16,.val (Value.pointer (some (Addr.add q2 3)))),kP 15 q2] ?_
  obtain ⟨x3,hx,h⟩:=bind_some h
  refine RS.ld 17 28 (.tmp 16) (z1 hx z3) (RS.mS 1 [kI 18 a1] ?_)
  obtain ⟨⟨s4,H5⟩,hx,h⟩:=bind_some h
  try dsimp only at h
  refine RS.o (H':=H5) (some 19) (Sl3.v s4) (Abs.run_newR (by kernel_rfl) (by kernel_rfl) hx) ?_
  obtain ⟨⟨s6,H7⟩,hx,h⟩:=bind_some h
  try dsimp only at h
  refine RS.o (H':=H7) (some 20) (Sl3.v s6) (Abs.run_app (x:=.tmp 17) (y:=.tmp 19) (ts:=#[28,28]) (s:=x3) (z:=s4) (by kernel_rfl) (by kernel_rfl) (by kernel_rfl) (by kernel_rfl) hx) (RS.mS 2 [(22,.val (Value.pointer (some (Addr.add q2 3)))),kP 21 q2] ?_)
  obtain ⟨H8,hx,h⟩:=bind_some h
  refine RS.o (H':=H8) none undef (Abs.run_store1 (t:=28) (x:=.tmp 22) (y:=.tmp 20) (a:=(Addr.add q2 3)) (v:=(Sl3.v s6)) (by kernel_rfl) (by kernel_rfl) (by kernel_rfl) (by kernel_rfl) (by kernel_rfl) hx) (RS.dn (WS.nxt ?_))
  obtain ⟨H9,hx,h⟩:=bind_some h
  refine WS.sq ?_
  refine WS.join ([]) ([]) H9 ?_ (fun a w hs=>WS.nxt ?_ a w hs)
  ·clear h; rename _=>h
   refine WS.sq (WS.rg (RS.mS 2 [kB 24 (decide (a1 > 0)),kI 23 a1] (RS.dn (WS.nxt ?_))))
   rcases z0 h with ⟨hp,h⟩ | ⟨hp,h⟩
   ·refine WS.fx 24 true (decide_eq_true hp) (WS.cT (WS.rg (RS.mS 3 [(27,.val (Value.pointer (some (Addr.add q2 0)))),kP 26 q2,kP 25 q2] ?_)))
    obtain ⟨x10,hx,h⟩:=bind_some h
    refine RS.ld 28 130 (.tmp 27) (z1 hx z3) (RS.mS 1 [kI 29 a1] ?_)
    obtain ⟨p11,hx,h⟩:=bind_some h
    refine RS.ix 30 130 237 (.tmp 28) (.tmp 29) hx ?_
    obtain ⟨H12,hx,h⟩:=bind_some h
    refine RS.o (H':=H12) none undef (Abs.run_store1 (t:=237) (x:=.tmp 30) (y:=.const (Value.int .i8 1)) (a:=p11) (v:=(Value.int .i8 1)) (by kernel_rfl) (by kernel_rfl) (by kernel_rfl) (by kernel_rfl) (by kernel_rfl) hx) (RS.dn ?_)
    cases h
    exact fun a w hs=>(jsN (hs.sb 0))
   ·refine WS.fx 24 false (decide_eq_false hp) (WS.cF (WS.rg (RS.mS 3 [(33,.val (Value.pointer (some (Addr.add q2 0)))),kP 32 q2,kP 31 q2] ?_)))
    obtain ⟨x13,hx,h⟩:=bind_some h
    refine RS.ld 34 130 (.tmp 33) (z1 hx z3) (RS.mS 2 [kI 36 (IntKind.i64.wrap (0 - a1)),kI 35 a1] ?_)
    obtain ⟨p14,hx,h⟩:=bind_some h
    refine RS.ix 37 130 237 (.tmp 34) (.tmp 36) hx ?_
    obtain ⟨H15,hx,h⟩:=bind_some h
    refine RS.o (H':=H15) none undef (Abs.run_store1 (t:=237) (x:=.tmp 37) (y:=.const (Value.int .i8 (-1))) (a:=p14) (v:=(Value.int .i8 (-1))) (by kernel_rfl) (by kernel_rfl) (by kernel_rfl) (by kernel_rfl) (by kernel_rfl) hx) (RS.dn ?_)
    cases h
    exact fun a w hs=>(jsN (hs.sb 0))
  ·clear hx
   refine WS.sq (WS.rg (RS.mS 1 [kB 4 true] (RS.dn (WS.nxt (WS.rt ?_)))))
   cases h
   exact fun a w hs=>rtR (rS hs)
 ·refine WS.fx 8 true (z9 hp) (WS.cT ?_)
  cases h
noncomputable def B86:Code:=(Tryz.f86.body).getD .skip
def zas:(Bool×AH)→Value
 | (r0,_)=>(Value.bool r0)
def zch (_:AH):(Bool×AH)→AH:=fun r=>r.2
noncomputable def z5g (L:LC) (H:AH) (a0:Option Addr) (a1:Sl3):(Int×Int)→Option (Lp (Int×Int) (Bool×AH)):=fun (v5_1,v10_2) =>
 if v10_2<(a1.n:Int) then
  Option.bind (α:=Int⊕(Lp (Int×Int) (Bool×AH))) (
   Option.bind (idxA 1 a1 v10_2) fun p4 =>
   Option.bind (rd (deI .i64) H p4) fun x5 =>
   Option.bind (z37 L H a0 x5) fun x6 =>
   if x6 > 0 then
    ((some (.ret (true,H))).map .inr)
   else
    Option.bind (α:=Bool) (
     Option.bind (z37 L H a0 x5) fun x8 =>
     if x8=0 then
      if v5_1=0 then
       some false
      else
       none
     else
      some false) fun v19_7 =>
    if v19_7=true then
     none
    else
     Option.bind (z37 L H a0 x5) fun x9 =>
     if x9=0 then
      some (.inl x5)
     else
      some (.inl v5_1)) fun o=>match o with
  | .inl v5_3 =>
   some (.next (v5_3,(IntKind.i64.wrap (v10_2+1))))
  | .inr r=>some r
 else
  some (.brk (v5_1,v10_2))
def zi7 (_L:LC) (_H:AH) (a0:Option Addr) (a1:Sl3):(Int×Int)→KN×Lcs:=fun (v5_1,v10_2)=>([kI 5 v5_1,kI 10 v10_2,(0,.val (Value.pointer a0)),kS 8 a1,kI 9 (a1.n:Int)],[])
noncomputable def z5e (L:LC) (m:Nat) (H:AH) (a0:Option Addr) (a1:Sl3):Option (Bool×AH) :=
 Option.bind (L.run (z5g L H a0 a1) (0,0)) fun o=>match o with
 | .inl (v5_10,_) =>
  if v5_10=0 then
   none
  else
   Option.bind (z63 L m H a0 v5_10) fun (x12,H13) =>
   some (x12,H13)
 | .inr r=>some r
theorem z8g {E m L H a0 a1} :LoopF Tryz.prog (NE.plain 258) m E Tryz.f86 ((cfst (csnd (cfst (csnd (csnd B86)))))) (zi7 L H a0 a1) (fun _=>H) 0 zas (zch H) (z5g L H a0 a1):=by
 rintro ⟨v5_1,v10_2⟩ o h
 unfold z5g at h
 try dsimp only at h
 refine WS.sq (WS.rg (RS.mS 1 [kB 11 (decide (v10_2<(a1.n:Int)))] (RS.dn (WS.nxt (WS.sq ?_)))))
 rcases z0 h with ⟨hp,h⟩ | ⟨hp,h⟩
 ·refine WS.fx 11 true (decide_eq_true hp) (WS.cT (WS.sk (WS.nxt ?_)))
  obtain ⟨o,hx,h⟩:=bind_some h
  rcases o with v5_3 | ro
  ·try dsimp only at h
   refine WS.sq ?_
   refine WS.join ([kI 5 v5_3,(0,.val (Value.pointer a0)),kS 8 a1,kI 9 (a1.n:Int),kI 10 v10_2]) ([]) H ?_ (fun a w hs=>WS.nxt ?_ a w hs)
   ·clear h; rename _=>h
    refine WS.bk 1 (WS.sq (WS.rg ?_))
    obtain ⟨p4,hx,h⟩:=bind_some h
    refine RS.ix 12 28 3 (.tmp 8) (.tmp 10) hx ?_
    obtain ⟨x5,hx,h⟩:=bind_some h
    refine RS.ld 13 3 (.tmp 12) (z1 hx z4) (RS.mS 1 [kI 7 x5] (RS.dn (WS.nxt (WS.bk 2 (WS.sq (WS.rg (RS.mS 2 [kI 16 x5,(15,.val (Value.pointer a0))] ?_)))))))
    obtain ⟨x6,hx,h⟩:=bind_some h
    refine RS.cl (some 17) (v:=(Value.int .i8 x6)) 154 #[(Value.pointer a0),(Value.int .i64 x5)] (z19 hx) (RS.mS 2 [kB 14 (decide (x6 > 0)),kB 18 (decide (x6 > 0))] (RS.dn (WS.nxt ?_)))
    rcases z0 h with ⟨hp,h⟩ | ⟨hp,h⟩
    ·refine WS.fx 14 true (decide_eq_true hp) (WS.cT (WS.sq (WS.rg (RS.mS 1 [kB 4 true] (RS.dn (WS.nxt (WS.rt ?_)))))))
     exact (zyc h).elim
    ·refine WS.fx 14 false (decide_eq_false hp) (WS.cF ?_)
     obtain ⟨v19_7,hx,h⟩:=bind_some h
     refine WS.sq ?_
     refine WS.join ([kB 19 v19_7,(0,.val (Value.pointer a0)),kI 5 v5_1,kI 7 x5,kS 8 a1,kI 9 (a1.n:Int),kI 10 v10_2]) ([]) H ?_ (fun a w hs=>WS.nxt ?_ a w hs)
     ·clear h; rename _=>h
      refine WS.rg (RS.mS 2 [kI 21 x5,(20,.val (Value.pointer a0))] ?_)
      obtain ⟨x8,hx,h⟩:=bind_some h
      refine RS.cl (some 22) (v:=(Value.int .i8 x8)) 154 #[(Value.pointer a0),(Value.int .i64 x5)] (z19 hx) (RS.mS 2 [kB 24 (decide (x8=0)),kB 23 (decide (x8=0))] ?_)
      rcases z0 h with ⟨hp,h⟩ | ⟨hp,h⟩
      ·refine RS.fx 24 true (decide_eq_true hp) (RS.mS 4 [kB 28 (!decide (v5_1=0)),kB 27 (!decide (v5_1=0)),kB 26 (!decide (v5_1=0)),kI 25 v5_1] ?_)
       rcases z0 h with ⟨hp,h⟩ | ⟨hp,h⟩
       ·refine RS.fx 28 false (zd hp) (RS.mS 5 [kB 19 false,kB 32 false,kU 31,kU 30,kU 29] (RS.dn ?_))
        cases h
        exact fun a w hs=>(jsN (hs.sb 0))
       ·refine RS.fx 28 true (z9 hp) ?_
        cases h
      ·refine RS.fx 24 false (decide_eq_false hp) (RS.mS 9 [kB 19 false,kB 32 false,kU 31,kU 30,kU 29,kB 28 false,kB 27 false,kU 26,kU 25] (RS.dn ?_))
       cases h
       exact fun a w hs=>(jsN (hs.sb 0))
     ·clear hx
      rcases z0 h with ⟨hp,h⟩ | ⟨hp,h⟩
      ·refine WS.fx 19 true hp (WS.cT ?_)
       cases h
      ·refine WS.fx 19 false (b_not hp) (WS.cF (WS.sq (WS.rg (RS.mS 2 [kI 35 x5,(34,.val (Value.pointer a0))] ?_))))
       obtain ⟨x9,hx,h⟩:=bind_some h
       refine RS.cl (some 36) (v:=(Value.int .i8 x9)) 154 #[(Value.pointer a0),(Value.int .i64 x5)] (z19 hx) (RS.mS 2 [kB 33 (decide (x9=0)),kB 37 (decide (x9=0))] (RS.dn (WS.nxt ?_)))
       rcases z0 h with ⟨hp,h⟩ | ⟨hp,h⟩
       ·refine WS.fx 33 true (decide_eq_true hp) (WS.cT (WS.rg (RS.mS 2 [kI 5 x5,kI 38 x5] (RS.dn ?_))))
        cases h
        exact fun a w hs=>bkN (bkN ((jsN (hs.sb 0))))
       ·refine WS.fx 33 false (decide_eq_false hp) (WS.cF (WS.sk ?_))
        cases h
        exact fun a w hs=>bkN (bkN ((jsN (hs.sb 0))))
   ·clear hx
    refine WS.rg (RS.mS 2 [kI 10 (IntKind.i64.wrap (v10_2+1)),kI 39 (IntKind.i64.wrap (v10_2+1))] (RS.dn ?_))
    cases h
    exact fun a w hs=>lsN rfl (hs.sb 0)
  ·cases h; rename _=>h
   refine WS.sq (WS.bk 1 (WS.sq (WS.rg ?_)))
   obtain ⟨p4,hx,h⟩:=bind_some h
   refine RS.ix 12 28 3 (.tmp 8) (.tmp 10) hx ?_
   obtain ⟨x5,hx,h⟩:=bind_some h
   refine RS.ld 13 3 (.tmp 12) (z1 hx z4) (RS.mS 1 [kI 7 x5] (RS.dn (WS.nxt (WS.bk 2 (WS.sq (WS.rg (RS.mS 2 [kI 16 x5,(15,.val (Value.pointer a0))] ?_)))))))
   obtain ⟨x6,hx,h⟩:=bind_some h
   refine RS.cl (some 17) (v:=(Value.int .i8 x6)) 154 #[(Value.pointer a0),(Value.int .i64 x5)] (z19 hx) (RS.mS 2 [kB 14 (decide (x6 > 0)),kB 18 (decide (x6 > 0))] (RS.dn (WS.nxt ?_)))
   rcases z0 h with ⟨hp,h⟩ | ⟨hp,h⟩
   ·refine WS.fx 14 true (decide_eq_true hp) (WS.cT (WS.sq (WS.rg (RS.mS 1 [kB 4 true] (RS.dn (WS.nxt (WS.rt ?_)))))))
    replace h:=zy5 h
    cases h
    exact fun a w hs=>bkR (bkR (sqR (lsR rfl (rS hs))))
   ·refine WS.fx 14 false (decide_eq_false hp) (WS.cF ?_)
    obtain ⟨v19_7,hx,h⟩:=bind_some h
    refine WS.sq ?_
    refine WS.join ([kB 19 v19_7,(0,.val (Value.pointer a0)),kI 5 v5_1,kI 7 x5,kS 8 a1,kI 9 (a1.n:Int),kI 10 v10_2]) ([]) H ?_ (fun a w hs=>WS.nxt ?_ a w hs)
    ·clear h; rename _=>h
     refine WS.rg (RS.mS 2 [kI 21 x5,(20,.val (Value.pointer a0))] ?_)
     obtain ⟨x8,hx,h⟩:=bind_some h
     refine RS.cl (some 22) (v:=(Value.int .i8 x8)) 154 #[(Value.pointer a0),(Value.int .i64 x5)] (z19 hx) (RS.mS 2 [kB 24 (decide (x8=0)),kB 23 (decide (x8=0))] ?_)
     rcases z0 h with ⟨hp,h⟩ | ⟨hp,h⟩
     ·refine RS.fx 24 true (decide_eq_true hp) (RS.mS 4 [kB 28 (!decide (v5_1=0)),kB 27 (!decide (v5_1=0)),kB 26 (!decide (v5_1=0)),kI 25 v5_1] ?_)
      rcases z0 h with ⟨hp,h⟩ | ⟨hp,h⟩
      ·refine RS.fx 28 false (zd hp) (RS.mS 5 [kB 19 false,kB 32 false,kU 31,kU 30,kU 29] (RS.dn ?_))
       cases h
       exact fun a w hs=>(jsN (hs.sb 0))
      ·refine RS.fx 28 true (z9 hp) ?_
       cases h
     ·refine RS.fx 24 false (decide_eq_false hp) (RS.mS 9 [kB 19 false,kB 32 false,kU 31,kU 30,kU 29,kB 28 false,kB 27 false,kU 26,kU 25] (RS.dn ?_))
      cases h
      exact fun a w hs=>(jsN (hs.sb 0))
    ·clear hx
     rcases z0 h with ⟨hp,h⟩ | ⟨hp,h⟩
     ·refine WS.fx 19 true hp (WS.cT ?_)
      cases h
     ·refine WS.fx 19 false (b_not hp) (WS.cF (WS.sq (WS.rg (RS.mS 2 [kI 35 x5,(34,.val (Value.pointer a0))] ?_))))
      obtain ⟨x9,hx,h⟩:=bind_some h
      refine RS.cl (some 36) (v:=(Value.int .i8 x9)) 154 #[(Value.pointer a0),(Value.int .i64 x5)] (z19 hx) (RS.mS 2 [kB 33 (decide (x9=0)),kB 37 (decide (x9=0))] (RS.dn (WS.nxt ?_)))
      rcases z0 h with ⟨hp,h⟩ | ⟨hp,h⟩
      ·refine WS.fx 33 true (decide_eq_true hp) (WS.cT (WS.rg (RS.mS 2 [kI 5 x5,kI 38 x5] (RS.dn ?_))))
       cases h
      ·refine WS.fx 33 false (decide_eq_false hp) (WS.cF (WS.sk ?_))
       cases h
 ·refine WS.fx 11 false (decide_eq_false hp) (WS.cF (WS.ex 0 ?_))
  cases h
  exact fun a w hs=>sqE (lsB rfl (hs.sb 0))
theorem zcg {L:LC} {m:Nat} {H:AH} {a0:Option Addr} {a1:Sl3} {r:(Bool×AH)} (h:z5e L m H a0 a1=some r) :
  CallS Tryz.prog (NE.plain 258) m 86 #[(Value.pointer a0),(Sl3.v a1)] H (zas r) (zch H r):=by
 refine CallS.mk (args:=[(Value.pointer a0),(Sl3.v a1)]) Tryz.func86 (B:=B86) (by kernel_rfl) (fun E _=>?_)
 unfold z5e at h
 refine WS.sq (WS.rg (RS.mS 1 [kB 4 false] (RS.dn (WS.nxt (WS.sq (WS.rg (RS.mS 1 [kI 5 0] (RS.dn (WS.nxt ?_)))))))))
 refine WS.sq (WS.sq (WS.rg (RS.mS 3 [kI 10 0,kI 9 (a1.n:Int),kS 8 a1] (RS.dn (WS.nxt (WS.bk 0 ?_))))))
 obtain ⟨o,hl,h⟩:=bind_some h
 rcases o with ⟨v5_10,v10_11⟩ | r
 ·try dsimp only at h
  refine WS.lI (z8g (L:=L) (E:=E) (m:=m) (H:=H)) (L.ok hl) 0 ?_
  clear hl
  refine fun a w hs=>bkE ((WS.nxt ?_ a w hs))
  refine WS.sq (WS.rg (RS.mS 3 [kB 42 (!decide (v5_10=0)),kB 41 (!decide (v5_10=0)),kI 40 v5_10] ?_))
  rcases z0 h with ⟨hp,h⟩ | ⟨hp,h⟩
  ·refine RS.fx 42 false (zd hp) ?_
   cases h
  ·refine RS.fx 42 true (z9 hp) (RS.mS 2 [kI 44 v5_10,(43,.val (Value.pointer a0))] ?_)
   obtain ⟨⟨x12,H13⟩,hx,h⟩:=bind_some h
   try dsimp only at h
   refine RS.cl (some 45) (v:=(Value.bool x12)) 85 #[(Value.pointer a0),(Value.int .i64 v5_10)] (zdo hx) (RS.mS 2 [kB 4 x12,kB 46 x12] (RS.dn (WS.nxt (WS.rt ?_))))
   cases h
   exact fun a w hs=>rtR (rS hs)
 ·try dsimp only at h
  refine WS.lR (z8g (L:=L) (E:=E) (m:=m) (H:=H)) (L.ok hl) 0 ?_
  cases h
  exact fun a w hq=>bkR (sqR (rtR hq))
noncomputable def B48:Code:=(Tryz.f48.body).getD .skip
def z23:(Bool×AH)→Value
 | (r0,_)=>(Value.bool r0)
def z2g (_:AH):(Bool×AH)→AH:=fun r=>r.2
noncomputable def z6u (L:LC) (m:Nat) (a0:Option Addr) (a1:Sl3):(AH×Int)→Option (Lp (AH×Int) (Bool×AH)):=fun (H1,v14_2) =>
 if v14_2<(a1.n:Int) then
  Option.bind (idxA 1 a1 v14_2) fun p3 =>
  Option.bind (rd (deI .i64) H1 p3) fun x4 =>
  Option.bind (z63 L m H1 a0 x4) fun (x5,H6) =>
  if x5=true then
   some (.next (H6,(IntKind.i64.wrap (v14_2+1))))
  else
   none
 else
  some (.brk (H1,v14_2))
def zjl (_L:LC) (_m:Nat) (a0:Option Addr) (a1:Sl3):(AH×Int)→KN×Lcs:=fun (_,v14_2)=>([kI 14 v14_2,(0,.val (Value.pointer a0)),kS 12 a1,kI 13 (a1.n:Int)],[])
noncomputable def z7d (L:LC) (m:Nat) (q9:Addr) (x10:Sl3):(AH×Int)→Option (Lp (AH×Int) (Bool×AH)):=fun (H11,v28_12) =>
 if v28_12<(x10.n:Int) then
  Option.bind (idxA 1 x10 v28_12) fun p13 =>
  Option.bind (rd deSl H11 p13) fun x14 =>
  Option.bind (z5e L m H11 (some q9) x14) fun (x15,H16) =>
  if x15=true then
   some (.next (H16,(IntKind.i64.wrap (v28_12+1))))
  else
   none
 else
  some (.brk (H11,v28_12))
def zj1 (_L:LC) (_m:Nat) (q9:Addr) (x10:Sl3):(AH×Int)→KN×Lcs:=fun (_,v28_12)=>([kI 28 v28_12,kP 0 q9,kS 26 x10,kI 27 (x10.n:Int)],[])
noncomputable def z76 (L:LC) (m:Nat) (q9:Addr) (x31:Sl3):(AH×Int)→Option (Lp (AH×Int) (Bool×AH)):=fun (H32,v74_33) =>
 if v74_33<(x31.n:Int) then
  Option.bind (idxA 1 x31 v74_33) fun p34 =>
  Option.bind (rd (deI .i64) H32 p34) fun x35 =>
  Option.bind (rd deSl H32 (Addr.add q9 1)) fun x36 =>
  Option.bind (idxA 1 x36 x35) fun p37 =>
  Option.bind (rd deSl H32 p37) fun x38 =>
  Option.bind (z5e L m H32 (some q9) x38) fun (x39,H40) =>
  if x39=true then
   some (.next (H40,(IntKind.i64.wrap (v74_33+1))))
  else
   none
 else
  some (.brk (H32,v74_33))
def zk5 (_L:LC) (_m:Nat) (q9:Addr) (x31:Sl3):(AH×Int)→KN×Lcs:=fun (_,v74_33)=>([kI 74 v74_33,kP 0 q9,kS 72 x31,kI 73 (x31.n:Int)],[])
noncomputable def z6n (L:LC) (m:Nat) (q9:Addr):AH→Option (Lp AH (Bool×AH)):=fun H19 =>
 Option.bind (rd (deI .i64) H19 (Addr.add q9 4)) fun x20 =>
 Option.bind (rd deSl H19 (Addr.add q9 3)) fun x21 =>
 if x20<(x21.n:Int) then
  Option.bind (rd deSl H19 (Addr.add q9 3)) fun x22 =>
  Option.bind (rd (deI .i64) H19 (Addr.add q9 4)) fun x23 =>
  Option.bind (idxA 1 x22 x23) fun p24 =>
  Option.bind (rd (deI .i64) H19 p24) fun x25 =>
  Option.bind (rd (deI .i64) H19 (Addr.add q9 4)) fun x26 =>
  Option.bind (H19.setCell m (Addr.add q9 4) (Value.int .i64 (IntKind.i64.wrap (x26+1)))) fun H27 =>
  Option.bind (rd deSl H27 (Addr.add q9 2)) fun x28 =>
  Option.bind (zgl L (IntKind.i64.wrap (0 - x25))) fun x29 =>
  Option.bind (idxA 1 x28 x29) fun p30 =>
  Option.bind (rd deSl H27 p30) fun x31 =>
  Option.bind (L.run (z76 L m q9 x31) (H27,0)) fun o=>match o with
  | .inl (H41,_) =>
   some (.next H41)
  | .inr r=>some (.ret r)
 else
  some (.brk H19)
def zk0 (_L:LC) (_m:Nat) (q9:Addr):AH→KN×Lcs:=fun _=>([kP 0 q9],[])
noncomputable def zbs (L:LC) (m:Nat) (H:AH) (a0:Option Addr) (a1:Sl3):Option (Bool×AH) :=
 Option.bind (L.run (z6u L m a0 a1) (H,0)) fun o=>match o with
 | .inl (H7,_) =>
  Option.bind a0 fun q9 =>
  Option.bind (rd deSl H7 (Addr.add q9 1)) fun x10 =>
  Option.bind (L.run (z7d L m q9 x10) (H7,0)) fun o=>match o with
  | .inl (H17,_) =>
   Option.bind (L.run (z6n L m q9) H17) fun o=>match o with
   | .inl H43 =>
    some (true,H43)
   | .inr r=>some r
  | .inr r=>some r
 | .inr r=>some r
theorem za7 {E H L m a0 a1} :LoopF Tryz.prog (NE.plain 258) m E Tryz.f48 ((cfst (csnd (cfst (csnd B48))))) (zjl L m a0 a1) (fun s=>s.1) 0 z23 (z2g H) (z6u L m a0 a1):=by
 rintro ⟨H1,v14_2⟩ o h
 unfold z6u at h
 try dsimp only at h
 refine WS.sq (WS.rg (RS.mS 1 [kB 15 (decide (v14_2<(a1.n:Int)))] (RS.dn (WS.nxt (WS.sq ?_)))))
 rcases z0 h with ⟨hp,h⟩ | ⟨hp,h⟩
 ·refine WS.fx 15 true (decide_eq_true hp) (WS.cT (WS.sk (WS.nxt (WS.sq (WS.bk 1 (WS.sq (WS.rg ?_)))))))
  obtain ⟨p3,hx,h⟩:=bind_some h
  refine RS.ix 16 28 3 (.tmp 12) (.tmp 14) hx ?_
  obtain ⟨x4,hx,h⟩:=bind_some h
  refine RS.ld 17 3 (.tmp 16) (z1 hx z4) (RS.mS 1 [kI 6 x4] (RS.dn (WS.nxt (WS.sq (WS.rg (RS.mS 2 [kI 19 x4,(18,.val (Value.pointer a0))] ?_))))))
  obtain ⟨⟨x5,H6⟩,hx,h⟩:=bind_some h
  try dsimp only at h
  refine RS.cl (some 20) (v:=(Value.bool x5)) 85 #[(Value.pointer a0),(Value.int .i64 x4)] (zdo hx) (RS.mS 1 [kB 21 (!x5)] (RS.dn (WS.nxt ?_)))
  rcases z0 h with ⟨hp,h⟩ | ⟨hp,h⟩
  ·refine WS.fx 21 false (nb_not hp) (WS.cF (WS.sk ?_))
   refine fun a w hs=>bkN ((WS.nxt ?_ a w hs))
   refine WS.rg (RS.mS 2 [kI 14 (IntKind.i64.wrap (v14_2+1)),kI 22 (IntKind.i64.wrap (v14_2+1))] (RS.dn ?_))
   cases h
   exact fun a w hs=>lsN rfl (hs.sb 0)
  ·refine WS.fx 21 true (zb hp) (WS.cT ?_)
   cases h
 ·refine WS.fx 15 false (decide_eq_false hp) (WS.cF (WS.ex 0 ?_))
  cases h
  exact fun a w hs=>sqE (lsB rfl (hs.sb 0))
theorem za8 {E H L m q9 x10} :LoopF Tryz.prog (NE.plain 258) m E Tryz.f48 ((cfst (csnd (cfst (csnd (csnd B48)))))) (zj1 L m q9 x10) (fun s=>s.1) 2 z23 (z2g H) (z7d L m q9 x10):=by
 rintro ⟨H11,v28_12⟩ o h
 unfold z7d at h
 try dsimp only at h
 refine WS.sq (WS.rg (RS.mS 1 [kB 29 (decide (v28_12<(x10.n:Int)))] (RS.dn (WS.nxt (WS.sq ?_)))))
 rcases z0 h with ⟨hp,h⟩ | ⟨hp,h⟩
 ·refine WS.fx 29 true (decide_eq_true hp) (WS.cT (WS.sk (WS.nxt (WS.sq (WS.bk 3 (WS.sq (WS.rg ?_)))))))
  obtain ⟨p13,hx,h⟩:=bind_some h
  refine RS.ix 30 44 28 (.tmp 26) (.tmp 28) hx ?_
  obtain ⟨x14,hx,h⟩:=bind_some h
  refine RS.ld 31 28 (.tmp 30) (z1 hx z3) (RS.mS 1 [kS 8 x14] (RS.dn (WS.nxt (WS.sq (WS.rg (RS.mS 2 [kS 33 x14,kP 32 q9] ?_))))))
  obtain ⟨⟨x15,H16⟩,hx,h⟩:=bind_some h
  try dsimp only at h
  refine RS.cl (some 34) (v:=(Value.bool x15)) 86 #[(Value.pointer (some q9)),(Sl3.v x14)] (zcg hx) (RS.mS 1 [kB 35 (!x15)] (RS.dn (WS.nxt ?_)))
  rcases z0 h with ⟨hp,h⟩ | ⟨hp,h⟩
  ·refine WS.fx 35 false (nb_not hp) (WS.cF (WS.sk ?_))
   refine fun a w hs=>bkN ((WS.nxt ?_ a w hs))
   refine WS.rg (RS.mS 2 [kI 28 (IntKind.i64.wrap (v28_12+1)),kI 36 (IntKind.i64.wrap (v28_12+1))] (RS.dn ?_))
   cases h
   exact fun a w hs=>lsN rfl (hs.sb 0)
  ·refine WS.fx 35 true (zb hp) (WS.cT ?_)
   cases h
 ·refine WS.fx 29 false (decide_eq_false hp) (WS.cF (WS.ex 2 ?_))
  cases h
  exact fun a w hs=>sqE (lsB rfl (hs.sb 0))
theorem z9d {E H L m q9 x31} :LoopF Tryz.prog (NE.plain 258) m E Tryz.f48 ((cfst (csnd (csnd (csnd (cfst (csnd (cfst (cfst (cfst (csnd (csnd (csnd B48))))))))))))) (zk5 L m q9 x31) (fun s=>s.1) 6 z23 (z2g H) (z76 L m q9 x31):=by
 rintro ⟨H32,v74_33⟩ o h
 unfold z76 at h
 try dsimp only at h
 refine WS.sq (WS.rg (RS.mS 1 [kB 75 (decide (v74_33<(x31.n:Int)))] (RS.dn (WS.nxt (WS.sq ?_)))))
 rcases z0 h with ⟨hp,h⟩ | ⟨hp,h⟩
 ·refine WS.fx 75 true (decide_eq_true hp) (WS.cT (WS.sk (WS.nxt (WS.sq (WS.bk 7 (WS.sq (WS.rg ?_)))))))
  obtain ⟨p34,hx,h⟩:=bind_some h
  refine RS.ix 76 28 3 (.tmp 72) (.tmp 74) hx ?_
  obtain ⟨x35,hx,h⟩:=bind_some h
  refine RS.ld 77 3 (.tmp 76) (z1 hx z4) (RS.mS 1 [kI 11 x35] (RS.dn (WS.nxt (WS.sq (WS.rg (RS.mS 4 [(81,.val (Value.pointer (some (Addr.add q9 1)))),kP 80 q9,kP 79 q9,kP 78 q9] ?_))))))
  obtain ⟨x36,hx,h⟩:=bind_some h
  refine RS.ld 82 44 (.tmp 81) (z1 hx z3) (RS.mS 1 [kI 83 x35] ?_)
  obtain ⟨p37,hx,h⟩:=bind_some h
  refine RS.ix 84 44 28 (.tmp 82) (.tmp 83) hx ?_
  obtain ⟨x38,hx,h⟩:=bind_some h
  refine RS.ld 85 28 (.tmp 84) (z1 hx z3) ?_
  obtain ⟨⟨x39,H40⟩,hx,h⟩:=bind_some h
  try dsimp only at h
  refine RS.cl (some 86) (v:=(Value.bool x39)) 86 #[(Value.pointer (some q9)),(Sl3.v x38)] (zcg hx) (RS.mS 1 [kB 87 (!x39)] (RS.dn (WS.nxt ?_)))
  rcases z0 h with ⟨hp,h⟩ | ⟨hp,h⟩
  ·refine WS.fx 87 false (nb_not hp) (WS.cF (WS.sk ?_))
   refine fun a w hs=>bkN ((WS.nxt ?_ a w hs))
   refine WS.rg (RS.mS 2 [kI 74 (IntKind.i64.wrap (v74_33+1)),kI 88 (IntKind.i64.wrap (v74_33+1))] (RS.dn ?_))
   cases h
   exact fun a w hs=>lsN rfl (hs.sb 0)
  ·refine WS.fx 87 true (zb hp) (WS.cT ?_)
   cases h
 ·refine WS.fx 75 false (decide_eq_false hp) (WS.cF (WS.ex 6 ?_))
  cases h
  exact fun a w hs=>sqE (lsB rfl (hs.sb 0))
theorem z9k {E H L m q9} :LoopF Tryz.prog (NE.plain 258) m E Tryz.f48 ((cfst (cfst (csnd (csnd (csnd B48)))))) (zk0 L m q9) (fun s=>s) 4 z23 (z2g H) (z6n L m q9):=by
 rintro H19 o h
 unfold z6n at h
 try dsimp only at h
 refine WS.sq (WS.sq ?_)
 refine WS.dr [0,1,2,3,4,5,6,7] [0,1,3,7,0,16,48,112,240,511] 10 (fun hcl=>?_)
 refine DA.tK 0 (some 37) (Value.pointer (some q9)) (DA.tK 1 (some 38) (Value.pointer (some q9)) (DA.tK 2 (some 39) (Value.pointer (some (Addr.add q9 4))) ?_))
 obtain ⟨x20,hx,h⟩:=bind_some h
 refine DA.tD 3 (some 40) (Value.int .i64 x20) (Abs.det_load (t:=3) (x:=.tmp 39) (a:=(Addr.add q9 4)) (by kernel_rfl) (by kernel_rfl) (by kernel_rfl) (by kernel_rfl) (z1 hx z4)) (DA.tK 4 (some 41) (Value.pointer (some q9)) (DA.tK 5 (some 42) (Value.pointer (some q9)) (DA.tK 6 (some 43) (Value.pointer (some (Addr.add q9 3))) ?_)))
 obtain ⟨x21,hx,h⟩:=bind_some h
 refine DA.tD 7 (some 44) (Sl3.v x21) (Abs.det_load (t:=28) (x:=.tmp 43) (a:=(Addr.add q9 3)) (by kernel_rfl) (by kernel_rfl) (by kernel_rfl) (by kernel_rfl) (z1 hx z3)) (DA.on 8 (DA.aHj (H':=H19) 8 (some 45) false (Value.int .i64 (x21.n:Int)) (by kernel_rfl) (DA.tP 9 (some 46) (Value.bool (decide (x20<(x21.n:Int)))) (DA.dn (WS.nxt ?_)))))
 rcases z0 h with ⟨hp,h⟩ | ⟨hp,h⟩
 ·refine WS.fx 46 true (decide_eq_true hp) (WS.cT (WS.sk (WS.nxt (WS.bk 5 (WS.sq ?_)))))
  refine WS.dr [0,1,2,3,4,5,6,7,8,9] [0,1,3,7,0,16,48,112,255,511,1023] 11 (fun hcl=>?_)
  refine DA.tK 0 (some 47) (Value.pointer (some q9)) (DA.tK 1 (some 48) (Value.pointer (some q9)) (DA.tK 2 (some 49) (Value.pointer (some (Addr.add q9 3))) ?_))
  obtain ⟨x22,hx,h⟩:=bind_some h
  refine DA.tD 3 (some 50) (Sl3.v x22) (Abs.det_load (t:=28) (x:=.tmp 49) (a:=(Addr.add q9 3)) (by kernel_rfl) (by kernel_rfl) (by kernel_rfl) (by kernel_rfl) (z1 hx z3)) (DA.tK 4 (some 51) (Value.pointer (some q9)) (DA.tK 5 (some 52) (Value.pointer (some q9)) (DA.tK 6 (some 53) (Value.pointer (some (Addr.add q9 4))) ?_)))
  obtain ⟨x23,hx,h⟩:=bind_some h
  refine DA.tD 7 (some 54) (Value.int .i64 x23) (Abs.det_load (t:=3) (x:=.tmp 53) (a:=(Addr.add q9 4)) (by kernel_rfl) (by kernel_rfl) (by kernel_rfl) (by kernel_rfl) (z1 hx z4)) ?_
  obtain ⟨p24,hx,h⟩:=bind_some h
  refine DA.tD 8 (some 55) (Value.pointer (some p24)) (Abs.det_idx (s:=x22) (k:=.i64) (t:=28) (e:=3) (x:=.tmp 50) (y:=.tmp 54) (by kernel_rfl) (by kernel_rfl) (by kernel_rfl) (by kernel_rfl) (by kernel_rfl) hx) ?_
  obtain ⟨x25,hx,h⟩:=bind_some h
  refine DA.tD 9 (some 56) (Value.int .i64 x25) (Abs.det_load (t:=3) (x:=.tmp 55) (a:=p24) (by kernel_rfl) (by kernel_rfl) (by kernel_rfl) (by kernel_rfl) (z1 hx z4)) (DA.tP 10 (some 9) (Value.int .i64 x25) (DA.dn (WS.nxt (WS.sq (WS.rg (RS.mS 3 [(59,.val (Value.pointer (some (Addr.add q9 4)))),kP 58 q9,kP 57 q9] ?_))))))
  obtain ⟨x26,hx,h⟩:=bind_some h
  refine RS.ld 60 3 (.tmp 59) (z1 hx z4) (RS.mS 3 [(63,.val (Value.pointer (some (Addr.add q9 4)))),kP 62 q9,kI 61 (IntKind.i64.wrap (x26+1))] ?_)
  obtain ⟨H27,hx,h⟩:=bind_some h
  refine RS.o (H':=H27) none undef (Abs.run_store1 (t:=3) (x:=.tmp 63) (y:=.tmp 61) (a:=(Addr.add q9 4)) (v:=(Value.int .i64 (IntKind.i64.wrap (x26+1)))) (by kernel_rfl) (by kernel_rfl) (by kernel_rfl) (by kernel_rfl) (by kernel_rfl) hx) (RS.dn (WS.nxt (WS.sq ?_)))
  refine WS.dr [0,1,2,3] [0,1,3,7,0,16,48,127,255,511,0] 11 (fun hcl=>?_)
  refine DA.tK 0 (some 64) (Value.pointer (some q9)) (DA.tK 1 (some 65) (Value.pointer (some q9)) (DA.tK 2 (some 66) (Value.pointer (some (Addr.add q9 2))) ?_))
  obtain ⟨x28,hx,h⟩:=bind_some h
  refine DA.tD 3 (some 67) (Sl3.v x28) (Abs.det_load (t:=44) (x:=.tmp 66) (a:=(Addr.add q9 2)) (by kernel_rfl) (by kernel_rfl) (by kernel_rfl) (by kernel_rfl) (z1 hx z3)) (DA.tP 4 (some 68) (Value.int .i64 x25) (DA.tP 10 (some 74) (Value.int .i64 0) (DA.on 5 (DA.aHj (H':=H27) 5 (some 69) true (Value.int .i64 (IntKind.i64.wrap (0 - x25))) (by kernel_rfl) ?_))))
  obtain ⟨x29,hx,h⟩:=bind_some h
  refine DA.on 6 (DA.aCj 6 (some 70) false (v:=(Value.int .i64 x29)) 84 #[(Value.int .i64 (IntKind.i64.wrap (0 - x25)))] (zm6 hx) ?_)
  obtain ⟨p30,hx,h⟩:=bind_some h
  refine DA.tPx 7 (some 71) (Value.pointer (some p30)) (Abs.det_idx (s:=x28) (k:=.i64) (t:=44) (e:=28) (x:=.tmp 67) (y:=.tmp 70) (by kernel_rfl) (by kernel_rfl) (by kernel_rfl) (by kernel_rfl) (by kernel_rfl) hx) ?_
  obtain ⟨x31,hx,h⟩:=bind_some h
  refine DA.on 8 (DA.aH (H':=H27) 8 (some 72) (Sl3.v x31) (Abs.run_load (t:=28) (x:=.tmp 71) (a:=p30) (by kernel_rfl) (by kernel_rfl) (by kernel_rfl) (z1 hx z3)) (DA.tP 9 (some 73) (Value.int .i64 (x31.n:Int)) (DA.dn (WS.nxt (WS.bk 6 ?_)))))
  obtain ⟨o,hl,h⟩:=bind_some h
  rcases o with ⟨H41,v74_42⟩ | r
  ·try dsimp only at h
   refine WS.lI (z9d (L:=L) (E:=E) (m:=m) (H:=H)) (L.ok hl) 0 ?_
   clear hl
   cases h
   exact fun a w hs=>bkE (bkN (lsN rfl (hs.sb 0)))
  ·try dsimp only at h
   refine WS.lR (z9d (L:=L) (E:=E) (m:=m) (H:=H)) (L.ok hl) 0 ?_
   cases h
   exact fun a w hq=>bkR (bkR (lsR rfl hq))
 ·refine WS.fx 46 false (decide_eq_false hp) (WS.cF (WS.ex 4 ?_))
  cases h
  exact fun a w hs=>sqE (lsB rfl (hs.sb 0))
theorem zng {L:LC} {m:Nat} {H:AH} {a0:Option Addr} {a1:Sl3} {r:(Bool×AH)} (h:zbs L m H a0 a1=some r) :
  CallS Tryz.prog (NE.plain 258) m 48 #[(Value.pointer a0),(Sl3.v a1)] H (z23 r) (z2g H r):=by
 refine CallS.mk (args:=[(Value.pointer a0),(Sl3.v a1)]) Tryz.func48 (B:=B48) (by kernel_rfl) (fun E _=>?_)
 unfold zbs at h
 refine WS.sq (WS.rg (RS.mS 1 [kB 4 false] (RS.dn (WS.nxt (WS.sq (WS.sq (WS.rg (RS.mS 3 [kI 14 0,kI 13 (a1.n:Int),kS 12 a1] (RS.dn ?_)))))))))
 refine WS.nxt (WS.bk 0 ?_)
 obtain ⟨o,hl,h⟩:=bind_some h
 rcases o with ⟨H7,v14_8⟩ | r
 ·try dsimp only at h
  refine WS.lI (za7 (L:=L) (E:=E) (m:=m) (H:=H)) (L.ok hl) 0 ?_
  clear hl
  refine fun a w hs=>bkE ((WS.nxt ?_ a w hs))
  refine WS.sq (WS.sq (WS.rg (RS.mS 1 [(23,.val (Value.pointer a0))] ?_)))
  obtain ⟨q9,hx,hq9⟩:=bind_some h
  subst hx
  have h:=hq9
  refine RS.mS 2 [(25,.val (Value.pointer (some (Addr.add q9 1)))),kP 24 q9] ?_
  obtain ⟨x10,hx,h⟩:=bind_some h
  refine RS.ld 26 44 (.tmp 25) (z1 hx z3) (RS.mS 2 [kI 28 0,kI 27 (x10.n:Int)] (RS.dn (WS.nxt (WS.bk 2 ?_))))
  obtain ⟨o,hl,h⟩:=bind_some h
  rcases o with ⟨H17,v28_18⟩ | r
  ·try dsimp only at h
   refine WS.lI (za8 (L:=L) (E:=E) (m:=m) (H:=H)) (L.ok hl) 0 ?_
   clear hl
   refine fun a w hs=>bkE ((WS.nxt ?_ a w hs))
   refine WS.sq (WS.bk 4 ?_)
   obtain ⟨o,hl,h⟩:=bind_some h
   rcases o with H43 | r
   ·try dsimp only at h
    refine WS.lI (z9k (L:=L) (E:=E) (m:=m) (H:=H)) (L.ok hl) 0 ?_
    clear hl
    refine fun a w hs=>bkE ((WS.nxt ?_ a w hs))
    refine WS.sq (WS.rg (RS.mS 1 [kB 4 true] (RS.dn (WS.nxt (WS.rt ?_)))))
    cases h
    exact fun a w hs=>rtR (rS hs)
   ·try dsimp only at h
    refine WS.lR (z9k (L:=L) (E:=E) (m:=m) (H:=H)) (L.ok hl) 0 ?_
    cases h
    exact fun a w hq=>bkR (sqR (rtR hq))
  ·try dsimp only at h
   refine WS.lR (za8 (L:=L) (E:=E) (m:=m) (H:=H)) (L.ok hl) 0 ?_
   cases h
   exact fun a w hq=>bkR (sqR (rtR hq))
 ·try dsimp only at h
  refine WS.lR (za7 (L:=L) (E:=E) (m:=m) (H:=H)) (L.ok hl) 0 ?_
  cases h
  exact fun a w hq=>bkR (sqR (rtR hq))
noncomputable def B155:Code:=(Tryz.f155.body).getD .skip
def z69:AH→Value
 | _=>(Value.tuple #[])
def z6p (_:AH):AH→AH:=fun r=>r
noncomputable def z1e (L:LC):Nat→FuncId→Array Value→AH→Option (Value×AH) :=
 orN
noncomputable def z30 (L:LC) (m:Nat) (H:AH) (a0:Sl3) (a1 a2:Int):Option AH :=
 byRun Tryz.prog 258 (z1e L) m 155 #[(Sl3.v a0),(Value.int .i64 a1),(Value.int .i64 a2),(Value.func (.func 50) #[] #[])] H (dcT dcN) fun _ H2=>H2
theorem z7c {L:LC}:OrOK Tryz.prog (NE.plain 258) (z1e L):=by
 unfold z1e
 exact orN_ok
theorem z73 {L:LC} {m:Nat} {H:AH} {a0:Sl3} {a1 a2:Int} {r:AH} (h:z30 L m H a0 a1 a2=some r) :
  CallS Tryz.prog (NE.plain 258) m 155 #[(Sl3.v a0),(Value.int .i64 a1),(Value.int .i64 a2),(Value.func (.func 50) #[] #[])] H (z69 r) (z6p H r):=by
 obtain ⟨_,H2,rfl,hc⟩:=zea z7c Tryz.func155 (show Tryz.f155.body=some B155 by kernel_rfl) h
 exact hc
noncomputable def B87:Code:=(Tryz.f87.body).getD .skip
def zy:AH→Value
 | _=>(Value.tuple #[])
def z13 (_:AH):AH→AH:=fun r=>r
noncomputable def z1t (L:LC) (m:Nat) (a0:Sl3):(AH×Int×Int×Int×Bool×Bool)→Option (Lp (AH×Int×Int×Int×Bool×Bool) AH):=fun (H1,v1_2,v2_3,_,_,_) =>
 if (IntKind.i64.wrap (v2_3 - v1_2))≤12 then
  Option.bind (z30 L m H1 a0 v1_2 v2_3) fun H7 =>
  some (.ret H7)
 else
  none
def z91 (_L:LC) (_m:Nat) (a0:Sl3):(AH×Int×Int×Int×Bool×Bool)→KN×Lcs:=fun (_,v1_2,v2_3,v3_4,v10_5,v11_6)=>([kI 1 v1_2,kI 2 v2_3,kI 3 v3_4,kB 10 v10_5,kB 11 v11_6,kS 0 a0,(4,.val (Value.func (.func 50) #[] #[]))],[])
noncomputable def z1f (L:LC) (m:Nat) (H:AH) (a0:Sl3) (a1 a2 a3:Int):Option AH :=
 Option.bind (L.run (z1t L m a0) (H,a1,a2,a3,true,true)) fun o=>match o with
 | .inl (H8,_,_,_,_,_) =>
  some H8
 | .inr r=>some r
noncomputable def z3r (L:LC) (n:Nat):(Nat→AH→Sl3→Int→Int→Int→Option AH):=Nat.rec (motive:=fun _=>(Nat→AH→Sl3→Int→Int→Int→Option AH)) (fun _ _ _ _ _ _=>none) (fun _ _=>z1f L) n
noncomputable def z5c (L:LC) (m:Nat) (H:AH) (a0:Sl3) (a1 a2 a3:Int):Option AH:=(z3r L L.fuel) m H a0 a1 a2 a3
theorem z2y {E H L m a0} :LoopF Tryz.prog (NE.plain 258) m E Tryz.f87 ((cfst (csnd (csnd B87)))) (z91 L m a0) (fun s=>s.1) 0 zy (z13 H) (z1t L m a0):=by
 rintro ⟨H1,v1_2,v2_3,v3_4,v10_5,v11_6⟩ o h
 unfold z1t at h
 try dsimp only at h
 refine WS.bk 1 (WS.sq (WS.rg (RS.mS 4 [kI 12 (IntKind.i64.wrap (v2_3 - v1_2)),kI 23 (IntKind.i64.wrap (v2_3 - v1_2)),kI 22 v1_2,kI 21 v2_3] (RS.dn (WS.nxt (WS.sq (WS.sq (WS.rg (RS.mS 2 [kB 25 (decide ((IntKind.i64.wrap (v2_3 - v1_2))≤12)),kI 24 (IntKind.i64.wrap (v2_3 - v1_2))] ?_)))))))))
 refine RS.dn (WS.nxt ?_)
 rcases z0 h with ⟨hp,h⟩ | ⟨hp,h⟩
 ·refine WS.fx 25 true (decide_eq_true hp) (WS.cT (WS.sq (WS.rg (RS.mS 4 [(29,.val (Value.func (.func 50) #[] #[])),kI 28 v2_3,kI 27 v1_2,kS 26 a0] ?_))))
  obtain ⟨H7,hx,h⟩:=bind_some h
  refine RS.cl (some 30) (v:=(Value.tuple #[])) 155 #[(Sl3.v a0),(Value.int .i64 v1_2),(Value.int .i64 v2_3),(Value.func (.func 50) #[] #[])] (z73 hx) (RS.dn (WS.nxt (WS.rt ?_)))
  cases h
  exact fun a w hs=>sqR (bkR (lsR rfl (rS hs)))
 ·refine WS.fx 25 false (decide_eq_false hp) (WS.cF ?_)
  cases h
theorem z7n {L:LC} {m:Nat} {H:AH} {a0:Sl3} {a1 a2 a3:Int} {r:AH} (h:z1f L m H a0 a1 a2 a3=some r) :
  CallS Tryz.prog (NE.plain 258) m 87 #[(Sl3.v a0),(Value.int .i64 a1),(Value.int .i64 a2),(Value.int .i64 a3),(Value.func (.func 50) #[] #[])] H (zy r) (z13 H r):=by
 refine CallS.mk (args:=[(Sl3.v a0),(Value.int .i64 a1),(Value.int .i64 a2),(Value.int .i64 a3),(Value.func (.func 50) #[] #[])]) Tryz.func87 (B:=B87) (by kernel_rfl) (fun E _=>?_)
 unfold z1f at h
 refine WS.sq (WS.rg (RS.mS 1 [kB 10 true] (RS.dn (WS.nxt (WS.sq (WS.rg (RS.mS 1 [kB 11 true] (RS.dn (WS.nxt ?_)))))))))
 refine WS.bk 0 ?_
 obtain ⟨o,hl,h⟩:=bind_some h
 rcases o with ⟨H8,v1_9,v2_10,v3_11,v10_12,v11_13⟩ | r
 ·try dsimp only at h
  refine WS.lI (z2y (L:=L) (E:=E) (m:=m) (H:=H)) (L.ok hl) 0 ?_
  clear hl
  cases h
  exact fun a w hs=>bkE (rtN (rS hs))
 ·try dsimp only at h
  refine WS.lR (z2y (L:=L) (E:=E) (m:=m) (H:=H)) (L.ok hl) 0 ?_
  cases h
  exact fun a w hq=>bkR (rtR hq)
theorem z8c {L:LC}:∀n,(∀(m:Nat) (H:AH) (a0:Sl3) (a1 a2 a3:Int) (r:AH),((z3r L n)) m H a0 a1 a2 a3=some r→CallS Tryz.prog (NE.plain 258) m 87 #[(Sl3.v a0),(Value.int .i64 a1),(Value.int .i64 a2),(Value.int .i64 a3),(Value.func (.func 50) #[] #[])] H (zy r) (z13 H r)):=by
 intro n
 induction n with
 | zero=>exact (fun _ _ _ _ _ _ _ h=>(Option.some_ne_none _ h.symm).elim)
 | succ n ih=>exact (fun _ _ _ _ _ _ _ h=>z7n (L:=L)  h)
theorem zay {L:LC} {m:Nat} {H:AH} {a0:Sl3} {a1 a2 a3:Int} {r:AH} (h:z5c L m H a0 a1 a2 a3=some r) :
  CallS Tryz.prog (NE.plain 258) m 87 #[(Sl3.v a0),(Value.int .i64 a1),(Value.int .i64 a2),(Value.int .i64 a3),(Value.func (.func 50) #[] #[])] H (zy r) (z13 H r) :=
 (z8c _) _ _ _ _ _ _ _ h
noncomputable def B164:Code:=(Tryz.f164.body).getD .skip
def zqm:Int→Value
 | r0=>(Value.int .i64 r0)
def zs2 (H:AH):Int→AH:=fun _=>H
noncomputable def zjb (_L:LC) (a0:Int):Option Int :=
 if a0≥4294967296 then
  none
 else
  if a0≥65536 then
   none
  else
   if a0≥256 then
    none
   else
    Option.bind (bytA (⟨#[0,1,2,2,3,3,3,3,4,4,4,4,4,4,4,4,5,5,5,5,5,5,5,5,5,5,5,5,5,5,5,5,6,6,6,6,6,6,6,6,6,6,6,6,6,6,6,6,6,6,6,6,6,6,6,6,6,6,6,6,6,6,6,6,7,7,7,7,7,7,7,7,7,7,7,7,7,7,7,7,7,7,7,7,7,7,7,7,7,7,7,7,7,7,7,7,7,7,7,7,7,7,7,7,7,7,7,7,7,7,7,7,7,7,7,7,7,7,7,7,7,7,7,7,7,7,7,7,8,8,8,8,8,8,8,8,8,8,8,8,8,8,8,8,8,8,8,8,8,8,8,8,8,8,8,8,8,8,8,8,8,8,8,8,8,8,8,8,8,8,8,8,8,8,8,8,8,8,8,8,8,8,8,8,8,8,8,8,8,8,8,8,8,8,8,8,8,8,8,8,8,8,8,8,8,8,8,8,8,8,8,8,8,8,8,8,8,8,8,8,8,8,8,8,8,8,8,8,8,8,8,8,8,8,8,8,8,8,8,8,8,8,8,8,8,8,8,8,8,8,8,8,8,8,8,8]⟩:ByteArray) (IntKind.u8.wrap a0)) fun x1 =>
    some (IntKind.i64.wrap (0+(IntKind.i64.wrap x1)))
theorem zs8 {L:LC} {m:Nat} {H:AH} {a0 r:Int} (h:zjb L a0=some r) :
  CallS Tryz.prog (NE.plain 258) m 164 #[(Value.int .u64 a0)] H (zqm r) (zs2 H r):=by
 refine CallS.mk (args:=[(Value.int .u64 a0)]) Tryz.func164 (B:=B164) (by kernel_rfl) (fun E _=>?_)
 unfold zjb at h
 refine WS.sq (WS.rg (RS.mS 1 [kI 2 0] (RS.dn (WS.nxt (WS.sq (WS.sq (WS.rg (RS.mS 2 [kB 4 (decide (a0≥4294967296)),(3,.val (Value.int .u64 a0))] (RS.dn ?_)))))))))
 refine WS.nxt ?_
 rcases z0 h with ⟨hp,h⟩ | ⟨hp,h⟩
 ·refine WS.fx 4 true (decide_eq_true hp) (WS.cT ?_)
  cases h
 ·refine WS.fx 4 false (decide_eq_false hp) (WS.cF (WS.sk (WS.nxt (WS.sq (WS.sq (WS.rg (RS.mS 2 [kB 8 (decide (a0≥65536)),(7,.val (Value.int .u64 a0))] (RS.dn (WS.nxt ?_)))))))))
  rcases z0 h with ⟨hp,h⟩ | ⟨hp,h⟩
  ·refine WS.fx 8 true (decide_eq_true hp) (WS.cT ?_)
   cases h
  ·refine WS.fx 8 false (decide_eq_false hp) (WS.cF (WS.sk (WS.nxt (WS.sq (WS.sq (WS.rg (RS.mS 2 [kB 14 (decide (a0≥256)),(13,.val (Value.int .u64 a0))] (RS.dn (WS.nxt ?_)))))))))
   rcases z0 h with ⟨hp,h⟩ | ⟨hp,h⟩
   ·refine WS.fx 14 true (decide_eq_true hp) (WS.cT ?_)
    cases h
   ·refine WS.fx 14 false (decide_eq_false hp) (WS.cF (WS.sk (WS.nxt (WS.sq (WS.rg (RS.mS 3 [(21,.val (Value.int .u8 (IntKind.u8.wrap a0))),(20,.val (Value.int .u64 a0)),kI 19 0] ?_))))))
    obtain ⟨x1,hx,h⟩:=bind_some h
    refine RS.o (H':=H) (some 22) (Value.int .u8 x1) (Abs.run_byt (t:=9) (x:=.const (Value.string (⟨#[0,1,2,2,3,3,3,3,4,4,4,4,4,4,4,4,5,5,5,5,5,5,5,5,5,5,5,5,5,5,5,5,6,6,6,6,6,6,6,6,6,6,6,6,6,6,6,6,6,6,6,6,6,6,6,6,6,6,6,6,6,6,6,6,7,7,7,7,7,7,7,7,7,7,7,7,7,7,7,7,7,7,7,7,7,7,7,7,7,7,7,7,7,7,7,7,7,7,7,7,7,7,7,7,7,7,7,7,7,7,7,7,7,7,7,7,7,7,7,7,7,7,7,7,7,7,7,7,8,8,8,8,8,8,8,8,8,8,8,8,8,8,8,8,8,8,8,8,8,8,8,8,8,8,8,8,8,8,8,8,8,8,8,8,8,8,8,8,8,8,8,8,8,8,8,8,8,8,8,8,8,8,8,8,8,8,8,8,8,8,8,8,8,8,8,8,8,8,8,8,8,8,8,8,8,8,8,8,8,8,8,8,8,8,8,8,8,8,8,8,8,8,8,8,8,8,8,8,8,8,8,8,8,8,8,8,8,8,8,8,8,8,8,8,8,8,8,8,8,8,8,8,8,8,8,8]⟩:ByteArray))) (y:=.tmp 21) (s:=(⟨#[0,1,2,2,3,3,3,3,4,4,4,4,4,4,4,4,5,5,5,5,5,5,5,5,5,5,5,5,5,5,5,5,6,6,6,6,6,6,6,6,6,6,6,6,6,6,6,6,6,6,6,6,6,6,6,6,6,6,6,6,6,6,6,6,7,7,7,7,7,7,7,7,7,7,7,7,7,7,7,7,7,7,7,7,7,7,7,7,7,7,7,7,7,7,7,7,7,7,7,7,7,7,7,7,7,7,7,7,7,7,7,7,7,7,7,7,7,7,7,7,7,7,7,7,7,7,7,7,8,8,8,8,8,8,8,8,8,8,8,8,8,8,8,8,8,8,8,8,8,8,8,8,8,8,8,8,8,8,8,8,8,8,8,8,8,8,8,8,8,8,8,8,8,8,8,8,8,8,8,8,8,8,8,8,8,8,8,8,8,8,8,8,8,8,8,8,8,8,8,8,8,8,8,8,8,8,8,8,8,8,8,8,8,8,8,8,8,8,8,8,8,8,8,8,8,8,8,8,8,8,8,8,8,8,8,8,8,8,8,8,8,8,8,8,8,8,8,8,8,8,8,8,8,8,8,8]⟩:ByteArray)) (k:=.u8) (i:=(IntKind.u8.wrap a0)) (by kernel_rfl) (by kernel_rfl) (by kernel_rfl) (by kernel_rfl) hx) (RS.mS 3 [kI 2 (IntKind.i64.wrap (0+(IntKind.i64.wrap x1))),kI 24 (IntKind.i64.wrap (0+(IntKind.i64.wrap x1))),kI 23 (IntKind.i64.wrap x1)] (RS.dn (WS.nxt (WS.rt ?_))))
    cases h
    exact fun a w hs=>rtR (rS hs)
noncomputable def B88:Code:=(Tryz.f88.body).getD .skip
def zsy:Int→Value
 | r0=>(Value.int .i64 r0)
def zuo (H:AH):Int→AH:=fun _=>H
noncomputable def zot (L:LC) (a0:Int):Option Int :=
 Option.bind (zjb L a0) fun x1 =>
 some x1
theorem zuc {L:LC} {m:Nat} {H:AH} {a0 r:Int} (h:zot L a0=some r) :
  CallS Tryz.prog (NE.plain 258) m 88 #[(Value.int .u64 a0)] H (zsy r) (zuo H r):=by
 refine CallS.mk (args:=[(Value.int .u64 a0)]) Tryz.func88 (B:=B88) (by kernel_rfl) (fun E _=>?_)
 unfold zot at h
 refine WS.sq (WS.rg (RS.mS 1 [kI 2 0] (RS.dn (WS.nxt (WS.sq (WS.cF (WS.sk (WS.nxt (WS.sq ?_)))))))))
 refine WS.rg (RS.mS 1 [(6,.val (Value.int .u64 a0))] ?_)
 obtain ⟨x1,hx,h⟩:=bind_some h
 refine RS.cl (some 7) (v:=(Value.int .i64 x1)) 164 #[(Value.int .u64 a0)] (zs8 hx) (RS.mS 1 [kI 2 x1] (RS.dn (WS.nxt (WS.rt ?_))))
 cases h
 exact fun a w hs=>rtR (rS hs)
noncomputable def B49:Code:=(Tryz.f49.body).getD .skip
def zfk:AH→Value
 | _=>(Value.tuple #[])
def zhk (_:AH):AH→AH:=fun r=>r
noncomputable def z4z (L:LC) (m:Nat) (H:AH) (a0:Sl3):Option AH :=
 Option.bind (zot L (IntKind.u64.wrap (a0.n:Int))) fun x1 =>
 Option.bind (z5c L m H a0 0 (a0.n:Int) x1) fun H2 =>
 some H2
theorem zhp {L:LC} {m:Nat} {H:AH} {a0:Sl3} {r:AH} (h:z4z L m H a0=some r) :
  CallS Tryz.prog (NE.plain 258) m 49 #[(Sl3.v a0),(Value.func (.func 50) #[] #[])] H (zfk r) (zhk H r):=by
 refine CallS.mk (args:=[(Sl3.v a0),(Value.func (.func 50) #[] #[])]) Tryz.func49 (B:=B49) (by kernel_rfl) (fun E _=>?_)
 unfold z4z at h
 refine WS.sq (WS.rg (RS.mS 3 [kI 4 (a0.n:Int),kI 6 (a0.n:Int),kS 5 a0] (RS.dn (WS.nxt (WS.rg (RS.mS 4 [(10,.val (Value.int .u64 (IntKind.u64.wrap (a0.n:Int)))),kI 9 (a0.n:Int),kI 8 (a0.n:Int),kS 7 a0] ?_))))))
 obtain ⟨x1,hx,h⟩:=bind_some h
 refine RS.cl (some 11) (v:=(Value.int .i64 x1)) 88 #[(Value.int .u64 (IntKind.u64.wrap (a0.n:Int)))] (zuc hx) (RS.mS 1 [(12,.val (Value.func (.func 50) #[] #[]))] ?_)
 obtain ⟨H2,hx,h⟩:=bind_some h
 refine RS.cl (some 13) (v:=(Value.tuple #[])) 87 #[(Sl3.v a0),(Value.int .i64 0),(Value.int .i64 (a0.n:Int)),(Value.int .i64 x1),(Value.func (.func 50) #[] #[])] (zay hx) (RS.dn ?_)
 cases h
 exact fun a w hs=>rtN (rS hs)
end Go.Proofs.YtkecibinbgaedaaGreatDoor
namespace Go.Proofs.YtkecibinbgaedaaGreatDoor
open Go Go.Abs
set_option maxRecDepth 100000
noncomputable def B19:Code:=(Tryz.f19.body).getD .skip
def zdr:(Sl3×Bool×Int×AH)→Value
 | (r0,r1,r2,_)=>(Value.tuple #[(Sl3.v r0),(Value.bool r1),(Value.int .i64 r2)])
def zfj (_:AH):(Sl3×Bool×Int×AH)→AH:=fun r=>r.2.2.2
noncomputable def z7v (L:LC) (m:Nat) (_a0_0:Int) (a0_1 _a1:Sl3) (x5:Option Addr):(AH×Int)→Option (Lp (AH×Int) (Sl3×Bool×Int×AH)):=fun (H7,v28_8) =>
 if v28_8<(a0_1.n:Int) then
  Option.bind (idxA 1 a0_1 v28_8) fun p9 =>
  Option.bind (rd deSl H7 p9) fun x10 =>
  Option.bind (zis L m H7 x5 x10) fun H11 =>
  some (.next (H11,(IntKind.i64.wrap (v28_8+1))))
 else
  some (.brk (H7,v28_8))
def zl7 (_L:LC) (_m:Nat) (a0_0:Int) (a0_1 a1:Sl3) (x5:Option Addr):(AH×Int)→KN×Lcs:=fun (_,v28_8)=>([kI 28 v28_8,kS 1 a1,(8,.val (Value.pointer x5)),kS 26 a0_1,kI 27 (a0_1.n:Int)],[some (90,[(Value.int .i64 a0_0),(Sl3.v a0_1)])])
noncomputable def zd2 (L:LC) (m:Nat) (H:AH) (a0_0:Int) (a0_1 a1:Sl3):Option (Sl3×Bool×Int×AH) :=
 Option.bind (zmn L m H a0_0 a0_1) fun (x1,H2) =>
 if x1=0 then
  Option.bind (zn8 L m H2 a1 a0_0) fun (x3,H4) =>
  if x3=true then
   Option.bind (zd4 L m H4 a0_0) fun (x5,H6) =>
   Option.bind (L.run (z7v L m a0_0 a0_1 a1 x5) (H6,0)) fun o=>match o with
   | .inl (H12,_) =>
    Option.bind (zbs L m H12 x5 a1) fun (x14,H15) =>
    if x14=true then
     Option.bind x5 fun q16 =>
     Option.bind (rd deSl H15 (Addr.add q16 3)) fun x17 =>
     Option.bind (z1k L m H15 x17) fun (x18,H19) =>
     Option.bind (z4z L m H19 x18) fun H20 =>
     some (x18,true,0,H20)
    else
     none
   | .inr r=>some r
  else
   none
 else
  none
theorem zar {E H L m a0_0 a0_1 a1 x5} :LoopF Tryz.prog (NE.plain 258) m E Tryz.f19 ((cfst (csnd (cfst (csnd (csnd (csnd (csnd B19)))))))) (zl7 L m a0_0 a0_1 a1 x5) (fun s=>s.1) 0 zdr (zfj H) (z7v L m a0_0 a0_1 a1 x5):=by
 rintro ⟨H7,v28_8⟩ o h
 unfold z7v at h
 try dsimp only at h
 refine WS.sq (WS.rg (RS.mS 1 [kB 29 (decide (v28_8<(a0_1.n:Int)))] (RS.dn (WS.nxt (WS.sq ?_)))))
 rcases z0 h with ⟨hp,h⟩ | ⟨hp,h⟩
 ·refine WS.fx 29 true (decide_eq_true hp) (WS.cT (WS.sk (WS.nxt (WS.sq (WS.bk 1 (WS.sq (WS.rg ?_)))))))
  obtain ⟨p9,hx,h⟩:=bind_some h
  refine RS.ix 30 44 28 (.tmp 26) (.tmp 28) hx ?_
  obtain ⟨x10,hx,h⟩:=bind_some h
  refine RS.ld 31 28 (.tmp 30) (z1 hx z3) (RS.mS 1 [kS 10 x10] (RS.dn (WS.nxt (WS.rg (RS.mS 2 [kS 33 x10,(32,.val (Value.pointer x5))] ?_)))))
  obtain ⟨H11,hx,h⟩:=bind_some h
  refine RS.cl (some 34) (v:=(Value.tuple #[])) 47 #[(Value.pointer x5),(Sl3.v x10)] (znt hx) (RS.dn ?_)
  refine fun a w hs=>bkN ((WS.nxt ?_ a w hs))
  refine WS.rg (RS.mS 2 [kI 28 (IntKind.i64.wrap (v28_8+1)),kI 35 (IntKind.i64.wrap (v28_8+1))] (RS.dn ?_))
  cases h
  exact fun a w hs=>lsN rfl (hs.sb 1)
 ·refine WS.fx 29 false (decide_eq_false hp) (WS.cF (WS.ex 0 ?_))
  cases h
  exact fun a w hs=>sqE (lsB rfl (hs.sb 1))
theorem zfe {L:LC} {m:Nat} {H:AH} {a0_0:Int} {a0_1 a1:Sl3} {r:(Sl3×Bool×Int×AH)} (h:zd2 L m H a0_0 a0_1 a1=some r) :
  CallS Tryz.prog (NE.plain 258) m 19 #[(Value.agg #[(Value.int .i64 a0_0),(Sl3.v a0_1)]),(Sl3.v a1)] H (zdr r) (zfj H r):=by
 refine CallS.mk (args:=[(Value.agg #[(Value.int .i64 a0_0),(Sl3.v a0_1)]),(Sl3.v a1)]) Tryz.func19 (B:=B19) (by kernel_rfl) (fun E _=>?_)
 unfold zd2 at h
 refine WS.sq (WS.rg (RS.mL 4 [kI 6 0,kB 5 false,kS 4 Sl3.nil,kL 2 0 0] ([some (90,[(Value.int .i64 a0_0),(Sl3.v a0_1)])]) (RS.dn (WS.nxt (WS.sq (WS.sq (WS.rg (RS.mS 1 [kA 12 #[(Value.int .i64 a0_0),(Sl3.v a0_1)]] ?_))))))))
 obtain ⟨⟨x1,H2⟩,hx,h⟩:=bind_some h
 try dsimp only at h
 refine RS.cl (some 13) (v:=(Value.int .i64 x1)) 44 #[(Value.agg #[(Value.int .i64 a0_0),(Sl3.v a0_1)])] (ztf hx) (RS.mS 1 [kI 7 x1] (RS.dn (WS.nxt (WS.sq (WS.rg (RS.mS 2 [kB 15 (!decide (x1=0)),kI 14 x1] (RS.dn (WS.nxt ?_))))))))
 rcases z0 h with ⟨hp,h⟩ | ⟨hp,h⟩
 ·refine WS.fx 15 false (zd hp) (WS.cF (WS.sk (WS.nxt (WS.sq (WS.sq (WS.rg (RS.mS 3 [kI 19 a0_0,kL 18 0 0,kS 17 a1] ?_)))))))
  obtain ⟨⟨x3,H4⟩,hx,h⟩:=bind_some h
  try dsimp only at h
  refine RS.cl (some 20) (v:=(Value.bool x3)) 45 #[(Sl3.v a1),(Value.int .i64 a0_0)] (zq8 hx) (RS.mS 1 [kB 21 (!x3)] (RS.dn (WS.nxt ?_)))
  rcases z0 h with ⟨hp,h⟩ | ⟨hp,h⟩
  ·refine WS.fx 21 false (nb_not hp) (WS.cF (WS.sk (WS.nxt (WS.sq (WS.rg (RS.mS 2 [kI 23 a0_0,kL 22 0 0] ?_))))))
   obtain ⟨⟨x5,H6⟩,hx,h⟩:=bind_some h
   try dsimp only at h
   refine RS.cl (some 24) (v:=(Value.pointer x5)) 46 #[(Value.int .i64 a0_0)] (zp0 hx) (RS.mS 1 [(8,.val (Value.pointer x5))] (RS.dn (WS.nxt (WS.sq (WS.sq (WS.rg (RS.mS 4 [kI 28 0,kI 27 (a0_1.n:Int),kS 26 a0_1,kL 25 0 1] (RS.dn (WS.nxt ?_)))))))))
   refine WS.bk 0 ?_
   obtain ⟨o,hl,h⟩:=bind_some h
   rcases o with ⟨H12,v28_13⟩ | r
   ·try dsimp only at h
    refine WS.lI (zar (L:=L) (E:=E) (m:=m) (H:=H)) (L.ok hl) 1 ?_
    clear hl
    refine fun a w hs=>bkE ((WS.nxt ?_ a w hs))
    refine WS.sq (WS.sq (WS.rg (RS.mS 2 [kS 37 a1,(36,.val (Value.pointer x5))] ?_)))
    obtain ⟨⟨x14,H15⟩,hx,h⟩:=bind_some h
    try dsimp only at h
    refine RS.cl (some 38) (v:=(Value.bool x14)) 48 #[(Value.pointer x5),(Sl3.v a1)] (zng hx) (RS.mS 1 [kB 39 (!x14)] (RS.dn (WS.nxt ?_)))
    rcases z0 h with ⟨hp,h⟩ | ⟨hp,h⟩
    ·refine WS.fx 39 false (nb_not hp) (WS.cF (WS.sk (WS.nxt (WS.sq (WS.rg (RS.mS 1 [(40,.val (Value.pointer x5))] ?_))))))
     obtain ⟨q16,hx,hq16⟩:=bind_some h
     subst hx
     have h:=hq16
     refine RS.mS 2 [(42,.val (Value.pointer (some (Addr.add q16 3)))),kP 41 q16] ?_
     obtain ⟨x17,hx,h⟩:=bind_some h
     refine RS.ld 43 28 (.tmp 42) (z1 hx z3) ?_
     obtain ⟨⟨x18,H19⟩,hx,h⟩:=bind_some h
     try dsimp only at h
     refine RS.cl (some 44) (v:=(Sl3.v x18)) 14 #[(Sl3.v x17)] (zm hx) (RS.mS 1 [kS 11 x18] (RS.dn (WS.nxt (WS.sq (WS.rg (RS.mS 1 [kS 45 x18] ?_))))))
     obtain ⟨H20,hx,h⟩:=bind_some h
     refine RS.cl (some 46) (v:=(Value.tuple #[])) 49 #[(Sl3.v x18),(Value.func (.func 50) #[] #[])] (zhp hx) (RS.dn (WS.nxt (WS.sq (WS.rg (RS.mS 4 [kI 6 0,kB 5 true,kS 4 x18,kS 47 x18] (RS.dn (WS.nxt (WS.rt ?_))))))))
     cases h
     exact fun a w hs=>rtR (rS hs)
    ·refine WS.fx 39 true (zb hp) (WS.cT ?_)
     cases h
   ·try dsimp only at h
    refine WS.lR (zar (L:=L) (E:=E) (m:=m) (H:=H)) (L.ok hl) 1 ?_
    cases h
    exact fun a w hq=>bkR (sqR (rtR hq))
  ·refine WS.fx 21 true (zb hp) (WS.cT ?_)
   cases h
 ·refine WS.fx 15 true (z9 hp) (WS.cT ?_)
  cases h
noncomputable def B20:Code:=(Tryz.f20.body).getD .skip
def zak:(Int×Sl3×AH)→Value
 | (r0,r1,_)=>(Value.agg #[(Value.int .i64 r0),(Sl3.v r1)])
def zcc (_:AH):(Int×Sl3×AH)→AH:=fun r=>r.2.2
noncomputable def z5y (L:LC) (m:Nat) (x4:Sl3):(AH×Int×Int×Sl3)→Option (Lp (AH×Int×Int×Sl3) (Int×Sl3×AH)):=fun (H5,v22_6,w1_7,w1_8) =>
 if v22_6<(x4.n:Int) then
  Option.bind (idxA 1 x4 v22_6) fun p9 =>
  Option.bind (rd deSl H5 p9) fun x10 =>
  Option.bind (z1k L m H5 x10) fun (x11,H12) =>
  Option.bind (newS 28 [(Sl3.v x11)] H12) fun (k13,H14) =>
  Option.bind (appS m 28 1 24 H14 w1_8 (⟨some ⟨k13,0,none⟩,1,1⟩:Sl3)) fun (s15,H16) =>
  some (.next (H16,(IntKind.i64.wrap (v22_6+1)),w1_7,s15))
 else
  some (.brk (H5,v22_6,w1_7,w1_8))
def zih (_L:LC) (_m:Nat) (x4:Sl3):(AH×Int×Int×Sl3)→KN×Lcs:=fun (_,v22_6,w1_7,w1_8)=>([kI 22 v22_6,kL 2 0 0,kL 3 1 0,kS 20 x4,kI 21 (x4.n:Int)],[some (90,[(Value.int .i64 0),(Sl3.v Sl3.nil)]),some (90,[(Value.int .i64 w1_7),(Sl3.v w1_8)])])
noncomputable def z9x (L:LC) (m:Nat) (H:AH) (a0:Option Addr):Option (Int×Sl3×AH) :=
 Option.bind (z18 L H a0) fun x1 =>
 if x1=true then
  Option.bind a0 fun q2 =>
  Option.bind (rd (deI .i64) H (Addr.add (Addr.add q2 0) 0)) fun x3 =>
  Option.bind (rd deSl H (Addr.add (Addr.add q2 0) 1)) fun x4 =>
  Option.bind (L.run (z5y L m x4) (H,0,x3,Sl3.nil)) fun o=>match o with
  | .inl (H17,_,w1_19,w1_20) =>
   some (w1_19,w1_20,H17)
  | .inr r=>some r
 else
  none
theorem z8i {E H L m x4} :LoopF Tryz.prog (NE.plain 258) m E Tryz.f20 ((cfst (csnd (cfst (csnd (csnd (csnd B20))))))) (zih L m x4) (fun s=>s.1) 0 zak (zcc H) (z5y L m x4):=by
 rintro ⟨H5,v22_6,w1_7,w1_8⟩ o h
 unfold z5y at h
 try dsimp only at h
 refine WS.sq (WS.rg (RS.mS 1 [kB 23 (decide (v22_6<(x4.n:Int)))] (RS.dn (WS.nxt (WS.sq ?_)))))
 rcases z0 h with ⟨hp,h⟩ | ⟨hp,h⟩
 ·refine WS.fx 23 true (decide_eq_true hp) (WS.cT (WS.sk (WS.nxt (WS.sq (WS.bk 1 (WS.sq (WS.rg ?_)))))))
  obtain ⟨p9,hx,h⟩:=bind_some h
  refine RS.ix 24 44 28 (.tmp 20) (.tmp 22) hx ?_
  obtain ⟨x10,hx,h⟩:=bind_some h
  refine RS.ld 25 28 (.tmp 24) (z1 hx z3) (RS.mS 1 [kS 5 x10] (RS.dn (WS.nxt ?_)))
  obtain ⟨⟨x11,H12⟩,hx_3,h⟩:=bind_some h
  try dsimp only at h
  obtain ⟨⟨k13,H14⟩,hx_k13,h⟩:=bind_some h
  try dsimp only at h
  obtain ⟨⟨s15,H16⟩,hx_5,h⟩:=bind_some h
  try dsimp only at h
  refine WS.toone ([kL 2 0 0,kL 3 1 0,kS 20 x4,kI 21 (x4.n:Int),kI 22 v22_6]) ([some (90,[(Value.int .i64 0),(Sl3.v Sl3.nil)]),some (90,[(Value.int .i64 w1_7),(Sl3.v s15)]),none]) H16 ?_ ?_
  ·clear h
   refine WS.dr [] [0,1,0,4,12,31,63,127] 8 (fun hcl=>?_)
   refine DA.tPL 0 (some 26) (.loc 1 1) (DA.tP 2 (some 28) (Sl3.v x10) ?_)
   refine DA.two 1 3 (by kernel_rfl) ?_ ?_
   ·refine DA.aL 1 (some 27) (.val (Sl3.v w1_8)) ([some (90,[(Value.int .i64 0),(Sl3.v Sl3.nil)]),some (90,[(Value.int .i64 w1_7),(Sl3.v w1_8)])]) false (DA.on 3 (DA.aC 3 (some 29) (v:=(Sl3.v x11)) 14 #[(Sl3.v x10)] (zm hx_3) (DA.on 4 (DA.actS 4 (some 30) (.sli 2 1) ([some (90,[(Value.int .i64 0),(Sl3.v Sl3.nil)]),some (90,[(Value.int .i64 w1_7),(Sl3.v w1_8)]),some (28,[(Sl3.v x11)])]) (by kernel_rfl) (by kernel_rfl) (by kernel_rfl) hcl (by kernel_rfl) (by kernel_rfl) (by kernel_rfl) (DA.on 5 (DA.pubK 2 _ _ hx_k13 (by kernel_rfl) rfl rfl (DA.aH (H':=H16) 5 (some 31) (Sl3.v s15) (Abs.run_app (x:=.tmp 27) (y:=.tmp 30) (ts:=#[44,44]) (s:=w1_8) (z:=(⟨some ⟨k13,0,none⟩,1,1⟩:Sl3)) (by kernel_rfl) (by kernel_rfl) (by kernel_rfl) (by kernel_rfl) hx_5) (DA.tPL 6 (some 32) (.loc 1 1) (DA.on 7 ?_)))))))))
    refine DA.aL 7 none (.val undef) ([some (90,[(Value.int .i64 0),(Sl3.v Sl3.nil)]),some (90,[(Value.int .i64 w1_7),(Sl3.v s15)]),none]) false (DA.dn ?_)
    exact fun a w hs=>jsN (hs.sb 3)
   ·refine DA.aC 3 (some 29) (v:=(Sl3.v x11)) 14 #[(Sl3.v x10)] (zm hx_3) ?_
    refine DA.two 1 4 (by kernel_rfl) ?_ ?_
    ·refine DA.aL 1 (some 27) (.val (Sl3.v w1_8)) ([some (90,[(Value.int .i64 0),(Sl3.v Sl3.nil)]),some (90,[(Value.int .i64 w1_7),(Sl3.v w1_8)])]) false (DA.on 4 (DA.actS 4 (some 30) (.sli 2 1) ([some (90,[(Value.int .i64 0),(Sl3.v Sl3.nil)]),some (90,[(Value.int .i64 w1_7),(Sl3.v w1_8)]),some (28,[(Sl3.v x11)])]) (by kernel_rfl) (by kernel_rfl) (by kernel_rfl) hcl (by kernel_rfl) (by kernel_rfl) (by kernel_rfl) (DA.on 5 (DA.pubK 2 _ _ hx_k13 (by kernel_rfl) rfl rfl (DA.aH (H':=H16) 5 (some 31) (Sl3.v s15) (Abs.run_app (x:=.tmp 27) (y:=.tmp 30) (ts:=#[44,44]) (s:=w1_8) (z:=(⟨some ⟨k13,0,none⟩,1,1⟩:Sl3)) (by kernel_rfl) (by kernel_rfl) (by kernel_rfl) (by kernel_rfl) hx_5) (DA.tPL 6 (some 32) (.loc 1 1) (DA.on 7 (DA.aL 7 none (.val undef) ([some (90,[(Value.int .i64 0),(Sl3.v Sl3.nil)]),some (90,[(Value.int .i64 w1_7),(Sl3.v s15)]),none]) false (DA.dn ?_)))))))))
     exact fun a w hs=>jsN (hs.sb 3)
    ·refine DA.actS 4 (some 30) (.sli 2 1) ([some (90,[(Value.int .i64 0),(Sl3.v Sl3.nil)]),some (90,[(Value.int .i64 w1_7),(Sl3.v w1_8)]),some (28,[(Sl3.v x11)])]) (by kernel_rfl) (by kernel_rfl) (by kernel_rfl) hcl (by kernel_rfl) (by kernel_rfl) (by kernel_rfl) (DA.on 1 (DA.aL 1 (some 27) (.val (Sl3.v w1_8)) ([some (90,[(Value.int .i64 0),(Sl3.v Sl3.nil)]),some (90,[(Value.int .i64 w1_7),(Sl3.v w1_8)]),some (28,[(Sl3.v x11)])]) false (DA.on 5 (DA.pubK 2 _ _ hx_k13 (by kernel_rfl) rfl rfl (DA.aH (H':=H16) 5 (some 31) (Sl3.v s15) (Abs.run_app (x:=.tmp 27) (y:=.tmp 30) (ts:=#[44,44]) (s:=w1_8) (z:=(⟨some ⟨k13,0,none⟩,1,1⟩:Sl3)) (by kernel_rfl) (by kernel_rfl) (by kernel_rfl) (by kernel_rfl) hx_5) (DA.tPL 6 (some 32) (.loc 1 1) (DA.on 7 (DA.aL 7 none (.val undef) ([some (90,[(Value.int .i64 0),(Sl3.v Sl3.nil)]),some (90,[(Value.int .i64 w1_7),(Sl3.v s15)]),none]) false (DA.dn ?_)))))))))
     exact fun a w hs=>jsN (hs.sb 3)
  ·refine fun a w hs=>bkN ((WS.nxt ?_ a w hs))
   refine WS.rg (RS.mS 2 [kI 22 (IntKind.i64.wrap (v22_6+1)),kI 33 (IntKind.i64.wrap (v22_6+1))] (RS.dn ?_))
   cases h
   exact fun a w hs=>lsN rfl (hs.sb 2)
 ·refine WS.fx 23 false (decide_eq_false hp) (WS.cF (WS.ex 0 ?_))
  cases h
  exact fun a w hs=>sqE (lsB rfl (hs.sb 2))
theorem zc8 {L:LC} {m:Nat} {H:AH} {a0:Option Addr} {r:(Int×Sl3×AH)} (h:z9x L m H a0=some r) :
  CallS Tryz.prog (NE.plain 258) m 20 #[(Value.pointer a0)] H (zak r) (zcc H r):=by
 refine CallS.mk (args:=[(Value.pointer a0)]) Tryz.func20 (B:=B20) (by kernel_rfl) (fun E _=>?_)
 unfold z9x at h
 refine WS.sq (WS.rg (RS.mL 1 [kL 2 0 0] ([some (90,[(Value.int .i64 0),(Sl3.v Sl3.nil)])]) (RS.dn (WS.nxt (WS.sq (WS.sq (WS.rg (RS.mS 1 [(6,.val (Value.pointer a0))] ?_))))))))
 obtain ⟨x1,hx,h⟩:=bind_some h
 refine RS.cl (some 7) (v:=(Value.bool x1)) 27 #[(Value.pointer a0)] (z1p hx) (RS.mS 1 [kB 8 (!x1)] (RS.dn (WS.nxt ?_)))
 rcases z0 h with ⟨hp,h⟩ | ⟨hp,h⟩
 ·refine WS.fx 8 false (nb_not hp) (WS.cF (WS.sk (WS.nxt (WS.sq (WS.rg (RS.mS 1 [(10,.val (Value.pointer a0))] ?_))))))
  obtain ⟨q2,hx,hq2⟩:=bind_some h
  subst hx
  have h:=hq2
  refine RS.mS 3 [(13,.val (Value.pointer (some (Addr.add (Addr.add q2 0) 0)))),(12,.val (Value.pointer (some (Addr.add q2 0)))),kP 11 q2] ?_
  obtain ⟨x3,hx,h⟩:=bind_some h
  refine RS.ld 14 3 (.tmp 13) (z1 hx z4) (RS.mL 3 [kL 3 1 0,kA 15 #[(Value.int .i64 x3),(Sl3.v Sl3.nil)]] ([some (90,[(Value.int .i64 0),(Sl3.v Sl3.nil)]),some (90,[(Value.int .i64 x3),(Sl3.v Sl3.nil)])]) (RS.dn (WS.nxt (WS.sq (WS.sq (WS.rg (RS.mS 4 [(19,.val (Value.pointer (some (Addr.add (Addr.add q2 0) 1)))),(18,.val (Value.pointer (some (Addr.add q2 0)))),kP 17 q2,kP 16 q2] ?_)))))))
  obtain ⟨x4,hx,h⟩:=bind_some h
  refine RS.ld 20 44 (.tmp 19) (z1 hx z3) (RS.mS 2 [kI 22 0,kI 21 (x4.n:Int)] (RS.dn (WS.nxt (WS.bk 0 ?_))))
  obtain ⟨o,hl,h⟩:=bind_some h
  rcases o with ⟨H17,v22_18,w1_19,w1_20⟩ | r
  ·try dsimp only at h
   refine WS.lI (z8i (L:=L) (E:=E) (m:=m) (H:=H)) (L.ok hl) 2 ?_
   clear hl
   refine fun a w hs=>bkE ((WS.nxt ?_ a w hs))
   refine WS.sq (WS.rg (RS.mL 2 [kA 34 #[(Value.int .i64 w1_19),(Sl3.v w1_20)]] ([some (90,[(Value.int .i64 w1_19),(Sl3.v w1_20)]),some (90,[(Value.int .i64 w1_19),(Sl3.v w1_20)])]) (RS.dn (WS.nxt (WS.rt ?_)))))
   cases h
   exact fun a w hs=>rtR (rS hs)
  ·try dsimp only at h
   refine WS.lR (z8i (L:=L) (E:=E) (m:=m) (H:=H)) (L.ok hl) 2 ?_
   cases h
   exact fun a w hq=>bkR (sqR (rtR hq))
 ·refine WS.fx 8 true (zb hp) (WS.cT ?_)
  cases h
noncomputable def B21:Code:=(Tryz.f21.body).getD .skip
def zkp:Bool→Value
 | r0=>(Value.bool r0)
def zn0 (H:AH):Bool→AH:=fun _=>H
noncomputable def zf3 (_L:LC) (H:AH) (a0:Sl3) (a1:Int):Int→Option (Lp Int Bool):=fun v5_1 =>
 if v5_1<(a0.n:Int) then
  Option.bind (idxA 1 a0 v5_1) fun p2 =>
  Option.bind (rd (deI .i64) H p2) fun x3 =>
  if x3=a1 then
   some (.ret true)
  else
   some (.next (IntKind.i64.wrap (v5_1+1)))
 else
  none
def zqa (_L:LC) (_H:AH) (a0:Sl3) (a1:Int):Int→KN×Lcs:=fun v5_1=>([kI 5 v5_1,kS 0 a0,kI 1 a1],[])
noncomputable def zg6 (L:LC) (H:AH) (a0:Sl3) (a1:Int):Option Bool :=
 Option.bind (L.run (zf3 L H a0 a1) 0) fun o=>match o with
 | .inl _ =>
  some false
 | .inr r=>some r
theorem zgc {E m L H a0 a1} :LoopF Tryz.prog (NE.plain 258) m E Tryz.f21 ((cfst (csnd (cfst (csnd B21))))) (zqa L H a0 a1) (fun _=>H) 0 zkp (zn0 H) (zf3 L H a0 a1):=by
 rintro v5_1 o h
 unfold zf3 at h
 try dsimp only at h
 refine WS.sq (WS.sq (WS.rg (RS.mS 4 [kB 9 (decide (v5_1<(a0.n:Int))),kI 8 (a0.n:Int),kS 7 a0,kI 6 v5_1] (RS.dn (WS.nxt ?_)))))
 rcases z0 h with ⟨hp,h⟩ | ⟨hp,h⟩
 ·refine WS.fx 9 true (decide_eq_true hp) (WS.cT (WS.sk (WS.nxt (WS.sq (WS.bk 1 (WS.sq (WS.rg (RS.mS 2 [kI 13 v5_1,kS 12 a0] ?_))))))))
  obtain ⟨p2,hx,h⟩:=bind_some h
  refine RS.ix 14 28 3 (.tmp 12) (.tmp 13) hx ?_
  obtain ⟨x3,hx,h⟩:=bind_some h
  refine RS.ld 15 3 (.tmp 14) (z1 hx z4) (RS.mS 2 [kB 17 (decide (x3=a1)),kI 16 a1] (RS.dn (WS.nxt ?_)))
  rcases z0 h with ⟨hp,h⟩ | ⟨hp,h⟩
  ·refine WS.fx 17 true (decide_eq_true hp) (WS.cT (WS.sq (WS.rg (RS.mS 1 [kB 4 true] (RS.dn (WS.nxt (WS.rt ?_)))))))
   cases h
   exact fun a w hs=>bkR (sqR (lsR rfl (rS hs)))
  ·refine WS.fx 17 false (decide_eq_false hp) (WS.cF (WS.sk ?_))
   refine fun a w hs=>bkN ((WS.nxt ?_ a w hs))
   refine WS.rg (RS.mS 3 [kI 5 (IntKind.i64.wrap (v5_1+1)),kI 11 (IntKind.i64.wrap (v5_1+1)),kI 10 v5_1] (RS.dn ?_))
   cases h
   exact fun a w hs=>lsN rfl (hs.sb 0)
 ·refine WS.fx 9 false (decide_eq_false hp) (WS.cF ?_)
  cases h
theorem zn4 {L:LC} {m:Nat} {H:AH} {a0:Sl3} {a1:Int} {r:Bool} (h:zg6 L H a0 a1=some r) :
  CallS Tryz.prog (NE.plain 258) m 21 #[(Sl3.v a0),(Value.int .i64 a1)] H (zkp r) (zn0 H r):=by
 refine CallS.mk (args:=[(Sl3.v a0),(Value.int .i64 a1)]) Tryz.func21 (B:=B21) (by kernel_rfl) (fun E _=>?_)
 unfold zg6 at h
 refine WS.sq (WS.rg (RS.mS 1 [kB 4 false] (RS.dn (WS.nxt (WS.sq (WS.sq (WS.rg (RS.mS 1 [kI 5 0] (RS.dn ?_)))))))))
 refine WS.nxt (WS.bk 0 ?_)
 obtain ⟨o,hl,h⟩:=bind_some h
 rcases o with v5_4 | r
 ·try dsimp only at h
  refine WS.lI (zgc (L:=L) (E:=E) (m:=m) (H:=H)) (L.ok hl) 0 ?_
  clear hl
  refine fun a w hs=>bkE ((WS.nxt ?_ a w hs))
  refine WS.sq (WS.rg (RS.mS 1 [kB 4 false] (RS.dn (WS.nxt (WS.rt ?_)))))
  cases h
  exact fun a w hs=>rtR (rS hs)
 ·try dsimp only at h
  refine WS.lR (zgc (L:=L) (E:=E) (m:=m) (H:=H)) (L.ok hl) 0 ?_
  cases h
  exact fun a w hq=>bkR (sqR (rtR hq))
noncomputable def B11:Code:=(Tryz.f11.body).getD .skip
def zli:(Int×Int×ByteArray×Sl3×Bool×AH)→Value
 | (r0,r1,r2,r3,r4,_)=>(Value.tuple #[(Value.agg #[(Value.int .i64 r0),(Value.int .i64 r1),(Value.string r2),(Sl3.v r3)]),(Value.bool r4)])
def zn2 (_:AH):(Int×Int×ByteArray×Sl3×Bool×AH)→AH:=fun r=>r.2.2.2.2.2
noncomputable def z57 (L:LC) (m:Nat) (H:AH) (a0:Option Addr) (a1:Int):Option (Int×Int×ByteArray×Sl3×Bool×AH) :=
 Option.bind (z3d L H a0) fun x1 =>
 if x1=true then
  if a1<0 then
   none
  else
   Option.bind a0 fun q2 =>
   Option.bind (rd deSl H (Addr.add q2 3)) fun x3 =>
   if a1≥(x3.n:Int) then
    none
   else
    Option.bind (rd deSl H (Addr.add q2 3)) fun x4 =>
    Option.bind (idxA 16 x4 a1) fun p5 =>
    Option.bind (rd (deI .i64) H (Addr.add (Addr.add p5 12) 0)) fun x6_0 =>
    Option.bind (rd (deI .i64) H (Addr.add (Addr.add p5 12) 1)) fun x6_1 =>
    Option.bind (rd deS H (Addr.add (Addr.add p5 12) 2)) fun x6_2 =>
    Option.bind (rd deSl H (Addr.add (Addr.add p5 12) 3)) fun x6_3 =>
    Option.bind (z7t L m H x6_0 x6_1 x6_2 x6_3) fun (x7_0,x7_1,x7_2,x7_3,H8) =>
    some (x7_0,x7_1,x7_2,x7_3,true,H8)
 else
  none
theorem zc2 {L:LC} {m:Nat} {H:AH} {a0:Option Addr} {a1:Int} {r:(Int×Int×ByteArray×Sl3×Bool×AH)} (h:z57 L m H a0 a1=some r) :
  CallS Tryz.prog (NE.plain 258) m 11 #[(Value.pointer a0),(Value.int .i64 a1)] H (zli r) (zn2 H r):=by
 refine CallS.mk (args:=[(Value.pointer a0),(Value.int .i64 a1)]) Tryz.func11 (B:=B11) (by kernel_rfl) (fun E _=>?_)
 unfold z57 at h
 refine WS.sq (WS.rg (RS.mL 2 [kB 5 false,kL 4 0 0] ([some (56,[(Value.int .i64 0),(Value.int .i64 0),(Value.string (⟨#[]⟩:ByteArray)),(Sl3.v Sl3.nil)])]) (RS.dn (WS.nxt (WS.sq (WS.sq (WS.rg (RS.mS 1 [(6,.val (Value.pointer a0))] ?_))))))))
 obtain ⟨x1,hx,h⟩:=bind_some h
 refine RS.cl (some 7) (v:=(Value.bool x1)) 24 #[(Value.pointer a0)] (z5f hx) (RS.mS 2 [kB 9 (!x1),kB 8 (!x1)] ?_)
 rcases z0 h with ⟨hp,h⟩ | ⟨hp,h⟩
 ·refine RS.fx 9 false (nb_not hp) (RS.mS 4 [kB 13 (decide (a1<0)),kB 12 (decide (a1<0)),kB 11 (decide (a1<0)),kI 10 a1] ?_)
  rcases z0 h with ⟨hp,h⟩ | ⟨hp,h⟩
  ·refine RS.fx 13 true (decide_eq_true hp) ?_
   cases h
  ·refine RS.fx 13 false (decide_eq_false hp) (RS.mS 2 [(15,.val (Value.pointer a0)),kI 14 a1] ?_)
   obtain ⟨q2,hx,hq2⟩:=bind_some h
   subst hx
   have h:=hq2
   refine RS.mS 2 [(17,.val (Value.pointer (some (Addr.add q2 3)))),kP 16 q2] ?_
   obtain ⟨x3,hx,h⟩:=bind_some h
   refine RS.ld 18 97 (.tmp 17) (z1 hx z3) (RS.mS 3 [kB 21 (decide (a1≥(x3.n:Int))),kB 20 (decide (a1≥(x3.n:Int))),kI 19 (x3.n:Int)] (RS.dn (WS.nxt ?_)))
   rcases z0 h with ⟨hp,h⟩ | ⟨hp,h⟩
   ·refine WS.fx 21 true (decide_eq_true hp) (WS.cT ?_)
    cases h
   ·refine WS.fx 21 false (decide_eq_false hp) (WS.cF (WS.sk (WS.nxt (WS.sq (WS.rg (RS.mS 3 [(25,.val (Value.pointer (some (Addr.add q2 3)))),kP 24 q2,kP 23 q2] ?_))))))
    obtain ⟨x4,hx,h⟩:=bind_some h
    refine RS.ld 26 97 (.tmp 25) (z1 hx z3) (RS.mS 1 [kI 27 a1] ?_)
    obtain ⟨p5,hx,h⟩:=bind_some h
    refine RS.ix 28 97 103 (.tmp 26) (.tmp 27) hx (RS.mS 1 [(29,.val (Value.pointer (some (Addr.add p5 12))))] ?_)
    obtain ⟨x6_0,hx0,h⟩:=bind_some h
    obtain ⟨x6_1,hx1,h⟩:=bind_some h
    obtain ⟨x6_2,hx2,h⟩:=bind_some h
    obtain ⟨x6_3,hx3,h⟩:=bind_some h
    refine RS.la 30 56 (.tmp 29) 4 (z2 (z1 hx0 z4) (z2 (z1 hx1 z4) (z2 (z1 hx2 za) (z2 (z1 hx3 z3) zq)))) ?_
    obtain ⟨⟨x7_0,x7_1,x7_2,x7_3,H8⟩,hx,h⟩:=bind_some h
    try dsimp only at h
    refine RS.cl (some 31) (v:=(Value.agg #[(Value.int .i64 x7_0),(Value.int .i64 x7_1),(Value.string x7_2),(Sl3.v x7_3)])) 25 #[(Value.agg #[(Value.int .i64 x6_0),(Value.int .i64 x6_1),(Value.string x6_2),(Sl3.v x6_3)])] (z10 hx) (RS.mL 2 [kB 5 true] ([some (56,[(Value.int .i64 x7_0),(Value.int .i64 x7_1),(Value.string x7_2),(Sl3.v x7_3)])]) (RS.dn (WS.nxt (WS.rt ?_))))
    cases h
    exact fun a w hs=>rtR (rS hs)
 ·refine RS.fx 9 true (zb hp) ?_
  cases h
noncomputable def B12:Code:=(Tryz.f12.body).getD .skip
def z5x:(Int×Bool×AH)→Value
 | (r0,r1,_)=>(Value.tuple #[(Value.int .i64 r0),(Value.bool r1)])
def z6g (_:AH):(Int×Bool×AH)→AH:=fun r=>r.2.2
noncomputable def z2m (L:LC) (m:Nat) (H:AH) (a0:Option Addr) (a1:Int):Option (Int×Bool×AH) :=
 Option.bind a0 fun q1 =>
 Option.bind (rd deP H (Addr.add q1 1)) fun x2 =>
 Option.bind (z57 L m H x2 a1) fun (x3_0,x3_1,_,_,_,H5) =>
 some (x3_1,(decide (x3_0=3)),H5)
theorem z6l {L:LC} {m:Nat} {H:AH} {a0:Option Addr} {a1:Int} {r:(Int×Bool×AH)} (h:z2m L m H a0 a1=some r) :
  CallS Tryz.prog (NE.plain 258) m 12 #[(Value.pointer a0),(Value.int .i64 a1)] H (z5x r) (z6g H r):=by
 refine CallS.mk (args:=[(Value.pointer a0),(Value.int .i64 a1)]) Tryz.func12 (B:=B12) (by kernel_rfl) (fun E _=>?_)
 unfold z2m at h
 refine WS.sq (WS.rg (RS.mS 2 [kB 5 false,kI 4 0] (RS.dn (WS.nxt (WS.sq (WS.rg (RS.mS 1 [(9,.val (Value.pointer a0))] ?_)))))))
 obtain ⟨q1,hx,hq1⟩:=bind_some h
 subst hx
 have h:=hq1
 refine RS.mS 2 [(11,.val (Value.pointer (some (Addr.add q1 1)))),kP 10 q1] ?_
 obtain ⟨x2,hx,h⟩:=bind_some h
 refine RS.ld 12 25 (.tmp 11) (z1 hx zu) (RS.mS 1 [kI 13 a1] ?_)
 obtain ⟨⟨x3_0,x3_1,x3_2,x3_3,x4,H5⟩,hx,h⟩:=bind_some h
 try dsimp only at h
 refine RS.cl (some 14) (v:=(Value.tuple #[(Value.agg #[(Value.int .i64 x3_0),(Value.int .i64 x3_1),(Value.string x3_2),(Sl3.v x3_3)]),(Value.bool x4)])) 11 #[(Value.pointer x2),(Value.int .i64 a1)] (zc2 hx) (RS.mL 6 [kB 7 x4,kL 6 0 0,kB 16 x4,kA 15 #[(Value.int .i64 x3_0),(Value.int .i64 x3_1),(Value.string x3_2),(Sl3.v x3_3)],(8,.val (Value.tuple #[(Value.agg #[(Value.int .i64 x3_0),(Value.int .i64 x3_1),(Value.string x3_2),(Sl3.v x3_3)]),(Value.bool x4)]))] ([some (56,[(Value.int .i64 x3_0),(Value.int .i64 x3_1),(Value.string x3_2),(Sl3.v x3_3)])]) (RS.dn (WS.nxt (WS.sq ?_))))
 refine WS.dr [0,1,2,3] [0,1,0,4,12,3,63] 7 (fun hcl=>?_)
 refine DA.tL 0 (some 17) (.loc 0 1) (DA.tL 1 (some 18) (.val (Value.int .i64 x3_1)) (DA.tL 2 (some 19) (.loc 0 0) (DA.tL 3 (some 20) (.val (Value.int .i64 x3_0)) (DA.tP 5 (some 4) (Value.int .i64 x3_1) (DA.on 4 (DA.aHj (H':=H5) 4 (some 21) false (Value.bool (decide (x3_0=3))) (by kernel_rfl) (DA.tP 6 (some 5) (Value.bool (decide (x3_0=3))) (DA.dn (WS.nxt ?_)))))))))
 refine WS.rt ?_
 cases h
 exact fun a w hs=>rtR (rS hs)
noncomputable def B62:Code:=(Tryz.f62.body).getD .skip
def zlj:(Sl3×AH)→Value
 | (r0,_)=>(Sl3.v r0)
def zma (_:AH):(Sl3×AH)→AH:=fun r=>r.2
noncomputable def z9w (_L:LC) (_m:Nat) (H:AH) (a0:Sl3):Option (Sl3×AH) :=
 if (isNilS a0)=true then
  some (Sl3.nil,H)
 else
  none
theorem zly {L:LC} {m:Nat} {H:AH} {a0:Sl3} {r:(Sl3×AH)} (h:z9w L m H a0=some r) :
  CallS Tryz.prog (NE.plain 258) m 62 #[(Sl3.v a0)] H (zlj r) (zma H r):=by
 refine CallS.mk (args:=[(Sl3.v a0)]) Tryz.func62 (B:=B62) (by kernel_rfl) (fun E _=>?_)
 unfold z9w at h
 refine WS.sq (WS.rg (RS.mS 1 [kS 2 Sl3.nil] (RS.dn (WS.nxt (WS.sq (WS.sq (WS.rg (RS.mS 1 [kS 3 a0] (RS.o (H':=H) (some 4) (Value.bool (isNilS a0)) (zbw (t:=37) (e:=65) (u:=37) (x:=.tmp 3) (y:=.const (Sl3.v Sl3.nil)) (s:=a0) (by kernel_rfl) (by kernel_rfl) (by kernel_rfl) (by kernel_rfl)) ?_)))))))))
 refine RS.dn (WS.nxt ?_)
 rcases z0 h with ⟨hp,h⟩ | ⟨hp,h⟩
 ·refine WS.fx 4 true hp (WS.cT (WS.sq (WS.rg (RS.mS 1 [kS 2 Sl3.nil] (RS.dn (WS.nxt (WS.rt ?_)))))))
  cases h
  exact fun a w hs=>sqR (rtR (rS hs))
 ·refine WS.fx 4 false (b_not hp) (WS.cF ?_)
  cases h
noncomputable def B30:Code:=(Tryz.f30.body).getD .skip
def zaq:(Int×ByteArray×Bool×Sl3×Int×Sl3×Int×Int×ByteArray×Sl3×Sl3×Sl3×Bool×AH)→Value
 | (r0,r1,r2,r3,r4,r5,r6,r7,r8,r9,r10,r11,r12,_)=>(Value.tuple #[(Value.agg #[(Value.int .i64 r0),(Value.string r1),(Value.bool r2),(Sl3.v r3),(Value.int .i64 r4),(Sl3.v r5),(Value.int .i64 r6),(Value.int .i64 r7),(Value.string r8),(Sl3.v r9),(Sl3.v r10),(Sl3.v r11)]),(Value.bool r12)])
def zcd (_:AH):(Int×ByteArray×Bool×Sl3×Int×Sl3×Int×Int×ByteArray×Sl3×Sl3×Sl3×Bool×AH)→AH:=fun r=>r.2.2.2.2.2.2.2.2.2.2.2.2.2
noncomputable def zaa (L:LC) (m:Nat) (H:AH) (a0:Option Addr) (a1:Int):Option (Int×ByteArray×Bool×Sl3×Int×Sl3×Int×Int×ByteArray×Sl3×Sl3×Sl3×Bool×AH) :=
 Option.bind (z3d L H a0) fun x1 =>
 if x1=true then
  if a1<0 then
   none
  else
   Option.bind a0 fun q2 =>
   Option.bind (rd deSl H (Addr.add q2 3)) fun x3 =>
   if a1≥(x3.n:Int) then
    none
   else
    Option.bind (rd deSl H (Addr.add q2 3)) fun x4 =>
    Option.bind (idxA 16 x4 a1) fun p5 =>
    Option.bind (rd (deI .i64) H (Addr.add (Addr.add p5 0) 0)) fun x6_0 =>
    Option.bind (rd deS H (Addr.add (Addr.add p5 0) 1)) fun x6_1 =>
    Option.bind (rd deB H (Addr.add (Addr.add p5 0) 2)) fun x6_2 =>
    Option.bind (rd deSl H (Addr.add (Addr.add p5 0) 3)) fun x6_3 =>
    Option.bind (rd (deI .i64) H (Addr.add (Addr.add p5 0) 4)) fun x6_4 =>
    Option.bind (rd deSl H (Addr.add (Addr.add p5 0) 5)) fun x6_5 =>
    Option.bind (rd (deI .i64) H (Addr.add (Addr.add p5 0) 6)) fun x6_6 =>
    Option.bind (rd (deI .i64) H (Addr.add (Addr.add p5 0) 7)) fun x6_7 =>
    Option.bind (rd deS H (Addr.add (Addr.add p5 0) 8)) fun x6_8 =>
    Option.bind (rd deSl H (Addr.add (Addr.add p5 0) 9)) fun x6_9 =>
    Option.bind (rd deSl H (Addr.add (Addr.add p5 0) 10)) fun x6_10 =>
    Option.bind (rd deSl H (Addr.add (Addr.add p5 0) 11)) fun x6_11 =>
    Option.bind (zdw L m H x6_0 x6_1 x6_2 x6_3 x6_4 x6_5 x6_6 x6_7 x6_8 x6_9 x6_10 x6_11) fun (x7_0,x7_1,x7_2,x7_3,x7_4,x7_5,x7_6,x7_7,x7_8,x7_9,x7_10,x7_11,H8) =>
    Option.bind (z9w L m H8 x7_3) fun (x9,H10) =>
    some (x7_0,x7_1,x7_2,x9,x7_4,x7_5,x7_6,x7_7,x7_8,x7_9,x7_10,x7_11,true,H10)
 else
  none
theorem zn3 {L:LC} {m:Nat} {H:AH} {a0:Option Addr} {a1:Int} {r:(Int×ByteArray×Bool×Sl3×Int×Sl3×Int×Int×ByteArray×Sl3×Sl3×Sl3×Bool×AH)} (h:zaa L m H a0 a1=some r) :
  CallS Tryz.prog (NE.plain 258) m 30 #[(Value.pointer a0),(Value.int .i64 a1)] H (zaq r) (zcd H r):=by
 refine CallS.mk (args:=[(Value.pointer a0),(Value.int .i64 a1)]) Tryz.func30 (B:=B30) (by kernel_rfl) (fun E _=>?_)
 unfold zaa at h
 refine WS.sq (WS.rg (RS.mL 2 [kB 5 false,kL 4 0 0] ([some (82,[(Value.int .i64 0),(Value.string (⟨#[]⟩:ByteArray)),(Value.bool false),(Sl3.v Sl3.nil),(Value.int .i64 0),(Sl3.v Sl3.nil),(Value.int .i64 0),(Value.int .i64 0),(Value.string (⟨#[]⟩:ByteArray)),(Sl3.v Sl3.nil),(Sl3.v Sl3.nil),(Sl3.v Sl3.nil)])]) (RS.dn (WS.nxt (WS.sq (WS.sq (WS.rg (RS.mS 1 [(7,.val (Value.pointer a0))] ?_))))))))
 obtain ⟨x1,hx,h⟩:=bind_some h
 refine RS.cl (some 8) (v:=(Value.bool x1)) 24 #[(Value.pointer a0)] (z5f hx) (RS.mS 2 [kB 10 (!x1),kB 9 (!x1)] ?_)
 rcases z0 h with ⟨hp,h⟩ | ⟨hp,h⟩
 ·refine RS.fx 10 false (nb_not hp) (RS.mS 4 [kB 14 (decide (a1<0)),kB 13 (decide (a1<0)),kB 12 (decide (a1<0)),kI 11 a1] ?_)
  rcases z0 h with ⟨hp,h⟩ | ⟨hp,h⟩
  ·refine RS.fx 14 true (decide_eq_true hp) ?_
   cases h
  ·refine RS.fx 14 false (decide_eq_false hp) (RS.mS 2 [(16,.val (Value.pointer a0)),kI 15 a1] ?_)
   obtain ⟨q2,hx,hq2⟩:=bind_some h
   subst hx
   have h:=hq2
   refine RS.mS 2 [(18,.val (Value.pointer (some (Addr.add q2 3)))),kP 17 q2] ?_
   obtain ⟨x3,hx,h⟩:=bind_some h
   refine RS.ld 19 97 (.tmp 18) (z1 hx z3) (RS.mS 3 [kB 22 (decide (a1≥(x3.n:Int))),kB 21 (decide (a1≥(x3.n:Int))),kI 20 (x3.n:Int)] (RS.dn (WS.nxt ?_)))
   rcases z0 h with ⟨hp,h⟩ | ⟨hp,h⟩
   ·refine WS.fx 22 true (decide_eq_true hp) (WS.cT ?_)
    cases h
   ·refine WS.fx 22 false (decide_eq_false hp) (WS.cF (WS.sk (WS.nxt (WS.sq (WS.rg (RS.mS 3 [(26,.val (Value.pointer (some (Addr.add q2 3)))),kP 25 q2,kP 24 q2] ?_))))))
    obtain ⟨x4,hx,h⟩:=bind_some h
    refine RS.ld 27 97 (.tmp 26) (z1 hx z3) (RS.mS 1 [kI 28 a1] ?_)
    obtain ⟨p5,hx,h⟩:=bind_some h
    refine RS.ix 29 97 103 (.tmp 27) (.tmp 28) hx (RS.mS 1 [(30,.val (Value.pointer (some (Addr.add p5 0))))] ?_)
    obtain ⟨x6_0,hx0,h⟩:=bind_some h
    obtain ⟨x6_1,hx1,h⟩:=bind_some h
    obtain ⟨x6_2,hx2,h⟩:=bind_some h
    obtain ⟨x6_3,hx3,h⟩:=bind_some h
    obtain ⟨x6_4,hx4,h⟩:=bind_some h
    obtain ⟨x6_5,hx5,h⟩:=bind_some h
    obtain ⟨x6_6,hx6,h⟩:=bind_some h
    obtain ⟨x6_7,hx7,h⟩:=bind_some h
    obtain ⟨x6_8,hx8,h⟩:=bind_some h
    obtain ⟨x6_9,hx9,h⟩:=bind_some h
    obtain ⟨x6_10,hx10,h⟩:=bind_some h
    obtain ⟨x6_11,hx11,h⟩:=bind_some h
    refine RS.la 31 82 (.tmp 30) 12 (z2 (z1 hx0 z4) (z2 (z1 hx1 za) (z2 (z1 hx2 zaz) (z2 (z1 hx3 z3) (z2 (z1 hx4 z4) (z2 (z1 hx5 z3) (z2 (z1 hx6 z4) (z2 (z1 hx7 z4) (z2 (z1 hx8 za) (z2 (z1 hx9 z3) (z2 (z1 hx10 z3) (z2 (z1 hx11 z3) zq)))))))))))) ?_
    obtain ⟨⟨x7_0,x7_1,x7_2,x7_3,x7_4,x7_5,x7_6,x7_7,x7_8,x7_9,x7_10,x7_11,H8⟩,hx,h⟩:=bind_some h
    try dsimp only at h
    refine RS.cl (some 32) (v:=(Value.agg #[(Value.int .i64 x7_0),(Value.string x7_1),(Value.bool x7_2),(Sl3.v x7_3),(Value.int .i64 x7_4),(Sl3.v x7_5),(Value.int .i64 x7_6),(Value.int .i64 x7_7),(Value.string x7_8),(Sl3.v x7_9),(Sl3.v x7_10),(Sl3.v x7_11)])) 61 #[(Value.agg #[(Value.int .i64 x6_0),(Value.string x6_1),(Value.bool x6_2),(Sl3.v x6_3),(Value.int .i64 x6_4),(Sl3.v x6_5),(Value.int .i64 x6_6),(Value.int .i64 x6_7),(Value.string x6_8),(Sl3.v x6_9),(Sl3.v x6_10),(Sl3.v x6_11)])] (zkq hx) (RS.mL 2 [kL 6 1 0] ([some (82,[(Value.int .i64 0),(Value.string (⟨#[]⟩:ByteArray)),(Value.bool false),(Sl3.v Sl3.nil),(Value.int .i64 0),(Sl3.v Sl3.nil),(Value.int .i64 0),(Value.int .i64 0),(Value.string (⟨#[]⟩:ByteArray)),(Sl3.v Sl3.nil),(Sl3.v Sl3.nil),(Sl3.v Sl3.nil)]),some (82,[(Value.int .i64 x7_0),(Value.string x7_1),(Value.bool x7_2),(Sl3.v x7_3),(Value.int .i64 x7_4),(Sl3.v x7_5),(Value.int .i64 x7_6),(Value.int .i64 x7_7),(Value.string x7_8),(Sl3.v x7_9),(Sl3.v x7_10),(Sl3.v x7_11)])]) (RS.dn (WS.nxt (WS.sq (WS.rg (RS.mS 3 [kS 35 x7_3,kL 34 1 3,kL 33 1 2] ?_))))))
    obtain ⟨⟨x9,H10⟩,hx,h⟩:=bind_some h
    try dsimp only at h
    refine RS.cl (some 36) (v:=(Sl3.v x9)) 62 #[(Sl3.v x7_3)] (zly hx) (RS.mL 3 [kL 38 1 3,kL 37 1 2] ([some (82,[(Value.int .i64 0),(Value.string (⟨#[]⟩:ByteArray)),(Value.bool false),(Sl3.v Sl3.nil),(Value.int .i64 0),(Sl3.v Sl3.nil),(Value.int .i64 0),(Value.int .i64 0),(Value.string (⟨#[]⟩:ByteArray)),(Sl3.v Sl3.nil),(Sl3.v Sl3.nil),(Sl3.v Sl3.nil)]),some (82,[(Value.int .i64 x7_0),(Value.string x7_1),(Value.bool x7_2),(Sl3.v x9),(Value.int .i64 x7_4),(Sl3.v x7_5),(Value.int .i64 x7_6),(Value.int .i64 x7_7),(Value.string x7_8),(Sl3.v x7_9),(Sl3.v x7_10),(Sl3.v x7_11)])]) (RS.dn (WS.nxt (WS.sq (WS.rg (RS.mL 3 [kB 5 true,kA 39 #[(Value.int .i64 x7_0),(Value.string x7_1),(Value.bool x7_2),(Sl3.v x9),(Value.int .i64 x7_4),(Sl3.v x7_5),(Value.int .i64 x7_6),(Value.int .i64 x7_7),(Value.string x7_8),(Sl3.v x7_9),(Sl3.v x7_10),(Sl3.v x7_11)]] ([some (82,[(Value.int .i64 x7_0),(Value.string x7_1),(Value.bool x7_2),(Sl3.v x9),(Value.int .i64 x7_4),(Sl3.v x7_5),(Value.int .i64 x7_6),(Value.int .i64 x7_7),(Value.string x7_8),(Sl3.v x7_9),(Sl3.v x7_10),(Sl3.v x7_11)]),some (82,[(Value.int .i64 x7_0),(Value.string x7_1),(Value.bool x7_2),(Sl3.v x9),(Value.int .i64 x7_4),(Sl3.v x7_5),(Value.int .i64 x7_6),(Value.int .i64 x7_7),(Value.string x7_8),(Sl3.v x7_9),(Sl3.v x7_10),(Sl3.v x7_11)])]) (RS.dn (WS.nxt (WS.rt ?_)))))))))
    cases h
    exact fun a w hs=>rtR (rS hs)
 ·refine RS.fx 10 true (zb hp) ?_
  cases h
noncomputable def B184:Code:=(Tryz.f184.body).getD .skip
def zfp:(Int×AH)→Value
 | (r0,_)=>(Value.int .i64 r0)
def zh4 (_:AH):(Int×AH)→AH:=fun r=>r.2
noncomputable def z35 (L:LC):Nat→FuncId→Array Value→AH→Option (Value×AH) :=
 (orO (orF 14 (dcC dcSl dcN) fun m H (a0,_)=>(z1k L m H a0).map fun r=>(z7z r,z96 H r))
  (orO (orF 27 (dcC dcP dcN) fun _ H (a0,_)=>(z18 L H a0).map fun r=>(za4 r,zai H r))
  (orO (orF 57 (dcC dcP dcN) fun m H (a0,_)=>(z1q L m H a0).map fun r=>(z32 r,z3h H r))
  (orO (orF 109 (dcC dcP (dcC dcSl dcN)) fun m H (a0,(a1,_))=>(z3f L m H a0 a1).map fun r=>(z7k r,z8o H r))
  orN))))
noncomputable def zat (L:LC) (m:Nat) (H:AH) (a0 a1:Int) (a2 a3:Option Addr):Option (Int×AH) :=
 byRun Tryz.prog 258 (z35 L) m 184 #[(Value.int .i64 a0),(Value.int .i64 a1),(Value.pointer a2),(Value.pointer a3)] H (dcI .i64) fun r H2=>(r,H2)
theorem zcv {L:LC}:OrOK Tryz.prog (NE.plain 258) (z35 L):=by
 unfold z35
 refine orO_ok (orF_ok fun m H ⟨a0,_⟩ v H' h=>by
  obtain ⟨r,h1,rfl,rfl⟩:=zx h
  exact zm h1) ?_
 refine orO_ok (orF_ok fun m H ⟨a0,_⟩ v H' h=>by
  obtain ⟨r,h1,rfl,rfl⟩:=zx h
  exact z1p h1) ?_
 refine orO_ok (orF_ok fun m H ⟨a0,_⟩ v H' h=>by
  obtain ⟨r,h1,rfl,rfl⟩:=zx h
  exact z3k h1) ?_
 refine orO_ok (orF_ok fun m H ⟨a0,⟨a1,_⟩⟩ v H' h=>by
  obtain ⟨r,h1,rfl,rfl⟩:=zx h
  exact z8h h1) ?_
 exact orN_ok
theorem zha {L:LC} {m:Nat} {H:AH} {a0 a1:Int} {a2 a3:Option Addr} {r:(Int×AH)} (h:zat L m H a0 a1 a2 a3=some r) :
  CallS Tryz.prog (NE.plain 258) m 184 #[(Value.int .i64 a0),(Value.int .i64 a1),(Value.pointer a2),(Value.pointer a3)] H (zfp r) (zh4 H r):=by
 obtain ⟨r,H2,rfl,hc⟩:=zea zcv Tryz.func184 (show Tryz.f184.body=some B184 by kernel_rfl) h
 exact hc
noncomputable def B111:Code:=(Tryz.f111.body).getD .skip
def z8q:(Sl3×Int×AH)→Value
 | (r0,r1,_)=>(Value.tuple #[(Sl3.v r0),(Value.int .i64 r1)])
def za9 (_:AH):(Sl3×Int×AH)→AH:=fun r=>r.2.2
noncomputable def z4i (L:LC) (m:Nat) (a1 a2:Sl3) (p1 p3:Addr):(AH×Sl3×Int)→Option (Lp (AH×Sl3×Int) (Sl3×Int×AH)):=fun (H5,v11_6,v16_7) =>
 if v16_7<(a1.n:Int) then
  Option.bind (idxA 1 a1 v16_7) fun p8 =>
  Option.bind (rd (deI .i64) H5 p8) fun x9 =>
  Option.bind (idxA 1 a2 v16_7) fun p10 =>
  Option.bind (rd (deI .i64) H5 p10) fun x11 =>
  Option.bind (zat L m H5 x9 x11 (some p1) (some p3)) fun (x12,H13) =>
  Option.bind (newR 3 1 #[(Value.int .i64 x12)] H13) fun (s14,H15) =>
  Option.bind (appS m 3 1 8 H15 v11_6 s14) fun (s16,H17) =>
  some (.next (H17,s16,(IntKind.i64.wrap (v16_7+1))))
 else
  some (.brk (H5,v11_6,v16_7))
def zfl (_L:LC) (_m:Nat) (a1 a2:Sl3) (p1 p3:Addr):(AH×Sl3×Int)→KN×Lcs:=fun (_,v11_6,v16_7)=>([kS 11 v11_6,kI 16 v16_7,kS 1 a1,kS 2 a2,kP 7 p3,(10,.val (Value.func (.func 184) #[] #[(Value.pointer (some p1)),(Value.pointer (some p3))])),kI 15 (a1.n:Int)],[])
noncomputable def z6v (L:LC) (m:Nat) (H:AH) (a0:Option Addr) (a1 a2:Sl3) (a3:Int):Option (Sl3×Int×AH) :=
 Option.bind (newB 23 [(Value.pointer a0)] H) fun (p1,H2) =>
 Option.bind (newB 3 [(Value.int .i64 a3)] H2) fun (p3,H4) =>
 Option.bind (L.run (z4i L m a1 a2 p1 p3) (H4,Sl3.nil,0)) fun o=>match o with
 | .inl (H18,v11_19,_) =>
  Option.bind (rd (deI .i64) H18 p3) fun x21 =>
  some (v11_19,x21,H18)
 | .inr r=>some r
theorem z6i {E H L m a1 a2 p1 p3} :LoopF Tryz.prog (NE.plain 258) m E Tryz.f111 ((cfst (csnd (cfst (csnd (csnd (csnd B111))))))) (zfl L m a1 a2 p1 p3) (fun s=>s.1) 0 z8q (za9 H) (z4i L m a1 a2 p1 p3):=by
 rintro ⟨H5,v11_6,v16_7⟩ o h
 unfold z4i at h
 try dsimp only at h
 refine WS.sq (WS.rg (RS.mS 1 [kB 17 (decide (v16_7<(a1.n:Int)))] (RS.dn (WS.nxt (WS.sq ?_)))))
 rcases z0 h with ⟨hp,h⟩ | ⟨hp,h⟩
 ·refine WS.fx 17 true (decide_eq_true hp) (WS.cT (WS.sk (WS.nxt (WS.sq (WS.bk 1 (WS.sq (WS.rg (RS.mS 2 [kI 12 v16_7,kI 18 v16_7] (RS.dn ?_)))))))))
  refine WS.nxt ?_
  refine WS.dr [2,3,4,5,6,7,8,9] [0,0,0,0,12,28,0,0,192,448,1022,2046,4095,8191] 14 (fun hcl=>?_)
  refine DA.tK 2 (some 21) (Sl3.v a1) (DA.tK 3 (some 22) (Value.int .i64 v16_7) ?_)
  obtain ⟨p8,hx,h⟩:=bind_some h
  refine DA.tD 4 (some 23) (Value.pointer (some p8)) (Abs.det_idx (s:=a1) (k:=.i64) (t:=28) (e:=3) (x:=.tmp 21) (y:=.tmp 22) (by kernel_rfl) (by kernel_rfl) (by kernel_rfl) (by kernel_rfl) (by kernel_rfl) hx) ?_
  obtain ⟨x9,hx,h⟩:=bind_some h
  refine DA.tD 5 (some 24) (Value.int .i64 x9) (Abs.det_load (t:=3) (x:=.tmp 23) (a:=p8) (by kernel_rfl) (by kernel_rfl) (by kernel_rfl) (by kernel_rfl) (z1 hx z4)) (DA.tK 6 (some 25) (Sl3.v a2) (DA.tK 7 (some 26) (Value.int .i64 v16_7) ?_))
  obtain ⟨p10,hx,h⟩:=bind_some h
  refine DA.tD 8 (some 27) (Value.pointer (some p10)) (Abs.det_idx (s:=a2) (k:=.i64) (t:=28) (e:=3) (x:=.tmp 25) (y:=.tmp 26) (by kernel_rfl) (by kernel_rfl) (by kernel_rfl) (by kernel_rfl) (by kernel_rfl) hx) ?_
  obtain ⟨x11,hx,h⟩:=bind_some h
  refine DA.tD 9 (some 28) (Value.int .i64 x11) (Abs.det_load (t:=3) (x:=.tmp 27) (a:=p10) (by kernel_rfl) (by kernel_rfl) (by kernel_rfl) (by kernel_rfl) (z1 hx z4)) (DA.tP 0 (some 19) (Sl3.v v11_6) (DA.tP 1 (some 20) (Value.func (.func 184) #[] #[(Value.pointer (some p1)),(Value.pointer (some p3))]) ?_))
  obtain ⟨⟨x12,H13⟩,hx,h⟩:=bind_some h
  try dsimp only at h
  refine DA.on 10 (DA.aC 10 (some 29) (v:=(Value.int .i64 x12)) 184 #[(Value.int .i64 x9),(Value.int .i64 x11),(Value.pointer (some p1)),(Value.pointer (some p3))] (zha hx) ?_)
  obtain ⟨⟨s14,H15⟩,hx,h⟩:=bind_some h
  try dsimp only at h
  refine DA.on 11 (DA.aH (H':=H15) 11 (some 30) (Sl3.v s14) (Abs.run_newR (by kernel_rfl) (by kernel_rfl) hx) ?_)
  obtain ⟨⟨s16,H17⟩,hx,h⟩:=bind_some h
  try dsimp only at h
  refine DA.on 12 (DA.aH (H':=H17) 12 (some 31) (Sl3.v s16) (Abs.run_app (x:=.tmp 19) (y:=.tmp 30) (ts:=#[28,28]) (s:=v11_6) (z:=s14) (by kernel_rfl) (by kernel_rfl) (by kernel_rfl) (by kernel_rfl) hx) (DA.tP 13 (some 11) (Sl3.v s16) (DA.dn ?_)))
  refine fun a w hs=>bkN ((WS.nxt ?_ a w hs))
  refine WS.rg (RS.mS 2 [kI 16 (IntKind.i64.wrap (v16_7+1)),kI 32 (IntKind.i64.wrap (v16_7+1))] (RS.dn ?_))
  cases h
  exact fun a w hs=>lsN rfl (hs.sb 0)
 ·refine WS.fx 17 false (decide_eq_false hp) (WS.cF (WS.ex 0 ?_))
  cases h
  exact fun a w hs=>sqE (lsB rfl (hs.sb 0))
theorem zk1 {L:LC} {m:Nat} {H:AH} {a0:Option Addr} {a1 a2:Sl3} {a3:Int} {r:(Sl3×Int×AH)} (h:z6v L m H a0 a1 a2 a3=some r) :
  CallS Tryz.prog (NE.plain 258) m 111 #[(Value.pointer a0),(Sl3.v a1),(Sl3.v a2),(Value.int .i64 a3)] H (z8q r) (za9 H r):=by
 refine CallS.mk (args:=[(Value.pointer a0),(Sl3.v a1),(Sl3.v a2),(Value.int .i64 a3)]) Tryz.func111 (B:=B111) (by kernel_rfl) (fun E _=>?_)
 unfold z6v at h
 refine WS.sq (WS.rg ?_)
 obtain ⟨⟨p1,H2⟩,hx,h⟩:=bind_some h
 try dsimp only at h
 refine RS.o (H':=H2) (some 4) (Value.pointer (some p1)) (Abs.run_newB (by kernel_rfl) hx) ?_
 obtain ⟨⟨p3,H4⟩,hx,h⟩:=bind_some h
 try dsimp only at h
 refine RS.o (H':=H4) (some 7) (Value.pointer (some p3)) (Abs.run_newB (by kernel_rfl) hx) (RS.mS 2 [kI 9 0,kS 8 Sl3.nil] (RS.dn (WS.nxt (WS.sq (WS.rg (RS.mS 2 [(10,.val (Value.func (.func 184) #[] #[(Value.pointer (some p1)),(Value.pointer (some p3))])),(13,.val (Value.func (.func 184) #[] #[(Value.pointer (some p1)),(Value.pointer (some p3))]))] (RS.dn (WS.nxt (WS.sq ?_)))))))))
 refine WS.rg (RS.mS 1 [kS 11 Sl3.nil] (RS.dn (WS.nxt (WS.sq (WS.sq (WS.rg (RS.mS 3 [kI 16 0,kI 15 (a1.n:Int),kS 14 a1] (RS.dn (WS.nxt ?_)))))))))
 refine WS.bk 0 ?_
 obtain ⟨o,hl,h⟩:=bind_some h
 rcases o with ⟨H18,v11_19,v16_20⟩ | r
 ·try dsimp only at h
  refine WS.lI (z6i (L:=L) (E:=E) (m:=m) (H:=H)) (L.ok hl) 0 ?_
  clear hl
  refine fun a w hs=>bkE ((WS.nxt ?_ a w hs))
  refine WS.sq ?_
  refine WS.dr [1] [0,0,1,7] 4 (fun hcl=>?_)
  obtain ⟨x21,hx,h⟩:=bind_some h
  refine DA.tD 1 (some 34) (Value.int .i64 x21) (Abs.det_load (t:=3) (x:=.tmp 7) (a:=p3) (by kernel_rfl) (by kernel_rfl) (by kernel_rfl) (by kernel_rfl) (z1 hx z4)) (DA.tP 0 (some 33) (Sl3.v v11_19) (DA.tP 2 (some 8) (Sl3.v v11_19) (DA.tP 3 (some 9) (Value.int .i64 x21) (DA.dn (WS.nxt (WS.rt ?_))))))
  cases h
  exact fun a w hs=>rtR (rS hs)
 ·try dsimp only at h
  refine WS.lR (z6i (L:=L) (E:=E) (m:=m) (H:=H)) (L.ok hl) 0 ?_
  cases h
  exact fun a w hq=>bkR (sqR (rtR hq))
noncomputable def B97:Code:=(Tryz.f97.body).getD .skip
def zhc:(Sl3×AH)→Value
 | (r0,_)=>(Sl3.v r0)
def zig (_:AH):(Sl3×AH)→AH:=fun r=>r.2
noncomputable def z5t (L:LC) (m:Nat) (H:AH) (a0:Option Addr) (a1 a2:Sl3):Option (Sl3×AH) :=
 Option.bind (zan L m H a0) fun (x1,H2) =>
 Option.bind (z6v L m H2 a0 a1 a2 (IntKind.i64.wrap (0 - x1))) fun (x3,_,H5) =>
 some (x3,H5)
theorem zhu {L:LC} {m:Nat} {H:AH} {a0:Option Addr} {a1 a2:Sl3} {r:(Sl3×AH)} (h:z5t L m H a0 a1 a2=some r) :
  CallS Tryz.prog (NE.plain 258) m 97 #[(Value.pointer a0),(Sl3.v a1),(Sl3.v a2)] H (zhc r) (zig H r):=by
 refine CallS.mk (args:=[(Value.pointer a0),(Sl3.v a1),(Sl3.v a2)]) Tryz.func97 (B:=B97) (by kernel_rfl) (fun E _=>?_)
 unfold z5t at h
 refine WS.sq (WS.rg (RS.mS 1 [kS 6 Sl3.nil] (RS.dn (WS.nxt (WS.sq (WS.rg (RS.mS 4 [(13,.val (Value.pointer a0)),kS 12 a2,kS 11 a1,(10,.val (Value.pointer a0))] ?_)))))))
 obtain ⟨⟨x1,H2⟩,hx,h⟩:=bind_some h
 try dsimp only at h
 refine RS.cl (some 14) (v:=(Value.int .i64 x1)) 54 #[(Value.pointer a0)] (zhb hx) (RS.mS 1 [kI 15 (IntKind.i64.wrap (0 - x1))] ?_)
 obtain ⟨⟨x3,x4,H5⟩,hx,h⟩:=bind_some h
 try dsimp only at h
 refine RS.cl (some 16) (v:=(Value.tuple #[(Sl3.v x3),(Value.int .i64 x4)])) 111 #[(Value.pointer a0),(Sl3.v a1),(Sl3.v a2),(Value.int .i64 (IntKind.i64.wrap (0 - x1)))] (zk1 hx) (RS.mS 5 [kI 8 x4,kS 7 x3,kI 18 x4,kS 17 x3,(9,.val (Value.tuple #[(Sl3.v x3),(Value.int .i64 x4)]))] (RS.dn (WS.nxt (WS.sq (WS.rg (RS.mS 2 [kS 6 x3,kS 19 x3] (RS.dn (WS.nxt (WS.rt ?_)))))))))
 cases h
 exact fun a w hs=>rtR (rS hs)
noncomputable def B59:Code:=(Tryz.f59.body).getD .skip
def z8r:(Sl3×AH)→Value
 | (r0,_)=>(Sl3.v r0)
def z9h (_:AH):(Sl3×AH)→AH:=fun r=>r.2
noncomputable def z6s (L:LC) (m:Nat) (H:AH) (a0:Option Addr) (a1:Int) (a2 a3:Sl3):Option (Sl3×AH) :=
 if a1=45 then
  none
 else
  if a1=46 then
   none
  else
   if a1=47 then
    none
   else
    if a1=48 then
     none
    else
     if a1=49 then
      none
     else
      if a1=50 then
       none
      else
       if a1=51 then
        none
       else
        if a1=52 then
         Option.bind (z5t L m H a0 a2 a3) fun (x1,H2) =>
         some (x1,H2)
        else
         none
theorem zka {L:LC} {m:Nat} {H:AH} {a0:Option Addr} {a1:Int} {a2 a3:Sl3} {r:(Sl3×AH)} (h:z6s L m H a0 a1 a2 a3=some r) :
  CallS Tryz.prog (NE.plain 258) m 59 #[(Value.pointer a0),(Value.int .i64 a1),(Sl3.v a2),(Sl3.v a3)] H (z8r r) (z9h H r):=by
 refine CallS.mk (args:=[(Value.pointer a0),(Value.int .i64 a1),(Sl3.v a2),(Sl3.v a3)]) Tryz.func59 (B:=B59) (by kernel_rfl) (fun E _=>?_)
 unfold z6s at h
 refine WS.sq (WS.rg (RS.mS 1 [kS 8 Sl3.nil] (RS.dn (WS.nxt (WS.sq (WS.sq (WS.rg (RS.mS 1 [kI 13 a1] (RS.dn ?_)))))))))
 refine WS.nxt (WS.bk 0 (WS.sq (WS.sq (WS.rg (RS.mS 2 [kB 14 (decide (a1=45)),kB 15 (decide (a1=45))] (RS.dn (WS.nxt ?_)))))))
 rcases z0 h with ⟨hp,h⟩ | ⟨hp,h⟩
 ·refine WS.fx 14 true (decide_eq_true hp) (WS.cT ?_)
  cases h
 ·refine WS.fx 14 false (decide_eq_false hp) (WS.cF (WS.sq (WS.rg (RS.mS 2 [kB 14 (decide (a1=46)),kB 16 (decide (a1=46))] (RS.dn (WS.nxt ?_))))))
  rcases z0 h with ⟨hp,h⟩ | ⟨hp,h⟩
  ·refine WS.fx 14 true (decide_eq_true hp) (WS.cT ?_)
   cases h
  ·refine WS.fx 14 false (decide_eq_false hp) (WS.cF (WS.sq (WS.rg (RS.mS 2 [kB 14 (decide (a1=47)),kB 17 (decide (a1=47))] (RS.dn (WS.nxt ?_))))))
   rcases z0 h with ⟨hp,h⟩ | ⟨hp,h⟩
   ·refine WS.fx 14 true (decide_eq_true hp) (WS.cT ?_)
    cases h
   ·refine WS.fx 14 false (decide_eq_false hp) (WS.cF (WS.sq (WS.rg (RS.mS 2 [kB 14 (decide (a1=48)),kB 18 (decide (a1=48))] (RS.dn (WS.nxt ?_))))))
    rcases z0 h with ⟨hp,h⟩ | ⟨hp,h⟩
    ·refine WS.fx 14 true (decide_eq_true hp) (WS.cT ?_)
     cases h
    ·refine WS.fx 14 false (decide_eq_false hp) (WS.cF (WS.sq (WS.rg (RS.mS 2 [kB 14 (decide (a1=49)),kB 19 (decide (a1=49))] (RS.dn (WS.nxt ?_))))))
     rcases z0 h with ⟨hp,h⟩ | ⟨hp,h⟩
     ·refine WS.fx 14 true (decide_eq_true hp) (WS.cT ?_)
      cases h
     ·refine WS.fx 14 false (decide_eq_false hp) (WS.cF (WS.rg (RS.mS 2 [kB 14 (decide (a1=50)),kB 20 (decide (a1=50))] (RS.dn (WS.nxt ?_)))))
      rcases z0 h with ⟨hp,h⟩ | ⟨hp,h⟩
      ·refine WS.fx 14 true (decide_eq_true hp) (WS.cT ?_)
       cases h
      ·refine WS.fx 14 false (decide_eq_false hp) (WS.cF (WS.sq (WS.rg (RS.mS 2 [kB 27 (decide (a1=51)),kB 28 (decide (a1=51))] (RS.dn (WS.nxt ?_))))))
       rcases z0 h with ⟨hp,h⟩ | ⟨hp,h⟩
       ·refine WS.fx 27 true (decide_eq_true hp) (WS.cT ?_)
        cases h
       ·refine WS.fx 27 false (decide_eq_false hp) (WS.cF (WS.sq (WS.rg (RS.mS 2 [kB 34 (decide (a1=52)),kB 35 (decide (a1=52))] (RS.dn (WS.nxt ?_))))))
        rcases z0 h with ⟨hp,h⟩ | ⟨hp,h⟩
        ·refine WS.fx 34 true (decide_eq_true hp) (WS.cT (WS.sq (WS.rg (RS.mS 3 [kS 38 a3,kS 37 a2,(36,.val (Value.pointer a0))] ?_))))
         obtain ⟨⟨x1,H2⟩,hx,h⟩:=bind_some h
         try dsimp only at h
         refine RS.cl (some 39) (v:=(Sl3.v x1)) 97 #[(Value.pointer a0),(Sl3.v a2),(Sl3.v a3)] (zhu hx) (RS.mS 1 [kS 8 x1] (RS.dn (WS.nxt (WS.rt ?_))))
         cases h
         exact fun a w hs=>bkR (sqR (rtR (rS hs)))
        ·refine WS.fx 34 false (decide_eq_false hp) (WS.cF ?_)
         cases h
end Go.Proofs.YtkecibinbgaedaaGreatDoor
