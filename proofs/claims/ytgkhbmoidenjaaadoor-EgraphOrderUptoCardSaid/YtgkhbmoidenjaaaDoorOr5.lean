/- Parts of the proof: an abstract interpreter of the loaded program and its soundness, printed functions, the law's own texts; part 5. No condition. -/
import Derived.Test.YtgkhbmoidenjaaaDoorOr4
namespace Go.Proofs.YtgkhbmoidenjaaaDoor
open Go Go.Abs
set_option maxRecDepth 100000
def z2t:Bool→Value
 | r0=>(Value.bool r0)
def z2x (H:AH):Bool→AH:=fun _=>H
noncomputable def B23:Code:=(Tryd.f23.body).getD .skip
noncomputable def z17 (_L:LC) (H:AH) (q4:Addr) (x7 x10:Int) (x11:Sl3):Int→Option (Lp Int Bool):=fun v44_12 =>
 if v44_12<(x11.n:Int) then
  Option.bind (idxA 4 x11 v44_12) fun p13 =>
  Option.bind (rd (deI .i64) H (Addr.add p13 0)) fun x14_0 =>
  Option.bind (rd (deI .i64) H (Addr.add p13 1)) fun x14_1 =>
  Option.bind (rd (deI .i64) H (Addr.add p13 2)) fun _ =>
  Option.bind (rd deB H (Addr.add p13 3)) fun x14_3 =>
  Option.bind (α:=Bool) (
   if x14_3=true then
    Option.bind (rd deSl H (Addr.add q4 4)) fun x16 =>
    Option.bind (idxA 1 x16 x14_0) fun p17 =>
    Option.bind (rd (deI .i64) H p17) fun x18 =>
    if x18=x7 then
     Option.bind (rd deSl H (Addr.add q4 4)) fun x19 =>
     Option.bind (idxA 1 x19 x14_1) fun p20 =>
     Option.bind (rd (deI .i64) H p20) fun x21 =>
     if x21=x10 then
      some true
     else
      Option.bind (rd deSl H (Addr.add q4 4)) fun x22 =>
      Option.bind (idxA 1 x22 x14_0) fun p23 =>
      Option.bind (rd (deI .i64) H p23) fun x24 =>
      if x24=x10 then
       Option.bind (rd deSl H (Addr.add q4 4)) fun x25 =>
       Option.bind (idxA 1 x25 x14_1) fun p26 =>
       Option.bind (rd (deI .i64) H p26) fun x27 =>
       some (decide (x27=x7))
      else
       some false
    else
     Option.bind (rd deSl H (Addr.add q4 4)) fun x28 =>
     Option.bind (idxA 1 x28 x14_0) fun p29 =>
     Option.bind (rd (deI .i64) H p29) fun x30 =>
     if x30=x10 then
      Option.bind (rd deSl H (Addr.add q4 4)) fun x31 =>
      Option.bind (idxA 1 x31 x14_1) fun p32 =>
      Option.bind (rd (deI .i64) H p32) fun x33 =>
      some (decide (x33=x7))
     else
      some false
   else
    some false) fun v97_15 =>
  if v97_15=true then
   some (.ret true)
  else
   some (.next (IntKind.i64.wrap (v44_12+1)))
 else
  some (.brk v44_12)
def z7e (_L:LC) (_H:AH) (q4:Addr) (x7 x10:Int) (x11:Sl3):Int→KN×Lcs:=fun v44_12=>([kI 44 v44_12,kP 0 q4,kI 7 x7,kI 8 x10,kS 42 x11,kI 43 (x11.n:Int)],[])
noncomputable def zm (_L:LC) (H:AH) (_q4:Addr) (_x10:Int) (_x39:Sl3) (_v110_40 x42:Int) (x47:Sl3):Int→Option (Lp Int Bool):=fun v125_48 =>
 if v125_48<(x47.n:Int) then
  Option.bind (idxA 1 x47 v125_48) fun p49 =>
  Option.bind (rd (deI .i64) H p49) fun x50 =>
  if x42=x50 then
   some (.next (IntKind.i64.wrap (v125_48+1)))
  else
   some (.ret true)
 else
  some (.brk v125_48)
def z7m (_L:LC) (_H:AH) (q4:Addr) (x10:Int) (x39:Sl3) (v110_40 x42:Int) (x47:Sl3):Int→KN×Lcs:=fun v125_48=>([kI 125 v125_48,kP 0 q4,kI 8 x10,kI 12 x42,kS 108 x39,kI 109 (x39.n:Int),kI 110 v110_40,kS 123 x47,kI 124 (x47.n:Int)],[])
noncomputable def z16 (L:LC) (H:AH) (q4:Addr) (x10:Int) (x39:Sl3):Int→Option (Lp Int Bool):=fun v110_40 =>
 if v110_40<(x39.n:Int) then
  Option.bind (idxA 1 x39 v110_40) fun p41 =>
  Option.bind (rd (deI .i64) H p41) fun x42 =>
  Option.bind (rd deSl H (Addr.add q4 5)) fun x43 =>
  Option.bind (idxA 1 x43 x10) fun p44 =>
  Option.bind (rd deP H p44) fun x45 =>
  Option.bind x45 fun q46 =>
  Option.bind (rd deSl H (Addr.add q46 2)) fun x47 =>
  Option.bind (L.run (zm L H q4 x10 x39 v110_40 x42 x47) 0) fun o=>match o with
  | .inl _ =>
   some (.next (IntKind.i64.wrap (v110_40+1)))
  | .inr r=>some (.ret r)
 else
  some (.brk v110_40)
def z7i (_L:LC) (_H:AH) (q4:Addr) (x10:Int) (x39:Sl3):Int→KN×Lcs:=fun v110_40=>([kI 110 v110_40,kP 0 q4,kI 8 x10,kS 108 x39,kI 109 (x39.n:Int)],[])
noncomputable def z1l (L:LC) (H:AH) (a0:Option Addr) (a1 a2:Int):Option Bool :=
 Option.bind (α:=Bool) (
  Option.bind (z1k L H a0 a1) fun x2 =>
  if x2=true then
   Option.bind (z1k L H a0 a2) fun x3 =>
   some (!x3)
  else
   some true) fun v24_1 =>
 if v24_1=true then
  some false
 else
  Option.bind a0 fun q4 =>
  Option.bind (rd deSl H (Addr.add q4 4)) fun x5 =>
  Option.bind (idxA 1 x5 a1) fun p6 =>
  Option.bind (rd (deI .i64) H p6) fun x7 =>
  Option.bind (rd deSl H (Addr.add q4 4)) fun x8 =>
  Option.bind (idxA 1 x8 a2) fun p9 =>
  Option.bind (rd (deI .i64) H p9) fun x10 =>
  Option.bind (rd deSl H (Addr.add q4 2)) fun x11 =>
  Option.bind (L.run (z17 L H q4 x7 x10 x11) 0) fun o=>match o with
  | .inl _ =>
   Option.bind (rd deSl H (Addr.add q4 5)) fun x35 =>
   Option.bind (idxA 1 x35 x7) fun p36 =>
   Option.bind (rd deP H p36) fun x37 =>
   Option.bind x37 fun q38 =>
   Option.bind (rd deSl H (Addr.add q38 2)) fun x39 =>
   Option.bind (L.run (z16 L H q4 x10 x39) 0) fun o=>match o with
   | .inl _ =>
    some false
   | .inr r=>some r
  | .inr r=>some r
theorem z45 {E m L H q4 x7 x10 x11} :LoopF Tryd.prog (NE.plain 1000) m E Tryd.f23 ((cfst (csnd (cfst (csnd (csnd (csnd B23))))))) (z7e L H q4 x7 x10 x11) (fun _=>H) 0 z2t (z2x H) (z17 L H q4 x7 x10 x11):=by
 rintro v44_12 o h
 unfold z17 at h
 try dsimp only at h
 refine WS.sq (WS.rg (RS.mS 1 [kB 45 (decide (v44_12<(x11.n:Int)))] (RS.dn (WS.nxt (WS.sq ?_)))))
 rcases z9 h with ⟨hp,h⟩ | ⟨hp,h⟩
 ·refine WS.fx 45 true (decide_eq_true hp) (WS.cT (WS.sk (WS.nxt (WS.sq (WS.bk 1 (WS.sq (WS.rg ?_)))))))
  obtain ⟨p13,hx,h⟩:=bind_some h
  refine RS.ix 46 59 91 (.tmp 42) (.tmp 44) hx ?_
  obtain ⟨x14_0,hx0,h⟩:=bind_some h
  obtain ⟨x14_1,hx1,h⟩:=bind_some h
  obtain ⟨x14_2,hx2,h⟩:=bind_some h
  obtain ⟨x14_3,hx3,h⟩:=bind_some h
  refine RS.la 47 91 (.tmp 46) 4 (zi (z0 hx0 zd) (zi (z0 hx1 zd) (zi (z0 hx2 zd) (zi (z0 hx3 z4o) z5n)))) (RS.mL 2 [kL 10 0 0] ([some (91,[(Value.int .i64 x14_0),(Value.int .i64 x14_1),(Value.int .i64 x14_2),(Value.bool x14_3)])]) (RS.dn (WS.nxt ?_)))
  obtain ⟨v97_15,hx,h⟩:=bind_some h
  refine WS.sq ?_
  refine WS.join ([kB 97 v97_15,kP 0 q4,kI 7 x7,kI 8 x10,kS 42 x11,kI 43 (x11.n:Int),kI 44 v44_12]) ([some (91,[(Value.int .i64 x14_0),(Value.int .i64 x14_1),(Value.int .i64 x14_2),(Value.bool x14_3)])]) H ?_ (fun a w hs=>WS.nxt ?_ a w hs)
  ·clear h; rename _=>h
   refine WS.dr [0,1,2,3,4,5,6,7,8,9,10,11,12,13,14,15,16,17,18,19,20,21,22,23,24,25,26,27,28,29,30,31,32,33,34,35,36,37,38,39,40,41,42,43,44] [0,1,3,7,15,31,63,7,135,511,1023,7,4095,8191,16383,32767,65535,131071,16383,278527,1048575,2097151,16383,8388607,16777215,33554431,67108863,134217727,268435455,536870911,67108863,1140850687,4294967295,8589934591,67108863,34359738367,68719476735,137438953471,274877906943,549755813887,1099511627775,137438953471,2336462209023,8796093022207,17592186044415,137438953471,70368744177663,140737488355327,281474976710655,562949953421311] 50 (fun hcl=>?_)
   refine DA.tL 0 (some 48) (.loc 0 3) (DA.tL 1 (some 49) (.val (Value.bool x14_3)) (DA.tK 2 (some 50) (Value.bool x14_3) ?_))
   rcases z9 h with ⟨hp,h⟩ | ⟨hp,h⟩
   ·refine DA.fx 50 true hp (DA.tK 3 (some 51) (Value.pointer (some q4)) (DA.tK 4 (some 52) (Value.pointer (some q4)) (DA.tK 5 (some 53) (Value.pointer (some (Addr.add q4 4))) ?_)))
    obtain ⟨x16,hx,h⟩:=bind_some h
    refine DA.tD 6 (some 54) (Sl3.v x16) (Abs.det_load (t:=27) (x:=.tmp 53) (a:=(Addr.add q4 4)) (by kernel_rfl) (by kernel_rfl) (by kernel_rfl) (by kernel_rfl) (z0 hx zb)) (DA.tL 7 (some 55) (.loc 0 0) (DA.tL 8 (some 56) (.val (Value.int .i64 x14_0)) ?_))
    obtain ⟨p17,hx,h⟩:=bind_some h
    refine DA.tD 9 (some 57) (Value.pointer (some p17)) (Abs.det_idx (s:=x16) (k:=.i64) (t:=27) (e:=3) (x:=.tmp 54) (y:=.tmp 56) (by kernel_rfl) (by kernel_rfl) (by kernel_rfl) (by kernel_rfl) (by kernel_rfl) hx) ?_
    obtain ⟨x18,hx,h⟩:=bind_some h
    refine DA.tD 10 (some 58) (Value.int .i64 x18) (Abs.det_load (t:=3) (x:=.tmp 57) (a:=p17) (by kernel_rfl) (by kernel_rfl) (by kernel_rfl) (by kernel_rfl) (z0 hx zd)) (DA.tK 11 (some 59) (Value.int .i64 x7) (DA.tK 12 (some 60) (Value.bool (decide (x18=x7))) (DA.tK 13 (some 61) (Value.bool (decide (x18=x7))) ?_)))
    rcases z9 h with ⟨hp,h⟩ | ⟨hp,h⟩
    ·refine DA.fx 61 true (decide_eq_true hp) (DA.tK 14 (some 62) (Value.pointer (some q4)) (DA.tK 15 (some 63) (Value.pointer (some q4)) (DA.tK 16 (some 64) (Value.pointer (some (Addr.add q4 4))) ?_)))
     obtain ⟨x19,hx,h⟩:=bind_some h
     refine DA.tD 17 (some 65) (Sl3.v x19) (Abs.det_load (t:=27) (x:=.tmp 64) (a:=(Addr.add q4 4)) (by kernel_rfl) (by kernel_rfl) (by kernel_rfl) (by kernel_rfl) (z0 hx zb)) (DA.tL 18 (some 66) (.loc 0 1) (DA.tL 19 (some 67) (.val (Value.int .i64 x14_1)) ?_))
     obtain ⟨p20,hx,h⟩:=bind_some h
     refine DA.tD 20 (some 68) (Value.pointer (some p20)) (Abs.det_idx (s:=x19) (k:=.i64) (t:=27) (e:=3) (x:=.tmp 65) (y:=.tmp 67) (by kernel_rfl) (by kernel_rfl) (by kernel_rfl) (by kernel_rfl) (by kernel_rfl) hx) ?_
     obtain ⟨x21,hx,h⟩:=bind_some h
     refine DA.tD 21 (some 69) (Value.int .i64 x21) (Abs.det_load (t:=3) (x:=.tmp 68) (a:=p20) (by kernel_rfl) (by kernel_rfl) (by kernel_rfl) (by kernel_rfl) (z0 hx zd)) (DA.tK 22 (some 70) (Value.int .i64 x10) (DA.tK 23 (some 71) (Value.bool (decide (x21=x10))) (DA.tK 24 (some 72) (Value.bool (decide (x21=x10))) (DA.tK 25 (some 73) (Value.bool (decide (x21=x10))) ?_))))
     rcases z9 h with ⟨hp,h⟩ | ⟨hp,h⟩
     ·refine DA.fx 73 true (decide_eq_true hp) ?_
      refine DA.tskipD 26 (some 74) (by kernel_rfl) (by kernel_rfl) (by kernel_rfl) hcl (fun _ _ _ h=>h) (by kernel_rfl) ?_
      refine DA.tskipD 27 (some 75) (by kernel_rfl) (by kernel_rfl) (by kernel_rfl) hcl (fun _ _ _ h=>h) (by kernel_rfl) ?_
      refine DA.tskipD 28 (some 76) (by kernel_rfl) (by kernel_rfl) (by kernel_rfl) hcl (fun _ _ _ h=>h) (by kernel_rfl) ?_
      refine DA.tskipD 29 (some 77) (by kernel_rfl) (by kernel_rfl) (by kernel_rfl) hcl (fun _ _ _ h=>h) (by kernel_rfl) ?_
      refine DA.tskipD 30 (some 78) (by kernel_rfl) (by kernel_rfl) (by kernel_rfl) hcl (fun _ _ _ h=>h) (by kernel_rfl) ?_
      refine DA.tskipD 31 (some 79) (by kernel_rfl) (by kernel_rfl) (by kernel_rfl) hcl (fun _ _ _ h=>h) (by kernel_rfl) ?_
      refine DA.tskipD 32 (some 80) (by kernel_rfl) (by kernel_rfl) (by kernel_rfl) hcl (fun _ _ _ h=>h) (by kernel_rfl) ?_
      refine DA.tskipD 33 (some 81) (by kernel_rfl) (by kernel_rfl) (by kernel_rfl) hcl (fun _ _ _ h=>h) (by kernel_rfl) ?_
      refine DA.tskipD 34 (some 82) (by kernel_rfl) (by kernel_rfl) (by kernel_rfl) hcl (fun _ _ _ h=>h) (by kernel_rfl) ?_
      refine DA.tskipD 35 (some 83) (by kernel_rfl) (by kernel_rfl) (by kernel_rfl) hcl (fun _ _ _ h=>h) (by kernel_rfl) ?_
      refine DA.tskipD 36 (some 84) (by kernel_rfl) (by kernel_rfl) (by kernel_rfl) hcl (fun _ _ _ h=>h) (by kernel_rfl) ?_
      refine DA.tskipD 37 (some 85) (by kernel_rfl) (by kernel_rfl) (by kernel_rfl) hcl (fun _ _ _ h=>h) (by kernel_rfl) ?_
      refine DA.tskipD 38 (some 86) (by kernel_rfl) (by kernel_rfl) (by kernel_rfl) hcl (fun _ _ _ h=>h) (by kernel_rfl) ?_
      refine DA.tskipD 39 (some 87) (by kernel_rfl) (by kernel_rfl) (by kernel_rfl) hcl (fun _ _ _ h=>h) (by kernel_rfl) ?_
      refine DA.tskipD 40 (some 88) (by kernel_rfl) (by kernel_rfl) (by kernel_rfl) hcl (fun _ _ _ h=>h) (by kernel_rfl) ?_
      refine DA.tskipD 41 (some 89) (by kernel_rfl) (by kernel_rfl) (by kernel_rfl) hcl (fun _ _ _ h=>h) (by kernel_rfl) ?_
      refine DA.tskipD 42 (some 90) (by kernel_rfl) (by kernel_rfl) (by kernel_rfl) hcl (fun _ _ _ h=>h) (by kernel_rfl) ?_
      refine DA.tskipD 43 (some 91) (by kernel_rfl) (by kernel_rfl) (by kernel_rfl) hcl (fun _ _ _ h=>h) (by kernel_rfl) ?_
      refine DA.tskipD 44 (some 92) (by kernel_rfl) (by kernel_rfl) (by kernel_rfl) hcl (fun _ _ _ h=>h) (by kernel_rfl) ?_
      refine DA.tskipP 45 (some 93) (by kernel_rfl) (by kernel_rfl) (by kernel_rfl) hcl (fun _ _ _ h=>h) (by kernel_rfl) ?_
      refine DA.tskipP 46 (some 94) (by kernel_rfl) (by kernel_rfl) (by kernel_rfl) hcl (fun _ _ _ h=>h) (by kernel_rfl) ?_
      refine DA.tskipP 47 (some 95) (by kernel_rfl) (by kernel_rfl) (by kernel_rfl) hcl (fun _ _ _ h=>h) (by kernel_rfl) ?_
      refine DA.tP 48 (some 96) (Value.bool true) (DA.tP 49 (some 97) (Value.bool true) (DA.dn ?_))
      cases h
      exact fun a w hs=>(jsN (hs.sb 1))
     ·refine DA.fx 73 false (decide_eq_false hp) (DA.tK 26 (some 74) (Value.pointer (some q4)) (DA.tK 27 (some 75) (Value.pointer (some q4)) (DA.tK 28 (some 76) (Value.pointer (some (Addr.add q4 4))) ?_)))
      obtain ⟨x22,hx,h⟩:=bind_some h
      refine DA.tD 29 (some 77) (Sl3.v x22) (Abs.det_load (t:=27) (x:=.tmp 76) (a:=(Addr.add q4 4)) (by kernel_rfl) (by kernel_rfl) (by kernel_rfl) (by kernel_rfl) (z0 hx zb)) (DA.tL 30 (some 78) (.loc 0 0) (DA.tL 31 (some 79) (.val (Value.int .i64 x14_0)) ?_))
      obtain ⟨p23,hx,h⟩:=bind_some h
      refine DA.tD 32 (some 80) (Value.pointer (some p23)) (Abs.det_idx (s:=x22) (k:=.i64) (t:=27) (e:=3) (x:=.tmp 77) (y:=.tmp 79) (by kernel_rfl) (by kernel_rfl) (by kernel_rfl) (by kernel_rfl) (by kernel_rfl) hx) ?_
      obtain ⟨x24,hx,h⟩:=bind_some h
      refine DA.tD 33 (some 81) (Value.int .i64 x24) (Abs.det_load (t:=3) (x:=.tmp 80) (a:=p23) (by kernel_rfl) (by kernel_rfl) (by kernel_rfl) (by kernel_rfl) (z0 hx zd)) (DA.tK 34 (some 82) (Value.int .i64 x10) (DA.tK 35 (some 83) (Value.bool (decide (x24=x10))) (DA.tK 36 (some 84) (Value.bool (decide (x24=x10))) ?_)))
      rcases z9 h with ⟨hp,h⟩ | ⟨hp,h⟩
      ·refine DA.fx 84 true (decide_eq_true hp) (DA.tK 37 (some 85) (Value.pointer (some q4)) (DA.tK 38 (some 86) (Value.pointer (some q4)) (DA.tK 39 (some 87) (Value.pointer (some (Addr.add q4 4))) ?_)))
       obtain ⟨x25,hx,h⟩:=bind_some h
       refine DA.tD 40 (some 88) (Sl3.v x25) (Abs.det_load (t:=27) (x:=.tmp 87) (a:=(Addr.add q4 4)) (by kernel_rfl) (by kernel_rfl) (by kernel_rfl) (by kernel_rfl) (z0 hx zb)) (DA.tL 41 (some 89) (.loc 0 1) (DA.tL 42 (some 90) (.val (Value.int .i64 x14_1)) ?_))
       obtain ⟨p26,hx,h⟩:=bind_some h
       refine DA.tD 43 (some 91) (Value.pointer (some p26)) (Abs.det_idx (s:=x25) (k:=.i64) (t:=27) (e:=3) (x:=.tmp 88) (y:=.tmp 90) (by kernel_rfl) (by kernel_rfl) (by kernel_rfl) (by kernel_rfl) (by kernel_rfl) hx) ?_
       obtain ⟨x27,hx,h⟩:=bind_some h
       refine DA.tD 44 (some 92) (Value.int .i64 x27) (Abs.det_load (t:=3) (x:=.tmp 91) (a:=p26) (by kernel_rfl) (by kernel_rfl) (by kernel_rfl) (by kernel_rfl) (z0 hx zd)) (DA.tP 45 (some 93) (Value.int .i64 x7) (DA.tP 46 (some 94) (Value.bool (decide (x27=x7))) (DA.tP 47 (some 95) (Value.bool (decide (x27=x7))) (DA.tP 48 (some 96) (Value.bool (decide (x27=x7))) (DA.tP 49 (some 97) (Value.bool (decide (x27=x7))) (DA.dn ?_))))))
       cases h
       exact fun a w hs=>(jsN (hs.sb 1))
      ·refine DA.fx 84 false (decide_eq_false hp) ?_
       refine DA.tskipD 37 (some 85) (by kernel_rfl) (by kernel_rfl) (by kernel_rfl) hcl (fun _ _ _ h=>h) (by kernel_rfl) ?_
       refine DA.tskipD 38 (some 86) (by kernel_rfl) (by kernel_rfl) (by kernel_rfl) hcl (fun _ _ _ h=>h) (by kernel_rfl) ?_
       refine DA.tskipD 39 (some 87) (by kernel_rfl) (by kernel_rfl) (by kernel_rfl) hcl (fun _ _ _ h=>h) (by kernel_rfl) ?_
       refine DA.tskipD 40 (some 88) (by kernel_rfl) (by kernel_rfl) (by kernel_rfl) hcl (fun _ _ _ h=>h) (by kernel_rfl) ?_
       refine DA.tskipD 41 (some 89) (by kernel_rfl) (by kernel_rfl) (by kernel_rfl) hcl (fun _ _ _ h=>h) (by kernel_rfl) ?_
       refine DA.tskipD 42 (some 90) (by kernel_rfl) (by kernel_rfl) (by kernel_rfl) hcl (fun _ _ _ h=>h) (by kernel_rfl) ?_
       refine DA.tskipD 43 (some 91) (by kernel_rfl) (by kernel_rfl) (by kernel_rfl) hcl (fun _ _ _ h=>h) (by kernel_rfl) ?_
       refine DA.tskipD 44 (some 92) (by kernel_rfl) (by kernel_rfl) (by kernel_rfl) hcl (fun _ _ _ h=>h) (by kernel_rfl) ?_
       refine DA.tskipP 45 (some 93) (by kernel_rfl) (by kernel_rfl) (by kernel_rfl) hcl (fun _ _ _ h=>h) (by kernel_rfl) ?_
       refine DA.tskipP 46 (some 94) (by kernel_rfl) (by kernel_rfl) (by kernel_rfl) hcl (fun _ _ _ h=>h) (by kernel_rfl) ?_
       refine DA.tP 47 (some 95) (Value.bool false) (DA.tP 48 (some 96) (Value.bool false) (DA.tP 49 (some 97) (Value.bool false) (DA.dn ?_)))
       cases h
       exact fun a w hs=>(jsN (hs.sb 1))
    ·refine DA.fx 61 false (decide_eq_false hp) ?_
     refine DA.tskipD 14 (some 62) (by kernel_rfl) (by kernel_rfl) (by kernel_rfl) hcl (fun _ _ _ h=>h) (by kernel_rfl) ?_
     refine DA.tskipD 15 (some 63) (by kernel_rfl) (by kernel_rfl) (by kernel_rfl) hcl (fun _ _ _ h=>h) (by kernel_rfl) ?_
     refine DA.tskipD 16 (some 64) (by kernel_rfl) (by kernel_rfl) (by kernel_rfl) hcl (fun _ _ _ h=>h) (by kernel_rfl) ?_
     refine DA.tskipD 17 (some 65) (by kernel_rfl) (by kernel_rfl) (by kernel_rfl) hcl (fun _ _ _ h=>h) (by kernel_rfl) ?_
     refine DA.tskipD 18 (some 66) (by kernel_rfl) (by kernel_rfl) (by kernel_rfl) hcl (fun _ _ _ h=>h) (by kernel_rfl) ?_
     refine DA.tskipD 19 (some 67) (by kernel_rfl) (by kernel_rfl) (by kernel_rfl) hcl (fun _ _ _ h=>h) (by kernel_rfl) ?_
     refine DA.tskipD 20 (some 68) (by kernel_rfl) (by kernel_rfl) (by kernel_rfl) hcl (fun _ _ _ h=>h) (by kernel_rfl) ?_
     refine DA.tskipD 21 (some 69) (by kernel_rfl) (by kernel_rfl) (by kernel_rfl) hcl (fun _ _ _ h=>h) (by kernel_rfl) ?_
     refine DA.tskipD 22 (some 70) (by kernel_rfl) (by kernel_rfl) (by kernel_rfl) hcl (fun _ _ _ h=>h) (by kernel_rfl) ?_
     refine DA.tskipD 23 (some 71) (by kernel_rfl) (by kernel_rfl) (by kernel_rfl) hcl (fun _ _ _ h=>h) (by kernel_rfl) ?_
     refine DA.tK 24 (some 72) (Value.bool false) (DA.tK 25 (some 73) (Value.bool false) (DA.tK 26 (some 74) (Value.pointer (some q4)) (DA.tK 27 (some 75) (Value.pointer (some q4)) (DA.tK 28 (some 76) (Value.pointer (some (Addr.add q4 4))) ?_))))
     obtain ⟨x28,hx,h⟩:=bind_some h
     refine DA.tD 29 (some 77) (Sl3.v x28) (Abs.det_load (t:=27) (x:=.tmp 76) (a:=(Addr.add q4 4)) (by kernel_rfl) (by kernel_rfl) (by kernel_rfl) (by kernel_rfl) (z0 hx zb)) (DA.tL 30 (some 78) (.loc 0 0) (DA.tL 31 (some 79) (.val (Value.int .i64 x14_0)) ?_))
     obtain ⟨p29,hx,h⟩:=bind_some h
     refine DA.tD 32 (some 80) (Value.pointer (some p29)) (Abs.det_idx (s:=x28) (k:=.i64) (t:=27) (e:=3) (x:=.tmp 77) (y:=.tmp 79) (by kernel_rfl) (by kernel_rfl) (by kernel_rfl) (by kernel_rfl) (by kernel_rfl) hx) ?_
     obtain ⟨x30,hx,h⟩:=bind_some h
     refine DA.tD 33 (some 81) (Value.int .i64 x30) (Abs.det_load (t:=3) (x:=.tmp 80) (a:=p29) (by kernel_rfl) (by kernel_rfl) (by kernel_rfl) (by kernel_rfl) (z0 hx zd)) (DA.tK 34 (some 82) (Value.int .i64 x10) (DA.tK 35 (some 83) (Value.bool (decide (x30=x10))) (DA.tK 36 (some 84) (Value.bool (decide (x30=x10))) ?_)))
     rcases z9 h with ⟨hp,h⟩ | ⟨hp,h⟩
     ·refine DA.fx 84 true (decide_eq_true hp) (DA.tK 37 (some 85) (Value.pointer (some q4)) (DA.tK 38 (some 86) (Value.pointer (some q4)) (DA.tK 39 (some 87) (Value.pointer (some (Addr.add q4 4))) ?_)))
      obtain ⟨x31,hx,h⟩:=bind_some h
      refine DA.tD 40 (some 88) (Sl3.v x31) (Abs.det_load (t:=27) (x:=.tmp 87) (a:=(Addr.add q4 4)) (by kernel_rfl) (by kernel_rfl) (by kernel_rfl) (by kernel_rfl) (z0 hx zb)) (DA.tL 41 (some 89) (.loc 0 1) (DA.tL 42 (some 90) (.val (Value.int .i64 x14_1)) ?_))
      obtain ⟨p32,hx,h⟩:=bind_some h
      refine DA.tD 43 (some 91) (Value.pointer (some p32)) (Abs.det_idx (s:=x31) (k:=.i64) (t:=27) (e:=3) (x:=.tmp 88) (y:=.tmp 90) (by kernel_rfl) (by kernel_rfl) (by kernel_rfl) (by kernel_rfl) (by kernel_rfl) hx) ?_
      obtain ⟨x33,hx,h⟩:=bind_some h
      refine DA.tD 44 (some 92) (Value.int .i64 x33) (Abs.det_load (t:=3) (x:=.tmp 91) (a:=p32) (by kernel_rfl) (by kernel_rfl) (by kernel_rfl) (by kernel_rfl) (z0 hx zd)) (DA.tP 45 (some 93) (Value.int .i64 x7) (DA.tP 46 (some 94) (Value.bool (decide (x33=x7))) (DA.tP 47 (some 95) (Value.bool (decide (x33=x7))) (DA.tP 48 (some 96) (Value.bool (decide (x33=x7))) (DA.tP 49 (some 97) (Value.bool (decide (x33=x7))) (DA.dn ?_))))))
      cases h
      exact fun a w hs=>(jsN (hs.sb 1))
     ·refine DA.fx 84 false (decide_eq_false hp) ?_
      refine DA.tskipD 37 (some 85) (by kernel_rfl) (by kernel_rfl) (by kernel_rfl) hcl (fun _ _ _ h=>h) (by kernel_rfl) ?_
      refine DA.tskipD 38 (some 86) (by kernel_rfl) (by kernel_rfl) (by kernel_rfl) hcl (fun _ _ _ h=>h) (by kernel_rfl) ?_
      refine DA.tskipD 39 (some 87) (by kernel_rfl) (by kernel_rfl) (by kernel_rfl) hcl (fun _ _ _ h=>h) (by kernel_rfl) ?_
      refine DA.tskipD 40 (some 88) (by kernel_rfl) (by kernel_rfl) (by kernel_rfl) hcl (fun _ _ _ h=>h) (by kernel_rfl) ?_
      refine DA.tskipD 41 (some 89) (by kernel_rfl) (by kernel_rfl) (by kernel_rfl) hcl (fun _ _ _ h=>h) (by kernel_rfl) ?_
      refine DA.tskipD 42 (some 90) (by kernel_rfl) (by kernel_rfl) (by kernel_rfl) hcl (fun _ _ _ h=>h) (by kernel_rfl) ?_
      refine DA.tskipD 43 (some 91) (by kernel_rfl) (by kernel_rfl) (by kernel_rfl) hcl (fun _ _ _ h=>h) (by kernel_rfl) ?_
      refine DA.tskipD 44 (some 92) (by kernel_rfl) (by kernel_rfl) (by kernel_rfl) hcl (fun _ _ _ h=>h) (by kernel_rfl) ?_
      refine DA.tskipP 45 (some 93) (by kernel_rfl) (by kernel_rfl) (by kernel_rfl) hcl (fun _ _ _ h=>h) (by kernel_rfl) ?_
      refine DA.tskipP 46 (some 94) (by kernel_rfl) (by kernel_rfl) (by kernel_rfl) hcl (fun _ _ _ h=>h) (by kernel_rfl) ?_
      refine DA.tP 47 (some 95) (Value.bool false) (DA.tP 48 (some 96) (Value.bool false) (DA.tP 49 (some 97) (Value.bool false) (DA.dn ?_)))
      cases h
      exact fun a w hs=>(jsN (hs.sb 1))
   ·refine DA.fx 50 false (b_not hp) ?_
    refine DA.tskipD 3 (some 51) (by kernel_rfl) (by kernel_rfl) (by kernel_rfl) hcl (fun _ _ _ h=>h) (by kernel_rfl) ?_
    refine DA.tskipD 4 (some 52) (by kernel_rfl) (by kernel_rfl) (by kernel_rfl) hcl (fun _ _ _ h=>h) (by kernel_rfl) ?_
    refine DA.tskipD 5 (some 53) (by kernel_rfl) (by kernel_rfl) (by kernel_rfl) hcl (fun _ _ _ h=>h) (by kernel_rfl) ?_
    refine DA.tskipD 6 (some 54) (by kernel_rfl) (by kernel_rfl) (by kernel_rfl) hcl (fun _ _ _ h=>h) (by kernel_rfl) ?_
    refine DA.tskipD 7 (some 55) (by kernel_rfl) (by kernel_rfl) (by kernel_rfl) hcl (fun _ _ _ h=>h) (by kernel_rfl) ?_
    refine DA.tskipD 8 (some 56) (by kernel_rfl) (by kernel_rfl) (by kernel_rfl) hcl (fun _ _ _ h=>h) (by kernel_rfl) ?_
    refine DA.tskipD 9 (some 57) (by kernel_rfl) (by kernel_rfl) (by kernel_rfl) hcl (fun _ _ _ h=>h) (by kernel_rfl) ?_
    refine DA.tskipD 10 (some 58) (by kernel_rfl) (by kernel_rfl) (by kernel_rfl) hcl (fun _ _ _ h=>h) (by kernel_rfl) ?_
    refine DA.tskipD 11 (some 59) (by kernel_rfl) (by kernel_rfl) (by kernel_rfl) hcl (fun _ _ _ h=>h) (by kernel_rfl) ?_
    refine DA.tskipD 12 (some 60) (by kernel_rfl) (by kernel_rfl) (by kernel_rfl) hcl (fun _ _ _ h=>h) (by kernel_rfl) ?_
    refine DA.tskipD 13 (some 61) (by kernel_rfl) (by kernel_rfl) (by kernel_rfl) hcl (fun _ _ _ h=>h) (by kernel_rfl) ?_
    refine DA.tskipD 14 (some 62) (by kernel_rfl) (by kernel_rfl) (by kernel_rfl) hcl (fun _ _ _ h=>h) (by kernel_rfl) ?_
    refine DA.tskipD 15 (some 63) (by kernel_rfl) (by kernel_rfl) (by kernel_rfl) hcl (fun _ _ _ h=>h) (by kernel_rfl) ?_
    refine DA.tskipD 16 (some 64) (by kernel_rfl) (by kernel_rfl) (by kernel_rfl) hcl (fun _ _ _ h=>h) (by kernel_rfl) ?_
    refine DA.tskipD 17 (some 65) (by kernel_rfl) (by kernel_rfl) (by kernel_rfl) hcl (fun _ _ _ h=>h) (by kernel_rfl) ?_
    refine DA.tskipD 18 (some 66) (by kernel_rfl) (by kernel_rfl) (by kernel_rfl) hcl (fun _ _ _ h=>h) (by kernel_rfl) ?_
    refine DA.tskipD 19 (some 67) (by kernel_rfl) (by kernel_rfl) (by kernel_rfl) hcl (fun _ _ _ h=>h) (by kernel_rfl) ?_
    refine DA.tskipD 20 (some 68) (by kernel_rfl) (by kernel_rfl) (by kernel_rfl) hcl (fun _ _ _ h=>h) (by kernel_rfl) ?_
    refine DA.tskipD 21 (some 69) (by kernel_rfl) (by kernel_rfl) (by kernel_rfl) hcl (fun _ _ _ h=>h) (by kernel_rfl) ?_
    refine DA.tskipD 22 (some 70) (by kernel_rfl) (by kernel_rfl) (by kernel_rfl) hcl (fun _ _ _ h=>h) (by kernel_rfl) ?_
    refine DA.tskipD 23 (some 71) (by kernel_rfl) (by kernel_rfl) (by kernel_rfl) hcl (fun _ _ _ h=>h) (by kernel_rfl) ?_
    refine DA.tskipD 24 (some 72) (by kernel_rfl) (by kernel_rfl) (by kernel_rfl) hcl (fun _ _ _ h=>h) (by kernel_rfl) ?_
    refine DA.tskipD 25 (some 73) (by kernel_rfl) (by kernel_rfl) (by kernel_rfl) hcl (fun _ _ _ h=>h) (by kernel_rfl) ?_
    refine DA.tskipD 26 (some 74) (by kernel_rfl) (by kernel_rfl) (by kernel_rfl) hcl (fun _ _ _ h=>h) (by kernel_rfl) ?_
    refine DA.tskipD 27 (some 75) (by kernel_rfl) (by kernel_rfl) (by kernel_rfl) hcl (fun _ _ _ h=>h) (by kernel_rfl) ?_
    refine DA.tskipD 28 (some 76) (by kernel_rfl) (by kernel_rfl) (by kernel_rfl) hcl (fun _ _ _ h=>h) (by kernel_rfl) ?_
    refine DA.tskipD 29 (some 77) (by kernel_rfl) (by kernel_rfl) (by kernel_rfl) hcl (fun _ _ _ h=>h) (by kernel_rfl) ?_
    refine DA.tskipD 30 (some 78) (by kernel_rfl) (by kernel_rfl) (by kernel_rfl) hcl (fun _ _ _ h=>h) (by kernel_rfl) ?_
    refine DA.tskipD 31 (some 79) (by kernel_rfl) (by kernel_rfl) (by kernel_rfl) hcl (fun _ _ _ h=>h) (by kernel_rfl) ?_
    refine DA.tskipD 32 (some 80) (by kernel_rfl) (by kernel_rfl) (by kernel_rfl) hcl (fun _ _ _ h=>h) (by kernel_rfl) ?_
    refine DA.tskipD 33 (some 81) (by kernel_rfl) (by kernel_rfl) (by kernel_rfl) hcl (fun _ _ _ h=>h) (by kernel_rfl) ?_
    refine DA.tskipD 34 (some 82) (by kernel_rfl) (by kernel_rfl) (by kernel_rfl) hcl (fun _ _ _ h=>h) (by kernel_rfl) ?_
    refine DA.tskipD 35 (some 83) (by kernel_rfl) (by kernel_rfl) (by kernel_rfl) hcl (fun _ _ _ h=>h) (by kernel_rfl) ?_
    refine DA.tskipD 36 (some 84) (by kernel_rfl) (by kernel_rfl) (by kernel_rfl) hcl (fun _ _ _ h=>h) (by kernel_rfl) ?_
    refine DA.tskipD 37 (some 85) (by kernel_rfl) (by kernel_rfl) (by kernel_rfl) hcl (fun _ _ _ h=>h) (by kernel_rfl) ?_
    refine DA.tskipD 38 (some 86) (by kernel_rfl) (by kernel_rfl) (by kernel_rfl) hcl (fun _ _ _ h=>h) (by kernel_rfl) ?_
    refine DA.tskipD 39 (some 87) (by kernel_rfl) (by kernel_rfl) (by kernel_rfl) hcl (fun _ _ _ h=>h) (by kernel_rfl) ?_
    refine DA.tskipD 40 (some 88) (by kernel_rfl) (by kernel_rfl) (by kernel_rfl) hcl (fun _ _ _ h=>h) (by kernel_rfl) ?_
    refine DA.tskipD 41 (some 89) (by kernel_rfl) (by kernel_rfl) (by kernel_rfl) hcl (fun _ _ _ h=>h) (by kernel_rfl) ?_
    refine DA.tskipD 42 (some 90) (by kernel_rfl) (by kernel_rfl) (by kernel_rfl) hcl (fun _ _ _ h=>h) (by kernel_rfl) ?_
    refine DA.tskipD 43 (some 91) (by kernel_rfl) (by kernel_rfl) (by kernel_rfl) hcl (fun _ _ _ h=>h) (by kernel_rfl) ?_
    refine DA.tskipD 44 (some 92) (by kernel_rfl) (by kernel_rfl) (by kernel_rfl) hcl (fun _ _ _ h=>h) (by kernel_rfl) ?_
    refine DA.tskipP 45 (some 93) (by kernel_rfl) (by kernel_rfl) (by kernel_rfl) hcl (fun _ _ _ h=>h) (by kernel_rfl) ?_
    refine DA.tskipP 46 (some 94) (by kernel_rfl) (by kernel_rfl) (by kernel_rfl) hcl (fun _ _ _ h=>h) (by kernel_rfl) ?_
    refine DA.tskipP 47 (some 95) (by kernel_rfl) (by kernel_rfl) (by kernel_rfl) hcl (fun _ _ _ h=>h) (by kernel_rfl) ?_
    refine DA.tskipP 48 (some 96) (by kernel_rfl) (by kernel_rfl) (by kernel_rfl) hcl (fun _ _ _ h=>h) (by kernel_rfl) ?_
    refine DA.tP 49 (some 97) (Value.bool false) (DA.dn ?_)
    cases h
    exact fun a w hs=>(jsN (hs.sb 1))
  ·clear hx
   rcases z9 h with ⟨hp,h⟩ | ⟨hp,h⟩
   ·refine WS.fx 97 true hp (WS.cT (WS.sq (WS.rg (RS.mS 1 [kB 6 true] (RS.dn (WS.nxt (WS.rt ?_)))))))
    cases h
    exact fun a w hs=>bkR (sqR (lsR rfl (rS hs)))
   ·refine WS.fx 97 false (b_not hp) (WS.cF (WS.sk ?_))
    refine fun a w hs=>bkN ((WS.nxt ?_ a w hs))
    refine WS.rg (RS.mS 2 [kI 44 (IntKind.i64.wrap (v44_12+1)),kI 98 (IntKind.i64.wrap (v44_12+1))] (RS.dn ?_))
    cases h
    exact fun a w hs=>lsN rfl (hs.sb 0)
 ·refine WS.fx 45 false (decide_eq_false hp) (WS.cF (WS.ex 0 ?_))
  cases h
  exact fun a w hs=>sqE (lsB rfl (hs.sb 0))
theorem z4b {E m L H q4 x10 x39 v110_40 x42 x47} :LoopF Tryd.prog (NE.plain 1000) m E Tryd.f23 ((cfst (csnd (csnd (cfst (cfst (csnd (csnd (cfst (cfst (csnd (cfst (csnd (csnd (csnd (csnd B23)))))))))))))))) (z7m L H q4 x10 x39 v110_40 x42 x47) (fun _=>H) 4 z2t (z2x H) (zm L H q4 x10 x39 v110_40 x42 x47):=by
 rintro v125_48 o h
 unfold zm at h
 try dsimp only at h
 refine WS.sq (WS.rg (RS.mS 1 [kB 126 (decide (v125_48<(x47.n:Int)))] (RS.dn (WS.nxt (WS.sq ?_)))))
 rcases z9 h with ⟨hp,h⟩ | ⟨hp,h⟩
 ·refine WS.fx 126 true (decide_eq_true hp) (WS.cT (WS.sk (WS.nxt (WS.sq (WS.bk 5 (WS.sq (WS.rg ?_)))))))
  obtain ⟨p49,hx,h⟩:=bind_some h
  refine RS.ix 127 27 3 (.tmp 123) (.tmp 125) hx ?_
  obtain ⟨x50,hx,h⟩:=bind_some h
  refine RS.ld 128 3 (.tmp 127) (z0 hx zd) (RS.mS 1 [kI 14 x50] (RS.dn (WS.nxt (WS.sq (WS.rg (RS.mS 3 [kB 131 (!decide (x42=x50)),kI 130 x50,kI 129 x42] (RS.dn (WS.nxt ?_))))))))
  rcases z9 h with ⟨hp,h⟩ | ⟨hp,h⟩
  ·refine WS.fx 131 false (z7o hp) (WS.cF (WS.sk ?_))
   refine fun a w hs=>bkN ((WS.nxt ?_ a w hs))
   refine WS.rg (RS.mS 2 [kI 125 (IntKind.i64.wrap (v125_48+1)),kI 132 (IntKind.i64.wrap (v125_48+1))] (RS.dn ?_))
   cases h
   exact fun a w hs=>lsN rfl (hs.sb 0)
  ·refine WS.fx 131 true (z6k hp) (WS.cT (WS.sq (WS.rg (RS.mS 1 [kB 6 true] (RS.dn (WS.nxt (WS.rt ?_)))))))
   cases h
   exact fun a w hs=>bkR (sqR (lsR rfl (rS hs)))
 ·refine WS.fx 126 false (decide_eq_false hp) (WS.cF (WS.ex 4 ?_))
  cases h
  exact fun a w hs=>sqE (lsB rfl (hs.sb 0))
theorem z49 {E m L H q4 x10 x39} :LoopF Tryd.prog (NE.plain 1000) m E Tryd.f23 ((cfst (csnd (cfst (csnd (csnd (csnd (csnd B23)))))))) (z7i L H q4 x10 x39) (fun _=>H) 2 z2t (z2x H) (z16 L H q4 x10 x39):=by
 rintro v110_40 o h
 unfold z16 at h
 try dsimp only at h
 refine WS.sq (WS.rg (RS.mS 1 [kB 111 (decide (v110_40<(x39.n:Int)))] (RS.dn (WS.nxt (WS.sq ?_)))))
 rcases z9 h with ⟨hp,h⟩ | ⟨hp,h⟩
 ·refine WS.fx 111 true (decide_eq_true hp) (WS.cT (WS.sk (WS.nxt (WS.sq (WS.bk 3 (WS.sq (WS.rg ?_)))))))
  obtain ⟨p41,hx,h⟩:=bind_some h
  refine RS.ix 112 27 3 (.tmp 108) (.tmp 110) hx ?_
  obtain ⟨x42,hx,h⟩:=bind_some h
  refine RS.ld 113 3 (.tmp 112) (z0 hx zd) (RS.mS 1 [kI 12 x42] (RS.dn (WS.nxt (WS.sq (WS.rg (RS.mS 3 [(116,.val (Value.pointer (some (Addr.add q4 5)))),kP 115 q4,kP 114 q4] ?_))))))
  obtain ⟨x43,hx,h⟩:=bind_some h
  refine RS.ld 117 60 (.tmp 116) (z0 hx zb) (RS.mS 1 [kI 118 x10] ?_)
  obtain ⟨p44,hx,h⟩:=bind_some h
  refine RS.ix 119 60 79 (.tmp 117) (.tmp 118) hx ?_
  obtain ⟨x45,hx,h⟩:=bind_some h
  refine RS.ld 120 79 (.tmp 119) (z0 hx z3h) ?_
  obtain ⟨q46,hx,hq46⟩:=bind_some h
  subst hx
  have h:=hq46
  refine RS.mS 2 [(122,.val (Value.pointer (some (Addr.add q46 2)))),kP 121 q46] ?_
  obtain ⟨x47,hx,h⟩:=bind_some h
  refine RS.ld 123 27 (.tmp 122) (z0 hx zb) (RS.mS 2 [kI 125 0,kI 124 (x47.n:Int)] (RS.dn (WS.nxt (WS.bk 4 ?_))))
  obtain ⟨o,hl,h⟩:=bind_some h
  rcases o with v125_51 | r
  ·try dsimp only at h
   refine WS.lI (z4b (L:=L) (E:=E) (m:=m) (H:=H)) (L.ok hl) 0 ?_
   clear hl
   refine fun a w hs=>bkE (bkN ((WS.nxt ?_ a w hs)))
   refine WS.rg (RS.mS 2 [kI 110 (IntKind.i64.wrap (v110_40+1)),kI 133 (IntKind.i64.wrap (v110_40+1))] (RS.dn ?_))
   cases h
   exact fun a w hs=>lsN rfl (hs.sb 0)
  ·try dsimp only at h
   refine WS.lR (z4b (L:=L) (E:=E) (m:=m) (H:=H)) (L.ok hl) 0 ?_
   cases h
   exact fun a w hq=>bkR (bkR (sqR (lsR rfl hq)))
 ·refine WS.fx 111 false (decide_eq_false hp) (WS.cF (WS.ex 2 ?_))
  cases h
  exact fun a w hs=>sqE (lsB rfl (hs.sb 0))
theorem z30 {L:LC} {m:Nat} {H:AH} {a0:Option Addr} {a1 a2:Int} {r:Bool} (h:z1l L H a0 a1 a2=some r) :
  CallS Tryd.prog (NE.plain 1000) m 23 #[(Value.pointer a0),(Value.int .i64 a1),(Value.int .i64 a2)] H (z2t r) (z2x H r):=by
 refine CallS.mk (args:=[(Value.pointer a0),(Value.int .i64 a1),(Value.int .i64 a2)]) Tryd.func23 (B:=B23) (by kernel_rfl) (fun E _=>?_)
 unfold z1l at h
 refine WS.sq (WS.rg (RS.mS 1 [kB 6 false] (RS.dn (WS.nxt (WS.sq ?_)))))
 obtain ⟨v24_1,hx,h⟩:=bind_some h
 refine WS.sq ?_
 refine WS.join ([kB 24 v24_1,(0,.val (Value.pointer a0)),kI 1 a1,kI 2 a2]) ([]) H ?_ (fun a w hs=>WS.nxt ?_ a w hs)
 ·clear h; rename _=>h
  refine WS.rg (RS.mS 2 [kI 16 a1,(15,.val (Value.pointer a0))] ?_)
  obtain ⟨x2,hx,h⟩:=bind_some h
  refine RS.cl (some 17) (v:=(Value.bool x2)) 31 #[(Value.pointer a0),(Value.int .i64 a1)] (z29 hx) (RS.mS 2 [kB 19 (!x2),kB 18 (!x2)] ?_)
  rcases z9 h with ⟨hp,h⟩ | ⟨hp,h⟩
  ·refine RS.fx 19 false (nb_not hp) (RS.mS 2 [kI 21 a2,(20,.val (Value.pointer a0))] ?_)
   obtain ⟨x3,hx,h⟩:=bind_some h
   refine RS.cl (some 22) (v:=(Value.bool x3)) 31 #[(Value.pointer a0),(Value.int .i64 a2)] (z29 hx) (RS.mS 2 [kB 24 (!x3),kB 23 (!x3)] (RS.dn ?_))
   cases h
   exact fun a w hs=>(jsN (hs.sb 0))
  ·refine RS.fx 19 true (z34 hp) (RS.mS 5 [kB 24 true,kU 23,kU 22,kU 21,kU 20] (RS.dn ?_))
   cases h
   exact fun a w hs=>(jsN (hs.sb 0))
 ·clear hx
  rcases z9 h with ⟨hp,h⟩ | ⟨hp,h⟩
  ·refine WS.fx 24 true hp (WS.cT (WS.sq (WS.rg (RS.mS 1 [kB 6 false] (RS.dn (WS.nxt (WS.rt ?_)))))))
   cases h
   exact fun a w hs=>sqR (rtR (rS hs))
  ·refine WS.fx 24 false (b_not hp) (WS.cF (WS.sk (WS.nxt (WS.sq ?_))))
   refine WS.dr [0,1,2,3,4,5,6,7,8,9,10,11,12,13] [0,1,3,7,0,31,63,0,128,384,896,0,3968,8064,127,32767] 16 (fun hcl=>?_)
   refine DA.tK 0 (some 25) (Value.pointer a0) ?_
   obtain ⟨q4,hx,hq4⟩:=bind_some h
   subst hx
   have h:=hq4
   refine DA.tK 1 (some 26) (Value.pointer (some q4)) (DA.tK 2 (some 27) (Value.pointer (some (Addr.add q4 4))) ?_)
   obtain ⟨x5,hx,h⟩:=bind_some h
   refine DA.tD 3 (some 28) (Sl3.v x5) (Abs.det_load (t:=27) (x:=.tmp 27) (a:=(Addr.add q4 4)) (by kernel_rfl) (by kernel_rfl) (by kernel_rfl) (by kernel_rfl) (z0 hx zb)) (DA.tK 4 (some 29) (Value.int .i64 a1) ?_)
   obtain ⟨p6,hx,h⟩:=bind_some h
   refine DA.tD 5 (some 30) (Value.pointer (some p6)) (Abs.det_idx (s:=x5) (k:=.i64) (t:=27) (e:=3) (x:=.tmp 28) (y:=.tmp 29) (by kernel_rfl) (by kernel_rfl) (by kernel_rfl) (by kernel_rfl) (by kernel_rfl) hx) ?_
   obtain ⟨x7,hx,h⟩:=bind_some h
   refine DA.tD 6 (some 31) (Value.int .i64 x7) (Abs.det_load (t:=3) (x:=.tmp 30) (a:=p6) (by kernel_rfl) (by kernel_rfl) (by kernel_rfl) (by kernel_rfl) (z0 hx zd)) (DA.tK 7 (some 32) (Value.pointer (some q4)) (DA.tK 8 (some 33) (Value.pointer (some q4)) (DA.tK 9 (some 34) (Value.pointer (some (Addr.add q4 4))) ?_)))
   obtain ⟨x8,hx,h⟩:=bind_some h
   refine DA.tD 10 (some 35) (Sl3.v x8) (Abs.det_load (t:=27) (x:=.tmp 34) (a:=(Addr.add q4 4)) (by kernel_rfl) (by kernel_rfl) (by kernel_rfl) (by kernel_rfl) (z0 hx zb)) (DA.tK 11 (some 36) (Value.int .i64 a2) ?_)
   obtain ⟨p9,hx,h⟩:=bind_some h
   refine DA.tD 12 (some 37) (Value.pointer (some p9)) (Abs.det_idx (s:=x8) (k:=.i64) (t:=27) (e:=3) (x:=.tmp 35) (y:=.tmp 36) (by kernel_rfl) (by kernel_rfl) (by kernel_rfl) (by kernel_rfl) (by kernel_rfl) hx) ?_
   obtain ⟨x10,hx,h⟩:=bind_some h
   refine DA.tD 13 (some 38) (Value.int .i64 x10) (Abs.det_load (t:=3) (x:=.tmp 37) (a:=p9) (by kernel_rfl) (by kernel_rfl) (by kernel_rfl) (by kernel_rfl) (z0 hx zd)) (DA.tP 14 (some 7) (Value.int .i64 x7) (DA.tP 15 (some 8) (Value.int .i64 x10) (DA.dn (WS.nxt (WS.sq (WS.sq (WS.rg (RS.mS 3 [(41,.val (Value.pointer (some (Addr.add q4 2)))),kP 40 q4,kP 39 q4] ?_))))))))
   obtain ⟨x11,hx,h⟩:=bind_some h
   refine RS.ld 42 59 (.tmp 41) (z0 hx zb) (RS.mS 2 [kI 44 0,kI 43 (x11.n:Int)] (RS.dn (WS.nxt (WS.bk 0 ?_))))
   obtain ⟨o,hl,h⟩:=bind_some h
   rcases o with v44_34 | r
   ·try dsimp only at h
    refine WS.lI (z45 (L:=L) (E:=E) (m:=m) (H:=H)) (L.ok hl) 0 ?_
    clear hl
    refine fun a w hs=>bkE ((WS.nxt ?_ a w hs))
    refine WS.sq (WS.sq (WS.rg (RS.mS 3 [(101,.val (Value.pointer (some (Addr.add q4 5)))),kP 100 q4,kP 99 q4] ?_)))
    obtain ⟨x35,hx,h⟩:=bind_some h
    refine RS.ld 102 60 (.tmp 101) (z0 hx zb) (RS.mS 1 [kI 103 x7] ?_)
    obtain ⟨p36,hx,h⟩:=bind_some h
    refine RS.ix 104 60 79 (.tmp 102) (.tmp 103) hx ?_
    obtain ⟨x37,hx,h⟩:=bind_some h
    refine RS.ld 105 79 (.tmp 104) (z0 hx z3h) ?_
    obtain ⟨q38,hx,hq38⟩:=bind_some h
    subst hx
    have h:=hq38
    refine RS.mS 2 [(107,.val (Value.pointer (some (Addr.add q38 2)))),kP 106 q38] ?_
    obtain ⟨x39,hx,h⟩:=bind_some h
    refine RS.ld 108 27 (.tmp 107) (z0 hx zb) (RS.mS 2 [kI 110 0,kI 109 (x39.n:Int)] (RS.dn (WS.nxt (WS.bk 2 ?_))))
    obtain ⟨o,hl,h⟩:=bind_some h
    rcases o with v110_52 | r
    ·try dsimp only at h
     refine WS.lI (z49 (L:=L) (E:=E) (m:=m) (H:=H)) (L.ok hl) 0 ?_
     clear hl
     refine fun a w hs=>bkE ((WS.nxt ?_ a w hs))
     refine WS.sq (WS.rg (RS.mS 1 [kB 6 false] (RS.dn (WS.nxt (WS.rt ?_)))))
     cases h
     exact fun a w hs=>rtR (rS hs)
    ·try dsimp only at h
     refine WS.lR (z49 (L:=L) (E:=E) (m:=m) (H:=H)) (L.ok hl) 0 ?_
     cases h
     exact fun a w hq=>bkR (sqR (rtR hq))
   ·try dsimp only at h
    refine WS.lR (z45 (L:=L) (E:=E) (m:=m) (H:=H)) (L.ok hl) 0 ?_
    cases h
    exact fun a w hq=>bkR (sqR (rtR hq))
def zaj:Bool→Value
 | r0=>(Value.bool r0)
def zaz (H:AH):Bool→AH:=fun _=>H
noncomputable def B65:Code:=(Tryd.f65.body).getD .skip
noncomputable def z1o (_L:LC) (H:AH) (a0:Option Addr) (a1:Int):Option Bool :=
 if a1≥0 then
  Option.bind a0 fun q1 =>
  Option.bind (rd deSl H (Addr.add q1 0)) fun x2 =>
  some (decide (a1<(x2.n:Int)))
 else
  some false
theorem z42 {L:LC} {m:Nat} {H:AH} {a0:Option Addr} {a1:Int} {r:Bool} (h:z1o L H a0 a1=some r) :
  CallS Tryd.prog (NE.plain 1000) m 65 #[(Value.pointer a0),(Value.int .i64 a1)] H (zaj r) (zaz H r):=by
 refine CallS.mk (args:=[(Value.pointer a0),(Value.int .i64 a1)]) Tryd.func65 (B:=B65) (by kernel_rfl) (fun E _=>?_)
 unfold z1o at h
 refine WS.sq (WS.rg (RS.mS 1 [kB 4 false] (RS.dn (WS.nxt (WS.sq (WS.rg (RS.mS 3 [kB 7 (decide (a1≥0)),kB 6 (decide (a1≥0)),kI 5 a1] ?_)))))))
 rcases z9 h with ⟨hp,h⟩ | ⟨hp,h⟩
 ·refine RS.fx 7 true (decide_eq_true hp) (RS.mS 2 [(9,.val (Value.pointer a0)),kI 8 a1] ?_)
  obtain ⟨q1,hx,hq1⟩:=bind_some h
  subst hx
  have h:=hq1
  refine RS.mS 2 [(11,.val (Value.pointer (some (Addr.add q1 0)))),kP 10 q1] ?_
  obtain ⟨x2,hx,h⟩:=bind_some h
  refine RS.ld 12 29 (.tmp 11) (z0 hx zb) (RS.mS 4 [kB 4 (decide (a1<(x2.n:Int))),kB 15 (decide (a1<(x2.n:Int))),kB 14 (decide (a1<(x2.n:Int))),kI 13 (x2.n:Int)] (RS.dn (WS.nxt (WS.rt ?_))))
  cases h
  exact fun a w hs=>rtR (rS hs)
 ·refine RS.fx 7 false (decide_eq_false hp) (RS.mS 9 [kB 4 false,kB 15 false,kU 14,kU 13,kU 12,kU 11,kU 10,kU 9,kU 8] (RS.dn (WS.nxt (WS.rt ?_))))
  cases h
  exact fun a w hs=>rtR (rS hs)
def z9d:Bool→Value
 | r0=>(Value.bool r0)
def zar (H:AH):Bool→AH:=fun _=>H
noncomputable def B77:Code:=(Tryd.f77.body).getD .skip
noncomputable def z2c (_L:LC) (H:AH) (_a0_0:Int) (_a0_1:Bool) (a0_2:Sl3) (_a1_0:Int) (_a1_1:Bool) (a1_2:Sl3):Int→Option (Lp Int Bool):=fun v5_2 =>
 if v5_2<(a0_2.n:Int) then
  Option.bind (idxA 1 a0_2 v5_2) fun p3 =>
  Option.bind (rd (deI .i64) H p3) fun x4 =>
  Option.bind (idxA 1 a1_2 v5_2) fun p5 =>
  Option.bind (rd (deI .i64) H p5) fun x6 =>
  if x4=x6 then
   some (.next (IntKind.i64.wrap (v5_2+1)))
  else
   some (.ret false)
 else
  some (.brk v5_2)
def zco (_L:LC) (_H:AH) (a0_0:Int) (a0_1:Bool) (a0_2:Sl3) (a1_0:Int) (a1_1:Bool) (a1_2:Sl3):Int→KN×Lcs:=fun v5_2=>([kI 5 v5_2,kL 2 0 0,kL 3 1 0],[some (42,[(Value.int .i64 a0_0),(Value.bool a0_1),(Sl3.v a0_2)]),some (42,[(Value.int .i64 a1_0),(Value.bool a1_1),(Sl3.v a1_2)])])
noncomputable def z67 (L:LC) (H:AH) (a0_0:Int) (a0_1:Bool) (a0_2:Sl3) (a1_0:Int) (a1_1:Bool) (a1_2:Sl3):Option Bool :=
 Option.bind (α:=Bool) (
  if a0_0=a1_0 then
   if (a0_1 == a1_1)=true then
    some (!decide ((a0_2.n:Int)=(a1_2.n:Int)))
   else
    some true
  else
   some true) fun v26_1 =>
 if v26_1=true then
  some false
 else
  Option.bind (L.run (z2c L H a0_0 a0_1 a0_2 a1_0 a1_1 a1_2) 0) fun o=>match o with
  | .inl _ =>
   some true
  | .inr r=>some r
theorem z7x {E m L H a0_0 a0_1 a0_2 a1_0 a1_1 a1_2} :LoopF Tryd.prog (NE.plain 1000) m E Tryd.f77 ((cfst (csnd (cfst (csnd (csnd B77)))))) (zco L H a0_0 a0_1 a0_2 a1_0 a1_1 a1_2) (fun _=>H) 0 z9d (zar H) (z2c L H a0_0 a0_1 a0_2 a1_0 a1_1 a1_2):=by
 rintro v5_2 o h
 unfold z2c at h
 try dsimp only at h
 refine WS.sq (WS.sq (WS.rg (RS.mS 5 [kB 31 (decide (v5_2<(a0_2.n:Int))),kI 30 (a0_2.n:Int),kS 29 a0_2,kL 28 0 2,kI 27 v5_2] (RS.dn (WS.nxt ?_)))))
 rcases z9 h with ⟨hp,h⟩ | ⟨hp,h⟩
 ·refine WS.fx 31 true (decide_eq_true hp) (WS.cT (WS.sk (WS.nxt (WS.sq (WS.bk 1 (WS.sq ?_))))))
  refine WS.dr [0,1,2,3,4,5,6,7,8,9] [0,1,0,7,15,0,32,0,224,480,1023] 11 (fun hcl=>?_)
  refine DA.tL 0 (some 34) (.loc 0 2) (DA.tL 1 (some 35) (.val (Sl3.v a0_2)) (DA.tK 2 (some 36) (Value.int .i64 v5_2) ?_))
  obtain ⟨p3,hx,h⟩:=bind_some h
  refine DA.tD 3 (some 37) (Value.pointer (some p3)) (Abs.det_idx (s:=a0_2) (k:=.i64) (t:=27) (e:=3) (x:=.tmp 35) (y:=.tmp 36) (by kernel_rfl) (by kernel_rfl) (by kernel_rfl) (by kernel_rfl) (by kernel_rfl) hx) ?_
  obtain ⟨x4,hx,h⟩:=bind_some h
  refine DA.tD 4 (some 38) (Value.int .i64 x4) (Abs.det_load (t:=3) (x:=.tmp 37) (a:=p3) (by kernel_rfl) (by kernel_rfl) (by kernel_rfl) (by kernel_rfl) (z0 hx zd)) (DA.tL 5 (some 39) (.loc 1 2) (DA.tL 6 (some 40) (.val (Sl3.v a1_2)) (DA.tK 7 (some 41) (Value.int .i64 v5_2) ?_)))
  obtain ⟨p5,hx,h⟩:=bind_some h
  refine DA.tD 8 (some 42) (Value.pointer (some p5)) (Abs.det_idx (s:=a1_2) (k:=.i64) (t:=27) (e:=3) (x:=.tmp 40) (y:=.tmp 41) (by kernel_rfl) (by kernel_rfl) (by kernel_rfl) (by kernel_rfl) (by kernel_rfl) hx) ?_
  obtain ⟨x6,hx,h⟩:=bind_some h
  refine DA.tD 9 (some 43) (Value.int .i64 x6) (Abs.det_load (t:=3) (x:=.tmp 42) (a:=p5) (by kernel_rfl) (by kernel_rfl) (by kernel_rfl) (by kernel_rfl) (z0 hx zd)) (DA.tP 10 (some 44) (Value.bool (!decide (x4=x6))) (DA.dn (WS.nxt ?_)))
  rcases z9 h with ⟨hp,h⟩ | ⟨hp,h⟩
  ·refine WS.fx 44 false (z7o hp) (WS.cF (WS.sk ?_))
   refine fun a w hs=>bkN ((WS.nxt ?_ a w hs))
   refine WS.rg (RS.mS 3 [kI 5 (IntKind.i64.wrap (v5_2+1)),kI 33 (IntKind.i64.wrap (v5_2+1)),kI 32 v5_2] (RS.dn ?_))
   cases h
   exact fun a w hs=>lsN rfl (hs.sb 2)
  ·refine WS.fx 44 true (z6k hp) (WS.cT (WS.sq (WS.rg (RS.mS 1 [kB 4 false] (RS.dn (WS.nxt (WS.rt ?_)))))))
   cases h
   exact fun a w hs=>bkR (sqR (lsR rfl (rS hs)))
 ·refine WS.fx 31 false (decide_eq_false hp) (WS.cF (WS.ex 0 ?_))
  cases h
  exact fun a w hs=>sqE (lsB rfl (hs.sb 2))
theorem zfd {L:LC} {m:Nat} {H:AH} {a0_0:Int} {a0_1:Bool} {a0_2:Sl3} {a1_0:Int} {a1_1:Bool} {a1_2:Sl3} {r:Bool} (h:z67 L H a0_0 a0_1 a0_2 a1_0 a1_1 a1_2=some r) :
  CallS Tryd.prog (NE.plain 1000) m 77 #[(Value.agg #[(Value.int .i64 a0_0),(Value.bool a0_1),(Sl3.v a0_2)]),(Value.agg #[(Value.int .i64 a1_0),(Value.bool a1_1),(Sl3.v a1_2)])] H (z9d r) (zar H r):=by
 refine CallS.mk (args:=[(Value.agg #[(Value.int .i64 a0_0),(Value.bool a0_1),(Sl3.v a0_2)]),(Value.agg #[(Value.int .i64 a1_0),(Value.bool a1_1),(Sl3.v a1_2)])]) Tryd.func77 (B:=B77) (by kernel_rfl) (fun E _=>?_)
 unfold z67 at h
 refine WS.sq (WS.rg (RS.mL 3 [kB 4 false,kL 3 1 0,kL 2 0 0] ([some (42,[(Value.int .i64 a0_0),(Value.bool a0_1),(Sl3.v a0_2)]),some (42,[(Value.int .i64 a1_0),(Value.bool a1_1),(Sl3.v a1_2)])]) (RS.dn (WS.nxt (WS.sq ?_)))))
 obtain ⟨v26_1,hx,h⟩:=bind_some h
 refine WS.sq ?_
 refine WS.join ([kB 26 v26_1,kL 2 0 0,kL 3 1 0]) ([some (42,[(Value.int .i64 a0_0),(Value.bool a0_1),(Sl3.v a0_2)]),some (42,[(Value.int .i64 a1_0),(Value.bool a1_1),(Sl3.v a1_2)])]) H ?_ (fun a w hs=>WS.nxt ?_ a w hs)
 ·clear h; rename _=>h
  refine WS.rg (RS.mS 6 [kB 11 (!decide (a0_0=a1_0)),kB 10 (!decide (a0_0=a1_0)),kI 9 a1_0,kL 8 1 0,kI 7 a0_0,kL 6 0 0] ?_)
  rcases z9 h with ⟨hp,h⟩ | ⟨hp,h⟩
  ·refine RS.fx 11 false (z7o hp) (RS.mS 7 [kB 18 (!(a0_1 == a1_1)),kB 17 (!(a0_1 == a1_1)),kB 16 (!(a0_1 == a1_1)),kB 15 a1_1,kL 14 1 1,kB 13 a0_1,kL 12 0 1] ?_)
   rcases z9 h with ⟨hp,h⟩ | ⟨hp,h⟩
   ·refine RS.fx 18 false (nb_not hp) (RS.mS 8 [kB 26 (!decide ((a0_2.n:Int)=(a1_2.n:Int))),kB 25 (!decide ((a0_2.n:Int)=(a1_2.n:Int))),kI 24 (a1_2.n:Int),kS 23 a1_2,kL 22 1 2,kI 21 (a0_2.n:Int),kS 20 a0_2,kL 19 0 2] (RS.dn ?_))
    cases h
    exact fun a w hs=>(jsN (hs.sb 2))
   ·refine RS.fx 18 true (z34 hp) (RS.mS 8 [kB 26 true,kU 25,kU 24,kU 23,kU 22,kU 21,kU 20,kU 19] (RS.dn ?_))
    cases h
    exact fun a w hs=>(jsN (hs.sb 2))
  ·refine RS.fx 11 true (z6k hp) (RS.mS 15 [kB 26 true,kU 25,kU 24,kU 23,kU 22,kU 21,kU 20,kU 19,kB 18 true,kB 17 true,kU 16,kU 15,kU 14,kU 13,kU 12] (RS.dn ?_))
   cases h
   exact fun a w hs=>(jsN (hs.sb 2))
 ·clear hx
  rcases z9 h with ⟨hp,h⟩ | ⟨hp,h⟩
  ·refine WS.fx 26 true hp (WS.cT (WS.sq (WS.rg (RS.mS 1 [kB 4 false] (RS.dn (WS.nxt (WS.rt ?_)))))))
   cases h
   exact fun a w hs=>sqR (rtR (rS hs))
  ·refine WS.fx 26 false (b_not hp) (WS.cF (WS.sk (WS.nxt (WS.sq (WS.sq (WS.rg (RS.mS 1 [kI 5 0] (RS.dn (WS.nxt ?_)))))))))
   refine WS.bk 0 ?_
   obtain ⟨o,hl,h⟩:=bind_some h
   rcases o with v5_7 | r
   ·try dsimp only at h
    refine WS.lI (z7x (L:=L) (E:=E) (m:=m) (H:=H)) (L.ok hl) 2 ?_
    clear hl
    refine fun a w hs=>bkE ((WS.nxt ?_ a w hs))
    refine WS.sq (WS.rg (RS.mS 1 [kB 4 true] (RS.dn (WS.nxt (WS.rt ?_)))))
    cases h
    exact fun a w hs=>rtR (rS hs)
   ·try dsimp only at h
    refine WS.lR (z7x (L:=L) (E:=E) (m:=m) (H:=H)) (L.ok hl) 2 ?_
    cases h
    exact fun a w hq=>bkR (sqR (rtR hq))
end Go.Proofs.YtgkhbmoidenjaaaDoor
namespace Go.Proofs.YtgkhbmoidenjaaaDoor
open Go Go.Abs
set_option maxRecDepth 100000
def z6e:(Int×Int×AH)→Value
 | (r0,r1,_)=>(Value.tuple #[(Value.int .i64 r0),(Value.int .i64 r1)])
def z6y (_:AH):(Int×Int×AH)→AH:=fun r=>r.2.2
noncomputable def B66:Code:=(Tryd.f66.body).getD .skip
noncomputable def z1h (L:LC) (H:AH) (a0:Option Addr) (a1_0:Int) (a1_1:Bool) (a1_2:Sl3):Int→Option (Lp Int (Int×Int×AH)):=fun v6_1 =>
 Option.bind a0 fun q2 =>
 Option.bind (rd deSl H (Addr.add q2 0)) fun x3 =>
 if v6_1<(x3.n:Int) then
  Option.bind (rd deSl H (Addr.add q2 0)) fun x4 =>
  Option.bind (idxA 3 x4 v6_1) fun p5 =>
  Option.bind (rd (deI .i64) H (Addr.add p5 0)) fun x6_0 =>
  Option.bind (rd deB H (Addr.add p5 1)) fun x6_1 =>
  Option.bind (rd deSl H (Addr.add p5 2)) fun x6_2 =>
  Option.bind (z67 L H x6_0 x6_1 x6_2 a1_0 a1_1 a1_2) fun x7 =>
  if x7=true then
   some (.ret (v6_1,0,H))
  else
   some (.next (IntKind.i64.wrap (v6_1+1)))
 else
  some (.brk v6_1)
def z8y (_L:LC) (_H:AH) (a0:Option Addr) (a1_0:Int) (a1_1:Bool) (a1_2:Sl3):Int→KN×Lcs:=fun v6_1=>([kI 6 v6_1,(0,.val (Value.pointer a0)),kL 3 0 0],[some (42,[(Value.int .i64 a1_0),(Value.bool a1_1),(Sl3.v a1_2)])])
noncomputable def z28 (L:LC) (m:Nat) (H:AH) (a0:Option Addr) (a1_0:Int) (a1_1:Bool) (a1_2:Sl3):Option (Int×Int×AH) :=
 Option.bind (L.run (z1h L H a0 a1_0 a1_1 a1_2) 0) fun o=>match o with
 | .inl _ =>
  Option.bind a0 fun q9 =>
  Option.bind (rd deSl H (Addr.add q9 0)) fun x10 =>
  if (x10.n:Int)≥1048576 then
   some (0,3,H)
  else
   Option.bind (rd deSl H (Addr.add q9 0)) fun x11 =>
   Option.bind (newR 42 1 #[(Value.int .i64 a1_0),(Value.bool a1_1),(Sl3.v a1_2)] H) fun (s12,H13) =>
   Option.bind (appS m 42 3 40 H13 x11 s12) fun (s14,H15) =>
   Option.bind (H15.setCell m (Addr.add q9 0) (Sl3.v s14)) fun H16 =>
   Option.bind (rd deSl H16 (Addr.add q9 0)) fun x17 =>
   some ((IntKind.i64.wrap ((x17.n:Int) - 1)),0,H16)
 | .inr r=>some r
theorem z5l {E m L H a0 a1_0 a1_1 a1_2} :LoopF Tryd.prog (NE.plain 1000) m E Tryd.f66 ((cfst (csnd (cfst (csnd B66))))) (z8y L H a0 a1_0 a1_1 a1_2) (fun _=>H) 0 z6e (z6y H) (z1h L H a0 a1_0 a1_1 a1_2):=by
 rintro v6_1 o h
 unfold z1h at h
 try dsimp only at h
 refine WS.sq (WS.sq (WS.rg (RS.mS 2 [(8,.val (Value.pointer a0)),kI 7 v6_1] ?_)))
 obtain ⟨q2,hx,hq2⟩:=bind_some h
 subst hx
 have h:=hq2
 refine RS.mS 2 [(10,.val (Value.pointer (some (Addr.add q2 0)))),kP 9 q2] ?_
 obtain ⟨x3,hx,h⟩:=bind_some h
 refine RS.ld 11 29 (.tmp 10) (z0 hx zb) (RS.mS 2 [kB 13 (decide (v6_1<(x3.n:Int))),kI 12 (x3.n:Int)] (RS.dn (WS.nxt ?_)))
 rcases z9 h with ⟨hp,h⟩ | ⟨hp,h⟩
 ·refine WS.fx 13 true (decide_eq_true hp) (WS.cT (WS.sk (WS.nxt (WS.sq (WS.bk 1 (WS.sq ?_))))))
  refine WS.dr [0,1,2,3,4,5,6,7] [0,1,3,7,0,31,63,0,255] 9 (fun hcl=>?_)
  refine DA.tK 0 (some 16) (Value.pointer (some q2)) (DA.tK 1 (some 17) (Value.pointer (some q2)) (DA.tK 2 (some 18) (Value.pointer (some (Addr.add q2 0))) ?_))
  obtain ⟨x4,hx,h⟩:=bind_some h
  refine DA.tD 3 (some 19) (Sl3.v x4) (Abs.det_load (t:=29) (x:=.tmp 18) (a:=(Addr.add q2 0)) (by kernel_rfl) (by kernel_rfl) (by kernel_rfl) (by kernel_rfl) (z0 hx zb)) (DA.tK 4 (some 20) (Value.int .i64 v6_1) ?_)
  obtain ⟨p5,hx,h⟩:=bind_some h
  refine DA.tD 5 (some 21) (Value.pointer (some p5)) (Abs.det_idx (s:=x4) (k:=.i64) (t:=29) (e:=42) (x:=.tmp 19) (y:=.tmp 20) (by kernel_rfl) (by kernel_rfl) (by kernel_rfl) (by kernel_rfl) (by kernel_rfl) hx) ?_
  obtain ⟨x6_0,hx0,h⟩:=bind_some h
  obtain ⟨x6_1,hx1,h⟩:=bind_some h
  obtain ⟨x6_2,hx2,h⟩:=bind_some h
  refine DA.tD 6 (some 22) (Value.agg #[(Value.int .i64 x6_0),(Value.bool x6_1),(Sl3.v x6_2)]) (Abs.det_loadA (t:=42) (x:=.tmp 21) (a:=p5) (k:=3) (by kernel_rfl) (by kernel_rfl) (by kernel_rfl) (by kernel_rfl) (zi (z0 hx0 zd) (zi (z0 hx1 z4o) (zi (z0 hx2 zb) z5n)))) (DA.tL 7 (some 23) (.val (Value.agg #[(Value.int .i64 a1_0),(Value.bool a1_1),(Sl3.v a1_2)])) ?_)
  obtain ⟨x7,hx,h⟩:=bind_some h
  refine DA.on 8 (DA.aC 8 (some 24) (v:=(Value.bool x7)) 77 #[(Value.agg #[(Value.int .i64 x6_0),(Value.bool x6_1),(Sl3.v x6_2)]),(Value.agg #[(Value.int .i64 a1_0),(Value.bool a1_1),(Sl3.v a1_2)])] (zfd hx) (DA.dn (WS.nxt ?_)))
  rcases z9 h with ⟨hp,h⟩ | ⟨hp,h⟩
  ·refine WS.fx 24 true hp (WS.cT (WS.sq (WS.rg (RS.mS 3 [kI 5 0,kI 4 v6_1,kI 25 v6_1] (RS.dn (WS.nxt (WS.rt ?_)))))))
   cases h
   exact fun a w hs=>bkR (sqR (lsR rfl (rS hs)))
  ·refine WS.fx 24 false (b_not hp) (WS.cF (WS.sk ?_))
   refine fun a w hs=>bkN ((WS.nxt ?_ a w hs))
   refine WS.rg (RS.mS 3 [kI 6 (IntKind.i64.wrap (v6_1+1)),kI 15 (IntKind.i64.wrap (v6_1+1)),kI 14 v6_1] (RS.dn ?_))
   cases h
   exact fun a w hs=>lsN rfl (hs.sb 1)
 ·refine WS.fx 13 false (decide_eq_false hp) (WS.cF (WS.ex 0 ?_))
  cases h
  exact fun a w hs=>sqE (lsB rfl (hs.sb 1))
theorem z6z {L:LC} {m:Nat} {H:AH} {a0:Option Addr} {a1_0:Int} {a1_1:Bool} {a1_2:Sl3} {r:(Int×Int×AH)} (h:z28 L m H a0 a1_0 a1_1 a1_2=some r) :
  CallS Tryd.prog (NE.plain 1000) m 66 #[(Value.pointer a0),(Value.agg #[(Value.int .i64 a1_0),(Value.bool a1_1),(Sl3.v a1_2)])] H (z6e r) (z6y H r):=by
 refine CallS.mk (args:=[(Value.pointer a0),(Value.agg #[(Value.int .i64 a1_0),(Value.bool a1_1),(Sl3.v a1_2)])]) Tryd.func66 (B:=B66) (by kernel_rfl) (fun E _=>?_)
 unfold z28 at h
 refine WS.sq (WS.rg (RS.mL 3 [kI 5 0,kI 4 0,kL 3 0 0] ([some (42,[(Value.int .i64 a1_0),(Value.bool a1_1),(Sl3.v a1_2)])]) (RS.dn (WS.nxt (WS.sq (WS.sq (WS.rg (RS.mS 1 [kI 6 0] (RS.dn ?_)))))))))
 refine WS.nxt (WS.bk 0 ?_)
 obtain ⟨o,hl,h⟩:=bind_some h
 rcases o with v6_8 | r
 ·try dsimp only at h
  refine WS.lI (z5l (L:=L) (E:=E) (m:=m) (H:=H)) (L.ok hl) 1 ?_
  clear hl
  refine fun a w hs=>bkE ((WS.nxt ?_ a w hs))
  refine WS.sq (WS.sq (WS.rg (RS.mS 1 [(26,.val (Value.pointer a0))] ?_)))
  obtain ⟨q9,hx,hq9⟩:=bind_some h
  subst hx
  have h:=hq9
  refine RS.mS 2 [(28,.val (Value.pointer (some (Addr.add q9 0)))),kP 27 q9] ?_
  obtain ⟨x10,hx,h⟩:=bind_some h
  refine RS.ld 29 29 (.tmp 28) (z0 hx zb) (RS.mS 2 [kB 31 (decide ((x10.n:Int)≥1048576)),kI 30 (x10.n:Int)] (RS.dn (WS.nxt ?_)))
  rcases z9 h with ⟨hp,h⟩ | ⟨hp,h⟩
  ·refine WS.fx 31 true (decide_eq_true hp) (WS.cT (WS.sq (WS.rg (RS.mS 2 [kI 5 3,kI 4 0] (RS.dn (WS.nxt (WS.rt ?_)))))))
   cases h
   exact fun a w hs=>sqR (rtR (rS hs))
  ·refine WS.fx 31 false (decide_eq_false hp) (WS.cF (WS.sk (WS.nxt (WS.sq ?_))))
   refine WS.dr [1,2,3,4,5] [0,0,2,6,14,0,32,126,255,511,1023] 11 (fun hcl=>?_)
   refine DA.tK 1 (some 33) (Value.pointer (some q9)) (DA.tK 2 (some 34) (Value.pointer (some q9)) (DA.tK 3 (some 35) (Value.pointer (some (Addr.add q9 0))) ?_))
   obtain ⟨x11,hx,h⟩:=bind_some h
   refine DA.tD 4 (some 36) (Sl3.v x11) (Abs.det_load (t:=29) (x:=.tmp 35) (a:=(Addr.add q9 0)) (by kernel_rfl) (by kernel_rfl) (by kernel_rfl) (by kernel_rfl) (z0 hx zb)) (DA.tL 5 (some 37) (.val (Value.agg #[(Value.int .i64 a1_0),(Value.bool a1_1),(Sl3.v a1_2)])) (DA.tP 0 (some 32) (Value.pointer (some q9)) ?_))
   obtain ⟨⟨s12,H13⟩,hx,h⟩:=bind_some h
   try dsimp only at h
   refine DA.on 6 (DA.aHj (H':=H13) 6 (some 38) false (Sl3.v s12) (Abs.run_newR (by kernel_rfl) (by kernel_rfl) hx) ?_)
   obtain ⟨⟨s14,H15⟩,hx,h⟩:=bind_some h
   try dsimp only at h
   refine DA.on 7 (DA.aH (H':=H15) 7 (some 39) (Sl3.v s14) (Abs.run_app (x:=.tmp 36) (y:=.tmp 38) (ts:=#[29,29]) (s:=x11) (z:=s12) (by kernel_rfl) (by kernel_rfl) (by kernel_rfl) (by kernel_rfl) hx) (DA.tP 8 (some 40) (Value.pointer (some q9)) (DA.tP 9 (some 41) (Value.pointer (some (Addr.add q9 0))) ?_)))
   obtain ⟨H16,hx,h⟩:=bind_some h
   refine DA.on 10 (DA.aH (H':=H16) 10 none undef (Abs.run_store1 (t:=29) (x:=.tmp 41) (y:=.tmp 39) (a:=(Addr.add q9 0)) (v:=(Sl3.v s14)) (by kernel_rfl) (by kernel_rfl) (by kernel_rfl) (by kernel_rfl) (by kernel_rfl) hx) (DA.dn (WS.nxt (WS.sq (WS.rg (RS.mS 3 [(44,.val (Value.pointer (some (Addr.add q9 0)))),kP 43 q9,kP 42 q9] ?_))))))
   obtain ⟨x17,hx,h⟩:=bind_some h
   refine RS.ld 45 29 (.tmp 44) (z0 hx zb) (RS.mS 4 [kI 5 0,kI 4 (IntKind.i64.wrap ((x17.n:Int) - 1)),kI 47 (IntKind.i64.wrap ((x17.n:Int) - 1)),kI 46 (x17.n:Int)] (RS.dn (WS.nxt (WS.rt ?_))))
   cases h
   exact fun a w hs=>rtR (rS hs)
 ·try dsimp only at h
  refine WS.lR (z5l (L:=L) (E:=E) (m:=m) (H:=H)) (L.ok hl) 1 ?_
  cases h
  exact fun a w hq=>bkR (sqR (rtR hq))
def z6d:(Int×Int×AH)→Value
 | (r0,r1,_)=>(Value.tuple #[(Value.int .i64 r0),(Value.int .i64 r1)])
def z71 (_:AH):(Int×Int×AH)→AH:=fun r=>r.2.2
noncomputable def B45:Code:=(Tryd.f45.body).getD .skip
noncomputable def z1i (L:LC) (H:AH) (a0:Option Addr) (_a1:Int) (a2:Sl3):Int→Option (Lp Int (Int×Int×AH)):=fun v8_1 =>
 if v8_1<(a2.n:Int) then
  Option.bind (idxA 1 a2 v8_1) fun p2 =>
  Option.bind (rd (deI .i64) H p2) fun x3 =>
  Option.bind (z1o L H a0 x3) fun x4 =>
  if x4=true then
   some (.next (IntKind.i64.wrap (v8_1+1)))
  else
   some (.ret (0,150,H))
 else
  some (.brk v8_1)
def z92 (_L:LC) (_H:AH) (a0:Option Addr) (a1:Int) (a2:Sl3):Int→KN×Lcs:=fun v8_1=>([kI 8 v8_1,(0,.val (Value.pointer a0)),kI 1 a1,kS 2 a2],[])
noncomputable def z3n (L:LC) (m:Nat) (H:AH) (a0:Option Addr) (a1:Int) (a2:Sl3):Option (Int×Int×AH) :=
 if (a2.n:Int) > 64 then
  some (0,51,H)
 else
  Option.bind (L.run (z1i L H a0 a1 a2) 0) fun o=>match o with
  | .inl _ =>
   Option.bind (appS m 3 1 8 H Sl3.nil a2) fun (s6,H7) =>
   Option.bind (z28 L m H7 a0 a1 false s6) fun (x8,x9,H10) =>
   some (x8,x9,H10)
  | .inr r=>some r
theorem z5r {E m L H a0 a1 a2} :LoopF Tryd.prog (NE.plain 1000) m E Tryd.f45 ((cfst (csnd (cfst (csnd (csnd B45)))))) (z92 L H a0 a1 a2) (fun _=>H) 0 z6d (z71 H) (z1i L H a0 a1 a2):=by
 rintro v8_1 o h
 unfold z1i at h
 try dsimp only at h
 refine WS.sq (WS.sq (WS.rg (RS.mS 4 [kB 16 (decide (v8_1<(a2.n:Int))),kI 15 (a2.n:Int),kS 14 a2,kI 13 v8_1] (RS.dn (WS.nxt ?_)))))
 rcases z9 h with ⟨hp,h⟩ | ⟨hp,h⟩
 ·refine WS.fx 16 true (decide_eq_true hp) (WS.cT (WS.sk (WS.nxt (WS.sq (WS.bk 1 (WS.sq (WS.rg (RS.mS 3 [kI 21 v8_1,kS 20 a2,(19,.val (Value.pointer a0))] ?_))))))))
  obtain ⟨p2,hx,h⟩:=bind_some h
  refine RS.ix 22 27 3 (.tmp 20) (.tmp 21) hx ?_
  obtain ⟨x3,hx,h⟩:=bind_some h
  refine RS.ld 23 3 (.tmp 22) (z0 hx zd) ?_
  obtain ⟨x4,hx,h⟩:=bind_some h
  refine RS.cl (some 24) (v:=(Value.bool x4)) 65 #[(Value.pointer a0),(Value.int .i64 x3)] (z42 hx) (RS.mS 1 [kB 25 (!x4)] (RS.dn (WS.nxt ?_)))
  rcases z9 h with ⟨hp,h⟩ | ⟨hp,h⟩
  ·refine WS.fx 25 false (nb_not hp) (WS.cF (WS.sk ?_))
   refine fun a w hs=>bkN ((WS.nxt ?_ a w hs))
   refine WS.rg (RS.mS 3 [kI 8 (IntKind.i64.wrap (v8_1+1)),kI 18 (IntKind.i64.wrap (v8_1+1)),kI 17 v8_1] (RS.dn ?_))
   cases h
   exact fun a w hs=>lsN rfl (hs.sb 0)
  ·refine WS.fx 25 true (z34 hp) (WS.cT (WS.sq (WS.rg (RS.mS 2 [kI 7 150,kI 6 0] (RS.dn (WS.nxt (WS.rt ?_)))))))
   cases h
   exact fun a w hs=>bkR (sqR (lsR rfl (rS hs)))
 ·refine WS.fx 16 false (decide_eq_false hp) (WS.cF (WS.ex 0 ?_))
  cases h
  exact fun a w hs=>sqE (lsB rfl (hs.sb 0))
theorem zbq {L:LC} {m:Nat} {H:AH} {a0:Option Addr} {a1:Int} {a2:Sl3} {r:(Int×Int×AH)} (h:z3n L m H a0 a1 a2=some r) :
  CallS Tryd.prog (NE.plain 1000) m 45 #[(Value.pointer a0),(Value.int .i64 a1),(Sl3.v a2)] H (z6d r) (z71 H r):=by
 refine CallS.mk (args:=[(Value.pointer a0),(Value.int .i64 a1),(Sl3.v a2)]) Tryd.func45 (B:=B45) (by kernel_rfl) (fun E _=>?_)
 unfold z3n at h
 refine WS.sq (WS.rg (RS.mS 2 [kI 7 0,kI 6 0] (RS.dn (WS.nxt (WS.sq (WS.sq (WS.rg (RS.mS 3 [kB 12 (decide ((a2.n:Int) > 64)),kI 11 (a2.n:Int),kS 10 a2] (RS.dn ?_)))))))))
 refine WS.nxt ?_
 rcases z9 h with ⟨hp,h⟩ | ⟨hp,h⟩
 ·refine WS.fx 12 true (decide_eq_true hp) (WS.cT (WS.sq (WS.rg (RS.mS 2 [kI 7 51,kI 6 0] (RS.dn (WS.nxt (WS.rt ?_)))))))
  cases h
  exact fun a w hs=>sqR (rtR (rS hs))
 ·refine WS.fx 12 false (decide_eq_false hp) (WS.cF (WS.sk (WS.nxt (WS.sq (WS.sq (WS.rg (RS.mS 1 [kI 8 0] (RS.dn (WS.nxt ?_)))))))))
  refine WS.bk 0 ?_
  obtain ⟨o,hl,h⟩:=bind_some h
  rcases o with v8_5 | r
  ·try dsimp only at h
   refine WS.lI (z5r (L:=L) (E:=E) (m:=m) (H:=H)) (L.ok hl) 0 ?_
   clear hl
   refine fun a w hs=>bkE ((WS.nxt ?_ a w hs))
   refine WS.sq (WS.rg (RS.mS 1 [kS 9 Sl3.nil] (RS.dn (WS.nxt (WS.sq (WS.rg (RS.mS 2 [kS 27 a2,kS 26 Sl3.nil] ?_)))))))
   obtain ⟨⟨s6,H7⟩,hx,h⟩:=bind_some h
   try dsimp only at h
   refine RS.o (H':=H7) (some 28) (Sl3.v s6) (Abs.run_app (x:=.tmp 26) (y:=.tmp 27) (ts:=#[27,27]) (s:=Sl3.nil) (z:=a2) (by kernel_rfl) (by kernel_rfl) (by kernel_rfl) (by kernel_rfl) hx) (RS.mS 1 [kS 9 s6] (RS.dn (WS.nxt (WS.sq (WS.rg (RS.mS 4 [kA 32 #[(Value.int .i64 a1),(Value.bool false),(Sl3.v s6)],kS 31 s6,kI 30 a1,(29,.val (Value.pointer a0))] ?_))))))
   obtain ⟨⟨x8,x9,H10⟩,hx,h⟩:=bind_some h
   try dsimp only at h
   refine RS.cl (some 33) (v:=(Value.tuple #[(Value.int .i64 x8),(Value.int .i64 x9)])) 66 #[(Value.pointer a0),(Value.agg #[(Value.int .i64 a1),(Value.bool false),(Sl3.v s6)])] (z6z hx) (RS.mS 4 [kI 7 x9,kI 6 x8,kI 35 x9,kI 34 x8] (RS.dn (WS.nxt (WS.rt ?_))))
   cases h
   exact fun a w hs=>rtR (rS hs)
  ·try dsimp only at h
   refine WS.lR (z5r (L:=L) (E:=E) (m:=m) (H:=H)) (L.ok hl) 0 ?_
   cases h
   exact fun a w hq=>bkR (sqR (rtR hq))
def z9c:(Int×Int×AH)→Value
 | (r0,r1,_)=>(Value.tuple #[(Value.int .i64 r0),(Value.int .i64 r1)])
def zah (_:AH):(Int×Int×AH)→AH:=fun r=>r.2.2
noncomputable def B46:Code:=(Tryd.f46.body).getD .skip
noncomputable def z36 (L:LC) (m:Nat) (H:AH) (a0:Option Addr) (a1:Int):Option (Int×Int×AH) :=
 Option.bind (z28 L m H a0 a1 true Sl3.nil) fun (x1,x2,H3) =>
 some (x1,x2,H3)
theorem zaf {L:LC} {m:Nat} {H:AH} {a0:Option Addr} {a1:Int} {r:(Int×Int×AH)} (h:z36 L m H a0 a1=some r) :
  CallS Tryd.prog (NE.plain 1000) m 46 #[(Value.pointer a0),(Value.int .i64 a1)] H (z9c r) (zah H r):=by
 refine CallS.mk (args:=[(Value.pointer a0),(Value.int .i64 a1)]) Tryd.func46 (B:=B46) (by kernel_rfl) (fun E _=>?_)
 unfold z36 at h
 refine WS.sq (WS.rg (RS.mS 2 [kI 5 0,kI 4 0] (RS.dn (WS.nxt (WS.sq (WS.rg (RS.mS 3 [kA 8 #[(Value.int .i64 a1),(Value.bool true),(Sl3.v Sl3.nil)],kI 7 a1,(6,.val (Value.pointer a0))] ?_)))))))
 obtain ⟨⟨x1,x2,H3⟩,hx,h⟩:=bind_some h
 try dsimp only at h
 refine RS.cl (some 9) (v:=(Value.tuple #[(Value.int .i64 x1),(Value.int .i64 x2)])) 66 #[(Value.pointer a0),(Value.agg #[(Value.int .i64 a1),(Value.bool true),(Sl3.v Sl3.nil)])] (z6z hx) (RS.mS 4 [kI 5 x2,kI 4 x1,kI 11 x2,kI 10 x1] (RS.dn (WS.nxt (WS.rt ?_))))
 cases h
 exact fun a w hs=>rtR (rS hs)
def zb3:(Int×AH)→Value
 | (r0,_)=>(Value.int .i64 r0)
def zb7 (_:AH):(Int×AH)→AH:=fun r=>r.2
noncomputable def B47:Code:=(Tryd.f47.body).getD .skip
noncomputable def z32 (L:LC) (m:Nat) (H:AH) (a0:Option Addr) (a1_0 a1_1 a1_2:Int) (a1_3:Bool):Option (Int×AH) :=
 Option.bind (α:=Bool) (
  Option.bind (z1o L H a0 a1_0) fun x2 =>
  if x2=true then
   Option.bind (z1o L H a0 a1_1) fun x3 =>
   some (!x3)
  else
   some true) fun v16_1 =>
 if v16_1=true then
  some (150,H)
 else
  Option.bind a0 fun q4 =>
  Option.bind (rd deSl H (Addr.add q4 1)) fun x5 =>
  Option.bind (newR 49 1 #[(Value.int .i64 a1_0),(Value.int .i64 a1_1),(Value.int .i64 a1_2),(Value.bool a1_3)] H) fun (s6,H7) =>
  Option.bind (appS m 49 4 32 H7 x5 s6) fun (s8,H9) =>
  Option.bind (H9.setCell m (Addr.add q4 1) (Sl3.v s8)) fun H10 =>
  some (0,H10)
theorem z6v {L:LC} {m:Nat} {H:AH} {a0:Option Addr} {a1_0 a1_1 a1_2:Int} {a1_3:Bool} {r:(Int×AH)} (h:z32 L m H a0 a1_0 a1_1 a1_2 a1_3=some r) :
  CallS Tryd.prog (NE.plain 1000) m 47 #[(Value.pointer a0),(Value.agg #[(Value.int .i64 a1_0),(Value.int .i64 a1_1),(Value.int .i64 a1_2),(Value.bool a1_3)])] H (zb3 r) (zb7 H r):=by
 refine CallS.mk (args:=[(Value.pointer a0),(Value.agg #[(Value.int .i64 a1_0),(Value.int .i64 a1_1),(Value.int .i64 a1_2),(Value.bool a1_3)])]) Tryd.func47 (B:=B47) (by kernel_rfl) (fun E _=>?_)
 unfold z32 at h
 refine WS.sq (WS.rg (RS.mL 2 [kI 4 0,kL 3 0 0] ([some (49,[(Value.int .i64 a1_0),(Value.int .i64 a1_1),(Value.int .i64 a1_2),(Value.bool a1_3)])]) (RS.dn (WS.nxt (WS.sq ?_)))))
 obtain ⟨v16_1,hx,h⟩:=bind_some h
 refine WS.sq ?_
 refine WS.join ([kB 16 v16_1,(0,.val (Value.pointer a0)),kL 3 0 0]) ([some (49,[(Value.int .i64 a1_0),(Value.int .i64 a1_1),(Value.int .i64 a1_2),(Value.bool a1_3)])]) H ?_ (fun a w hs=>WS.nxt ?_ a w hs)
 ·clear h; rename _=>h
  refine WS.rg (RS.mS 3 [kI 7 a1_0,kL 6 0 0,(5,.val (Value.pointer a0))] ?_)
  obtain ⟨x2,hx,h⟩:=bind_some h
  refine RS.cl (some 8) (v:=(Value.bool x2)) 65 #[(Value.pointer a0),(Value.int .i64 a1_0)] (z42 hx) (RS.mS 2 [kB 10 (!x2),kB 9 (!x2)] ?_)
  rcases z9 h with ⟨hp,h⟩ | ⟨hp,h⟩
  ·refine RS.fx 10 false (nb_not hp) (RS.mS 3 [kI 13 a1_1,kL 12 0 1,(11,.val (Value.pointer a0))] ?_)
   obtain ⟨x3,hx,h⟩:=bind_some h
   refine RS.cl (some 14) (v:=(Value.bool x3)) 65 #[(Value.pointer a0),(Value.int .i64 a1_1)] (z42 hx) (RS.mS 2 [kB 16 (!x3),kB 15 (!x3)] (RS.dn ?_))
   cases h
   exact fun a w hs=>(jsN (hs.sb 1))
  ·refine RS.fx 10 true (z34 hp) (RS.mS 6 [kB 16 true,kU 15,kU 14,kU 13,kU 12,kU 11] (RS.dn ?_))
   cases h
   exact fun a w hs=>(jsN (hs.sb 1))
 ·clear hx
  rcases z9 h with ⟨hp,h⟩ | ⟨hp,h⟩
  ·refine WS.fx 16 true hp (WS.cT (WS.sq (WS.rg (RS.mS 1 [kI 4 150] (RS.dn (WS.nxt (WS.rt ?_)))))))
   cases h
   exact fun a w hs=>sqR (rtR (rS hs))
  ·refine WS.fx 16 false (b_not hp) (WS.cF (WS.sk (WS.nxt (WS.sq ?_))))
   refine WS.dr [1,2,3,4,5] [0,0,2,6,14,0,32,126,255,511,1023] 11 (fun hcl=>?_)
   refine DA.tK 1 (some 18) (Value.pointer a0) ?_
   obtain ⟨q4,hx,hq4⟩:=bind_some h
   subst hx
   have h:=hq4
   refine DA.tK 2 (some 19) (Value.pointer (some q4)) (DA.tK 3 (some 20) (Value.pointer (some (Addr.add q4 1))) ?_)
   obtain ⟨x5,hx,h⟩:=bind_some h
   refine DA.tD 4 (some 21) (Sl3.v x5) (Abs.det_load (t:=30) (x:=.tmp 20) (a:=(Addr.add q4 1)) (by kernel_rfl) (by kernel_rfl) (by kernel_rfl) (by kernel_rfl) (z0 hx zb)) (DA.tL 5 (some 22) (.val (Value.agg #[(Value.int .i64 a1_0),(Value.int .i64 a1_1),(Value.int .i64 a1_2),(Value.bool a1_3)])) (DA.tP 0 (some 17) (Value.pointer (some q4)) ?_))
   obtain ⟨⟨s6,H7⟩,hx,h⟩:=bind_some h
   try dsimp only at h
   refine DA.on 6 (DA.aHj (H':=H7) 6 (some 23) false (Sl3.v s6) (Abs.run_newR (by kernel_rfl) (by kernel_rfl) hx) ?_)
   obtain ⟨⟨s8,H9⟩,hx,h⟩:=bind_some h
   try dsimp only at h
   refine DA.on 7 (DA.aH (H':=H9) 7 (some 24) (Sl3.v s8) (Abs.run_app (x:=.tmp 21) (y:=.tmp 23) (ts:=#[30,30]) (s:=x5) (z:=s6) (by kernel_rfl) (by kernel_rfl) (by kernel_rfl) (by kernel_rfl) hx) (DA.tP 8 (some 25) (Value.pointer (some q4)) (DA.tP 9 (some 26) (Value.pointer (some (Addr.add q4 1))) ?_)))
   obtain ⟨H10,hx,h⟩:=bind_some h
   refine DA.on 10 (DA.aH (H':=H10) 10 none undef (Abs.run_store1 (t:=30) (x:=.tmp 26) (y:=.tmp 24) (a:=(Addr.add q4 1)) (v:=(Sl3.v s8)) (by kernel_rfl) (by kernel_rfl) (by kernel_rfl) (by kernel_rfl) (by kernel_rfl) hx) (DA.dn (WS.nxt (WS.sq (WS.rg (RS.mS 1 [kI 4 0] (RS.dn (WS.nxt (WS.rt ?_)))))))))
   cases h
   exact fun a w hs=>rtR (rS hs)
def zdz:(Bool×AH)→Value
 | (r0,_)=>(Value.bool r0)
def zfm (_:AH):(Bool×AH)→AH:=fun r=>r.2
noncomputable def B24:Code:=(Tryd.f24.body).getD .skip
noncomputable def z4t (L:LC) (m:Nat) (H:AH) (a0 a1:Option Addr) (a2_0 a2_1:Int) (a2_2:Sl3) (a2_3 a2_4 a2_5:Int):Option (Bool×AH) :=
 if a2_0=1 then
  Option.bind (z1x L m H a0 a2_1 a2_2) fun (x1,x2,H3) =>
  Option.bind (z3n L m H3 a1 a2_1 a2_2) fun (x4,x5,H6) =>
  if x1=x4 then
   some ((decide (x2=x5)),H6)
  else
   some (false,H6)
 else
  if a2_0=2 then
   Option.bind (z1u L m H a0 a2_1) fun (x7,x8,H9) =>
   Option.bind (z36 L m H9 a1 a2_1) fun (x10,x11,H12) =>
   if x7=x10 then
    some ((decide (x8=x11)),H12)
   else
    some (false,H12)
  else
   if a2_0=3 then
    Option.bind (z2f L m H a0 a2_3 a2_4 a2_5) fun (x13,H14) =>
    Option.bind (z32 L m H14 a1 a2_3 a2_4 a2_5 false) fun (x15,H16) =>
    some ((decide (x13=x15)),H16)
   else
    if a2_0=4 then
     Option.bind (z2g L m H a0 a2_3 a2_4 a2_5) fun (x17,H18) =>
     Option.bind (z32 L m H18 a1 a2_3 a2_4 a2_5 true) fun (x19,H20) =>
     some ((decide (x17=x19)),H20)
    else
     if a2_0=9 then
      none
     else
      if a2_0=10 then
       none
      else
       none
theorem zfo {L:LC} {m:Nat} {H:AH} {a0 a1:Option Addr} {a2_0 a2_1:Int} {a2_2:Sl3} {a2_3 a2_4 a2_5:Int} {r:(Bool×AH)} (h:z4t L m H a0 a1 a2_0 a2_1 a2_2 a2_3 a2_4 a2_5=some r) :
  CallS Tryd.prog (NE.plain 1000) m 24 #[(Value.pointer a0),(Value.pointer a1),(Value.agg #[(Value.int .i64 a2_0),(Value.int .i64 a2_1),(Sl3.v a2_2),(Value.int .i64 a2_3),(Value.int .i64 a2_4),(Value.int .i64 a2_5)])] H (zdz r) (zfm H r):=by
 refine CallS.mk (args:=[(Value.pointer a0),(Value.pointer a1),(Value.agg #[(Value.int .i64 a2_0),(Value.int .i64 a2_1),(Sl3.v a2_2),(Value.int .i64 a2_3),(Value.int .i64 a2_4),(Value.int .i64 a2_5)])]) Tryd.func24 (B:=B24) (by kernel_rfl) (fun E _=>?_)
 unfold z4t at h
 refine WS.sq (WS.rg (RS.mL 2 [kB 6 false,kL 5 0 0] ([some (55,[(Value.int .i64 a2_0),(Value.int .i64 a2_1),(Sl3.v a2_2),(Value.int .i64 a2_3),(Value.int .i64 a2_4),(Value.int .i64 a2_5)])]) (RS.dn (WS.nxt (WS.sq (WS.sq (WS.rg (RS.mS 2 [kI 25 a2_0,kL 24 0 0] (RS.dn ?_)))))))))
 refine WS.nxt (WS.bk 0 (WS.sq (WS.rg (RS.mS 2 [kB 26 (decide (a2_0=1)),kB 27 (decide (a2_0=1))] (RS.dn (WS.nxt ?_))))))
 rcases z9 h with ⟨hp,h⟩ | ⟨hp,h⟩
 ·refine WS.fx 26 true (decide_eq_true hp) (WS.cT (WS.sq (WS.rg (RS.mS 5 [kS 33 a2_2,kL 32 0 2,kI 31 a2_1,kL 30 0 1,(29,.val (Value.pointer a0))] ?_))))
  obtain ⟨⟨x1,x2,H3⟩,hx,h⟩:=bind_some h
  try dsimp only at h
  refine RS.cl (some 34) (v:=(Value.tuple #[(Value.int .i64 x1),(Value.int .i64 x2)])) 18 #[(Value.pointer a0),(Value.int .i64 a2_1),(Sl3.v a2_2)] (z6f hx) (RS.mS 5 [kI 8 x2,kI 7 x1,kI 36 x2,kI 35 x1,(28,.val (Value.tuple #[(Value.int .i64 x1),(Value.int .i64 x2)]))] (RS.dn (WS.nxt (WS.sq (WS.rg (RS.mS 5 [kS 42 a2_2,kL 41 0 2,kI 40 a2_1,kL 39 0 1,(38,.val (Value.pointer a1))] ?_))))))
  obtain ⟨⟨x4,x5,H6⟩,hx,h⟩:=bind_some h
  try dsimp only at h
  refine RS.cl (some 43) (v:=(Value.tuple #[(Value.int .i64 x4),(Value.int .i64 x5)])) 45 #[(Value.pointer a1),(Value.int .i64 a2_1),(Sl3.v a2_2)] (zbq hx) (RS.mS 5 [kI 10 x5,kI 9 x4,kI 45 x5,kI 44 x4,(37,.val (Value.tuple #[(Value.int .i64 x4),(Value.int .i64 x5)]))] (RS.dn (WS.nxt (WS.sq (WS.rg (RS.mS 4 [kB 49 (decide (x1=x4)),kB 48 (decide (x1=x4)),kI 47 x4,kI 46 x1] ?_))))))
  rcases z9 h with ⟨hp,h⟩ | ⟨hp,h⟩
  ·refine RS.fx 49 true (decide_eq_true hp) (RS.mS 5 [kB 6 (decide (x2=x5)),kB 53 (decide (x2=x5)),kB 52 (decide (x2=x5)),kI 51 x5,kI 50 x2] (RS.dn (WS.nxt (WS.rt ?_))))
   cases h
   exact fun a w hs=>bkR (sqR (rtR (rS hs)))
  ·refine RS.fx 49 false (decide_eq_false hp) (RS.mS 5 [kB 6 false,kB 53 false,kU 52,kU 51,kU 50] (RS.dn (WS.nxt (WS.rt ?_))))
   cases h
   exact fun a w hs=>bkR (sqR (rtR (rS hs)))
 ·refine WS.fx 26 false (decide_eq_false hp) (WS.cF (WS.sq (WS.rg (RS.mS 2 [kB 54 (decide (a2_0=2)),kB 55 (decide (a2_0=2))] (RS.dn (WS.nxt ?_))))))
  rcases z9 h with ⟨hp,h⟩ | ⟨hp,h⟩
  ·refine WS.fx 54 true (decide_eq_true hp) (WS.cT (WS.sq (WS.rg (RS.mS 3 [kI 59 a2_1,kL 58 0 1,(57,.val (Value.pointer a0))] ?_))))
   obtain ⟨⟨x7,x8,H9⟩,hx,h⟩:=bind_some h
   try dsimp only at h
   refine RS.cl (some 60) (v:=(Value.tuple #[(Value.int .i64 x7),(Value.int .i64 x8)])) 17 #[(Value.pointer a0),(Value.int .i64 a2_1)] (z5t hx) (RS.mS 5 [kI 12 x8,kI 11 x7,kI 62 x8,kI 61 x7,(56,.val (Value.tuple #[(Value.int .i64 x7),(Value.int .i64 x8)]))] (RS.dn (WS.nxt (WS.sq (WS.rg (RS.mS 3 [kI 66 a2_1,kL 65 0 1,(64,.val (Value.pointer a1))] ?_))))))
   obtain ⟨⟨x10,x11,H12⟩,hx,h⟩:=bind_some h
   try dsimp only at h
   refine RS.cl (some 67) (v:=(Value.tuple #[(Value.int .i64 x10),(Value.int .i64 x11)])) 46 #[(Value.pointer a1),(Value.int .i64 a2_1)] (zaf hx) (RS.mS 5 [kI 14 x11,kI 13 x10,kI 69 x11,kI 68 x10,(63,.val (Value.tuple #[(Value.int .i64 x10),(Value.int .i64 x11)]))] (RS.dn (WS.nxt (WS.sq (WS.rg (RS.mS 4 [kB 73 (decide (x7=x10)),kB 72 (decide (x7=x10)),kI 71 x10,kI 70 x7] ?_))))))
   rcases z9 h with ⟨hp,h⟩ | ⟨hp,h⟩
   ·refine RS.fx 73 true (decide_eq_true hp) (RS.mS 5 [kB 6 (decide (x8=x11)),kB 77 (decide (x8=x11)),kB 76 (decide (x8=x11)),kI 75 x11,kI 74 x8] (RS.dn (WS.nxt (WS.rt ?_))))
    cases h
    exact fun a w hs=>bkR (sqR (rtR (rS hs)))
   ·refine RS.fx 73 false (decide_eq_false hp) (RS.mS 5 [kB 6 false,kB 77 false,kU 76,kU 75,kU 74] (RS.dn (WS.nxt (WS.rt ?_))))
    cases h
    exact fun a w hs=>bkR (sqR (rtR (rS hs)))
  ·refine WS.fx 54 false (decide_eq_false hp) (WS.cF (WS.sq (WS.rg (RS.mS 2 [kB 78 (decide (a2_0=3)),kB 79 (decide (a2_0=3))] (RS.dn (WS.nxt ?_))))))
   rcases z9 h with ⟨hp,h⟩ | ⟨hp,h⟩
   ·refine WS.fx 78 true (decide_eq_true hp) (WS.cT (WS.sq ?_))
    refine WS.drl [0,0,2,0,8,0,32,127,0,0,512,0,2048,0,8192,32256,65535,131071,262143] 19 (fun hcl=>?_)
    refine DB.tL 1 (some 81) (.loc 0 3) (DB.tL 2 (some 82) (.val (Value.int .i64 a2_3)) (DB.tL 3 (some 83) (.loc 0 4) (DB.tL 4 (some 84) (.val (Value.int .i64 a2_4)) (DB.tL 5 (some 85) (.loc 0 5) (DB.tL 6 (some 86) (.val (Value.int .i64 a2_5)) (DB.tL 9 (some 89) (.loc 0 3) (DB.tL 10 (some 90) (.val (Value.int .i64 a2_3)) (DB.tL 11 (some 91) (.loc 0 4) (DB.tL 12 (some 92) (.val (Value.int .i64 a2_4)) ?_)))))))))
    refine DB.tL 13 (some 93) (.loc 0 5) (DB.tL 14 (some 94) (.val (Value.int .i64 a2_5)) (DB.tP 0 (some 80) (Value.pointer a0) (DB.tP 8 (some 88) (Value.pointer a1) ?_)))
    refine ?_
    refine DB.tP 15 (some 95) (Value.agg #[(Value.int .i64 a2_3),(Value.int .i64 a2_4),(Value.int .i64 a2_5),(Value.bool false)]) ?_
    obtain ⟨⟨x13,H14⟩,hx,h⟩:=bind_some h
    try dsimp only at h
    refine DB.on 7 (DB.aC 7 (some 87) (v:=(Value.int .i64 x13)) 20 #[(Value.pointer a0),(Value.int .i64 a2_3),(Value.int .i64 a2_4),(Value.int .i64 a2_5)] (z5j hx) ?_)
    obtain ⟨⟨x15,H16⟩,hx,h⟩:=bind_some h
    try dsimp only at h
    refine DB.on 16 (DB.aC 16 (some 96) (v:=(Value.int .i64 x15)) 47 #[(Value.pointer a1),(Value.agg #[(Value.int .i64 a2_3),(Value.int .i64 a2_4),(Value.int .i64 a2_5),(Value.bool false)])] (z6v hx) (DB.tP 17 (some 97) (Value.bool (decide (x13=x15))) (DB.tP 18 (some 6) (Value.bool (decide (x13=x15))) (DB.dn (WS.nxt (WS.rt ?_))))))
    cases h
    exact fun a w hs=>bkR (sqR (rtR (rS hs)))
   ·refine WS.fx 78 false (decide_eq_false hp) (WS.cF (WS.sq (WS.rg (RS.mS 2 [kB 98 (decide (a2_0=4)),kB 99 (decide (a2_0=4))] (RS.dn (WS.nxt ?_))))))
    rcases z9 h with ⟨hp,h⟩ | ⟨hp,h⟩
    ·refine WS.fx 98 true (decide_eq_true hp) (WS.cT (WS.sq ?_))
     refine WS.drl [0,0,2,0,8,0,32,127,0,0,512,0,2048,0,8192,32256,65535,131071,262143] 19 (fun hcl=>?_)
     refine DB.tL 1 (some 101) (.loc 0 3) (DB.tL 2 (some 102) (.val (Value.int .i64 a2_3)) (DB.tL 3 (some 103) (.loc 0 4) (DB.tL 4 (some 104) (.val (Value.int .i64 a2_4)) (DB.tL 5 (some 105) (.loc 0 5) (DB.tL 6 (some 106) (.val (Value.int .i64 a2_5)) (DB.tL 9 (some 109) (.loc 0 3) (DB.tL 10 (some 110) (.val (Value.int .i64 a2_3)) (DB.tL 11 (some 111) (.loc 0 4) (DB.tL 12 (some 112) (.val (Value.int .i64 a2_4)) ?_)))))))))
     refine DB.tL 13 (some 113) (.loc 0 5) (DB.tL 14 (some 114) (.val (Value.int .i64 a2_5)) (DB.tP 0 (some 100) (Value.pointer a0) (DB.tP 8 (some 108) (Value.pointer a1) ?_)))
     refine ?_
     refine DB.tP 15 (some 115) (Value.agg #[(Value.int .i64 a2_3),(Value.int .i64 a2_4),(Value.int .i64 a2_5),(Value.bool true)]) ?_
     obtain ⟨⟨x17,H18⟩,hx,h⟩:=bind_some h
     try dsimp only at h
     refine DB.on 7 (DB.aC 7 (some 107) (v:=(Value.int .i64 x17)) 19 #[(Value.pointer a0),(Value.int .i64 a2_3),(Value.int .i64 a2_4),(Value.int .i64 a2_5)] (z5v hx) ?_)
     obtain ⟨⟨x19,H20⟩,hx,h⟩:=bind_some h
     try dsimp only at h
     refine DB.on 16 (DB.aC 16 (some 116) (v:=(Value.int .i64 x19)) 47 #[(Value.pointer a1),(Value.agg #[(Value.int .i64 a2_3),(Value.int .i64 a2_4),(Value.int .i64 a2_5),(Value.bool true)])] (z6v hx) (DB.tP 17 (some 117) (Value.bool (decide (x17=x19))) (DB.tP 18 (some 6) (Value.bool (decide (x17=x19))) (DB.dn (WS.nxt (WS.rt ?_))))))
     cases h
     exact fun a w hs=>bkR (sqR (rtR (rS hs)))
    ·refine WS.fx 98 false (decide_eq_false hp) (WS.cF (WS.sq (WS.rg (RS.mS 2 [kB 118 (decide (a2_0=9)),kB 119 (decide (a2_0=9))] (RS.dn (WS.nxt ?_))))))
     rcases z9 h with ⟨hp,h⟩ | ⟨hp,h⟩
     ·refine WS.fx 118 true (decide_eq_true hp) (WS.cT (WS.sq ?_))
      cases h
     ·refine WS.fx 118 false (decide_eq_false hp) (WS.cF (WS.sq (WS.rg (RS.mS 2 [kB 125 (decide (a2_0=10)),kB 126 (decide (a2_0=10))] (RS.dn (WS.nxt ?_))))))
      rcases z9 h with ⟨hp,h⟩ | ⟨hp,h⟩
      ·refine WS.fx 125 true (decide_eq_true hp) (WS.cT (WS.sq ?_))
       cases h
      ·refine WS.fx 125 false (decide_eq_false hp) (WS.cF (WS.sk ?_))
       refine fun a w hs=>bkN ((WS.nxt ?_ a w hs))
       refine WS.sq ?_
       cases h
def z8c:((Option Addr)×(Option Addr)×Bool×AH)→Value
 | (r0,r1,r2,_)=>(Value.tuple #[(Value.pointer r0),(Value.pointer r1),(Value.bool r2)])
def z9f (_:AH):((Option Addr)×(Option Addr)×Bool×AH)→AH:=fun r=>r.2.2.2
noncomputable def B9:Code:=(Tryd.f9.body).getD .skip
noncomputable def z2u (L:LC) (m:Nat) (a0:Sl3) (p3 q5:Addr):(AH×Int)→Option (Lp (AH×Int) ((Option Addr)×(Option Addr)×Bool×AH)):=fun (H6,v7_7) =>
 if v7_7<(a0.n:Int) then
  Option.bind (α:=(AH×Bool)) (
   Option.bind (idxA 6 a0 v7_7) fun p10 =>
   Option.bind (rd (deI .i64) H6 (Addr.add p10 0)) fun x11 =>
   if x11≥1 then
    Option.bind (idxA 6 a0 v7_7) fun p12 =>
    Option.bind (rd (deI .i64) H6 (Addr.add p12 0)) fun x13 =>
    if x13≤4 then
     Option.bind (idxA 6 a0 v7_7) fun p14 =>
     Option.bind (rd (deI .i64) H6 (Addr.add p14 0)) fun x15_0 =>
     Option.bind (rd (deI .i64) H6 (Addr.add p14 1)) fun x15_1 =>
     Option.bind (rd deSl H6 (Addr.add p14 2)) fun x15_2 =>
     Option.bind (rd (deI .i64) H6 (Addr.add p14 3)) fun x15_3 =>
     Option.bind (rd (deI .i64) H6 (Addr.add p14 4)) fun x15_4 =>
     Option.bind (rd (deI .i64) H6 (Addr.add p14 5)) fun x15_5 =>
     Option.bind (z4t L m H6 (some q5) (some p3) x15_0 x15_1 x15_2 x15_3 x15_4 x15_5) fun (x16,H17) =>
     some (H17,(!x16))
    else
     some (H6,false)
   else
    some (H6,false)) fun (H8,v42_9) =>
  if v42_9=true then
   some (.ret (none,none,false,H8))
  else
   some (.next (H8,(IntKind.i64.wrap (v7_7+1))))
 else
  some (.brk (H6,v7_7))
def zc3 (_L:LC) (_m:Nat) (a0:Sl3) (p3 q5:Addr):(AH×Int)→KN×Lcs:=fun (_,v7_7)=>([kI 7 v7_7,kS 0 a0,kP 5 q5,kP 6 p3],[])
noncomputable def z59 (L:LC) (m:Nat) (H:AH) (a0:Sl3):Option ((Option Addr)×(Option Addr)×Bool×AH) :=
 Option.bind (z68 L m H) fun (x1,H2) =>
 Option.bind (newB 32 [(Sl3.v Sl3.nil),(Sl3.v Sl3.nil),(Sl3.v Sl3.nil)] H2) fun (p3,H4) =>
 match x1 with
 | none =>
  some (none,none,false,H4)
 | some q5 =>
  Option.bind (L.run (z2u L m a0 p3 q5) (H4,0)) fun o=>match o with
  | .inl (H18,_) =>
   some ((some q5),(some p3),true,H18)
  | .inr r=>some r
theorem z7b {E H L m a0 p3 q5} :LoopF Tryd.prog (NE.plain 1000) m E Tryd.f9 ((cfst (csnd (cfst (csnd (csnd (csnd (csnd B9)))))))) (zc3 L m a0 p3 q5) (fun s=>s.1) 0 z8c (z9f H) (z2u L m a0 p3 q5):=by
 rintro ⟨H6,v7_7⟩ o h
 unfold z2u at h
 try dsimp only at h
 refine WS.sq (WS.sq (WS.rg (RS.mS 4 [kB 16 (decide (v7_7<(a0.n:Int))),kI 15 (a0.n:Int),kS 14 a0,kI 13 v7_7] (RS.dn (WS.nxt ?_)))))
 rcases z9 h with ⟨hp,h⟩ | ⟨hp,h⟩
 ·refine WS.fx 16 true (decide_eq_true hp) (WS.cT (WS.sk (WS.nxt (WS.sq (WS.bk 1 ?_)))))
  obtain ⟨⟨H8,v42_9⟩,hx,h⟩:=bind_some h
  try dsimp only at h
  refine WS.sq ?_
  refine WS.join ([kB 42 v42_9,kS 0 a0,kP 5 q5,kP 6 p3,kI 7 v7_7]) ([]) H8 ?_ (fun a w hs=>WS.nxt ?_ a w hs)
  ·clear h; rename _=>h
   refine WS.rg (RS.mS 2 [kI 20 v7_7,kS 19 a0] ?_)
   obtain ⟨p10,hx,h⟩:=bind_some h
   refine RS.ix 21 22 55 (.tmp 19) (.tmp 20) hx (RS.mS 1 [(22,.val (Value.pointer (some (Addr.add p10 0))))] ?_)
   obtain ⟨x11,hx,h⟩:=bind_some h
   refine RS.ld 23 3 (.tmp 22) (z0 hx zd) (RS.mS 2 [kB 25 (decide (x11≥1)),kB 24 (decide (x11≥1))] ?_)
   rcases z9 h with ⟨hp,h⟩ | ⟨hp,h⟩
   ·refine RS.fx 25 true (decide_eq_true hp) (RS.mS 2 [kI 27 v7_7,kS 26 a0] ?_)
    obtain ⟨p12,hx,h⟩:=bind_some h
    refine RS.ix 28 22 55 (.tmp 26) (.tmp 27) hx (RS.mS 1 [(29,.val (Value.pointer (some (Addr.add p12 0))))] ?_)
    obtain ⟨x13,hx,h⟩:=bind_some h
    refine RS.ld 30 3 (.tmp 29) (z0 hx zd) (RS.mS 3 [kB 33 (decide (x13≤4)),kB 32 (decide (x13≤4)),kB 31 (decide (x13≤4))] ?_)
    rcases z9 h with ⟨hp,h⟩ | ⟨hp,h⟩
    ·refine RS.fx 33 true (decide_eq_true hp) (RS.mS 4 [kI 37 v7_7,kS 36 a0,kP 35 p3,kP 34 q5] ?_)
     obtain ⟨p14,hx,h⟩:=bind_some h
     refine RS.ix 38 22 55 (.tmp 36) (.tmp 37) hx ?_
     obtain ⟨x15_0,hx0,h⟩:=bind_some h
     obtain ⟨x15_1,hx1,h⟩:=bind_some h
     obtain ⟨x15_2,hx2,h⟩:=bind_some h
     obtain ⟨x15_3,hx3,h⟩:=bind_some h
     obtain ⟨x15_4,hx4,h⟩:=bind_some h
     obtain ⟨x15_5,hx5,h⟩:=bind_some h
     refine RS.la 39 55 (.tmp 38) 6 (zi (z0 hx0 zd) (zi (z0 hx1 zd) (zi (z0 hx2 zb) (zi (z0 hx3 zd) (zi (z0 hx4 zd) (zi (z0 hx5 zd) z5n)))))) ?_
     obtain ⟨⟨x16,H17⟩,hx,h⟩:=bind_some h
     try dsimp only at h
     refine RS.cl (some 40) (v:=(Value.bool x16)) 24 #[(Value.pointer (some q5)),(Value.pointer (some p3)),(Value.agg #[(Value.int .i64 x15_0),(Value.int .i64 x15_1),(Sl3.v x15_2),(Value.int .i64 x15_3),(Value.int .i64 x15_4),(Value.int .i64 x15_5)])] (zfo hx) (RS.mS 2 [kB 42 (!x16),kB 41 (!x16)] (RS.dn ?_))
     cases h
     exact fun a w hs=>(jsN (hs.sb 0))
    ·refine RS.fx 33 false (decide_eq_false hp) (RS.mS 9 [kB 42 false,kU 41,kU 40,kU 39,kU 38,kU 37,kU 36,kU 35,kU 34] (RS.dn ?_))
     cases h
     exact fun a w hs=>(jsN (hs.sb 0))
   ·refine RS.fx 25 false (decide_eq_false hp) (RS.mS 17 [kB 42 false,kU 41,kU 40,kU 39,kU 38,kU 37,kU 36,kU 35,kU 34,kB 33 false,kB 32 false,kU 31,kU 30,kU 29,kU 28,kU 27,kU 26] (RS.dn ?_))
    cases h
    exact fun a w hs=>(jsN (hs.sb 0))
  ·clear hx
   rcases z9 h with ⟨hp,h⟩ | ⟨hp,h⟩
   ·refine WS.fx 42 true hp (WS.cT (WS.sq (WS.rg (RS.mS 3 [kB 4 false,(3,.val (Value.pointer none)),(2,.val (Value.pointer none))] (RS.dn (WS.nxt (WS.rt ?_)))))))
    cases h
    exact fun a w hs=>bkR (sqR (lsR rfl (rS hs)))
   ·refine WS.fx 42 false (b_not hp) (WS.cF (WS.sk ?_))
    refine fun a w hs=>bkN ((WS.nxt ?_ a w hs))
    refine WS.rg (RS.mS 3 [kI 7 (IntKind.i64.wrap (v7_7+1)),kI 18 (IntKind.i64.wrap (v7_7+1)),kI 17 v7_7] (RS.dn ?_))
    cases h
    exact fun a w hs=>lsN rfl (hs.sb 0)
 ·refine WS.fx 16 false (decide_eq_false hp) (WS.cF (WS.ex 0 ?_))
  cases h
  exact fun a w hs=>sqE (lsB rfl (hs.sb 0))
theorem ze2 {L:LC} {m:Nat} {H:AH} {a0:Sl3} {r:((Option Addr)×(Option Addr)×Bool×AH)} (h:z59 L m H a0=some r) :
  CallS Tryd.prog (NE.plain 1000) m 9 #[(Sl3.v a0)] H (z8c r) (z9f H r):=by
 refine CallS.mk (args:=[(Sl3.v a0)]) Tryd.func9 (B:=B9) (by kernel_rfl) (fun E _=>?_)
 unfold z59 at h
 refine WS.sq (WS.rg (RS.mS 3 [kB 4 false,(3,.val (Value.pointer none)),(2,.val (Value.pointer none))] (RS.dn (WS.nxt (WS.sq (WS.rg ?_))))))
 obtain ⟨⟨x1,H2⟩,hx,h⟩:=bind_some h
 try dsimp only at h
 refine RS.cl (some 8) (v:=(Value.pointer x1)) 16 #[] (zap hx) (RS.mS 1 [(5,.val (Value.pointer x1))] (RS.dn (WS.nxt (WS.sq (WS.rg (RS.mS 1 [kA 9 #[(Sl3.v Sl3.nil),(Sl3.v Sl3.nil),(Sl3.v Sl3.nil)]] ?_))))))
 obtain ⟨⟨p3,H4⟩,hx,h⟩:=bind_some h
 try dsimp only at h
 refine RS.o (H':=H4) (some 10) (Value.pointer (some p3)) (Abs.run_newB (by kernel_rfl) hx) (RS.mS 1 [kP 6 p3] (RS.dn (WS.nxt (WS.sq (WS.sq (WS.rg (RS.mS 1 [(11,.val (Value.pointer x1))] ?_)))))))
 rcases x1 with _ | q5
 ·try dsimp only at h
  refine RS.mS 1 [kB 12 true] (RS.dn (WS.nxt (WS.cT (WS.sq (WS.rg (RS.mS 3 [kB 4 false,(3,.val (Value.pointer none)),(2,.val (Value.pointer none))] (RS.dn (WS.nxt (WS.rt ?_)))))))))
  cases h
  exact fun a w hs=>sqR (rtR (rS hs))
 ·try dsimp only at h
  refine RS.mS 1 [kB 12 false] (RS.dn (WS.nxt (WS.cF (WS.sk (WS.nxt (WS.sq (WS.sq (WS.rg (RS.mS 1 [kI 7 0] ?_)))))))))
  refine RS.dn (WS.nxt (WS.bk 0 ?_))
  obtain ⟨o,hl,h⟩:=bind_some h
  rcases o with ⟨H18,v7_19⟩ | r
  ·try dsimp only at h
   refine WS.lI (z7b (L:=L) (E:=E) (m:=m) (H:=H)) (L.ok hl) 0 ?_
   clear hl
   refine fun a w hs=>bkE ((WS.nxt ?_ a w hs))
   refine WS.sq (WS.rg (RS.mS 5 [kB 4 true,kP 3 p3,kP 2 q5,kP 44 p3,kP 43 q5] (RS.dn (WS.nxt (WS.rt ?_)))))
   cases h
   exact fun a w hs=>rtR (rS hs)
  ·try dsimp only at h
   refine WS.lR (z7b (L:=L) (E:=E) (m:=m) (H:=H)) (L.ok hl) 0 ?_
   cases h
   exact fun a w hq=>bkR (sqR (rtR hq))
end Go.Proofs.YtgkhbmoidenjaaaDoor
namespace Go.Proofs.YtgkhbmoidenjaaaDoor
open Go Go.Abs
set_option maxRecDepth 100000
def z2h:(Bool×AH)→Value
 | (r0,_)=>(Value.bool r0)
def z2k (_:AH):(Bool×AH)→AH:=fun r=>r.2
noncomputable def B5:Code:=(Tryd.f5.body).getD .skip
noncomputable def z1q (L:LC) (m:Nat) (_x1 x2 x5:Option Addr):(AH×Int)→Option (Lp (AH×Int) (Bool×AH)):=fun (H9,v7_10) =>
 Option.bind x2 fun q11 =>
 Option.bind (rd deSl H9 (Addr.add q11 0)) fun x12 =>
 if v7_10<(x12.n:Int) then
  Option.bind (α:=AH) (
   Option.bind (rd deSl H9 (Addr.add q11 0)) fun x14 =>
   Option.bind (idxA 3 x14 v7_10) fun p15 =>
   Option.bind (rd deB H9 (Addr.add p15 1)) fun x16 =>
   if x16=true then
    Option.bind (rd deSl H9 (Addr.add q11 0)) fun x17 =>
    Option.bind (idxA 3 x17 v7_10) fun p18 =>
    Option.bind (rd (deI .i64) H9 (Addr.add p18 0)) fun x19 =>
    Option.bind (z1u L m H9 x5 x19) fun (_,_,H22) =>
    some H22
   else
    Option.bind (rd deSl H9 (Addr.add q11 0)) fun x23 =>
    Option.bind (idxA 3 x23 v7_10) fun p24 =>
    Option.bind (rd (deI .i64) H9 (Addr.add p24 0)) fun x25 =>
    Option.bind (rd deSl H9 (Addr.add q11 0)) fun x26 =>
    Option.bind (idxA 3 x26 v7_10) fun p27 =>
    Option.bind (rd deSl H9 (Addr.add p27 2)) fun x28 =>
    Option.bind (z1x L m H9 x5 x25 x28) fun (_,_,H31) =>
    some H31) fun H13 =>
  some (.next (H13,(IntKind.i64.wrap (v7_10+1))))
 else
  some (.brk (H9,v7_10))
def z83 (_L:LC) (_m:Nat) (x1 x2 x5:Option Addr):(AH×Int)→KN×Lcs:=fun (_,v7_10)=>([kI 7 v7_10,(3,.val (Value.pointer x1)),(4,.val (Value.pointer x2)),(6,.val (Value.pointer x5))],[])
noncomputable def z1p (L:LC) (m:Nat) (_x1 x5:Option Addr) (q34:Addr):(AH×Int)→Option (Lp (AH×Int) (Bool×AH)):=fun (H36,v8_37) =>
 if v8_37≥0 then
  Option.bind (α:=AH) (
   Option.bind (rd deSl H36 (Addr.add q34 1)) fun x39 =>
   Option.bind (idxA 4 x39 v8_37) fun p40 =>
   Option.bind (rd (deI .i64) H36 (Addr.add p40 0)) fun x41_0 =>
   Option.bind (rd (deI .i64) H36 (Addr.add p40 1)) fun x41_1 =>
   Option.bind (rd (deI .i64) H36 (Addr.add p40 2)) fun x41_2 =>
   Option.bind (rd deB H36 (Addr.add p40 3)) fun x41_3 =>
   if x41_3=true then
    Option.bind (z2g L m H36 x5 x41_1 x41_0 x41_2) fun (_,H43) =>
    some H43
   else
    Option.bind (z2f L m H36 x5 x41_1 x41_0 x41_2) fun (_,H45) =>
    some H45) fun H38 =>
  some (.next (H38,(IntKind.i64.wrap (v8_37 - 1))))
 else
  some (.brk (H36,v8_37))
def z84 (_L:LC) (_m:Nat) (x1 x5:Option Addr) (q34:Addr):(AH×Int)→KN×Lcs:=fun (_,v8_37)=>([kI 8 v8_37,(3,.val (Value.pointer x1)),kP 4 q34,(6,.val (Value.pointer x5))],[])
noncomputable def z1r (L:LC) (x1 x5:Option Addr) (H46:AH) (v10_53:Int):Int→Option (Lp Int (Bool×AH)):=fun v15_59 =>
 if v15_59<v10_53 then
  Option.bind (α:=Bool) (
   Option.bind (z1l L H46 x1 v10_53 v15_59) fun x61 =>
   Option.bind (z1l L H46 x5 v10_53 v15_59) fun x62 =>
   if (x61 == x62)=true then
    Option.bind (z1l L H46 x1 v10_53 v15_59) fun x63 =>
    Option.bind (z1l L H46 x1 v15_59 v10_53) fun x64 =>
    some (!(x63 == x64))
   else
    some true) fun v166_60 =>
  if v166_60=true then
   some (.ret (false,H46))
  else
   some (.next (IntKind.i64.wrap (v15_59+1)))
 else
  some (.brk v15_59)
def z86 (_L:LC) (x1 x5:Option Addr) (_H46:AH) (v10_53:Int):Int→KN×Lcs:=fun v15_59=>([kI 15 v15_59,(3,.val (Value.pointer x1)),(6,.val (Value.pointer x5)),kI 10 v10_53],[])
noncomputable def z1s (L:LC) (x1 x5:Option Addr) (H46:AH):Int→Option (Lp Int (Bool×AH)):=fun v10_53 =>
 Option.bind (z2d L H46 x1) fun x54 =>
 if v10_53<x54 then
  Option.bind (z2o L H46 x1 v10_53) fun (x55,_) =>
  Option.bind (z2o L H46 x5 v10_53) fun (x57,_) =>
  if x55=x57 then
   Option.bind (L.run (z1r L x1 x5 H46 v10_53) 0) fun o=>match o with
   | .inl _ =>
    some (.next (IntKind.i64.wrap (v10_53+1)))
   | .inr r=>some (.ret r)
  else
   some (.ret (false,H46))
 else
  some (.brk v10_53)
def z85 (_L:LC) (x1 x5:Option Addr) (_H46:AH):Int→KN×Lcs:=fun v10_53=>([kI 10 v10_53,(3,.val (Value.pointer x1)),(6,.val (Value.pointer x5))],[])
noncomputable def z3o (L:LC) (m:Nat) (H:AH) (a0:Sl3):Option (Bool×AH) :=
 Option.bind (z59 L m H a0) fun (x1,x2,x3,H4) =>
 Option.bind (z68 L m H4) fun (x5,H6) =>
 Option.bind (α:=Bool) (
  if x3=true then
   match x5 with
   | none =>
    some true
   | some _ =>
    some false
  else
   some true) fun v28_7 =>
 if v28_7=true then
  some (false,H6)
 else
  Option.bind (L.run (z1q L m x1 x2 x5) (H6,0)) fun o=>match o with
  | .inl (H32,_) =>
   Option.bind x2 fun q34 =>
   Option.bind (rd deSl H32 (Addr.add q34 1)) fun x35 =>
   Option.bind (L.run (z1p L m x1 x5 q34) (H32,(IntKind.i64.wrap ((x35.n:Int) - 1)))) fun o=>match o with
   | .inl (H46,_) =>
    Option.bind (α:=Bool) (
     Option.bind (z2d L H46 x1) fun x49 =>
     Option.bind (z2d L H46 x5) fun x50 =>
     if x49=x50 then
      Option.bind (z1v L H46 x1) fun x51 =>
      Option.bind (z1v L H46 x5) fun x52 =>
      some (!(x51 == x52))
     else
      some true) fun v120_48 =>
    if v120_48=true then
     some (false,H46)
    else
     Option.bind (L.run (z1s L x1 x5 H46) 0) fun o=>match o with
     | .inl _ =>
      Option.bind (z56 L H46) fun x67 =>
      some (x67,H46)
     | .inr r=>some r
   | .inr r=>some r
  | .inr r=>some r
theorem z4y {E H L m x1 x2 x5} :LoopF Tryd.prog (NE.plain 1000) m E Tryd.f5 ((cfst (csnd (cfst (csnd (csnd (csnd (csnd B5)))))))) (z83 L m x1 x2 x5) (fun s=>s.1) 0 z2h (z2k H) (z1q L m x1 x2 x5):=by
 rintro ⟨H9,v7_10⟩ o h
 unfold z1q at h
 try dsimp only at h
 refine WS.sq (WS.sq (WS.rg (RS.mS 2 [(30,.val (Value.pointer x2)),kI 29 v7_10] ?_)))
 obtain ⟨q11,hx,hq11⟩:=bind_some h
 subst hx
 have h:=hq11
 refine RS.mS 2 [(32,.val (Value.pointer (some (Addr.add q11 0)))),kP 31 q11] ?_
 obtain ⟨x12,hx,h⟩:=bind_some h
 refine RS.ld 33 29 (.tmp 32) (z0 hx zb) (RS.mS 2 [kB 35 (decide (v7_10<(x12.n:Int))),kI 34 (x12.n:Int)] (RS.dn (WS.nxt ?_)))
 rcases z9 h with ⟨hp,h⟩ | ⟨hp,h⟩
 ·refine WS.fx 35 true (decide_eq_true hp) (WS.cT (WS.sk (WS.nxt ?_)))
  obtain ⟨H13,hx,h⟩:=bind_some h
  refine WS.sq ?_
  refine WS.join ([(3,.val (Value.pointer x1)),kP 4 q11,(6,.val (Value.pointer x5)),kI 7 v7_10]) ([]) H13 ?_ (fun a w hs=>WS.nxt ?_ a w hs)
  ·clear h; rename _=>h
   refine WS.bk 1 (WS.sq (WS.rg (RS.mS 3 [(40,.val (Value.pointer (some (Addr.add q11 0)))),kP 39 q11,kP 38 q11] ?_)))
   obtain ⟨x14,hx,h⟩:=bind_some h
   refine RS.ld 41 29 (.tmp 40) (z0 hx zb) (RS.mS 1 [kI 42 v7_10] ?_)
   obtain ⟨p15,hx,h⟩:=bind_some h
   refine RS.ix 43 29 42 (.tmp 41) (.tmp 42) hx (RS.mS 1 [(44,.val (Value.pointer (some (Addr.add p15 1))))] ?_)
   obtain ⟨x16,hx,h⟩:=bind_some h
   refine RS.ld 45 4 (.tmp 44) (z0 hx z4o) (RS.dn (WS.nxt ?_))
   rcases z9 h with ⟨hp,h⟩ | ⟨hp,h⟩
   ·refine WS.fx 45 true hp (WS.cT (WS.rg (RS.mS 4 [(49,.val (Value.pointer (some (Addr.add q11 0)))),kP 48 q11,kP 47 q11,(46,.val (Value.pointer x5))] ?_)))
    obtain ⟨x17,hx,h⟩:=bind_some h
    refine RS.ld 50 29 (.tmp 49) (z0 hx zb) (RS.mS 1 [kI 51 v7_10] ?_)
    obtain ⟨p18,hx,h⟩:=bind_some h
    refine RS.ix 52 29 42 (.tmp 50) (.tmp 51) hx (RS.mS 1 [(53,.val (Value.pointer (some (Addr.add p18 0))))] ?_)
    obtain ⟨x19,hx,h⟩:=bind_some h
    refine RS.ld 54 3 (.tmp 53) (z0 hx zd) ?_
    obtain ⟨⟨x20,x21,H22⟩,hx,h⟩:=bind_some h
    try dsimp only at h
    refine RS.cl (some 55) (v:=(Value.tuple #[(Value.int .i64 x20),(Value.int .i64 x21)])) 17 #[(Value.pointer x5),(Value.int .i64 x19)] (z5t hx) (RS.dn ?_)
    cases h
    exact fun a w hs=>bkN ((jsN (hs.sb 0)))
   ·refine WS.fx 45 false (b_not hp) (WS.cF ?_)
    refine WS.dr [1,2,3,4,5,6,7,8,9,10,11,12,13,14,15,16] [0,0,2,6,14,0,62,126,254,0,512,1536,3584,0,15872,32256,65024,131071] 18 (fun hcl=>?_)
    refine DA.tK 1 (some 57) (Value.pointer (some q11)) (DA.tK 2 (some 58) (Value.pointer (some q11)) (DA.tK 3 (some 59) (Value.pointer (some (Addr.add q11 0))) ?_))
    obtain ⟨x23,hx,h⟩:=bind_some h
    refine DA.tD 4 (some 60) (Sl3.v x23) (Abs.det_load (t:=29) (x:=.tmp 59) (a:=(Addr.add q11 0)) (by kernel_rfl) (by kernel_rfl) (by kernel_rfl) (by kernel_rfl) (z0 hx zb)) (DA.tK 5 (some 61) (Value.int .i64 v7_10) ?_)
    obtain ⟨p24,hx,h⟩:=bind_some h
    refine DA.tD 6 (some 62) (Value.pointer (some p24)) (Abs.det_idx (s:=x23) (k:=.i64) (t:=29) (e:=42) (x:=.tmp 60) (y:=.tmp 61) (by kernel_rfl) (by kernel_rfl) (by kernel_rfl) (by kernel_rfl) (by kernel_rfl) hx) (DA.tK 7 (some 63) (Value.pointer (some (Addr.add p24 0))) ?_)
    obtain ⟨x25,hx,h⟩:=bind_some h
    refine DA.tD 8 (some 64) (Value.int .i64 x25) (Abs.det_load (t:=3) (x:=.tmp 63) (a:=(Addr.add p24 0)) (by kernel_rfl) (by kernel_rfl) (by kernel_rfl) (by kernel_rfl) (z0 hx zd)) (DA.tK 9 (some 65) (Value.pointer (some q11)) (DA.tK 10 (some 66) (Value.pointer (some q11)) (DA.tK 11 (some 67) (Value.pointer (some (Addr.add q11 0))) ?_)))
    obtain ⟨x26,hx,h⟩:=bind_some h
    refine DA.tD 12 (some 68) (Sl3.v x26) (Abs.det_load (t:=29) (x:=.tmp 67) (a:=(Addr.add q11 0)) (by kernel_rfl) (by kernel_rfl) (by kernel_rfl) (by kernel_rfl) (z0 hx zb)) (DA.tK 13 (some 69) (Value.int .i64 v7_10) ?_)
    obtain ⟨p27,hx,h⟩:=bind_some h
    refine DA.tD 14 (some 70) (Value.pointer (some p27)) (Abs.det_idx (s:=x26) (k:=.i64) (t:=29) (e:=42) (x:=.tmp 68) (y:=.tmp 69) (by kernel_rfl) (by kernel_rfl) (by kernel_rfl) (by kernel_rfl) (by kernel_rfl) hx) (DA.tK 15 (some 71) (Value.pointer (some (Addr.add p27 2))) ?_)
    obtain ⟨x28,hx,h⟩:=bind_some h
    refine DA.tD 16 (some 72) (Sl3.v x28) (Abs.det_load (t:=27) (x:=.tmp 71) (a:=(Addr.add p27 2)) (by kernel_rfl) (by kernel_rfl) (by kernel_rfl) (by kernel_rfl) (z0 hx zb)) (DA.tP 0 (some 56) (Value.pointer x5) ?_)
    obtain ⟨⟨x29,x30,H31⟩,hx,h⟩:=bind_some h
    try dsimp only at h
    refine DA.on 17 (DA.aC 17 (some 73) (v:=(Value.tuple #[(Value.int .i64 x29),(Value.int .i64 x30)])) 18 #[(Value.pointer x5),(Value.int .i64 x25),(Sl3.v x28)] (z6f hx) (DA.dn ?_))
    cases h
    exact fun a w hs=>bkN ((jsN (hs.sb 0)))
  ·clear hx
   refine WS.rg (RS.mS 3 [kI 7 (IntKind.i64.wrap (v7_10+1)),kI 37 (IntKind.i64.wrap (v7_10+1)),kI 36 v7_10] (RS.dn ?_))
   cases h
   exact fun a w hs=>lsN rfl (hs.sb 0)
 ·refine WS.fx 35 false (decide_eq_false hp) (WS.cF (WS.ex 0 ?_))
  cases h
  exact fun a w hs=>sqE (lsB rfl (hs.sb 0))
theorem z4x {E H L m x1 x5 q34} :LoopF Tryd.prog (NE.plain 1000) m E Tryd.f5 ((cfst (csnd (cfst (csnd (csnd (csnd (csnd (csnd B5))))))))) (z84 L m x1 x5 q34) (fun s=>s.1) 2 z2h (z2k H) (z1p L m x1 x5 q34):=by
 rintro ⟨H36,v8_37⟩ o h
 unfold z1p at h
 try dsimp only at h
 refine WS.sq (WS.sq (WS.rg (RS.mS 2 [kB 81 (decide (v8_37≥0)),kI 80 v8_37] (RS.dn (WS.nxt ?_)))))
 rcases z9 h with ⟨hp,h⟩ | ⟨hp,h⟩
 ·refine WS.fx 81 true (decide_eq_true hp) (WS.cT (WS.sk (WS.nxt ?_)))
  obtain ⟨H38,hx,h⟩:=bind_some h
  refine WS.sq ?_
  refine WS.join ([(3,.val (Value.pointer x1)),kP 4 q34,(6,.val (Value.pointer x5)),kI 8 v8_37]) ([]) H38 ?_ (fun a w hs=>WS.nxt ?_ a w hs)
  ·clear h; rename _=>h
   refine WS.bk 3 (WS.sq (WS.rg (RS.mS 3 [(86,.val (Value.pointer (some (Addr.add q34 1)))),kP 85 q34,kP 84 q34] ?_)))
   obtain ⟨x39,hx,h⟩:=bind_some h
   refine RS.ld 87 30 (.tmp 86) (z0 hx zb) (RS.mS 1 [kI 88 v8_37] ?_)
   obtain ⟨p40,hx,h⟩:=bind_some h
   refine RS.ix 89 30 49 (.tmp 87) (.tmp 88) hx ?_
   obtain ⟨x41_0,hx0,h⟩:=bind_some h
   obtain ⟨x41_1,hx1,h⟩:=bind_some h
   obtain ⟨x41_2,hx2,h⟩:=bind_some h
   obtain ⟨x41_3,hx3,h⟩:=bind_some h
   refine RS.la 90 49 (.tmp 89) 4 (zi (z0 hx0 zd) (zi (z0 hx1 zd) (zi (z0 hx2 zd) (zi (z0 hx3 z4o) z5n)))) (RS.mL 2 [kL 9 0 0] ([some (49,[(Value.int .i64 x41_0),(Value.int .i64 x41_1),(Value.int .i64 x41_2),(Value.bool x41_3)])]) (RS.dn (WS.nxt (WS.sq (WS.rg (RS.mS 2 [kB 92 x41_3,kL 91 0 3] (RS.dn (WS.nxt ?_))))))))
   rcases z9 h with ⟨hp,h⟩ | ⟨hp,h⟩
   ·refine WS.fx 92 true hp (WS.cT (WS.rg (RS.mS 7 [kI 99 x41_2,kL 98 0 2,kI 97 x41_0,kL 96 0 0,kI 95 x41_1,kL 94 0 1,(93,.val (Value.pointer x5))] ?_)))
    obtain ⟨⟨x42,H43⟩,hx,h⟩:=bind_some h
    try dsimp only at h
    refine RS.cl (some 100) (v:=(Value.int .i64 x42)) 19 #[(Value.pointer x5),(Value.int .i64 x41_1),(Value.int .i64 x41_0),(Value.int .i64 x41_2)] (z5v hx) (RS.dn ?_)
    cases h
    exact fun a w hs=>bkN ((jsN (hs.sb 0)))
   ·refine WS.fx 92 false (b_not hp) (WS.cF (WS.rg (RS.mS 7 [kI 107 x41_2,kL 106 0 2,kI 105 x41_0,kL 104 0 0,kI 103 x41_1,kL 102 0 1,(101,.val (Value.pointer x5))] ?_)))
    obtain ⟨⟨x44,H45⟩,hx,h⟩:=bind_some h
    try dsimp only at h
    refine RS.cl (some 108) (v:=(Value.int .i64 x44)) 20 #[(Value.pointer x5),(Value.int .i64 x41_1),(Value.int .i64 x41_0),(Value.int .i64 x41_2)] (z5j hx) (RS.dn ?_)
    cases h
    exact fun a w hs=>bkN ((jsN (hs.sb 0)))
  ·clear hx
   refine WS.rg (RS.mS 3 [kI 8 (IntKind.i64.wrap (v8_37 - 1)),kI 83 (IntKind.i64.wrap (v8_37 - 1)),kI 82 v8_37] (RS.dn ?_))
   cases h
   exact fun a w hs=>lsN rfl (hs.sb 0)
 ·refine WS.fx 81 false (decide_eq_false hp) (WS.cF (WS.ex 2 ?_))
  cases h
  exact fun a w hs=>sqE (lsB rfl (hs.sb 0))
theorem z4w {E m H L x1 x5 H46 v10_53} :LoopF Tryd.prog (NE.plain 1000) m E Tryd.f5 ((cfst (csnd (csnd (csnd (csnd (cfst (cfst (csnd (cfst (cfst (csnd (cfst (csnd (csnd (csnd (csnd (csnd (csnd (csnd B5)))))))))))))))))))) (z86 L x1 x5 H46 v10_53) (fun _=>H46) 6 z2h (z2k H) (z1r L x1 x5 H46 v10_53):=by
 rintro v15_59 o h
 unfold z1r at h
 try dsimp only at h
 refine WS.sq (WS.sq (WS.rg (RS.mS 3 [kB 144 (decide (v15_59<v10_53)),kI 143 v10_53,kI 142 v15_59] (RS.dn (WS.nxt ?_)))))
 rcases z9 h with ⟨hp,h⟩ | ⟨hp,h⟩
 ·refine WS.fx 144 true (decide_eq_true hp) (WS.cT (WS.sk (WS.nxt (WS.sq (WS.bk 7 ?_)))))
  obtain ⟨v166_60,hx,h⟩:=bind_some h
  refine WS.sq ?_
  refine WS.join ([kB 166 v166_60,(3,.val (Value.pointer x1)),(6,.val (Value.pointer x5)),kI 10 v10_53,kI 15 v15_59]) ([]) H46 ?_ (fun a w hs=>WS.nxt ?_ a w hs)
  ·clear h; rename _=>h
   refine WS.rg (RS.mS 3 [kI 149 v15_59,kI 148 v10_53,(147,.val (Value.pointer x1))] ?_)
   obtain ⟨x61,hx,h⟩:=bind_some h
   refine RS.cl (some 150) (v:=(Value.bool x61)) 23 #[(Value.pointer x1),(Value.int .i64 v10_53),(Value.int .i64 v15_59)] (z30 hx) (RS.mS 3 [kI 153 v15_59,kI 152 v10_53,(151,.val (Value.pointer x5))] ?_)
   obtain ⟨x62,hx,h⟩:=bind_some h
   refine RS.cl (some 154) (v:=(Value.bool x62)) 23 #[(Value.pointer x5),(Value.int .i64 v10_53),(Value.int .i64 v15_59)] (z30 hx) (RS.mS 2 [kB 156 (!(x61 == x62)),kB 155 (!(x61 == x62))] ?_)
   rcases z9 h with ⟨hp,h⟩ | ⟨hp,h⟩
   ·refine RS.fx 156 false (nb_not hp) (RS.mS 3 [kI 159 v15_59,kI 158 v10_53,(157,.val (Value.pointer x1))] ?_)
    obtain ⟨x63,hx,h⟩:=bind_some h
    refine RS.cl (some 160) (v:=(Value.bool x63)) 23 #[(Value.pointer x1),(Value.int .i64 v10_53),(Value.int .i64 v15_59)] (z30 hx) (RS.mS 3 [kI 163 v10_53,kI 162 v15_59,(161,.val (Value.pointer x1))] ?_)
    obtain ⟨x64,hx,h⟩:=bind_some h
    refine RS.cl (some 164) (v:=(Value.bool x64)) 23 #[(Value.pointer x1),(Value.int .i64 v15_59),(Value.int .i64 v10_53)] (z30 hx) (RS.mS 2 [kB 166 (!(x63 == x64)),kB 165 (!(x63 == x64))] (RS.dn ?_))
    cases h
    exact fun a w hs=>(jsN (hs.sb 0))
   ·refine RS.fx 156 true (z34 hp) (RS.mS 10 [kB 166 true,kU 165,kU 164,kU 163,kU 162,kU 161,kU 160,kU 159,kU 158,kU 157] (RS.dn ?_))
    cases h
    exact fun a w hs=>(jsN (hs.sb 0))
  ·clear hx
   rcases z9 h with ⟨hp,h⟩ | ⟨hp,h⟩
   ·refine WS.fx 166 true hp (WS.cT (WS.sq (WS.rg (RS.mS 1 [kB 2 false] (RS.dn (WS.nxt (WS.rt ?_)))))))
    cases h
    exact fun a w hs=>bkR (sqR (lsR rfl (rS hs)))
   ·refine WS.fx 166 false (b_not hp) (WS.cF (WS.sk ?_))
    refine fun a w hs=>bkN ((WS.nxt ?_ a w hs))
    refine WS.rg (RS.mS 3 [kI 15 (IntKind.i64.wrap (v15_59+1)),kI 146 (IntKind.i64.wrap (v15_59+1)),kI 145 v15_59] (RS.dn ?_))
    cases h
    exact fun a w hs=>lsN rfl (hs.sb 0)
 ·refine WS.fx 144 false (decide_eq_false hp) (WS.cF (WS.ex 6 ?_))
  cases h
  exact fun a w hs=>sqE (lsB rfl (hs.sb 0))
theorem z4u {E m H L x1 x5 H46} :LoopF Tryd.prog (NE.plain 1000) m E Tryd.f5 ((cfst (csnd (cfst (csnd (csnd (csnd (csnd (csnd (csnd (csnd B5))))))))))) (z85 L x1 x5 H46) (fun _=>H46) 4 z2h (z2k H) (z1s L x1 x5 H46):=by
 rintro v10_53 o h
 unfold z1s at h
 try dsimp only at h
 refine WS.sq (WS.sq (WS.rg (RS.mS 2 [(122,.val (Value.pointer x1)),kI 121 v10_53] ?_)))
 obtain ⟨x54,hx,h⟩:=bind_some h
 refine RS.cl (some 123) (v:=(Value.int .i64 x54)) 21 #[(Value.pointer x1)] (z43 hx) (RS.mS 1 [kB 124 (decide (v10_53<x54))] (RS.dn (WS.nxt ?_)))
 rcases z9 h with ⟨hp,h⟩ | ⟨hp,h⟩
 ·refine WS.fx 124 true (decide_eq_true hp) (WS.cT (WS.sk (WS.nxt (WS.sq (WS.bk 5 (WS.sq (WS.rg (RS.mS 2 [kI 129 v10_53,(128,.val (Value.pointer x1))] ?_))))))))
  obtain ⟨⟨x55,x56⟩,hx,h⟩:=bind_some h
  try dsimp only at h
  refine RS.cl (some 130) (v:=(Value.tuple #[(Value.int .i64 x55),(Value.bool x56)])) 14 #[(Value.pointer x1),(Value.int .i64 v10_53)] (z5z hx) (RS.mS 5 [kB 12 x56,kI 11 x55,kB 132 x56,kI 131 x55,(127,.val (Value.tuple #[(Value.int .i64 x55),(Value.bool x56)]))] (RS.dn (WS.nxt (WS.sq (WS.rg (RS.mS 2 [kI 135 v10_53,(134,.val (Value.pointer x5))] ?_))))))
  obtain ⟨⟨x57,x58⟩,hx,h⟩:=bind_some h
  try dsimp only at h
  refine RS.cl (some 136) (v:=(Value.tuple #[(Value.int .i64 x57),(Value.bool x58)])) 14 #[(Value.pointer x5),(Value.int .i64 v10_53)] (z5z hx) (RS.mS 5 [kB 14 x58,kI 13 x57,kB 138 x58,kI 137 x57,(133,.val (Value.tuple #[(Value.int .i64 x57),(Value.bool x58)]))] (RS.dn (WS.nxt (WS.sq (WS.sq (WS.rg (RS.mS 3 [kB 141 (!decide (x55=x57)),kI 140 x57,kI 139 x55] (RS.dn (WS.nxt ?_)))))))))
  rcases z9 h with ⟨hp,h⟩ | ⟨hp,h⟩
  ·refine WS.fx 141 false (z7o hp) (WS.cF (WS.sk (WS.nxt (WS.sq (WS.rg (RS.mS 1 [kI 15 0] (RS.dn (WS.nxt (WS.bk 6 ?_)))))))))
   obtain ⟨o,hl,h⟩:=bind_some h
   rcases o with v15_65 | r
   ·try dsimp only at h
    refine WS.lI (z4w (L:=L) (E:=E) (m:=m) (H:=H)) (L.ok hl) 0 ?_
    clear hl
    refine fun a w hs=>bkE (bkN ((WS.nxt ?_ a w hs)))
    refine WS.rg (RS.mS 3 [kI 10 (IntKind.i64.wrap (v10_53+1)),kI 126 (IntKind.i64.wrap (v10_53+1)),kI 125 v10_53] (RS.dn ?_))
    cases h
    exact fun a w hs=>lsN rfl (hs.sb 0)
   ·try dsimp only at h
    refine WS.lR (z4w (L:=L) (E:=E) (m:=m) (H:=H)) (L.ok hl) 0 ?_
    cases h
    exact fun a w hq=>bkR (bkR (sqR (lsR rfl hq)))
  ·refine WS.fx 141 true (z6k hp) (WS.cT (WS.sq (WS.rg (RS.mS 1 [kB 2 false] (RS.dn (WS.nxt (WS.rt ?_)))))))
   cases h
   exact fun a w hs=>sqR (bkR (sqR (lsR rfl (rS hs))))
 ·refine WS.fx 124 false (decide_eq_false hp) (WS.cF (WS.ex 4 ?_))
  cases h
  exact fun a w hs=>sqE (lsB rfl (hs.sb 0))
theorem za7 {L:LC} {m:Nat} {H:AH} {a0:Sl3} {r:(Bool×AH)} (h:z3o L m H a0=some r) :
  CallS Tryd.prog (NE.plain 1000) m 5 #[(Sl3.v a0)] H (z2h r) (z2k H r):=by
 refine CallS.mk (args:=[(Sl3.v a0)]) Tryd.func5 (B:=B5) (by kernel_rfl) (fun E _=>?_)
 unfold z3o at h
 refine WS.sq (WS.rg (RS.mS 1 [kB 2 false] (RS.dn (WS.nxt (WS.sq (WS.rg (RS.mS 1 [kS 17 a0] ?_)))))))
 obtain ⟨⟨x1,x2,x3,H4⟩,hx,h⟩:=bind_some h
 try dsimp only at h
 refine RS.cl (some 18) (v:=(Value.tuple #[(Value.pointer x1),(Value.pointer x2),(Value.bool x3)])) 9 #[(Sl3.v a0)] (ze2 hx) (RS.mS 7 [kB 5 x3,(4,.val (Value.pointer x2)),(3,.val (Value.pointer x1)),kB 21 x3,(20,.val (Value.pointer x2)),(19,.val (Value.pointer x1)),(16,.val (Value.tuple #[(Value.pointer x1),(Value.pointer x2),(Value.bool x3)]))] (RS.dn (WS.nxt (WS.sq (WS.rg ?_)))))
 obtain ⟨⟨x5,H6⟩,hx,h⟩:=bind_some h
 try dsimp only at h
 refine RS.cl (some 22) (v:=(Value.pointer x5)) 16 #[] (zap hx) (RS.mS 1 [(6,.val (Value.pointer x5))] (RS.dn (WS.nxt (WS.sq ?_))))
 obtain ⟨v28_7,hx,h⟩:=bind_some h
 refine WS.sq ?_
 refine WS.join ([kB 28 v28_7,(3,.val (Value.pointer x1)),(4,.val (Value.pointer x2)),(6,.val (Value.pointer x5))]) ([]) H6 ?_ (fun a w hs=>WS.nxt ?_ a w hs)
 ·clear h; rename _=>h
  refine WS.rg (RS.mS 3 [kB 25 (!x3),kB 24 (!x3),kB 23 x3] ?_)
  rcases z9 h with ⟨hp,h⟩ | ⟨hp,h⟩
  ·refine RS.fx 25 false (nb_not hp) (RS.mS 1 [(26,.val (Value.pointer x5))] ?_)
   rcases x5 with _ | q8
   ·try dsimp only at h
    refine RS.mS 2 [kB 28 true,kB 27 true] (RS.dn ?_)
    cases h
    exact fun a w hs=>(jsN (hs.sb 0))
   ·try dsimp only at h
    refine RS.mS 2 [kB 28 false,kB 27 false] (RS.dn ?_)
    cases h
    exact fun a w hs=>(jsN (hs.sb 0))
  ·refine RS.fx 25 true (z34 hp) (RS.mS 3 [kB 28 true,kU 27,kU 26] (RS.dn ?_))
   cases h
   exact fun a w hs=>(jsN (hs.sb 0))
 ·clear hx
  rcases z9 h with ⟨hp,h⟩ | ⟨hp,h⟩
  ·refine WS.fx 28 true hp (WS.cT (WS.sq (WS.rg (RS.mS 1 [kB 2 false] (RS.dn (WS.nxt (WS.rt ?_)))))))
   cases h
   exact fun a w hs=>sqR (rtR (rS hs))
  ·refine WS.fx 28 false (b_not hp) (WS.cF (WS.sk (WS.nxt (WS.sq (WS.sq (WS.rg (RS.mS 1 [kI 7 0] (RS.dn (WS.nxt ?_)))))))))
   refine WS.bk 0 ?_
   obtain ⟨o,hl,h⟩:=bind_some h
   rcases o with ⟨H32,v7_33⟩ | r
   ·try dsimp only at h
    refine WS.lI (z4y (L:=L) (E:=E) (m:=m) (H:=H)) (L.ok hl) 0 ?_
    clear hl
    refine fun a w hs=>bkE ((WS.nxt ?_ a w hs))
    refine WS.sq (WS.sq (WS.rg (RS.mS 1 [(74,.val (Value.pointer x2))] ?_)))
    obtain ⟨q34,hx,hq34⟩:=bind_some h
    subst hx
    have h:=hq34
    refine RS.mS 2 [(76,.val (Value.pointer (some (Addr.add q34 1)))),kP 75 q34] ?_
    obtain ⟨x35,hx,h⟩:=bind_some h
    refine RS.ld 77 30 (.tmp 76) (z0 hx zb) (RS.mS 3 [kI 8 (IntKind.i64.wrap ((x35.n:Int) - 1)),kI 79 (IntKind.i64.wrap ((x35.n:Int) - 1)),kI 78 (x35.n:Int)] (RS.dn (WS.nxt (WS.bk 2 ?_))))
    obtain ⟨o,hl,h⟩:=bind_some h
    rcases o with ⟨H46,v8_47⟩ | r
    ·try dsimp only at h
     refine WS.lI (z4x (L:=L) (E:=E) (m:=m) (H:=H)) (L.ok hl) 0 ?_
     clear hl
     refine fun a w hs=>bkE ((WS.nxt ?_ a w hs))
     refine WS.sq ?_
     obtain ⟨v120_48,hx,h⟩:=bind_some h
     refine WS.sq ?_
     refine WS.join ([kB 120 v120_48,(3,.val (Value.pointer x1)),(6,.val (Value.pointer x5))]) ([]) H46 ?_ (fun a w hs=>WS.nxt ?_ a w hs)
     ·clear h; rename _=>h
      refine WS.rg (RS.mS 1 [(109,.val (Value.pointer x1))] ?_)
      obtain ⟨x49,hx,h⟩:=bind_some h
      refine RS.cl (some 110) (v:=(Value.int .i64 x49)) 21 #[(Value.pointer x1)] (z43 hx) (RS.mS 1 [(111,.val (Value.pointer x5))] ?_)
      obtain ⟨x50,hx,h⟩:=bind_some h
      refine RS.cl (some 112) (v:=(Value.int .i64 x50)) 21 #[(Value.pointer x5)] (z43 hx) (RS.mS 2 [kB 114 (!decide (x49=x50)),kB 113 (!decide (x49=x50))] ?_)
      rcases z9 h with ⟨hp,h⟩ | ⟨hp,h⟩
      ·refine RS.fx 114 false (z7o hp) (RS.mS 1 [(115,.val (Value.pointer x1))] ?_)
       obtain ⟨x51,hx,h⟩:=bind_some h
       refine RS.cl (some 116) (v:=(Value.bool x51)) 22 #[(Value.pointer x1)] (z5s hx) (RS.mS 1 [(117,.val (Value.pointer x5))] ?_)
       obtain ⟨x52,hx,h⟩:=bind_some h
       refine RS.cl (some 118) (v:=(Value.bool x52)) 22 #[(Value.pointer x5)] (z5s hx) (RS.mS 2 [kB 120 (!(x51 == x52)),kB 119 (!(x51 == x52))] (RS.dn ?_))
       cases h
       exact fun a w hs=>(jsN (hs.sb 0))
      ·refine RS.fx 114 true (z6k hp) (RS.mS 6 [kB 120 true,kU 119,kU 118,kU 117,kU 116,kU 115] (RS.dn ?_))
       cases h
       exact fun a w hs=>(jsN (hs.sb 0))
     ·clear hx
      rcases z9 h with ⟨hp,h⟩ | ⟨hp,h⟩
      ·refine WS.fx 120 true hp (WS.cT (WS.sq (WS.rg (RS.mS 1 [kB 2 false] (RS.dn (WS.nxt (WS.rt ?_)))))))
       cases h
       exact fun a w hs=>sqR (rtR (rS hs))
      ·refine WS.fx 120 false (b_not hp) (WS.cF (WS.sk (WS.nxt (WS.sq (WS.sq (WS.rg (RS.mS 1 [kI 10 0] (RS.dn (WS.nxt ?_)))))))))
       refine WS.bk 4 ?_
       obtain ⟨o,hl,h⟩:=bind_some h
       rcases o with v10_66 | r
       ·try dsimp only at h
        refine WS.lI (z4u (L:=L) (E:=E) (m:=m) (H:=H)) (L.ok hl) 0 ?_
        clear hl
        refine fun a w hs=>bkE ((WS.nxt ?_ a w hs))
        refine WS.sq (WS.rg ?_)
        obtain ⟨x67,hx,h⟩:=bind_some h
        refine RS.cl (some 167) (v:=(Value.bool x67)) 13 #[] (ze9 hx) (RS.mS 1 [kB 2 x67] (RS.dn (WS.nxt (WS.rt ?_))))
        cases h
        exact fun a w hs=>rtR (rS hs)
       ·try dsimp only at h
        refine WS.lR (z4u (L:=L) (E:=E) (m:=m) (H:=H)) (L.ok hl) 0 ?_
        cases h
        exact fun a w hq=>bkR (sqR (rtR hq))
    ·try dsimp only at h
     refine WS.lR (z4x (L:=L) (E:=E) (m:=m) (H:=H)) (L.ok hl) 0 ?_
     cases h
     exact fun a w hq=>bkR (sqR (rtR hq))
   ·try dsimp only at h
    refine WS.lR (z4y (L:=L) (E:=E) (m:=m) (H:=H)) (L.ok hl) 0 ?_
    cases h
    exact fun a w hq=>bkR (sqR (rtR hq))
end Go.Proofs.YtgkhbmoidenjaaaDoor
namespace Go.Proofs.YtgkhbmoidenjaaaDoor
open Go Go.Abs Go.Abs.Eg
set_option maxRecDepth 100000
theorem z1g:maxN=9223372036854775807:=rfl
structure Env (T:Tys) (tx:Key→ByteArray) (m:Nat) (Tb:AH→Prop):Prop where
 inj:∀k k',tx k=tx k'→k=k'
 tb:∀{H H':AH} {W:Nat→Prop},Tb H→Fm W H H'→(∀id,W id→m≤id)→Tb H'
 text:∀(k m1 m2:Nat) (H:AH) (v:Bool) (s:Int) (sl:Sl3) (l:List Nat),Tb H→m1≤H.next→SlA EI T.I m2 H l sl→(∀a∈l,a≤1048576)→l.length≤64→-9223372036854775808≤s→s<9223372036854775808 →
  ∃H',z40 (LCo k) m1 H v s sl=some (tx (v,s,l),H')∧Ext H H'
theorem Env.tbx {T:Tys} {tx:Key→ByteArray} {m:Nat} {Tb:AH→Prop} (h:Env T tx m Tb) {H H':AH} (hb:Tb H) (hf:Ext H H'):Tb H':=h.tb hb hf fun _ h=>h.elim
structure Small (g:St):Prop where
 n:g.n≤1048576
 tot:tot g≤1048576
 args:∀(i:Nat) y,g.N[i]? = some y→y.args.length≤64
 sym:∀(i:Nat) y,g.N[i]? = some y→-9223372036854775808≤y.sym∧y.sym<9223372036854775808
 cls:g.cls.length≤1048576
def Wc (L:GL) (n0:Nat) (id:Nat):Prop:=id<n0→∃c,L.fp c id
theorem fmE {L:GL} {n0:Nat} {H H':AH} (h:Ext H H'):Fm (Wc L n0) H H':=h.weak fun _ _ h=>h.elim
theorem fmC {L:GL} {n0:Nat} {H H':AH} {W:Nat→Prop} (c:Comp) (h:Fm W H H') (hw:∀id,W id→L.fp c id):Fm (Wc L n0) H H':=h.weak fun id _ hid _=>⟨c,hw id hid⟩
theorem fmN {L:GL} {n0:Nat} {H H':AH} {W:Nat→Prop} (h:Fm W H H') (hw:∀id,W id→n0≤id):Fm (Wc L n0) H H':=h.weak fun id _ hid hlt=>by have:=hw id hid; omega
theorem fmT {L:GL} {n0:Nat} {H H1 H2:AH} (h1:Fm (Wc L n0) H H1) (h2:Fm (Wc L n0) H1 H2):Fm (Wc L n0) H H2:=h1.comp h2 fun _ _ h=>h
section
variable {T:Tys} {tx:Key→ByteArray} {m:Nat} {H:AH} {L:GL} {x:Gh}
abbrev GL.p (L:GL):Option Addr:=some ⟨L.q,0,none⟩
theorem z4k (k:Nat) (h:Rep T tx m H L x):z1f (LCo k) H (GL.p L)=some true:=by
 unfold z1f
 simp only [GL.p]
 rw [h.q (j:=1) (v:=.map (some L.mi)) rfl]
 rfl
theorem zbt (h:Rep T tx m H L x):L.sN.n=x.g.n:=by
 have:=SlA.cnt (show SlA EN T.N m H (nodeL x.g.N L.na) L.sN from h.hold .N)
 rw [this]
 unfold nodeL
 rw [List.length_zipWith,h.nal]
 exact Nat.min_self _
theorem z4h (k:Nat) (h:Rep T tx m H L x) (a:Int):z1k (LCo k) H (GL.p L) a=some (decide (0≤a∧a<x.g.n)):=by
 unfold z1k
 rw [z4k k h]
 simp only [Option.bind_some,if_true,GL.p]
 by_cases h0:a≥0
 ·rw [if_pos h0,h.q (j:=0) (v:=L.sN.v) rfl]
  show some (decide (a<(L.sN.n:Int)))=_
  rw [zbt h]
  congr 1
  exact decide_eq_decide.2 ⟨fun h1=>⟨h0,h1⟩,fun h1=>h1.2⟩
 ·rw [if_neg h0]
  congr 1
  exact (decide_eq_false fun h1=>h0 h1.1).symm
theorem zm0 (k m1:Nat) (h:Rep T tx m H L x) (hl:x.g.of.length=x.g.n) {args:List Nat} {sl:Sl3} (ha:SlA EI T.I m H args sl) (hlt:∀a∈args,a<x.g.n) (hn:args.length≤64) (hm:m1≤H.next) (hI:T.I=3) (y0:Int) (y2:Bool) :
  ∀(d i:Nat) (H1:AH) (s:Sl3),i+d=args.length→Ext H H1→SlA EI 3 m1 H1 ((args.take i).map x.g.o) s→(∀id,fpt s id→H.next≤id) →
   ∃H2 s2,loopO (z12 (LCo k) m1 ⟨L.q,0,none⟩ y0 sl y2) (H1,s,(i:Int))=some (.inl (H2,s2,(args.length:Int)))∧Ext H H2∧SlA EI 3 m1 H2 (args.map x.g.o) s2∧∀id,fpt s2 id→H.next≤id:=by
 have hcn:=ha.cnt
 intro d
 induction d with
 | zero =>
  intro i H1 s hi hx hs hf
  have:i=args.length:=by omega
  subst this
  rw [List.take_length] at hs
  refine ⟨H1,s,z27 ?_,hx,hs,hf⟩
  unfold z12
  simp only [hcn,if_neg (show ¬((args.length:Int)<(args.length:Int)) by omega)]
 | succ d ih =>
  intro i H1 s hi hx hs hf
  have hil:i<args.length:=by omega
  have h1:=h.ext hx
  obtain ⟨q,r1,r2⟩:=rd_EI (ha.ext hx) hil (v:=(i:Int)) rfl
  obtain ⟨q',r3,r4⟩:=h1.of_ (i:=args[i]) (by rw [hl]; exact hlt _ (List.getElem_mem _)) (v:=(args[i]:Int)) rfl
  obtain ⟨z,H0,s',H',p1,p2,p3,p4,p5,p6⟩:=hs.push (bytes:=8) (x.g.o args[i]) (by rw [List.length_map,List.length_take]; omega) (by rw [List.length_map,List.length_take]; omega) (by have:=hx.1; omega)
  have hb:z12 (LCo k) m1 ⟨L.q,0,none⟩ y0 sl y2 (H1,s,(i:Int))=some (.next (H',s',((i+1:Nat):Int))):=by
   unfold z12
   simp only [hcn,if_pos (show (i:Int)<(args.length:Int) by omega),r1,r2,Option.bind_some]
   rw [h1.q (j:=4) (v:=L.sO.v) rfl]
   simp only [show deSl (Sl3.v L.sO)=some L.sO from rfl,Option.bind_some,r3,r4]
   have p1':newR 3 1 #[Value.int .i64 ((x.g.o args[i]:Nat):Int)] H1=some (z,H0):=p1
   have p3':appS m1 3 1 8 H0 s z=some (s',H'):=p3
   rw [p1']
   simp only [Option.bind_some]
   rw [p3']
   simp only [Option.bind_some]
   rw [zv (n:=args.length) hil (by rw [z1g]; omega)]
  obtain ⟨H2,s2,a1,a2,a3,a4⟩:=ih (i+1) H' s' (by omega) (hx.comp p5 fun id hlt' _ hw=>by have:=hf id hw; omega) (by
   rw [List.take_succ_eq_append_getElem hil,List.map_append]
   exact p4) (fun id hid=>by
    rcases p6 id hid with h | h
    ·exact hf id h
    ·exact Nat.le_trans hx.1 h)
  exact ⟨H2,s2,by rw [z1m hb]; exact a1,a2,a3,a4⟩
theorem za8 {Tb:AH→Prop} (hE:Env T tx m Tb) (k m1:Nat) (h:Rep T tx m H L x) (hb:Tb H) (hl:x.g.of.length=x.g.n) (hS:Small x.g) (hcl:∀i,i<x.g.n→x.g.o i<x.g.cls.length) (hargs:∀(i:Nat) y,x.g.N[i]? = some y→∀a∈y.args,a<i) (hm:m1≤H.next) (hI:T.I=3) {i:Nat} (hi:i<x.g.n) {v:Int} (hv:v=i) :
  ∃H',zh (LCo k) m1 H (GL.p L) v=some (tx (x.g.sig i),H')∧Ext H H':=by
 obtain ⟨y,hy⟩:=z41 hi
 obtain ⟨q,s,r1,r2,r3,r4,ha,_⟩:=h.node hy hv
 have hlt:∀a∈y.args,a<x.g.n:=fun a haa=>by have:=hargs i y hy a haa; omega
 obtain ⟨H2,s2,a1,a2,a3,a4⟩:=zm0 k m1 h hl ha hlt (hS.args i y hy) hm hI y.sym y.value y.args.length 0 H Sl3.nil (by omega) (Fm.refl _ _) SlA.nil (fun id hid=>absurd hid zu)
 obtain ⟨H3,b1,b2⟩:=hE.text k m1 m1 H2 y.value y.sym s2 (y.args.map x.g.o) (hE.tbx hb a2) (by have:=a2.1; omega) (by rw [hI]; exact a3) (fun a haa=>by
   obtain ⟨b,hb',rfl⟩:=List.mem_map.1 haa
   have:=hcl b (hlt b hb')
   have:=hS.cls
   omega) (by rw [List.length_map]; exact hS.args i y hy) (hS.sym i y hy).1 (hS.sym i y hy).2
 refine ⟨H3,?_,a2.trans b2⟩
 unfold zh
 simp only [GL.p,Option.bind_some]
 rw [h.q (j:=0) (v:=L.sN.v) rfl]
 simp only [show deSl (Sl3.v L.sN)=some L.sN from rfl,Option.bind_some,r1,r2,r3,r4]
 show Option.bind (loopO (z12 (LCo k) m1 ⟨L.q,0,none⟩ y.sym s y.value) (H,Sl3.nil,((0:Nat):Int))) _=_
 rw [a1]
 simp only [Option.bind_some,b1]
 rw [sig_of hy]
 rfl
end
end Go.Proofs.YtgkhbmoidenjaaaDoor
namespace Go.Proofs.YtgkhbmoidenjaaaDoor
open Go Go.Abs Go.Abs.Eg
set_option maxRecDepth 100000
section
variable {T:Tys} {tx:Key→ByteArray} {m:Nat} {H:AH} {L:GL} {x:Gh} {Tb:AH→Prop}
def withF (x:Gh) (fe:List Ed):Gh:=⟨{ x.g with fo:=fe.map (·.1) },x.ids,x.sd,fe⟩
theorem setF (hE:Env T tx m Tb) (h:Rep T tx m H L x) (hb:Tb H) {i:Nat} (hi:i<x.fe.length) (e:Ed) {v:Int} (hv:v=i) :
  ∃p H',idxA 5 L.sF v=some p∧wrCells m p 0 [.int .i64 e.1,.int .i64 e.2.1,.int .i64 e.2.2.1,.int .i64 e.2.2.2.1,.bool e.2.2.2.2] H=some H'∧Rep T tx m H' L (withF x (x.fe.set i e))∧Tb H'∧H'.next=H.next∧Fm (fpt L.sF) H H':=by
 have hF:SlA EE T.E m H x.fe L.sF:=h.hold .F
 obtain ⟨q,r1,⟨a,r2,r3,rfl⟩,_⟩:=rd_EE hF hi hv
 obtain ⟨H',a1,a2,a3,a4⟩:=hF.put hi e r2 r3
 refine ⟨_,H',r1,a1,?_,hE.tb hb a3 fun id hid=>(h.low (c:=.F) hid).1,a4,a3⟩
 refine h.step (fun c=>c=.F) (W:=fpt L.sF) a3 (fun id hid=>⟨.F,rfl,hid⟩) (fun c hc=>⟨fun hh=>?_,fun id hid=>hid⟩) (fun c hc=>?_) (fun c hc id hid=>.inl hid) (fun c c' hc hc' _ _ _=>hc.trans hc'.symm) h.nal h.cll rfl
 ·cases c <;> first | exact hh | exact absurd rfl hc
 ·subst hc; exact a2
theorem readF (h:Rep T tx m H L x) {i:Nat} (hi:i<x.fe.length) {v:Int} (hv:v=i):∃p,idxA 5 L.sF v=some p∧rd (deI .i64) H (p.add 0)=some x.fe[i].1∧rd (deI .i64) H (p.add 1)=some x.fe[i].2.1∧rd (deI .i64) H (p.add 2)=some x.fe[i].2.2.1∧rd (deI .i64) H (p.add 3)=some x.fe[i].2.2.2.1∧rd deB H (p.add 4)=some x.fe[i].2.2.2.2:=by
 obtain ⟨q,r1,_,r2⟩:=rd_EE (show SlA EE T.E m H x.fe L.sF from h.hold .F) hi hv
 exact ⟨q,r1,r2⟩
theorem zhr (hE:Env T tx m Tb) (k:Nat) {fo:List Int} {o:Nat→Nat} {n:Nat} (hn:n≤1048576):∀(kk:Nat) (H:AH) (x:Gh) (prev:Int) (c:Nat) (e:Ed),Rep T tx m H L x→Tb H→x.g.fo.length=n→RI fo o n x.g.fo prev c kk→(prev<0→prev=-1) →
  ∃H' st fe',loopO (zl (LCo k) m (GL.p L)) (H,(c:Int),prev,e.1,e.2.1,e.2.2.1,e.2.2.2.1,e.2.2.2.2)=some (.inl (H',st))∧Rep T tx m H' L (withF x fe')∧RD o n (fe'.map (·.1))∧Tb H'∧H'.next=H.next∧fe'.length=x.fe.length∧Fm (fpt L.sF) H H':=by
 intro kk
 induction kk with
 | zero =>
  intro H x prev c e h hb hl hr hp
  have hfl:x.fe.length=n:=by rw [← hl,← h.fel,List.length_map]
  have hc:=hr.cn
  obtain ⟨v,hv,hcase⟩:=hr.next
  obtain ⟨p,q1,q2,q3,q4,q5,q6⟩:=readF h (i:=c) (by omega) (v:=(c:Int)) rfl
  have hv0:x.fe[c].1=v:=by
   have:x.g.fo[c]? = some (x.fe[c]'(by omega)).1:=by rw [← h.fel,List.getElem?_map,List.getElem?_eq_getElem (by omega)]; rfl
   rw [hv] at this
   exact (Option.some.inj this).symm
  rcases hcase with ⟨rfl,hd⟩ | ⟨j,k',_,hk,_⟩
  ·obtain ⟨p',H',w1,w2,w3,w4,w5,w6⟩:=setF hE h hb (i:=c) (by omega) (if prev<0 then (-1,0,0,0,false) else (prev,e.2.1,e.2.2.1,e.2.2.2.1,e.2.2.2.2)) (v:=(c:Int)) rfl
   rw [q1] at w1
   cases w1
   have hb0:∃st:Int×Int×Int×Int×Int×Int×Bool,zl (LCo k) m (GL.p L) (H,(c:Int),prev,e.1,e.2.1,e.2.2.1,e.2.2.2.1,e.2.2.2.2)=some (.next (H',-1,st.2)):=by
    unfold zl
    simp only [if_pos (show (c:Int)≥0 by omega),GL.p,Option.bind_some]
    rw [h.q (j:=6) (v:=L.sF.v) rfl]
    simp only [show deSl (Sl3.v L.sF)=some L.sF from rfl,Option.bind_some,q1,q2,q3,q4,q5,q6,hv0]
    by_cases hp0:prev<0
    ·simp only [if_pos hp0] at w2 ⊢
     simp only [w2,Option.bind_some]
     exact ⟨(0,_),rfl⟩
    ·simp only [if_neg hp0] at w2 ⊢
     simp only [w2,Option.bind_some]
     exact ⟨(0,_),rfl⟩
   obtain ⟨st,hb0⟩:=hb0
   have hb1:zl (LCo k) m (GL.p L) (H',-1,st.2)=some (.brk (H',-1,st.2)):=by
    unfold zl
    obtain ⟨s0,s1,s2,s3,s4,s5,s6⟩:=st
    simp only [if_neg (show ¬((-1:Int)≥0) by omega)]
   refine ⟨H',(-1,st.2),_,by rw [z1m hb0]; exact z27 hb1,w3,?_,w4,w5,List.length_set,w6⟩
   have:(x.fe.set c (if prev<0 then (-1,0,0,0,false) else (prev,e.2.1,e.2.2.1,e.2.2.2.1,e.2.2.2.2))).map (·.1)=x.g.fo.set c prev:=by
    rw [List.map_set,h.fel]
    congr 1
    split
    ·rename_i hp0; exact (hp hp0).symm
    ·rfl
   rw [this]
   exact hd
  ·omega
 | succ kk ih =>
  intro H x prev c e h hb hl hr hp
  have hfl:x.fe.length=n:=by rw [← hl,← h.fel,List.length_map]
  have hc:=hr.cn
  obtain ⟨v,hv,hcase⟩:=hr.next
  obtain ⟨p,q1,q2,q3,q4,q5,q6⟩:=readF h (i:=c) (by omega) (v:=(c:Int)) rfl
  have hv0:x.fe[c].1=v:=by
   have:x.g.fo[c]? = some (x.fe[c]'(by omega)).1:=by rw [← h.fel,List.getElem?_map,List.getElem?_eq_getElem (by omega)]; rfl
   rw [hv] at this
   exact (Option.some.inj this).symm
  rcases hcase with ⟨rfl,_⟩ | ⟨j,k',rfl,hk,hri⟩
  ·have hw:=hr.wn
   cases hw with
   | step hst _ =>
    have hs:=hr.same c _ hr.wn (Nat.le_refl _)
    rw [hv,hst] at hs
    simp only [Option.some.injEq] at hs
    omega
  ·obtain rfl:kk=k':=by omega
   obtain ⟨p',H',w1,w2,w3,w4,w5,w6⟩:=setF hE h hb (i:=c) (by omega) (if prev<0 then (-1,0,0,0,false) else (prev,e.2.1,e.2.2.1,e.2.2.2.1,e.2.2.2.2)) (v:=(c:Int)) rfl
   rw [q1] at w1
   cases w1
   have hb0:zl (LCo k) m (GL.p L) (H,(c:Int),prev,e.1,e.2.1,e.2.2.1,e.2.2.2.1,e.2.2.2.2)=some (.next (H',(j:Int),(c:Int),x.fe[c].1,x.fe[c].2.1,x.fe[c].2.2.1,x.fe[c].2.2.2.1,x.fe[c].2.2.2.2)):=by
    unfold zl
    simp only [if_pos (show (c:Int)≥0 by omega),GL.p,Option.bind_some]
    rw [h.q (j:=6) (v:=L.sF.v) rfl]
    simp only [show deSl (Sl3.v L.sF)=some L.sF from rfl,Option.bind_some,q1,q2,q3,q4,q5,q6,hv0]
    by_cases hp0:prev<0
    ·simp only [if_pos hp0] at w2 ⊢
     simp only [w2,Option.bind_some]
    ·simp only [if_neg hp0] at w2 ⊢
     simp only [w2,Option.bind_some]
   have hfo:(withF x (x.fe.set c (if prev<0 then (-1,0,0,0,false) else (prev,e.2.1,e.2.2.1,e.2.2.2.1,e.2.2.2.2)))).g.fo=x.g.fo.set c prev:=by
    show (x.fe.set c _).map (·.1)=_
    rw [List.map_set,h.fel]
    congr 1
    split
    ·rename_i hp0; exact (hp hp0).symm
    ·rfl
   obtain ⟨H2,st,fe',z1,z2,z3,z4,z5,z6,z7⟩:=ih H' _ (c:Int) j x.fe[c] w3 w4 (by rw [hfo,List.length_set]; exact hl) (by rw [hfo]; exact hri) (fun hh=>by omega)
   exact ⟨H2,st,fe',by rw [z1m hb0]; exact z1,z2,z3,z4,z5.trans w5,by rw [z6]; exact List.length_set,w6.comp z7 fun _ _ h=>h⟩
theorem zhg (hE:Env T tx m Tb) (k:Nat) (h:Rep T tx m H L x) (hb:Tb H) {M q:List (Nat×Nat)} (hI:MI x.g M q) (hS:Small x.g) {c:Nat} (hc:c<x.g.n) {v:Int} (hv:v=c) :
  ∃H' fe',z2a (LCo k) m H (GL.p L) v=some H'∧Rep T tx m H' L (withF x fe')∧RD x.g.o x.g.n (fe'.map (·.1))∧Tb H'∧H'.next=H.next∧fe'.length=x.fe.length∧Fm (fpt L.sF) H H':=by
 obtain ⟨kk,hr⟩:=RI.start hI.flen hc hI.way hI.edge
 obtain ⟨H',st,fe',a1,a2⟩:=zhr hE k hS.n kk H x (-1) c (0,0,0,0,false) h hb hI.flen hr (fun _=>rfl)
 refine ⟨H',fe',?_,a2⟩
 subst hv
 unfold z2a
 show Option.bind (loopO (zl (LCo k) m (GL.p L)) (H,(c:Int),(-1),0,0,0,0,false)) _=_
 rw [a1]
 rfl
end
end Go.Proofs.YtgkhbmoidenjaaaDoor
namespace Go.Proofs.YtgkhbmoidenjaaaDoor
open Go Go.Abs Go.Abs.Eg
set_option maxRecDepth 100000
structure PE (T:Tys) (mt kt e:TypeId):Prop where
 mp:MP Tryd.prog mt kt e
 del:∀(m:Nat) (H H':AH) (r:Option Nat) (s:ByteArray),aDelete Tryd.prog m #[mt] [.map r,.string s] H=some (.tuple #[],H')→gOp Tryd.prog m (opsOf (cfst (csnd (csnd (csnd (cfst (cfst (csnd (csnd (cfst (cfst (csnd (cfst (csnd (csnd B73))))))))))))))) 7 [(65,.val (Value.map r)),(68,.val (Value.string s))] deV H=some (.tuple #[],H')
 min:∀(a b:Int) (H:AH),gOp1 Tryd.prog (opsOf (cfst (csnd (csnd (csnd (csnd (csnd (csnd (csnd (csnd (csnd B73))))))))))) 9 [(166,.val (Value.int .i64 a)),(170,.val (Value.int .i64 b))] (deI .i64) H=some (min a b)
structure GI (g:St):Prop where
 ofl:g.of.length=g.n
 sm:Small g
 cl:∀i,i<g.n→g.o i<g.cls.length
 args:∀(i:Nat) y,g.N[i]? = some y→∀a∈y.args,a<i
 s1:∀s k,g.sigs s=some k→k<g.n∧g.sig k=s
section
variable {T:Tys} {tx:Key→ByteArray} {m:Nat} {H:AH} {L:GL} {x:Gh} {Tb:AH→Prop} {kt e:TypeId}
theorem Small.s {g:St} (h:Small g) (f:Key→Option Nat):Small { g with sigs:=f }:=⟨h.n,h.tot,h.args,h.sym,h.cls⟩
theorem zjj (hE:Env T tx m Tb) (hP:PE T 58 kt e) (hTI:T.I=3) (k:Nat) {x0:Gh} (hg:GI x0.g) {us:List Nat} {s9:Sl3} (hul:us.length≤1048576) (hus:∀u∈us,u<x0.g.n) (a2:Int) (x7:Option Addr) (q8:Addr) (n0:Nat) :
  ∀(d i:Nat) (H:AH),i+d=us.length→Rep T tx m H L (withS x0 (delS x0.g (us.take i)))→SlA EI 3 m H us s9→(∀id,fpt s9 id→id≠L.ms)→Tb H→m≤H.next →
   ∃H',loopO (z15 (LCo k) m a2 ⟨L.q,0,none⟩ x7 q8 s9) (H,(i:Int))=some (.inl (H',(us.length:Int)))∧Rep T tx m H' L (withS x0 (delS x0.g us))∧Tb H'∧m≤H'.next∧Fm (Wc L n0) H H':=by
 intro d
 induction d with
 | zero =>
  intro i H hi h hs hd hb hm
  have:i=us.length:=by omega
  subst this
  rw [List.take_length] at h
  refine ⟨H,z27 ?_,h,hb,hm,Fm.refl _ _⟩
  unfold z15
  simp only [hs.cnt,if_neg (show ¬((us.length:Int)<(us.length:Int)) by omega)]
 | succ d ih =>
  intro i H hi h hs hd hb hm
  have hil:i<us.length:=by omega
  obtain ⟨q,r1,r2⟩:=rd_EI hs hil (v:=(i:Int)) rfl
  have hun:=hus us[i] (List.getElem_mem _)
  obtain ⟨H1,s1,s2⟩:=za8 hE k (Nat.max m H.next) h hb hg.ofl (hg.sm.s _) hg.cl hg.args (Nat.max_le.2 ⟨hm,Nat.le_refl _⟩) hTI (i:=us[i]) hun (v:=(us[i]:Int)) rfl
  have h1:=h.ext s2
  have hb1:=hE.tbx hb s2
  have hs1:=hs.ext s2
  have hm1:m≤H1.next:=Nat.le_trans hm s2.1
  have hsig:(withS x0 (delS x0.g (us.take i))).g.sig us[i]=x0.g.sig us[i]:=rfl
  rw [hsig] at s1
  have hlk:=h1.lkS hP.mp (x0.g.sig us[i])
  have hsg:(withS x0 (delS x0.g (us.take i))).g.sigs=delS x0.g (us.take i):=rfl
  rw [hsg] at hlk
  have hnext:=zle hg.s1 hil
  by_cases hc:delS x0.g (us.take i) (x0.g.sig us[i])=some us[i]
  ·rw [if_pos hc] at hnext
   obtain ⟨H2,t1,t2⟩:=za8 hE k (Nat.max m H1.next) h1 hb1 hg.ofl (hg.sm.s _) hg.cl hg.args (Nat.max_le.2 ⟨hm1,Nat.le_refl _⟩) hTI (i:=us[i]) hun (v:=(us[i]:Int)) rfl
   rw [hsig] at t1
   have h2:=h1.ext t2
   obtain ⟨H3,d1,d2,d3,d4⟩:=h2.delS_ hE.inj hP.mp (x0.g.sig us[i]) (ts:=#[58]) rfl
   have hd1:=hP.del m H2 H3 (some L.ms) _ d1
   have hb0:z15 (LCo k) m a2 ⟨L.q,0,none⟩ x7 q8 s9 (H,(i:Int))=some (.next (H3,((i+1:Nat):Int))):=by
    unfold z15
    simp only [hs.cnt,if_pos (show (i:Int)<(us.length:Int) by omega),r1,r2,Option.bind_some]
    rw [h.q (j:=7) (v:=.map (some L.ms)) rfl]
    simp only [show deM (Value.map (some L.ms))=some (some L.ms) from rfl,Option.bind_some]
    have s1':zh (LCo k) (m.max H.next) H (some ⟨L.q,0,none⟩) (us[i]:Int)=some (tx (x0.g.sig us[i]),H1):=s1
    rw [s1']
    simp only [Option.bind_some,hlk,hc,Option.isSome_some,Option.getD_some,if_true,decide_true]
    rw [h1.q (j:=7) (v:=.map (some L.ms)) rfl]
    simp only [show deM (Value.map (some L.ms))=some (some L.ms) from rfl,Option.bind_some]
    have t1':zh (LCo k) (m.max H1.next) H1 (some ⟨L.q,0,none⟩) (us[i]:Int)=some (tx (x0.g.sig us[i]),H2):=t1
    rw [t1']
    simp only [Option.bind_some,hd1]
    rw [zv (n:=us.length) hil (by rw [z1g]; omega)]
   have h3:Rep T tx m H3 L (withS x0 (delS x0.g (us.take (i+1)))):=by
    rw [hnext]
    exact d2
   obtain ⟨H',z1,z2,z3,z4,z5⟩:=ih (i+1) H3 (by omega) h3 ((hs1.ext t2).fr d3 hd) hd (hE.tb (hE.tbx hb1 t2) d3 fun id hid=>by rw [hid]; exact (h2.low (c:=.ms) rfl).1) (by rw [d4]; exact Nat.le_trans hm1 t2.1)
   exact ⟨H',by rw [z1m hb0]; exact z1,z2,z3,z4,fmT (fmE s2) (fmT (fmE t2) (fmT (fmC .ms d3 fun id hid=>hid) z5))⟩
  ·rw [if_neg hc] at hnext
   have hcond:∀o:Option Nat,o=delS x0.g (us.take i) (x0.g.sig us[i])→(if o.isSome=true then some (decide (((o.getD 0:Nat):Int)=(us[i]:Int))) else some false:Option Bool)=some false:=by
    intro o ho
    cases o with
    | none=>rfl
    | some w =>
     have:¬((w:Int)=(us[i]:Int)):=fun hw=>hc (by rw [← ho]; have:=Int.ofNat.inj hw; rw [this])
     simp only [Option.isSome_some,if_true,Option.getD_some,decide_eq_false this]
   have hb0:z15 (LCo k) m a2 ⟨L.q,0,none⟩ x7 q8 s9 (H,(i:Int))=some (.next (H1,((i+1:Nat):Int))):=by
    unfold z15
    simp only [hs.cnt,if_pos (show (i:Int)<(us.length:Int) by omega),r1,r2,Option.bind_some]
    rw [h.q (j:=7) (v:=.map (some L.ms)) rfl]
    simp only [show deM (Value.map (some L.ms))=some (some L.ms) from rfl,Option.bind_some]
    have s1':zh (LCo k) (m.max H.next) H (some ⟨L.q,0,none⟩) (us[i]:Int)=some (tx (x0.g.sig us[i]),H1):=s1
    rw [s1']
    simp only [Option.bind_some,hlk]
    rw [hcond _ rfl]
    simp only [Option.bind_some,Bool.false_eq_true,if_false]
    rw [zv (n:=us.length) hil (by rw [z1g]; omega)]
   have h3:Rep T tx m H1 L (withS x0 (delS x0.g (us.take (i+1)))):=by
    rw [hnext]
    exact h1
   obtain ⟨H',z1,z2,z3,z4,z5⟩:=ih (i+1) H1 (by omega) h3 hs1 hd hb1 hm1
   exact ⟨H',by rw [z1m hb0]; exact z1,z2,z3,z4,fmT (fmE s2) z5⟩
def setAll (of:List Nat) (ms:List Nat) (b:Nat):List Nat:=ms.foldl (fun of j=>of.set j b) of
theorem zit (b:Nat):∀(ms of:List Nat) (i:Nat),i<of.length→(setAll of ms b).getD i 0=if i∈ms then b else of.getD i 0:=by
 intro ms
 induction ms with
 | nil=>intro of i _; simp [setAll]
 | cons j ms ih =>
  intro of i hi
  show (setAll (of.set j b) ms b).getD i 0=_
  rw [ih (of.set j b) i (by rw [List.length_set]; exact hi)]
  by_cases hm:i∈ms
  ·simp [hm]
  ·by_cases hj:i=j
   ·subst hj
    simp [hm,List.getD,hi]
   ·simp only [hm,if_false,List.mem_cons,hj,or_self]
    rw [List.getD_eq_getElem?_getD,List.getD_eq_getElem?_getD,List.getElem?_set_ne (fun e=>hj e.symm)]
theorem z7l (b:Nat):∀(ms of:List Nat),(setAll of ms b).length=of.length:=by
 intro ms
 induction ms with
 | nil=>intro of; rfl
 | cons j ms ih=>intro of; show (setAll (of.set j b) ms b).length=_; rw [ih,List.length_set]
theorem zkl {g:St} (hl:g.of.length=g.n) {ms:List Nat} {s t:Nat} (hm:∀j,j∈ms↔j<g.n∧g.o j=s):setAll g.of ms t=g.of.map (re s t):=by
 refine List.ext_getElem? fun i=>?_
 by_cases hi:i<g.of.length
 ·have h1:=zit t ms g.of i hi
  rw [List.getD_eq_getElem?_getD,List.getElem?_eq_getElem (by rw [z7l]; exact hi)] at h1
  rw [List.getElem?_eq_getElem (by rw [z7l]; exact hi),List.getElem?_map,List.getElem?_eq_getElem hi]
  simp only [Option.getD_some] at h1
  rw [h1]
  have ho:g.of.getD i 0=g.of[i]:=by rw [List.getD_eq_getElem?_getD,List.getElem?_eq_getElem hi]; rfl
  have ho':g.o i=g.of[i]:=ho
  simp only [Option.map_some,Option.some.injEq]
  unfold re
  by_cases hmi:i∈ms
  ·rw [if_pos hmi,if_pos (by rw [← ho']; exact ((hm i).1 hmi).2)]
  ·rw [if_neg hmi,if_neg (fun e=>hmi ((hm i).2 ⟨by omega,by rw [ho',e]⟩)),ho]
 ·rw [List.getElem?_eq_none (by rw [z7l]; omega),List.getElem?_eq_none (by rw [List.length_map]; omega)]
def withO (x:Gh) (of:List Nat):Gh:=⟨{ x.g with of:=of },x.ids,x.sd,x.fe⟩
theorem setO (hE:Env T tx m Tb) (h:Rep T tx m H L x) (hb:Tb H) {j:Nat} (hj:j<x.g.of.length) (b:Nat) {v w:Int} (hv:v=j) (hw:w=b) :
  ∃p H',idxA 1 L.sO v=some p∧H.setCell m p (.int .i64 w)=some H'∧Rep T tx m H' L (withO x (x.g.of.set j b))∧Tb H'∧H'.next=H.next∧Fm (fpt L.sO) H H':=by
 have hO:SlA EI T.I m H x.g.of L.sO:=h.hold .O
 obtain ⟨a,r1,r2,r3,_⟩:=hO.at_ (by show 0<1; omega) hj hv
 obtain ⟨H',a1,a2,a3,a4⟩:=hO.put1 (fun y=>⟨_,rfl⟩) hj b (v:=.int .i64 w) (by rw [hw]; rfl) r1 r3
 refine ⟨_,H',r2,a1,?_,hE.tb hb a3 fun id hid=>(h.low (c:=.O) hid).1,a4,a3⟩
 refine h.step (fun c=>c=.O) (W:=fpt L.sO) a3 (fun id hid=>⟨.O,rfl,hid⟩) (fun c hc=>⟨fun hh=>?_,fun id hid=>hid⟩) (fun c hc=>?_) (fun c hc id hid=>.inl hid) (fun c c' hc hc' _ _ _=>hc.trans hc'.symm) h.nal h.cll h.fel
 ·cases c <;> first | exact hh | exact absurd rfl hc
 ·subst hc; exact a2
theorem zju (hE:Env T tx m Tb) (k:Nat) {x0:Gh} {ms:List Nat} {s9:Sl3} (hml:ms.length≤1048576) (hms:∀u∈ms,u<x0.g.of.length) (b:Nat) (x7:Option Addr) (q8:Addr) :
  ∀(d i:Nat) (H:AH),i+d=ms.length→Rep T tx m H L (withO x0 (setAll x0.g.of (ms.take i) b))→SlA EI 3 m H ms s9→(∀id,fpt s9 id→¬fpt L.sO id)→Tb H →
   ∃H',loopO (z1j (LCo k) m (b:Int) ⟨L.q,0,none⟩ x7 q8 s9) (H,(i:Int))=some (.inl (H',(ms.length:Int)))∧Rep T tx m H' L (withO x0 (setAll x0.g.of ms b))∧Tb H'∧H'.next=H.next∧Fm (fpt L.sO) H H':=by
 intro d
 induction d with
 | zero =>
  intro i H hi h hs hd hb
  have:i=ms.length:=by omega
  subst this
  rw [List.take_length] at h
  refine ⟨H,z27 ?_,h,hb,rfl,Fm.refl _ _⟩
  unfold z1j
  simp only [hs.cnt,if_neg (show ¬((ms.length:Int)<(ms.length:Int)) by omega)]
 | succ d ih =>
  intro i H hi h hs hd hb
  have hil:i<ms.length:=by omega
  obtain ⟨q,r1,r2⟩:=rd_EI hs hil (v:=(i:Int)) rfl
  have hlen:(withO x0 (setAll x0.g.of (ms.take i) b)).g.of.length=x0.g.of.length:=z7l _ _ _
  obtain ⟨p,H1,s1,s2,s3,s4,s5,s6⟩:=setO hE h hb (j:=ms[i]) (by rw [hlen]; exact hms _ (List.getElem_mem _)) b (v:=(ms[i]:Int)) (w:=(b:Int)) rfl rfl
  have hb0:z1j (LCo k) m (b:Int) ⟨L.q,0,none⟩ x7 q8 s9 (H,(i:Int))=some (.next (H1,((i+1:Nat):Int))):=by
   unfold z1j
   simp only [hs.cnt,if_pos (show (i:Int)<(ms.length:Int) by omega),r1,r2,Option.bind_some]
   rw [h.q (j:=4) (v:=L.sO.v) rfl]
   simp only [show deSl (Sl3.v L.sO)=some L.sO from rfl,Option.bind_some,s1,s2]
   rw [zv (n:=ms.length) hil (by rw [z1g]; omega)]
  have h3:Rep T tx m H1 L (withO x0 (setAll x0.g.of (ms.take (i+1)) b)):=by
   have:setAll x0.g.of (ms.take (i+1)) b=(setAll x0.g.of (ms.take i) b).set ms[i] b:=by
    unfold setAll
    rw [List.take_succ_eq_append_getElem hil,List.foldl_append]
    rfl
   rw [this]
   exact s3
  obtain ⟨H',z1,z2,z3,z4,z5⟩:=ih (i+1) H1 (by omega) h3 (hs.fr s6 hd) hd s4
  exact ⟨H',by rw [z1m hb0]; exact z1,z2,z3,z4.trans s5,s6.comp z5 fun _ _ h=>h⟩
end
end Go.Proofs.YtgkhbmoidenjaaaDoor
namespace Go.Proofs.YtgkhbmoidenjaaaDoor
open Go Go.Abs Go.Abs.Eg
set_option maxRecDepth 100000
abbrev Q7:=Int×Int×Int×Int×Int×Int×Bool
def qe (p:Nat×Nat):Q7:=((p.1:Int),(p.2:Int),0,0,(p.1:Int),(p.2:Int),true)
def stepS (sg:Nat→Key) (u:Nat) (r:(Key→Option Nat)×List (Nat×Nat)):(Key→Option Nat)×List (Nat×Nat):=match r.1 (sg u) with
 | some k=>(r.1,if k=u then r.2 else r.2++[(u,k)])
 | none=>(fun s=>if s=sg u then some u else r.1 s,r.2)
theorem zck (sg:Nat→Key):∀(l:List Nat) (u:Nat) (r:(Key→Option Nat)×List (Nat×Nat)),insS sg (l++[u]) r=stepS sg u (insS sg l r)
 | [],u,r=>rfl
 | x :: l,u,r=>zck sg l u _
theorem zcx (sg:Nat→Key):∀(l:List Nat) (r:(Key→Option Nat)×List (Nat×Nat)),(insS sg l r).2.length≤r.2.length+l.length
 | [],r=>Nat.le_refl _
 | u :: l,r=>by
  have h:=zcx sg l (stepS sg u r)
  have:(stepS sg u r).2.length≤r.2.length+1:=by
   unfold stepS
   split
   ·simp only
    split
    ·omega
    ·simp
   ·simp
  show (insS sg l (stepS sg u r)).2.length≤_
  simp only [List.length_cons]
  omega
section
variable {T:Tys} {tx:Key→ByteArray} {m:Nat} {H:AH} {L:GL} {x:Gh} {Tb:AH→Prop} {kt e:TypeId}
theorem zj0 (hE:Env T tx m Tb) (hP:PE T 58 kt e) (hTI:T.I=3) (k:Nat) {x0:Gh} {H0:AH} (hl:x0.g.of.length=x0.g.n) (hS:Small x0.g) (hcl:∀i,i<x0.g.n→x0.g.o i<x0.g.cls.length) (hargs:∀(i:Nat) y,x0.g.N[i]? = some y→∀a∈y.args,a<i)
  {us:List Nat} {s9:Sl3} (hul:us.length≤1048576) (hus:∀u∈us,u<x0.g.n) (x7:Option Addr) (q8:Addr) (f0:Key→Option Nat) (hlow:∀c id,L.fp c id→id<H0.next) (h9:∀id,fpt s9 id→id<H0.next) (h9m:∀id,fpt s9 id→id≠L.ms) :
  ∀(d i:Nat) (H:AH) (z:Sl3),i+d=us.length→Rep T tx m H L (withS x0 (insS x0.g.sig (us.take i) (f0,[])).1)→SlA EI 3 m H us s9→SlA EQ 122 m H ((insS x0.g.sig (us.take i) (f0,[])).2.map qe) z→(∀id,fpt z id→H0.next≤id)→Tb H→m≤H.next→H0.next≤H.next →
   ∃H' z',loopO (z14 (LCo k) m ⟨L.q,0,none⟩ x7 q8 s9) (H,z,(i:Int))=some (.inl (H',z',(us.length:Int)))∧Rep T tx m H' L (withS x0 (insS x0.g.sig us (f0,[])).1)∧SlA EQ 122 m H' ((insS x0.g.sig us (f0,[])).2.map qe) z'∧(∀id,fpt z' id→H0.next≤id)∧Tb H'∧m≤H'.next∧H0.next≤H'.next∧SlA EI 3 m H' us s9∧Fm (Wc L H0.next) H H':=by
 intro d
 induction d with
 | zero =>
  intro i H z hi h hs hz hzf hb hm hn
  have:i=us.length:=by omega
  subst this
  rw [List.take_length] at h hz
  refine ⟨H,z,z27 ?_,h,hz,hzf,hb,hm,hn,hs,Fm.refl _ _⟩
  unfold z14
  simp only [hs.cnt,if_neg (show ¬((us.length:Int)<(us.length:Int)) by omega)]
 | succ d ih =>
  intro i H z hi h hs hz hzf hb hm hn
  have hil:i<us.length:=by omega
  obtain ⟨q,r1,r2⟩:=rd_EI hs hil (v:=(i:Int)) rfl
  have hun:=hus us[i] (List.getElem_mem _)
  obtain ⟨H1,s1,s2⟩:=za8 hE k m h hb hl (hS.s _) hcl hargs hm hTI (i:=us[i]) hun (v:=(us[i]:Int)) rfl
  have h1:=h.ext s2
  have hb1:=hE.tbx hb s2
  have hs1:=hs.ext s2
  have hz1:=hz.ext s2
  have hm1:m≤H1.next:=Nat.le_trans hm s2.1
  have hn1:H0.next≤H1.next:=Nat.le_trans hn s2.1
  have hsig:(withS x0 (insS x0.g.sig (us.take i) (f0,[])).1).g.sig us[i]=x0.g.sig us[i]:=rfl
  rw [hsig] at s1
  have hlk:=h1.lkS hP.mp (x0.g.sig us[i])
  have hsg:(withS x0 (insS x0.g.sig (us.take i) (f0,[])).1).g.sigs=(insS x0.g.sig (us.take i) (f0,[])).1:=rfl
  rw [hsg] at hlk
  have hstep:insS x0.g.sig (us.take (i+1)) (f0,[])=stepS x0.g.sig us[i] (insS x0.g.sig (us.take i) (f0,[])):=by
   rw [List.take_succ_eq_append_getElem hil,zck]
  have hlen:=zcx x0.g.sig (us.take i) (f0,[])
  simp only [List.length_nil,List.length_take] at hlen
  generalize hr:insS x0.g.sig (us.take i) (f0,[])=r at h h1 hz hz1 hlk hstep hlen
  have pre:∀R,Option.bind (α:=(AH×Sl3)) (
    Option.bind (lkM Tryd.prog 58 (deI .i64) H1 (some L.ms) (Value.string (tx (x0.g.sig us[i])))) fun (x49,b50) =>
    if b50=true then
     if x49=(us[i]:Int) then
      some (H1,z)
     else
      Option.bind (newR 122 1 #[(Value.int .i64 (us[i]:Int)),(Value.int .i64 x49),(Value.int .i64 0),(Value.int .i64 0),(Value.int .i64 (us[i]:Int)),(Value.int .i64 x49),(Value.bool true)] H1) fun (s51,H52) =>
      Option.bind (appS m 122 7 56 H52 z s51) fun (s53,H54) =>
      some (H54,s53)
    else
     Option.bind (rd deM H1 (Addr.add ⟨L.q,0,none⟩ 7)) fun x55 =>
     Option.bind (upM Tryd.prog m 58 H1 x55 (Value.string (tx (x0.g.sig us[i]))) (Value.int .i64 (us[i]:Int))) fun H56 =>
     some (H56,z)) (fun (H42,v15_43)=>some (Lp.next (H42,v15_43,((i+1:Nat):Int)):Lp (AH×Sl3×Int) (Sl3×AH)))=R→z14 (LCo k) m ⟨L.q,0,none⟩ x7 q8 s9 (H,z,(i:Int))=R:=by
   intro R hR
   rw [← hR]
   unfold z14
   simp only [hs.cnt,if_pos (show (i:Int)<(us.length:Int) by omega),r1,r2,Option.bind_some]
   have s1':zh (LCo k) m H (some ⟨L.q,0,none⟩) (us[i]:Int)=some (tx (x0.g.sig us[i]),H1):=s1
   rw [s1']
   simp only [Option.bind_some]
   rw [h1.q (j:=7) (v:=.map (some L.ms)) rfl]
   simp only [show deM (Value.map (some L.ms))=some (some L.ms) from rfl,Option.bind_some]
   rw [zv (n:=us.length) hil (by rw [z1g]; omega)]
  rw [hlk] at pre
  simp only [Option.bind_some] at pre
  have go:∀(H3:AH) (z3:Sl3),z14 (LCo k) m ⟨L.q,0,none⟩ x7 q8 s9 (H,z,(i:Int))=some (.next (H3,z3,((i+1:Nat):Int)))→Rep T tx m H3 L (withS x0 (stepS x0.g.sig us[i] r).1)→SlA EI 3 m H3 us s9→SlA EQ 122 m H3 ((stepS x0.g.sig us[i] r).2.map qe) z3→(∀id,fpt z3 id→H0.next≤id)→Tb H3→m≤H3.next→H0.next≤H3.next→Fm (Wc L H0.next) H1 H3 →
    ∃H' z',loopO (z14 (LCo k) m ⟨L.q,0,none⟩ x7 q8 s9) (H,z,(i:Int))=some (.inl (H',z',(us.length:Int)))∧Rep T tx m H' L (withS x0 (insS x0.g.sig us (f0,[])).1)∧SlA EQ 122 m H' ((insS x0.g.sig us (f0,[])).2.map qe) z'∧(∀id,fpt z' id→H0.next≤id)∧Tb H'∧m≤H'.next∧H0.next≤H'.next∧SlA EI 3 m H' us s9∧Fm (Wc L H0.next) H H':=by
   intro H3 z3 hb0 g1 g2 g3 g4 g5 g6 g7 g8
   obtain ⟨H',z',y1,y2,y3,y4,y5,y6,y7,y8,y9⟩:=ih (i+1) H3 z3 (by omega) (by rw [hstep]; exact g1) g2 (by rw [hstep]; exact g3) g4 g5 g6 g7
   exact ⟨H',z',by rw [z1m hb0]; exact y1,y2,y3,y4,y5,y6,y7,y8,fmT (fmE s2) (fmT g8 y9)⟩
  have frL:∀c id,L.fp c id→¬fpt z id:=fun c id hid hz=>by have:=hlow c id hid; have:=hzf id hz; omega
  cases hc:r.1 (x0.g.sig us[i]) with
  | some w =>
   rw [hc] at pre
   simp only [Option.isSome_some,Option.getD_some,if_true] at pre
   have hst:stepS x0.g.sig us[i] r=(r.1,if w=us[i] then r.2 else r.2++[(us[i],w)]):=by unfold stepS; rw [hc]
   by_cases hw:w=us[i]
   ·refine go H1 z (pre _ ?_) (by rw [hst]; exact h1) hs1 (by rw [hst,if_pos hw]; exact hz1) hzf hb1 hm1 hn1 (Fm.refl _ _)
    rw [if_pos (by rw [hw])]
    rfl
   ·have hw':¬((w:Int)=(us[i]:Int)):=fun e=>hw (Int.ofNat.inj e)
    obtain ⟨z1,Ha,s',Hb,p1,p2,p3,p4,p5,p6⟩:=hz1.push (bytes:=56) (qe (us[i],w)) (by rw [List.length_map]; omega) (by rw [List.length_map]; omega) hm1
    refine go Hb s' (pre _ ?_) (by rw [hst]; exact h1.other p5 fun c id hid hw=>frL c id hid hw) (hs1.fr p5 fun id hid hw=>by have:=h9 id hid; have:=hzf id hw; omega) (by
     rw [hst,if_neg hw,List.map_append]
     exact p4) (fun id hid=>?_) (hE.tb hb1 p5 fun id hid=>by
      have h1':=hzf id hid
      have:=SlG.fp hz1 hid
      exact this.1) (Nat.le_trans hm1 p5.1) (Nat.le_trans hn1 p5.1) (fmN p5 hzf)
    ·rw [if_neg hw']
     have p1':newR 122 1 #[Value.int .i64 (us[i]:Int),Value.int .i64 (w:Int),Value.int .i64 0,Value.int .i64 0,Value.int .i64 (us[i]:Int),Value.int .i64 (w:Int),Value.bool true] H1=some (z1,Ha):=p1
     have p3':appS m 122 7 56 Ha z z1=some (s',Hb):=p3
     rw [p1']
     simp only [Option.bind_some]
     rw [p3']
     rfl
    ·rcases p6 id hid with h | h
     ·exact hzf id h
     ·omega
  | none =>
   rw [hc] at pre
   simp only [Option.isSome_none,Bool.false_eq_true,if_false] at pre
   have hst:stepS x0.g.sig us[i] r=(fun s=>if s=x0.g.sig us[i] then some us[i] else r.1 s,r.2):=by unfold stepS; rw [hc]
   obtain ⟨H2,u1,u2,u3,u4⟩:=h1.upS hE.inj hP.mp (x0.g.sig us[i]) us[i]
   have hmlow:L.ms<H0.next:=hlow .ms L.ms rfl
   refine go H2 z (pre _ ?_) (by rw [hst]; exact u2) (hs1.fr u3 fun id hid hw=>h9m id hid hw) (by
     rw [hst]
     exact hz1.fr u3 fun id hid hw=>by have:=hzf id hid; omega) hzf (hE.tb hb1 u3 fun id hid=>by rw [hid]; exact (h1.low (c:=.ms) rfl).1) (by rw [u4]; exact hm1) (by rw [u4]; exact hn1) (fmC .ms u3 fun id hid=>hid)
   rw [h1.q (j:=7) (v:=.map (some L.ms)) rfl]
   simp only [show deM (Value.map (some L.ms))=some (some L.ms) from rfl,Option.bind_some,u1]
end
end Go.Proofs.YtgkhbmoidenjaaaDoor
namespace Go.Proofs.YtgkhbmoidenjaaaDoor
open Go Go.Abs Go.Abs.Eg
set_option maxRecDepth 100000
section
variable {T:Tys} {tx:Key→ByteArray} {m:Nat} {H:AH} {L:GL} {x:Gh} {Tb:AH→Prop} {kt e:TypeId}
theorem GI.of {g:St} (h:MJ g) (hS:Small g):GI g:=⟨h.len,hS,h.cl,h.args,h.s1⟩
theorem Small.o {g:St} (h:Small g) (of:List Nat):Small { g with of:=of }:=⟨h.n,h.tot,h.args,h.sym,h.cls⟩
theorem readC (h:Rep T tx m H L x) {t:Nat} {p:Nat×Sl3×Sl3×Sl3} (hp:L.cl[t]? = some p) {j:Nat} {v:Value} (hv:(cCells p (x.g.c t).low)[j]? = some v) {β:Type} (de:Value→Option β):rd de H ((⟨p.1,0,none⟩:Addr).add j)=de v :=
 (h.cla hp).blk.rd hv de
theorem zau (k:Nat) (h:Rep T tx m H L x) (hTI:T.I=3) {t:Nat} {p:Nat×Sl3×Sl3×Sl3} (hp:L.cl[t]? = some p) {l':List Nat} {z:Sl3} (hz:RdV 1 H z l'.length (l'.flatMap EI.enc))
  (h2:(x.g.c t).uses.length+l'.length≤1099511627776) (hm:m≤H.next) :
  ∃s' H',z2l (LCo k) m H (some (Addr.add ⟨p.1,0,none⟩ 0)) z=some H'∧Rep T tx m H' (L.setcl t (p.1,s',p.2.2.1,p.2.2.2)) (withC x t { x.g.c t with uses:=(x.g.c t).uses++l' })∧Fm (fun i=>i=p.1∨fpt p.2.1 i) H H'∧∀i,fpt s' i→fpt p.2.1 i∨H.next≤i:=by
 obtain ⟨s',H1,H',a1,a2,a3,a4,a5⟩:=h.appU hp hz h2 hm
 refine ⟨s',H',?_,a3,a4,a5⟩
 unfold z2l
 simp only [Option.bind_some,add_zero]
 have hr:rd deSl H (⟨p.1,0,none⟩:Addr)=some p.2.1:=by
  have:=readC h hp (j:=0) (v:=p.2.1.v) rfl deSl
  rw [add_zero] at this
  exact this
 rw [hr]
 rw [hTI] at a1
 have a2':H1.setCell m (⟨p.1,0,none⟩:Addr) (Sl3.v s')=some H':=by rw [add_zero] at a2; exact a2
 simp only [Option.bind_some,a1,a2']
theorem z8m (x:Gh) (t:Nat) (c c':Cl):withC (withC x t c) t c'=withC x t c':=by
 unfold withC
 simp [List.set_set]
theorem z8u (L:GL) (t:Nat) (p p':Nat×Sl3×Sl3×Sl3):(L.setcl t p).setcl t p'=L.setcl t p':=by
 unfold GL.setcl
 simp [List.set_set]
theorem zkb (hE:Env T tx m Tb) (hP:PE T 58 kt e) (hTI:T.I=3) (k:Nat) (h:Rep T tx m H L x) (hb:Tb H) (hm:m≤H.next) (hI:MJ x.g) (hX:MX x.g) (hS:Small x.g) {a b:Nat} (ha:a<x.g.n) (hbn:b<x.g.n) (hne:x.g.o a≠x.g.o b) :
  ∃H' L' z,z2p (LCo k) m H (GL.p L) ((x.g.o a:Nat):Int) ((x.g.o b:Nat):Int)=some (z,H')∧Rep T tx m H' L' ⟨(joinSt x.g (x.g.o a) (x.g.o b) x.g.fo).1,x.ids,x.sd,x.fe⟩∧SlA EQ 122 m H' ((joinSt x.g (x.g.o a) (x.g.o b) x.g.fo).2.map qe) z ∧
   (∀id,fpt z id→H.next≤id)∧(∀c id,L'.fp c id→¬fpt z id)∧Tb H'∧m≤H'.next∧Fm (Wc L H.next) H H'∧L'.q=L.q∧(∀c id,L'.fp c id→L.fp c id∨H.next≤id):=by
 have hg:=GI.of hI hS
 generalize hs:x.g.o a=s at hne
 generalize ht:x.g.o b=t at hne
 have hsl:s<x.g.cls.length:=by rw [← hs]; exact hI.cl a ha
 have htl:t<x.g.cls.length:=by rw [← ht]; exact hI.cl b hbn
 obtain ⟨p3,ps,hps,c1,c2⟩:=h.cls_ hsl (v:=(s:Int)) rfl
 obtain ⟨p6,pt,hpt,c3,c4⟩:=h.cls_ htl (v:=(t:Int)) rfl
 have uS:=hI.uses a ha; rw [hs] at uS
 have mS:=hI.mem a ha; rw [hs] at mS
 have vS:=hI.vals a ha; rw [hs] at vS
 have mT:=hI.mem b hbn; rw [ht] at mT
 have vT:=hI.vals b hbn; rw [ht] at vT
 have ulS:=hX.ulen a ha; rw [hs] at ulS
 have ulT:=hX.ulen b hbn; rw [ht] at ulT
 have ndS:=hX.mnd a ha; rw [hs] at ndS
 have ndT:=hX.mnd b hbn; rw [ht] at ndT
 have vnS:=hI.vnd a ha; rw [hs] at vnS
 have vnT:=hI.vnd b hbn; rw [ht] at vnT
 have hn:=hS.n
 have htot:=hS.tot
 have hcnt:=zn4 (g:=x.g) hne
 have hmS:(x.g.c s).mem.length≤1048576:=Nat.le_trans (z6l x.g.n _ ndS fun y hy=>((mS y).1 hy).1) hn
 have hmT:(x.g.c t).mem.length≤1048576:=Nat.le_trans (z6l x.g.n _ ndT fun y hy=>((mT y).1 hy).1) hn
 have hvS:(x.g.c s).vals.length≤1048576:=Nat.le_trans (z6l x.g.n _ vnS fun y hy=>((vS y).1 hy).1) hn
 have hvT:(x.g.c t).vals.length≤1048576:=Nat.le_trans (z6l x.g.n _ vnT fun y hy=>((vT y).1 hy).1) hn
 have hus:∀u∈(x.g.c s).uses,u<x.g.n:=fun u hu=>let ⟨y,hy,_⟩:=(uS u).1 hu; (List.getElem?_eq_some_iff.1 hy).1
 have hlowL:∀c id,L.fp c id→id<H.next:=fun c id hid=>(h.low hid).2
 have h0:Rep T tx m H L (withS x (delS x.g ((x.g.c s).uses.take 0))):=by rw [zld]; exact h
 have hu0:SlA EI 3 m H (x.g.c s).uses ps.2.1:=by rw [← hTI]; exact h.hold (.us s) ps hps
 have dUm:∀id,fpt ps.2.1 id→id≠L.ms:=fun id hid e=>by have:=h.disj (.us s) .ms id ⟨ps,hps,hid⟩ e; cases this
 obtain ⟨H1,l1,l2,l3,l4,l5⟩:=zjj hE hP hTI k hg (s9:=ps.2.1) (by omega) hus (t:Int) (some ⟨pt.1,0,none⟩) ⟨ps.1,0,none⟩ H.next (x.g.c s).uses.length 0 H (by omega) h0 hu0 dUm hb hm
 have hm1:SlA EI 3 m H1 (x.g.c s).mem ps.2.2.1:=by rw [← hTI]; exact l2.hold (.me s) ps hps
 have dMo:∀id,fpt ps.2.2.1 id→¬fpt L.sO id:=fun id hid e=>by have:=h.disj (.me s) .O id ⟨ps,hps,hid⟩ e; cases this
 have h1':Rep T tx m H1 L (withO (withS x (delS x.g (x.g.c s).uses)) (setAll (withS x (delS x.g (x.g.c s).uses)).g.of ((x.g.c s).mem.take 0) t)):=l2
 obtain ⟨H2,k1,k2,k3,k4,k5⟩:=zju hE k (x0:=withS x (delS x.g (x.g.c s).uses)) (s9:=ps.2.2.1) hmS (fun u hu=>by show u<x.g.of.length; rw [hI.len]; exact ((mS u).1 hu).1) t (some ⟨pt.1,0,none⟩) ⟨ps.1,0,none⟩ (x.g.c s).mem.length 0 H1 (by omega) h1' hm1 dMo l3
 have hof:setAll (withS x (delS x.g (x.g.c s).uses)).g.of (x.g.c s).mem t=x.g.of.map (re s t):=zkl (g:=x.g) hI.len mS
 rw [hof] at k2
 let x2:Gh:=withO (withS x (delS x.g (x.g.c s).uses)) (x.g.of.map (re s t))
 have hu2:SlA EI 3 m H2 (x.g.c s).uses ps.2.1:=by rw [← hTI]; exact k2.hold (.us s) ps hps
 have hn12:H.next≤H1.next:=l5.1
 have hn22:H.next≤H2.next:=by rw [k4]; exact hn12
 have ho2:∀i,i<x.g.n→x2.g.o i=re s t (x.g.o i):=fun i hi=>join_o (g:=x.g) (s:=s) (t:=t) (fo:=x.g.fo) hI.len hi
 obtain ⟨H3,z,j1,j2,j3,j4,j5,j6,j7,j8,j9⟩:=zj0 hE hP hTI k (x0:=x2) (H0:=H) (by show (x.g.of.map _).length=x.g.n; rw [List.length_map]; exact hI.len) ((hS.s _).o _) (fun i hi=>by
   show x2.g.o i<x.g.cls.length
   rw [ho2 i hi]
   unfold re
   split
   ·exact htl
   ·exact hI.cl i hi) hI.args (s9:=ps.2.1) (us:=(x.g.c s).uses) (by omega) hus (some ⟨pt.1,0,none⟩) ⟨ps.1,0,none⟩ (delS x.g (x.g.c s).uses) hlowL (fun id hid=>hlowL (.us s) id ⟨ps,hps,hid⟩) dUm
   (x.g.c s).uses.length 0 H2 Sl3.nil (by omega) k2 hu2 SlA.nil (fun id hid=>absurd hid zu) k3 (by rw [k4]; exact l4) hn22
 have hz3:RdV 1 H3 ps.2.1 (x.g.c s).uses.length ((x.g.c s).uses.flatMap EI.enc):=SlA.rdv j8
 have c0:∀(f:Key→Option Nat) (y:Nat),(withS x2 f).g.c y=x.g.c y:=fun _ _=>rfl
 obtain ⟨su,H4,q1,q2,q3,q4⟩:=zau k j2 hTI hpt hz3 (by rw [c0]; omega) j6
 have htL:t<L.cl.length:=(List.getElem?_eq_some_iff.1 hpt).1
 have hself:∀p,(L.setcl t p).cl[t]? = some p:=fun p=>List.getElem?_set_self htL
 have hoth:∀p,(L.setcl t p).cl[s]? = some ps:=fun p=>(List.getElem?_set_ne (fun e=>hne e.symm)).trans hps
 let x3:=withS x2 (insS x2.g.sig (x.g.c s).uses (delS x.g (x.g.c s).uses,[])).1
 have htc:t<x3.g.cls.length:=htl
 let cu:Cl:={ x.g.c t with uses:=(x.g.c t).uses++(x.g.c s).uses }
 have ct4:(withC x3 t cu).g.c t=cu:=by rw [z5p htc,if_pos rfl]
 have cs4:(withC x3 t cu).g.c s=x.g.c s:=by rw [z5p htc,if_neg hne]; rfl
 have hm4:RdV 1 H4 ps.2.2.1 (x.g.c s).mem.length ((x.g.c s).mem.flatMap EI.enc):=by
  have:=(show SlA EI T.I m H4 ((withC x3 t cu).g.c s).mem ps.2.2.1 from q2.hold (.me s) ps (hoth _)).rdv
  rw [cs4] at this
  exact this
 have hn34:m≤H4.next:=Nat.le_trans j6 q3.1
 obtain ⟨sm,H5a,H5,r1,r2,r3,r4,r5⟩:=q2.appM (hself _) hm4 (by show ((withC x3 t cu).g.c t).mem.length+_≤_; rw [ct4]; show (x.g.c t).mem.length+_≤_; omega) hn34
 have e5:withC (withC x3 t cu) t { (withC x3 t cu).g.c t with mem:=((withC x3 t cu).g.c t).mem++(x.g.c s).mem }=withC x3 t { cu with mem:=cu.mem++(x.g.c s).mem }:=by rw [z8m,ct4]
 have r3:Rep T tx m H5 (L.setcl t (pt.1,su,sm,pt.2.2.2)) (withC x3 t { cu with mem:=cu.mem++(x.g.c s).mem }):=by rw [← e5,← z8u]; exact r3
 let cm:Cl:={ cu with mem:=cu.mem++(x.g.c s).mem }
 have ct5:(withC x3 t cm).g.c t=cm:=by rw [z5p htc,if_pos rfl]
 have cs5:(withC x3 t cm).g.c s=x.g.c s:=by rw [z5p htc,if_neg hne]; rfl
 have hv5:RdV 1 H5 ps.2.2.2 (x.g.c s).vals.length ((x.g.c s).vals.flatMap EI.enc):=by
  have:=(show SlA EI T.I m H5 ((withC x3 t cm).g.c s).vals ps.2.2.2 from r3.hold (.va s) ps (hoth _)).rdv
  rw [cs5] at this
  exact this
 have hn45:m≤H5.next:=Nat.le_trans hn34 r4.1
 obtain ⟨sv,H6a,H6,t1,t2,t3,t4,t5⟩:=r3.appV (hself _) hv5 (by show ((withC x3 t cm).g.c t).vals.length+_≤_; rw [ct5]; show (x.g.c t).vals.length+_≤_; omega) hn45
 have e6:withC (withC x3 t cm) t { (withC x3 t cm).g.c t with vals:=((withC x3 t cm).g.c t).vals++(x.g.c s).vals }=withC x3 t { cm with vals:=cm.vals++(x.g.c s).vals }:=by rw [z8m,ct5]
 have t3:Rep T tx m H6 (L.setcl t (pt.1,su,sm,sv)) (withC x3 t { cm with vals:=cm.vals++(x.g.c s).vals }):=by rw [← e6,← z8u]; exact t3
 let cv:Cl:={ cm with vals:=cm.vals++(x.g.c s).vals }
 have ct6:(withC x3 t cv).g.c t=cv:=by rw [z5p htc,if_pos rfl]
 have cs6:(withC x3 t cv).g.c s=x.g.c s:=by rw [z5p htc,if_neg hne]; rfl
 obtain ⟨H7,w1,w2,w3,w4⟩:=t3.putL (hself _) (min (x.g.c t).low (x.g.c s).low)
 have e7:withC (withC x3 t cv) t { (withC x3 t cv).g.c t with low:=min (x.g.c t).low (x.g.c s).low }=withC x3 t { cv with low:=min (x.g.c t).low (x.g.c s).low }:=by rw [z8m,ct6]
 have w2:Rep T tx m H7 (L.setcl t (pt.1,su,sm,sv)) (withC x3 t { cv with low:=min (x.g.c t).low (x.g.c s).low }):=by rw [← e7,← z8u]; exact w2
 have zlow:∀id,fpt z id→H.next≤id∧id<H3.next:=fun id hid=>⟨j4 id hid,(SlG.fp j3 hid).2⟩
 have oldP:∀id,(id=pt.1∨fpt pt.2.1 id∨fpt pt.2.2.1 id∨fpt pt.2.2.2 id)→id<H.next:=by
  rintro id (e | e | e | e)
  ·exact hlowL (.blk t) id ⟨pt,hpt,e⟩
  ·exact hlowL (.us t) id ⟨pt,hpt,e⟩
  ·exact hlowL (.me t) id ⟨pt,hpt,e⟩
  ·exact hlowL (.va t) id ⟨pt,hpt,e⟩
 have hz7:SlA EQ 122 m H7 ((joinSt x.g s t x.g.fo).2.map qe) z:=by
  have z3:SlA EQ 122 m H3 ((joinSt x.g s t x.g.fo).2.map qe) z:=j3
  have z4:=z3.fr q3 fun id hid hw=>by
   have:=zlow id hid
   have:=oldP id (hw.elim .inl fun h=>.inr (.inl h))
   omega
  have z5:=z4.fr r4 fun id hid hw=>by
   have:=zlow id hid
   have:=oldP id (hw.elim .inl fun h=>.inr (.inr (.inl h)))
   omega
  have z6:=z5.fr t4 fun id hid hw=>by
   have:=zlow id hid
   have:=oldP id (hw.elim .inl fun h=>.inr (.inr (.inr h)))
   omega
  exact z6.fr w3 fun id hid hw=>by
   have:=zlow id hid
   have:=oldP id (.inl hw)
   omega
 have hfin:withC x3 t { cv with low:=min (x.g.c t).low (x.g.c s).low }=⟨(joinSt x.g s t x.g.fo).1,x.ids,x.sd,x.fe⟩:=rfl
 rw [hfin] at w2
 have fresh:∀c id,(L.setcl t (pt.1,su,sm,sv)).fp c id→L.fp c id∨H3.next≤id:=by
  intro c id hid
  have h34:=q3.1
  have h45:=r4.1
  cases c with
  | blk k0 =>
   obtain ⟨p0,hp0,e0⟩:=hid
   by_cases hk:k0=t
   ·subst hk; rw [hself] at hp0; cases hp0; exact .inl ⟨pt,hpt,e0⟩
   ·exact .inl ⟨p0,(List.getElem?_set_ne (fun e=>hk e.symm)).symm.trans hp0,e0⟩
  | us k0 =>
   obtain ⟨p0,hp0,e0⟩:=hid
   by_cases hk:k0=t
   ·subst hk; rw [hself] at hp0; cases hp0
    exact (q4 id e0).imp (fun e=>⟨pt,hpt,e⟩) fun e=>e
   ·exact .inl ⟨p0,(List.getElem?_set_ne (fun e=>hk e.symm)).symm.trans hp0,e0⟩
  | me k0 =>
   obtain ⟨p0,hp0,e0⟩:=hid
   by_cases hk:k0=t
   ·subst hk; rw [hself] at hp0; cases hp0
    exact (r5 id e0).imp (fun e=>⟨pt,hpt,e⟩) fun e=>by omega
   ·exact .inl ⟨p0,(List.getElem?_set_ne (fun e=>hk e.symm)).symm.trans hp0,e0⟩
  | va k0 =>
   obtain ⟨p0,hp0,e0⟩:=hid
   by_cases hk:k0=t
   ·subst hk; rw [hself] at hp0; cases hp0
    exact (t5 id e0).imp (fun e=>⟨pt,hpt,e⟩) fun e=>by omega
   ·exact .inl ⟨p0,(List.getElem?_set_ne (fun e=>hk e.symm)).symm.trans hp0,e0⟩
  | _=>exact .inl hid
 have lowm:∀id,(id=pt.1∨fpt pt.2.1 id∨fpt pt.2.2.1 id∨fpt pt.2.2.2 id)→m≤id∧∃c,L.fp c id:=by
  rintro id (e | e | e | e)
  ·exact ⟨(h.low (c:=.blk t) ⟨pt,hpt,e⟩).1,.blk t,pt,hpt,e⟩
  ·exact ⟨(h.low (c:=.us t) ⟨pt,hpt,e⟩).1,.us t,pt,hpt,e⟩
  ·exact ⟨(h.low (c:=.me t) ⟨pt,hpt,e⟩).1,.me t,pt,hpt,e⟩
  ·exact ⟨(h.low (c:=.va t) ⟨pt,hpt,e⟩).1,.va t,pt,hpt,e⟩
 have f34:Fm (Wc L H.next) H3 H4:=q3.weak fun id _ hid _=>(lowm id (hid.elim .inl fun h=>.inr (.inl h))).2
 have f45:Fm (Wc L H.next) H4 H5:=r4.weak fun id _ hid _=>(lowm id (hid.elim .inl fun h=>.inr (.inr (.inl h)))).2
 have f56:Fm (Wc L H.next) H5 H6:=t4.weak fun id _ hid _=>(lowm id (hid.elim .inl fun h=>.inr (.inr (.inr h)))).2
 have f67:Fm (Wc L H.next) H6 H7:=w3.weak fun id _ hid _=>(lowm id (.inl hid)).2
 have b4:=hE.tb j5 q3 fun id hid=>(lowm id (hid.elim .inl fun h=>.inr (.inl h))).1
 have b5:=hE.tb b4 r4 fun id hid=>(lowm id (hid.elim .inl fun h=>.inr (.inr (.inl h)))).1
 have b6:=hE.tb b5 t4 fun id hid=>(lowm id (hid.elim .inl fun h=>.inr (.inr (.inr h)))).1
 have b7:=hE.tb b6 w3 fun id hid=>(lowm id (.inl hid)).1
 refine ⟨H7,L.setcl t (pt.1,su,sm,sv),z,?_,w2,hz7,j4,fun c id hid hz=>?_,?_,?_,?_,rfl,fun c id hid=>?_⟩
 ·unfold z2p
  simp only [GL.p,Option.bind_some]
  rw [h.q (j:=5) (v:=L.sC.v) rfl]
  simp only [show deSl (Sl3.v L.sC)=some L.sC from rfl,Option.bind_some,c1,c2,c3,c4,add_zero]
  have ru:rd deSl H (⟨ps.1,0,none⟩:Addr)=some ps.2.1:=by
   have:=readC h hps (j:=0) (v:=ps.2.1.v) rfl deSl
   rw [add_zero] at this
   exact this
  rw [ru]
  simp only [Option.bind_some]
  show Option.bind (loopO (z15 (LCo k) m (t:Int) ⟨L.q,0,none⟩ (some ⟨pt.1,0,none⟩) ⟨ps.1,0,none⟩ ps.2.1) (H,((0:Nat):Int))) _=_
  rw [l1]
  simp only [Option.bind_some]
  rw [readC l2 hps (j:=1) (v:=ps.2.2.1.v) rfl deSl]
  simp only [show deSl (Sl3.v ps.2.2.1)=some ps.2.2.1 from rfl,Option.bind_some]
  show Option.bind (loopO (z1j (LCo k) m (t:Int) ⟨L.q,0,none⟩ (some ⟨pt.1,0,none⟩) ⟨ps.1,0,none⟩ ps.2.2.1) (H1,((0:Nat):Int))) _=_
  rw [k1]
  simp only [Option.bind_some]
  have ru2:rd deSl H2 (⟨ps.1,0,none⟩:Addr)=some ps.2.1:=by
   have:=readC k2 hps (j:=0) (v:=ps.2.1.v) rfl deSl
   rw [add_zero] at this
   exact this
  rw [ru2]
  simp only [Option.bind_some]
  show Option.bind (loopO (z14 (LCo k) m ⟨L.q,0,none⟩ (some ⟨pt.1,0,none⟩) ⟨ps.1,0,none⟩ ps.2.1) (H2,Sl3.nil,((0:Nat):Int))) _=_
  rw [j1]
  simp only [Option.bind_some]
  have ru3:rd deSl H3 (⟨ps.1,0,none⟩:Addr)=some ps.2.1:=by
   have:=readC j2 hps (j:=0) (v:=ps.2.1.v) rfl deSl
   rw [add_zero] at this
   exact this
  rw [ru3]
  simp only [Option.bind_some]
  have q1':z2l (LCo k) m H3 (some ⟨pt.1,0,none⟩) ps.2.1=some H4:=by rw [add_zero] at q1; exact q1
  rw [q1']
  simp only [Option.bind_some]
  rw [readC q2 (hself _) (j:=1) (v:=pt.2.2.1.v) rfl deSl,readC q2 (hoth _) (j:=1) (v:=ps.2.2.1.v) rfl deSl]
  simp only [show deSl (Sl3.v pt.2.2.1)=some pt.2.2.1 from rfl,show deSl (Sl3.v ps.2.2.1)=some ps.2.2.1 from rfl,Option.bind_some]
  rw [hTI] at r1 t1
  rw [show appS m 3 1 8 H4 pt.2.2.1 ps.2.2.1=some (sm,H5a) from r1]
  simp only [Option.bind_some]
  rw [show H5a.setCell m ((⟨pt.1,0,none⟩:Addr).add 1) (Sl3.v sm)=some H5 from r2]
  simp only [Option.bind_some]
  rw [readC r3 (hself _) (j:=2) (v:=pt.2.2.2.v) rfl deSl,readC r3 (hoth _) (j:=2) (v:=ps.2.2.2.v) rfl deSl]
  simp only [show deSl (Sl3.v pt.2.2.2)=some pt.2.2.2 from rfl,show deSl (Sl3.v ps.2.2.2)=some ps.2.2.2 from rfl,Option.bind_some]
  rw [show appS m 3 1 8 H5 pt.2.2.2 ps.2.2.2=some (sv,H6a) from t1]
  simp only [Option.bind_some]
  rw [show H6a.setCell m ((⟨pt.1,0,none⟩:Addr).add 2) (Sl3.v sv)=some H6 from t2]
  simp only [Option.bind_some]
  have lt6:rd (deI .i64) H6 ((⟨pt.1,0,none⟩:Addr).add 3)=some ((x.g.c t).low:Int):=by
   rw [readC t3 (hself _) (j:=3) rfl (deI .i64),ct6]; rfl
  have ls6:rd (deI .i64) H6 ((⟨ps.1,0,none⟩:Addr).add 3)=some ((x.g.c s).low:Int):=by
   rw [readC t3 (hoth _) (j:=3) rfl (deI .i64),cs6]; rfl
  rw [lt6,ls6]
  simp only [Option.bind_some]
  rw [hP.min]
  simp only [Option.bind_some]
  have hmin:min ((x.g.c t).low:Int) ((x.g.c s).low:Int)=((min (x.g.c t).low (x.g.c s).low:Nat):Int):=by omega
  rw [hmin,show H6.setCell m ((⟨pt.1,0,none⟩:Addr).add 3) (.int .i64 ((min (x.g.c t).low (x.g.c s).low:Nat):Int))=some H7 from w1]
  rfl
 ·have h1:=zlow id hz
  rcases fresh c id hid with h2 | h2
  ·have:=hlowL c id h2; omega
  ·omega
 ·exact b7
 ·rw [w4]; exact Nat.le_trans hn45 t4.1
 ·exact fmT l5 (fmT (fmC .O k5 fun id hid=>hid) (fmT j9 (fmT f34 (fmT f45 (fmT f56 f67)))))
 ·rcases fresh c id hid with h2 | h2
  ·exact .inl h2
  ·have:=j7; exact .inr (by omega)
end
end Go.Proofs.YtgkhbmoidenjaaaDoor
namespace Go.Proofs.YtgkhbmoidenjaaaDoor
open Go Go.Abs Go.Abs.Eg
set_option maxRecDepth 100000
abbrev W3:=Nat×Nat×Ed
def qw (w:W3):Q7:=((w.1:Int),(w.2.1:Int),w.2.2.1,w.2.2.2.1,w.2.2.2.2.1,w.2.2.2.2.2.1,w.2.2.2.2.2.2)
def prs (ql:List W3):List (Nat×Nat):=ql.map fun w=>(w.1,w.2.1)
def cw (p:Nat×Nat):W3:=(p.1,p.2,0,0,(p.1:Int),(p.2:Int),true)
theorem qe_cw (l:List (Nat×Nat)):l.map qe=(l.map cw).map qw:=by
 rw [List.map_map]
 rfl
theorem prs_cw (l:List (Nat×Nat)):prs (l.map cw)=l:=by
 unfold prs
 rw [List.map_map]
 exact List.map_id' l
section
variable {T:Tys} {tx:Key→ByteArray} {m:Nat} {H:AH} {L:GL} {x:Gh} {Tb:AH→Prop} {kt e:TypeId}
theorem Small.join {g:St} (h:Small g) (s t:Nat) (fo:List Int):Small (joinSt g s t fo).1 :=
 ⟨h.n,h.tot,h.args,h.sym,by show (g.cls.set t _).length≤_; rw [List.length_set]; exact h.cls⟩
theorem znb (g:St) (s t:Nat) (fo:List Int):(joinSt g s t fo).2.length≤(g.c s).uses.length:=by
 have:=zcx (⟨g.N,g.of.map (re s t),g.cls,g.sigs,fo⟩:St).sig (g.c s).uses (delS g (g.c s).uses,[])
 simp only [List.length_nil,Nat.zero_add] at this
 exact this
structure MS (T:Tys) (tx:Key→ByteArray) (m:Nat) (Tb:AH→Prop) (M:List (Nat×Nat)) (n0:Nat) (H:AH) (L:GL) (x:Gh) (ql:List W3) (v:Sl3):Prop where
 rep:Rep T tx m H L x
 tb:Tb H
 mi:MI x.g M (prs ql)
 mx:MX x.g
 sm:Small x.g
 sl:VecA EQ 122 m H (ql.map qw) v∨∃w,ql=[w]∧SlA EQ 122 m H [qw w] v
 dj:∀c id,L.fp c id→¬fpt v id
 fr:∀id,fpt v id→n0≤id
 nm:m≤H.next
 nn:n0≤H.next
 bd:ql.length+live x.g*1048576≤1099512676353
structure MR (T:Tys) (tx:Key→ByteArray) (m:Nat) (Tb:AH→Prop) (M:List (Nat×Nat)) (n0:Nat) (H:AH) (L:GL) (x:Gh) (H':AH) (L':GL) (x':Gh):Prop where
 rep:Rep T tx m H' L' x'
 tb:Tb H'
 mi:MI x'.g M []
 mx:MX x'.g
 sm:Small x'.g
 nm:m≤H'.next
 N:x'.g.N=x.g.N
 ids:x'.ids=x.ids
 sd:x'.sd=x.sd
 q:L'.q=L.q
 cll:x'.g.cls.length=x.g.cls.length
 fm:Fm (Wc L n0) H H'
 fp:∀c id,L'.fp c id→L.fp c id∨n0≤id
theorem znd {L L':GL} {n0:Nat} (h:∀c id,L'.fp c id→L.fp c id∨n0≤id) {id:Nat} (hw:Wc L' n0 id):Wc L n0 id:=by
 intro hlt
 obtain ⟨c,hc⟩:=hw hlt
 rcases h c id hc with h | h
 ·exact ⟨c,h⟩
 ·omega
theorem zjx (hE:Env T tx m Tb) (hP:PE T 58 kt e) (hTI:T.I=3) (k:Nat) {M:List (Nat×Nat)} {n0:Nat} (y0 y1:Int) (y2 y3:Int) (y4:Bool):∀(lv:Nat) (ql:List W3) (H:AH) (L:GL) (x:Gh) (v:Sl3),live x.g≤lv→MS T tx m Tb M n0 H L x ql v →
  ∃H' L' x' z,loopO (zq (LCo k) m (GL.p L) y0 y1 y2 y3 y4) (H,v)=some (.inl (H',z))∧MR T tx m Tb M n0 H L x H' L' x':=by
 intro lv
 induction lv using Nat.strongRecOn with
 | ind lv ihl =>
 intro ql
 induction ql with
 | nil =>
  intro H L x v hlv h
  have hv:v.n=0:=by
   rcases h.sl with h | ⟨w,h,_⟩
   ·exact h.n
   ·cases h
  refine ⟨H,L,x,v,z27 ?_,h.rep,h.tb,h.mi,h.mx,h.sm,h.nm,rfl,rfl,rfl,rfl,rfl,Fm.refl _ _,fun c id h=>.inl h⟩
  unfold zq
  simp only [hv,if_neg (show ¬(((0:Nat):Int) > 0) by omega)]
 | cons w ql ihq =>
  intro H L x v hlv h
  have hql:(w :: ql).length<OPEN:=by have:=h.bd; unfold OPEN; omega
  have hsl:SlA EQ 122 m H ((w :: ql).map qw) v:=by
   rcases h.sl with h | ⟨w',h,h'⟩
   ·exact h.toS
   ·cases h; exact h'
  have hcnt:v.n=ql.length+1:=by rw [hsl.cnt,List.length_map]; rfl
  obtain ⟨p5,r0,r1,r2,r3,r4,r5,r6,r7⟩:=rd_EQ hsl (i:=0) (by simp) (v:=0) rfl
  have hw0:((w :: ql).map qw)[0]'(by simp)=qw w:=rfl
  rw [hw0] at r1 r2 r3 r4 r5 r6 r7
  obtain ⟨s7,t1,t2,t3⟩:=zlx (x:=qw w) (l:=ql.map qw) (s:=v) (by
   rcases h.sl with h | ⟨w',h,h'⟩
   ·exact .inl h
   ·cases h; exact .inr ⟨rfl,h'⟩) (by rw [List.length_map]; simp only [List.length_cons] at hql; omega)
  obtain ⟨wan,wbn,wc⟩:=h.mi.qd w.1 w.2.1 (by simp [prs])
  obtain ⟨q1,a1,a2⟩:=h.rep.of_ (i:=w.1) (by rw [h.mi.len]; exact wan) (v:=(w.1:Int)) rfl
  obtain ⟨q2,a3,a4⟩:=h.rep.of_ (i:=w.2.1) (by rw [h.mi.len]; exact wbn) (v:=(w.2.1:Int)) rfl
  have hd7:∀c id,L.fp c id→¬fpt s7 id:=fun c id hc hf=>h.dj c id hc (t3 id hf)
  by_cases heq:x.g.o w.1=x.g.o w.2.1
  ·
   have hb0:zq (LCo k) m (GL.p L) y0 y1 y2 y3 y4 (H,v)=some (.next (H,s7)):=by
    unfold zq
    simp only [hcnt,if_pos (show ((ql.length+1:Nat):Int) > 0 by omega),r0,r1,r2,r3,r4,r5,r6,r7,Option.bind_some,GL.p]
    rw [show slc 7 H v (some 1) none none=some s7 from t1]
    simp only [Option.bind_some]
    rw [h.rep.q (j:=4) (v:=L.sO.v) rfl]
    simp only [show deSl (Sl3.v L.sO)=some L.sO from rfl,Option.bind_some]
    have a1':idxA 1 L.sO (qw w).1=some q1:=a1
    have a3':idxA 1 L.sO (qw w).2.1=some q2:=a3
    rw [a1',a3']
    simp only [Option.bind_some,a2,a4]
    rw [if_pos (by rw [heq])]
   obtain ⟨H',L',x',z,z1,z2⟩:=ihq H L x s7 hlv ⟨h.rep,h.tb,h.mi.drop heq,h.mx,h.sm,.inl t2,hd7,fun id hid=>h.fr id (t3 id hid),h.nm,h.nn,by have:=h.bd; simp only [List.length_cons] at this; omega⟩
   exact ⟨H',L',x',z,by rw [z1m hb0]; exact z1,z2⟩
  ·
   have hol:=h.mi.cl
   obtain ⟨c1,pa,hpa,b1,b2⟩:=h.rep.cls_ (hol w.1 wan) (v:=((x.g.o w.1:Nat):Int)) rfl
   obtain ⟨c2,pb,hpb,b3,b4⟩:=h.rep.cls_ (hol w.2.1 wbn) (v:=((x.g.o w.2.1:Nat):Int)) rfl
   have key:∀(a b:Nat),((a=w.1∧b=w.2.1)∨(a=w.2.1∧b=w.1)) →
     (∀(F:Int×Int×Int×Int×Int×Int×Int×Int×Bool→Option (Lp (AH×Sl3) AH)),Option.bind (α:=(Int×Int×Int×Int×Int×Int×Int×Int×Bool)) (if (pa.2.2.1.n:Int) > (pb.2.2.1.n:Int) then some (((x.g.o w.2.1:Nat):Int),((x.g.o w.1:Nat):Int),(qw w).2.1,(qw w).1,(qw w).2.2.1,(qw w).2.2.2.1,(qw w).2.2.2.2.1,(qw w).2.2.2.2.2.1,(qw w).2.2.2.2.2.2)
      else some (((x.g.o w.1:Nat):Int),((x.g.o w.2.1:Nat):Int),(qw w).1,(qw w).2.1,(qw w).2.2.1,(qw w).2.2.2.1,(qw w).2.2.2.2.1,(qw w).2.2.2.2.2.1,(qw w).2.2.2.2.2.2)) F=F (((x.g.o a:Nat):Int),((x.g.o b:Nat):Int),(a:Int),(b:Int),(qw w).2.2.1,(qw w).2.2.2.1,(qw w).2.2.2.2.1,(qw w).2.2.2.2.2.1,(qw w).2.2.2.2.2.2)) →
     ∃H' L' x' z,loopO (zq (LCo k) m (GL.p L) y0 y1 y2 y3 y4) (H,v)=some (.inl (H',z))∧MR T tx m Tb M n0 H L x H' L' x':=by
    intro a b hab hsel
    have han:a<x.g.n:=by rcases hab with ⟨e1,e2⟩ | ⟨e1,e2⟩ <;> rw [e1] <;> assumption
    have hbn:b<x.g.n:=by rcases hab with ⟨e1,e2⟩ | ⟨e1,e2⟩ <;> rw [e2] <;> assumption
    have hne:x.g.o a≠x.g.o b:=by
     rcases hab with ⟨e1,e2⟩ | ⟨e1,e2⟩
     ·rw [e1,e2]; exact heq
     ·rw [e1,e2]; exact fun e=>heq e.symm
    have hpp:((w.1,w.2.1):Nat×Nat)=(a,b)∨((w.1,w.2.1):Nat×Nat)=(b,a):=by
     rcases hab with ⟨e1,e2⟩ | ⟨e1,e2⟩
     ·exact .inl (by rw [e1,e2])
     ·exact .inr (by rw [e1,e2])
    obtain ⟨H1,fe1,d1,d2,d3,d4,d5,d6,d7⟩:=zhg hE k h.rep h.tb h.mi h.sm han (v:=(a:Int)) rfl
    have hfel:x.fe.length=x.g.n:=by rw [← h.mi.flen,← h.rep.fel,List.length_map]
    obtain ⟨p36,H2,f1,f2,f3,f4,f5,f6⟩:=setF hE d2 d4 (i:=a) (by show a<fe1.length; omega) ((b:Int),(qw w).2.2.2.1,(qw w).2.2.2.2.1,(qw w).2.2.2.2.2.1,(qw w).2.2.2.2.2.2) (v:=(a:Int)) rfl
    let fe2:List Ed:=fe1.set a ((b:Int),(qw w).2.2.2.1,(qw w).2.2.2.2.1,(qw w).2.2.2.2.2.1,(qw w).2.2.2.2.2.2)
    have hfo2:fe2.map (·.1)=(fe1.map (·.1)).set a (b:Int):=by show (fe1.set a _).map (·.1)=_; rw [List.map_set]
    have f3:Rep T tx m H2 L (withF x fe2):=f3
    obtain ⟨g1,g2,g3⟩:=d3.link han hbn hne
    rw [← hfo2] at g1 g2 g3
    have hm2:m≤H2.next:=by rw [f5,d5]; exact h.nm
    obtain ⟨H3,L3,z3,j1,j2,j3,j4,j5,j6,j7,j8,j9,j10⟩:=zkb hE hP hTI k f3 f4 hm2 (h.mi.toJ.f _) (h.mx.f _) (show Small (withF x fe2).g from ⟨h.sm.n,h.sm.tot,h.sm.args,h.sm.sym,h.sm.cls⟩) (a:=a) (b:=b) han hbn hne
    have hn2:H2.next=H.next:=by rw [f5,d5]
    rw [hn2] at j4 j8 j10
    let x3:Gh:=⟨(joinSt x.g (x.g.o a) (x.g.o b) (fe2.map (·.1))).1,x.ids,x.sd,fe2⟩
    have j2:Rep T tx m H3 L3 x3:=j2
    have j3:SlA EQ 122 m H3 ((joinSt x.g (x.g.o a) (x.g.o b) (fe2.map (·.1))).2.map qe) z3:=j3
    have mi3:MI x3.g M (prs ql++(joinSt x.g (x.g.o a) (x.g.o b) (fe2.map (·.1))).2):=h.mi.join (p:=(w.1,w.2.1)) hpp rfl rfl hne g1 g2 g3
    have mx3:MX x3.g:=MX.join (p:=(w.1,w.2.1)) h.mi h.mx ⟨han,hbn⟩ rfl rfl hne
    have sm3:Small x3.g:=h.sm.join _ _ _
    have ofm:∀i,i<x.g.n→x.g.o i∈x.g.of:=fun i hi=>by
     have hl:i<x.g.of.length:=by rw [h.mi.len]; exact hi
     have:x.g.o i=x.g.of[i]:=by
      unfold St.o
      rw [List.getD_eq_getElem?_getD,List.getElem?_eq_getElem hl]; rfl
     rw [this]; exact List.getElem_mem _
    have lv3:live x3.g+1≤live x.g:=zlh hne (ofm a han) (ofm b hbn) (hol a han)
    have out3:(joinSt x.g (x.g.o a) (x.g.o b) (fe2.map (·.1))).2.length≤1048576:=by
     have h1:=znb x.g (x.g.o a) (x.g.o b) (fe2.map (·.1))
     have h2:=h.mx.ulen a han
     have h3:=cnt_le (g:=x.g) (x.g.o a)
     have h4:=h.sm.tot
     omega
    generalize hout:(joinSt x.g (x.g.o a) (x.g.o b) (fe2.map (·.1))).2=out at j3 mi3 out3
    have fmA:Fm (Wc L H.next) H H3:=fmT (fmC .F d7 fun id hid=>hid) (fmT (fmC .F f6 fun id hid=>hid) j8)
    have t2':VecA EQ 122 m H3 (ql.map qw) s7:=VecV.fr t2 fmA fun id hid hw=>by
     have hid':=z5d hid
     have hlt:id<H.next:=(SlG.fp (VecA.toS t2) hid').2
     obtain ⟨c,hc⟩:=hw hlt
     exact hd7 c id hc hid'
    have hbd:=h.bd
    simp only [List.length_cons] at hbd
    have hl3:ql.length+out.length+live x3.g*1048576≤1099512676353:=by
     have:(live x3.g+1)*1048576≤live x.g*1048576:=Nat.mul_le_mul_right _ lv3
     rw [Nat.add_mul] at this
     omega
    obtain ⟨s40,H4,k1,k2,k3⟩:=VecA.app (bytes:=56) (l':=(out.map cw).map qw) t2' (by
     have:=j3.rdv
     rw [qe_cw] at this
     exact this) (by simp only [List.length_map]; omega) (by simp only [List.length_map]; omega) j7
    have own7:∀id,owns s7 id→n0≤id∧id<H.next∧m≤id:=fun id hid=>by
     have hid':=z5d hid
     have:=SlG.fp (VecA.toS t2) hid'
     exact ⟨h.fr id (t3 id hid'),this.2,this.1⟩
    have hHn:H.next≤H3.next:=fmA.1
    have rep4:Rep T tx m H4 L3 x3:=j2.other k3.fm fun c id hc ho=>by
     have h1:=own7 id ho
     rcases j10 c id hc with h2 | h2
     ·exact hd7 c id h2 (z5d ho)
     ·omega
    have sl4:VecA EQ 122 m H4 ((ql++out.map cw).map qw) s40:=by rw [List.map_append]; exact k2
    have f40:∀id,fpt s40 id→(owns s7 id)∨H3.next≤id:=fun id hid=>by
     have hv:=sl4
     unfold VecA at hv
     generalize (ql++out.map cw).map qw=ll at hv
     cases hv with
     | nil hn hv=>exact absurd hid zu
     | zero a ha hn hv=>exact absurd rfl hid.1
     | opn id' off cs hm hid' hg hl ho hx=>exact k3.ow id ⟨rfl,hid.2⟩
    have ms4:MS T tx m Tb M n0 H4 L3 x3 (ql++out.map cw) s40:=by
     refine ⟨rep4,hE.tb j6 k3.fm fun id hid=>(own7 id hid).2.2,?_,mx3,sm3,.inl sl4,fun c id hc hf=>?_,fun id hid=>?_,Nat.le_trans j7 k3.fm.1,Nat.le_trans h.nn (Nat.le_trans hHn k3.fm.1),?_⟩
     ·have:prs (ql++out.map cw)=prs ql++out:=by
       unfold prs
       rw [List.map_append]
       congr 1
       exact prs_cw out
      rw [this]
      exact mi3
     ·rcases f40 id hf with h1 | h1
      ·have h2:=own7 id h1
       rcases j10 c id hc with h3 | h3
       ·exact hd7 c id h3 (z5d h1)
       ·omega
      ·have:=(j2.low hc).2; omega
     ·rcases f40 id hid with h1 | h1
      ·exact (own7 id h1).1
      ·have:=h.nn; omega
     ·simp only [List.length_append,List.length_map]; omega
    obtain ⟨H',L',x',z,y1',y2'⟩:=ihl (live x3.g) (by omega) (ql++out.map cw) H4 L3 x3 s40 (Nat.le_refl _) ms4
    have hfp:∀c id,L3.fp c id→L.fp c id∨n0≤id:=fun c id hc=>(j10 c id hc).imp (fun h=>h) fun h1=>Nat.le_trans h.nn h1
    have wcn:∀id,Wc L H.next id→Wc L n0 id:=fun id hw hlt=>hw (by have:=h.nn; omega)
    have hb0:zq (LCo k) m (GL.p L) y0 y1 y2 y3 y4 (H,v)=some (.next (H4,s40)):=by
     unfold zq
     simp only [hcnt,if_pos (show ((ql.length+1:Nat):Int) > 0 by omega),r0,r1,r2,r3,r4,r5,r6,r7,Option.bind_some,GL.p]
     rw [show slc 7 H v (some 1) none none=some s7 from t1]
     simp only [Option.bind_some]
     rw [h.rep.q (j:=4) (v:=L.sO.v) rfl]
     simp only [show deSl (Sl3.v L.sO)=some L.sO from rfl,Option.bind_some]
     have a1':idxA 1 L.sO (qw w).1=some q1:=a1
     have a3':idxA 1 L.sO (qw w).2.1=some q2:=a3
     rw [a1',a3']
     simp only [Option.bind_some,a2,a4]
     rw [if_neg (show ¬(((x.g.o w.1:Nat):Int)=((x.g.o w.2.1:Nat):Int)) by omega)]
     rw [h.rep.q (j:=5) (v:=L.sC.v) rfl]
     simp only [show deSl (Sl3.v L.sC)=some L.sC from rfl,Option.bind_some,b1,b2,b3,b4]
     rw [readC h.rep hpa (j:=1) (v:=pa.2.2.1.v) rfl deSl,readC h.rep hpb (j:=1) (v:=pb.2.2.1.v) rfl deSl]
     simp only [show deSl (Sl3.v pa.2.2.1)=some pa.2.2.1 from rfl,show deSl (Sl3.v pb.2.2.1)=some pb.2.2.1 from rfl,Option.bind_some]
     refine (hsel _).trans ?_
     have d1':z2a (LCo k) m H (some ⟨L.q,0,none⟩) (a:Int)=some H1:=d1
     simp only [d1',Option.bind_some]
     rw [d2.q (j:=6) (v:=L.sF.v) rfl]
     simp only [show deSl (Sl3.v L.sF)=some L.sF from rfl,Option.bind_some,f1,f2]
     have j1':z2p (LCo k) m H2 (some ⟨L.q,0,none⟩) ((x.g.o a:Nat):Int) ((x.g.o b:Nat):Int)=some (z3,H3):=j1
     rw [j1']
     simp only [Option.bind_some]
     have k1':appS m 122 7 56 H3 s7 z3=some (s40,H4):=k1
     rw [k1']
     rfl
    have hp3:GL.p L3=GL.p L:=by unfold GL.p; rw [j9]
    rw [hp3] at y1'
    refine ⟨H',L',x',z,by rw [z1m hb0]; exact y1',y2'.rep,y2'.tb,y2'.mi,y2'.mx,y2'.sm,y2'.nm,y2'.N,y2'.ids,y2'.sd,y2'.q.trans j9,y2'.cll.trans (by show (x.g.cls.set _ _).length=_; rw [List.length_set]),?_,fun c id hc=>?_⟩
    ·refine (fmA.weak fun id _ hw=>wcn id hw).comp ((fmN (L:=L) (n0:=n0) k3.fm fun id hid=>(own7 id hid).1).comp (y2'.fm.weak fun id _ hw=>znd hfp hw) fun _ _ h=>h) fun _ _ h=>h
    ·rcases y2'.fp c id hc with h1 | h1
     ·exact hfp c id h1
     ·exact .inr h1
   by_cases hgt:(pa.2.2.1.n:Int) > (pb.2.2.1.n:Int)
   ·exact key w.2.1 w.1 (.inr ⟨rfl,rfl⟩) fun F=>by rw [if_pos hgt]; rfl
   ·exact key w.1 w.2.1 (.inl ⟨rfl,rfl⟩) fun F=>by rw [if_neg hgt]; rfl
end
end Go.Proofs.YtgkhbmoidenjaaaDoor
namespace Go.Proofs.YtgkhbmoidenjaaaDoor
open Go Go.Abs Go.Abs.Eg
set_option maxRecDepth 100000
section
variable {T:Tys} {tx:Key→ByteArray} {m:Nat} {H:AH} {L:GL} {x:Gh} {Tb:AH→Prop} {kt e:TypeId}
theorem zdm (hE:Env T tx m Tb) (hP:PE T 58 kt e) (hTI:T.I=3) (k:Nat) (h:Rep T tx m H L x) (hb:Tb H) {M:List (Nat×Nat)} {a b:Nat} (hI:MI x.g M [(a,b)]) (hX:MX x.g) (hS:Small x.g) (hm:m≤H.next)
  (e1 e2 e3 e4:Int) (e5:Bool) {v w:Int} (hv:v=a) (hw:w=b) :
  ∃H' L' x',z19 (LCo k) m H (GL.p L) v w e1 e2 e3 e4 e5=some H'∧MR T tx m Tb M H.next H L x H' L' x':=by
 subst hv hw
 have w0:∃w:W3,w=(a,b,(e1,e2,e3,e4,e5)):=⟨_,rfl⟩
 obtain ⟨w0,hw0⟩:=w0
 have hx:Ext H (H.push { obj:=.cells (EQ.enc (qw w0)).toArray 122 (0,0),opn:=false,esz:=0,ro:=false }):=Fm.push _ _ _
 have hfn:∀id,fpt (⟨some ⟨H.next,0,none⟩,1,1⟩:Sl3) id→id=H.next:=by
  rintro id ⟨_,a,ha,rfl⟩
  cases ha
  rfl
 have hlv:=zn9 x.g
 have hcl:=hS.cls
 obtain ⟨H',L',x',z,a1,a2⟩:=zjx hE hP hTI k (M:=M) (n0:=H.next) e1 e2 e3 e4 e5 (live x.g) [w0] _ L x ⟨some ⟨H.next,0,none⟩,1,1⟩ (Nat.le_refl _)
  ⟨h.ext hx,hE.tbx hb hx,by rw [hw0]; exact hI,hX,hS,.inr ⟨w0,rfl,SlA.row (E:=EQ) (qw w0) hm⟩,fun c id hc hf=>by have:=(h.low hc).2; have:=hfn id hf; omega,fun id hf=>by have:=hfn id hf; omega,Nat.le_trans hm hx.1,hx.1,by simp only [List.length_singleton]; omega⟩
 refine ⟨H',L',x',?_,a2.rep,a2.tb,a2.mi,a2.mx,a2.sm,a2.nm,a2.N,a2.ids,a2.sd,a2.q,a2.cll,(fmE hx).comp a2.fm fun _ _ h=>h,a2.fp⟩
 unfold z19
 have hr:newR 122 1 #[(Value.int .i64 (a:Int)),(Value.int .i64 (b:Int)),(Value.int .i64 e1),(Value.int .i64 e2),(Value.int .i64 e3),(Value.int .i64 e4),(Value.bool e5)] H=some (⟨some ⟨H.next,0,none⟩,1,1⟩,H.push { obj:=.cells (EQ.enc (qw w0)).toArray 122 (0,0),opn:=false,esz:=0,ro:=false }):=by rw [hw0]; rfl
 rw [hr]
 simp only [Option.bind_some]
 show Option.bind (loopO (zq (LCo k) m (GL.p L) e1 e2 e3 e4 e5) _) _=_
 rw [a1]
 rfl
theorem fmP {L L1:GL} {n0:Nat} {H H':AH} {W:Nat→Prop} (h:Fm W H H') (hw:∀id,W id→∃c,L1.fp c id) (hfp:∀c id,L1.fp c id→L.fp c id∨n0≤id):Fm (Wc L n0) H H':=h.weak fun id _ hid hlt=>by
 obtain ⟨c,hc⟩:=hw id hid
 rcases hfp c id hc with h | h
 ·exact ⟨c,h⟩
 ·omega
theorem zjn (hE:Env T tx m Tb) (hTI:T.I=3) (k:Nat) {x0:Gh} {n:Nat} {aa:List Nat} {sl:Sl3} (hal:aa.length≤64) (hxa:x0.g.args n=aa) (hal2:∀a∈aa,a<x0.g.of.length) (hcl:∀a∈aa,x0.g.o a<x0.g.cls.length)
  (hus:∀a∈aa,(x0.g.c (x0.g.o a)).uses.length≤1048576) (n0:Nat) (L0:GL) (hsl:L0.na[n]? = some sl) :
  ∀(d i:Nat) (H:AH) (L:GL),i+d=aa.length→Rep T tx m H L ⟨{ x0.g with cls:=addU x0.g.o n (aa.take i) x0.g.cls },x0.ids,x0.sd,x0.fe⟩→Tb H→m≤H.next→n0≤H.next→L.na=L0.na→L.q=L0.q→(∀c id,L.fp c id→L0.fp c id∨n0≤id) →
   ∃H' L',loopO (z1e (LCo k) m (n:Int) ⟨L0.q,0,none⟩ sl) (H,(i:Int))=some (.inl (H',(aa.length:Int)))∧Rep T tx m H' L' ⟨{ x0.g with cls:=addU x0.g.o n aa x0.g.cls },x0.ids,x0.sd,x0.fe⟩∧Tb H'∧m≤H'.next∧Fm (Wc L0 n0) H H'∧L'.q=L0.q∧(∀c id,L'.fp c id→L0.fp c id∨n0≤id):=by
 intro d
 induction d with
 | zero =>
  intro i H L hi h hb hm hn hna hq hfp
  have:i=aa.length:=by omega
  subst this
  rw [List.take_length] at h
  have hs:SlA EI T.I m H (x0.g.args n) sl:=(h.hold (.na n)) sl (by rw [hna]; exact hsl)
  rw [hxa] at hs
  refine ⟨H,L,z27 ?_,h,hb,hm,Fm.refl _ _,hq,hfp⟩
  unfold z1e
  simp only [hs.cnt,if_neg (show ¬((aa.length:Int)<(aa.length:Int)) by omega)]
 | succ d ih =>
  intro i H L hi h hb hm hn hna hq hfp
  have hil:i<aa.length:=by omega
  have hs:SlA EI T.I m H (x0.g.args n) sl:=(h.hold (.na n)) sl (by rw [hna]; exact hsl)
  rw [hxa] at hs
  obtain ⟨p,r1,r2⟩:=rd_EI hs hil (v:=(i:Int)) rfl
  have ham:=List.getElem_mem hil
  obtain ⟨p2,r3,r4⟩:=h.of_ (i:=aa[i]) (hal2 _ ham) (v:=(aa[i]:Int)) rfl
  have r4:rd (deI .i64) H p2=some ((x0.g.o aa[i]:Nat):Int):=r4
  have hclt:x0.g.o aa[i]<(addU x0.g.o n (aa.take i) x0.g.cls).length:=by rw [z5h]; exact hcl _ ham
  obtain ⟨p3,pp,hpp,r5,r6⟩:=h.cls_ (k:=x0.g.o aa[i]) hclt (v:=((x0.g.o aa[i]:Nat):Int)) rfl
  have hx:Ext H (H.push { obj:=.cells (EI.enc n).toArray 3 (0,0),opn:=false,esz:=0,ro:=false }):=Fm.push _ _ _
  have hz:=zd3 (e:=3) (H:=H) (k:=1) (sz:=EI.sz) (cells:=EI.enc n) (by rw [EI.len]; omega) (EI.one n)
  have hlen:((addU x0.g.o n (aa.take i) x0.g.cls).getD (x0.g.o aa[i]) Cl.nil).uses.length≤1048640:=by
   rw [zbi _ _ _ _ _ (by have:=hclt; rw [z5h] at this; exact this)]
   have h1:=hus _ ham
   have h1:(x0.g.cls.getD (x0.g.o aa[i]) Cl.nil).uses.length≤1048576:=h1
   have h2:=List.countP_le_length (p:=fun a=>x0.g.o a == x0.g.o aa[i]) (l:=aa.take i)
   rw [List.length_take] at h2
   omega
  obtain ⟨s',H',b1,b2,b3,b4⟩:=zau k (h.ext hx) hTI hpp (l':=[n]) (by simpa using (show RdV 1 _ _ 1 (EI.enc n) from hz)) (by
   show ((addU x0.g.o n (aa.take i) x0.g.cls).getD (x0.g.o aa[i]) Cl.nil).uses.length+1≤_
   omega) (Nat.le_trans hm hx.1)
  have hself:=hpp
  have hxn:H.next≤H'.next:=Nat.le_trans hx.1 b3.1
  have hfpS:∀c id,(L.setcl (x0.g.o aa[i]) (pp.1,s',pp.2.2.1,pp.2.2.2)).fp c id→L.fp c id∨H.next≤id:=by
   have get:∀{k:Nat} {p0},(L.setcl (x0.g.o aa[i]) (pp.1,s',pp.2.2.1,pp.2.2.2)).cl[k]? = some p0→L.cl[k]? = some p0∨k=x0.g.o aa[i]∧p0=(pp.1,s',pp.2.2.1,pp.2.2.2):=by
    intro k p0 h0
    have h0:(L.cl.set (x0.g.o aa[i]) (pp.1,s',pp.2.2.1,pp.2.2.2))[k]? = some p0:=h0
    by_cases hk:x0.g.o aa[i]=k
    ·subst hk
     rw [List.getElem?_set_self (List.getElem?_eq_some_iff.1 hpp).1] at h0
     cases h0
     exact .inr ⟨rfl,rfl⟩
    ·rw [List.getElem?_set_ne hk] at h0
     exact .inl h0
   intro c id hid
   cases c with
   | blk j =>
    obtain ⟨p0,hp0,e⟩:=hid
    rcases get hp0 with hp0 | ⟨rfl,rfl⟩
    ·exact .inl ⟨p0,hp0,e⟩
    ·exact .inl ⟨pp,hpp,e⟩
   | us j =>
    obtain ⟨p0,hp0,e⟩:=hid
    rcases get hp0 with hp0 | ⟨rfl,rfl⟩
    ·exact .inl ⟨p0,hp0,e⟩
    ·rcases b4 id e with e | e
     ·exact .inl ⟨pp,hpp,e⟩
     ·exact .inr (Nat.le_trans hx.1 e)
   | me j =>
    obtain ⟨p0,hp0,e⟩:=hid
    rcases get hp0 with hp0 | ⟨rfl,rfl⟩
    ·exact .inl ⟨p0,hp0,e⟩
    ·exact .inl ⟨pp,hpp,e⟩
   | va j =>
    obtain ⟨p0,hp0,e⟩:=hid
    rcases get hp0 with hp0 | ⟨rfl,rfl⟩
    ·exact .inl ⟨p0,hp0,e⟩
    ·exact .inl ⟨pp,hpp,e⟩
   | _=>exact .inl hid
  have hrep:Rep T tx m H' (L.setcl (x0.g.o aa[i]) (pp.1,s',pp.2.2.1,pp.2.2.2)) ⟨{ x0.g with cls:=addU x0.g.o n (aa.take (i+1)) x0.g.cls },x0.ids,x0.sd,x0.fe⟩:=by
   rw [List.take_succ_eq_append_getElem hil,zf0,← ziy _ _ (fun c=>{ c with uses:=c.uses++[n] }) hclt]
   exact b2
  have hbb:z1e (LCo k) m (n:Int) ⟨L0.q,0,none⟩ sl (H,(i:Int))=some (.next (H',((i+1:Nat):Int))):=by
   unfold z1e
   simp only [hs.cnt,if_pos (show (i:Int)<(aa.length:Int) by omega),r1,r2,Option.bind_some]
   rw [← hq,h.q (j:=5) (v:=L.sC.v) rfl,h.q (j:=4) (v:=L.sO.v) rfl]
   simp only [show deSl (Sl3.v L.sC)=some L.sC from rfl,show deSl (Sl3.v L.sO)=some L.sO from rfl,Option.bind_some,r3,r4,r5,r6]
   have hr:newR 3 1 #[(Value.int .i64 (n:Int))] H=some (⟨some ⟨H.next,0,none⟩,1,1⟩,H.push { obj:=.cells (EI.enc n).toArray 3 (0,0),opn:=false,esz:=0,ro:=false }):=rfl
   rw [hr]
   simp only [Option.bind_some]
   rw [b1]
   simp only [Option.bind_some]
   rw [zv (n:=aa.length) hil (by rw [z1g]; omega)]
  have fm1:Fm (Wc L0 n0) H H':=(fmE hx).comp (fmP (L1:=L) b3 (fun id hid=>hid.elim (fun e=>⟨.blk (x0.g.o aa[i]),pp,hpp,e⟩) fun e=>⟨.us (x0.g.o aa[i]),pp,hpp,e⟩) hfp) fun _ _ h=>h
  obtain ⟨H2,L2,c1,c2,c3,c4,c5,c6,c7⟩:=ih (i+1) H' (L.setcl (x0.g.o aa[i]) (pp.1,s',pp.2.2.1,pp.2.2.2)) (by omega) hrep (hE.tb (hE.tbx hb hx) b3 fun id hid=>by
    rcases hid with e | e
    ·exact (h.low (c:=.blk (x0.g.o aa[i])) ⟨pp,hpp,e⟩).1
    ·exact (h.low (c:=.us (x0.g.o aa[i])) ⟨pp,hpp,e⟩).1) (Nat.le_trans hm hxn) (Nat.le_trans hn hxn) hna hq fun c id hid=>by
    rcases hfpS c id hid with h1 | h1
    ·exact hfp c id h1
    ·exact .inr (Nat.le_trans hn h1)
  exact ⟨H2,L2,by rw [z1m hbb]; exact c1,c2,c3,c4,fm1.comp c5 fun _ _ h=>h,c6,c7⟩
end
end Go.Proofs.YtgkhbmoidenjaaaDoor
namespace Go.Proofs.YtgkhbmoidenjaaaDoor
open Go Go.Abs Go.Abs.Eg
set_option maxRecDepth 100000
structure TyOK (T:Tys):Prop where
 G:T.G=63
 N:T.N=86
 S:T.S=91
 I:T.I=3
 P:T.P=79
 E:T.E=109
 C:T.C=78
section
variable {T:Tys} {tx:Key→ByteArray} {m:Nat} {H:AH} {L:GL} {x:Gh} {Tb:AH→Prop} {kt e:TypeId}
structure GR (T:Tys) (tx:Key→ByteArray) (m:Nat) (Tb:AH→Prop) (M:List (Nat×Nat)) (H:AH) (L:GL) (x:Gh):Prop where
 rep:Rep T tx m H L x
 tb:Tb H
 mi:MI x.g M []
 mx:MX x.g
 sm:Small x.g
 nm:m≤H.next
 cll:x.g.cls.length=x.g.n
structure GC (T:Tys) (tx:Key→ByteArray) (m:Nat) (Tb:AH→Prop) (M:List (Nat×Nat)) (n0:Nat) (H:AH) (L:GL) (H':AH) (L':GL) (x':Gh):Prop where
 gr:GR T tx m Tb M H' L' x'
 q:L'.q=L.q
 fm:Fm (Wc L n0) H H'
 fp:∀c id,L'.fp c id→L.fp c id∨n0≤id
theorem zio (hE:Env T tx m Tb) (hP:PE T 58 kt e) (hT:TyOK T) (k:Nat) {y:Nd} (h:Rep T tx m H L (addN x y)) (hb:Tb H) {M:List (Nat×Nat)} (hI:MI x.g M []) (hX:MX x.g) (hS:Small (begSt x.g y)) (hc:x.g.cls.length=x.g.n) (hm:m≤H.next)
  (hy:∀a∈y.args,a<x.g.n) {n:Nat} (hn:n=x.g.n) :
  ∃H' L' x',z1w (LCo k) m H (GL.p L) (n:Int)=some H'∧GC T tx m Tb M H.next H L H' L' x'∧x'.g.N=x.g.N++[y]∧x'.ids=x.ids∧x'.sd=x.sd:=by
 subst hn
 have hTI:=hT.I
 have hTC:=hT.C
 have hTP:=hT.P
 have hTE:=hT.E
 have hNs:x.g.n+1≤1048576:=by have:=hS.n; rw [beg_n] at this; exact this
 obtain ⟨s1,H2,p,H4,H5,a1,a2,a3,a4,a5,a6,a7⟩:=zkk (T:=T) hm x.g.n y.value
 have hyN:(addN x y).g.N[x.g.n]? = some y:=by
  have:=beg_N (g:=x.g) (x:=y) x.g.n
  rw [if_pos rfl] at this
  exact this
 have h4:=h.ext a5
 have h5:=h.ext a6
 have hm5:m≤H5.next:=Nat.le_trans hm a6.1
 obtain ⟨p8,sl,r1,r2,r3,r4,r5,r6⟩:=h4.node hyN (v:=((x.g.n:Nat):Int)) rfl
 have hol:x.g.of.length=x.g.n:=hI.len
 obtain ⟨z6,H6,s6,H6',H7,b1,b2,b3,b4,b5,b6⟩:=h5.pushO x.g.cls.length (by show x.g.of.length≤_; omega) hm5
 have hm7:m≤H7.next:=Nat.le_trans hm5 b5.1
 have hd7:∀c' id,GL.fp { L with sO:=s6 } c' id→¬ownC p id:=fun c' id hid ho=>by
  rcases fpO (n0:=H5.next) b6 c' id hid with h1 | h1
  ·have:=(h.low h1).2; have:=a7 id ho; omega
  ·have:=(a4.lt ho).2; omega
 have a4':ClA T m H7 p ⟨[],[x.g.n],if y.value then [x.g.n] else [],x.g.n⟩:=a4.fr b5 fun id ho hw=>by
  have:=a7 id ho
  rcases hw with e | e
  ·have:=(h.low (c:=.q) (id:=id) e).2; omega
  ·have:=(h.low (c:=.O) (id:=id) e).2; omega
 obtain ⟨z8,H8,s8,H8',H9,c1,c2,c3,c4,c5,c6⟩:=b4.pushC a4' hd7 (by show x.g.cls.length≤_; omega) hm7
 have hm9:m≤H9.next:=Nat.le_trans hm7 c5.1
 have hfel:x.fe.length=x.g.n:=by
  have:x.fe.map (·.1)=x.g.fo:=h.fel
  rw [← hI.flen,← this,List.length_map]
 obtain ⟨z10,H10,s10,H10',H11,d1,d2,d3,d4,d5,d6⟩:=c4.pushF (-1,0,0,0,false) (by show x.fe.length≤_; omega) hm9
 have hm11:m≤H11.next:=Nat.le_trans hm9 d5.1
 have n5:H.next≤H5.next:=a6.1
 have n7:H.next≤H7.next:=Nat.le_trans n5 b5.1
 have n9:H.next≤H9.next:=Nat.le_trans n7 c5.1
 have n11:H.next≤H11.next:=Nat.le_trans n9 d5.1
 have fp1:∀c id,GL.fp { L with sO:=s6 } c id→L.fp c id∨H.next≤id:=fpO fun i hi=>(b6 i hi).imp (fun h=>h) fun h=>Nat.le_trans n5 h
 have fp2:∀c id,GL.fp { L with sO:=s6,sC:=s8,cl:=L.cl++[p] } c id→L.fp c id∨H.next≤id:=fun c id hid=>by
  rcases fpC (L:={ L with sO:=s6 }) (n0:=H.next) (fun i hi=>(c6 i hi).imp (fun h=>h) fun h=>Nat.le_trans n7 h) a7 c id hid with h1 | h1
  ·exact fp1 c id h1
  ·exact .inr h1
 have fp3:∀c id,GL.fp { L with sO:=s6,sC:=s8,cl:=L.cl++[p],sF:=s10 } c id→L.fp c id∨H.next≤id:=fun c id hid=>by
  rcases fpF (L:={ L with sO:=s6,sC:=s8,cl:=L.cl++[p] }) (n0:=H.next) (fun i hi=>(d6 i hi).imp (fun h=>h) fun h=>Nat.le_trans n9 h) c id hid with h1 | h1
  ·exact fp2 c id h1
  ·exact .inr h1
 have fm1:Fm (Wc L H.next) H H5:=fmE a6
 have fm2:Fm (Wc L H.next) H5 H7:=fmP (L1:=L) b5 (fun id hid=>hid.elim (fun e=>⟨.q,e⟩) fun e=>⟨.O,e⟩) fun _ _ h=>.inl h
 have fm3:Fm (Wc L H.next) H7 H9:=fmP (L1:={ L with sO:=s6 }) c5 (fun id hid=>hid.elim (fun e=>⟨.q,e⟩) fun e=>⟨.C,e⟩) fp1
 have fm4:Fm (Wc L H.next) H9 H11:=fmP (L1:={ L with sO:=s6,sC:=s8,cl:=L.cl++[p] }) d5 (fun id hid=>hid.elim (fun e=>⟨.q,e⟩) fun e=>⟨.F,e⟩) fp2
 have fmA:Fm (Wc L H.next) H H11:=fmT fm1 (fmT fm2 (fmT fm3 fm4))
 have tb5:=hE.tbx hb a6
 have tb7:Tb H7:=hE.tb tb5 b5 fun id hid=>hid.elim (fun e=>(h.low (c:=.q) (id:=id) e).1) fun e=>(h.low (c:=.O) (id:=id) e).1
 have tb9:Tb H9:=hE.tb tb7 c5 fun id hid=>hid.elim (fun e=>(b4.low (c:=.q) (id:=id) e).1) fun e=>(b4.low (c:=.C) (id:=id) e).1
 have tb11:Tb H11:=hE.tb tb9 d5 fun id hid=>hid.elim (fun e=>(c4.low (c:=.q) (id:=id) e).1) fun e=>(c4.low (c:=.F) (id:=id) e).1
 let x0:Gh:=⟨⟨x.g.N++[y],x.g.of++[x.g.cls.length],x.g.cls++[⟨[],[x.g.n],if y.value then [x.g.n] else [],x.g.n⟩],x.g.sigs,x.g.fo++[-1]⟩,x.ids,x.sd,x.fe++[(-1,0,0,0,false)]⟩
 let L0:GL:={ L with sO:=s6,sC:=s8,cl:=L.cl++[p],sF:=s10 }
 have d4:Rep T tx m H11 L0 x0:=d4
 have ho0:∀i,i<x.g.n→x0.g.o i=x.g.o i:=fun i hi=>z3z (x:=y) hol hi
 have hx0a:x0.g.args x.g.n=y.args:=by
  unfold St.args
  show (((addN x y).g.N[x.g.n]?).map Nd.args).getD []=_
  rw [hyN]; rfl
 have husz:∀a∈y.args,(x0.g.c (x0.g.o a)).uses.length≤1048576:=by
  intro a ha
  have hlt:=hI.cl a (hy a ha)
  have e0:x0.g.c (x.g.o a)=x.g.c (x.g.o a):=by
   show (x.g.cls++[_]).getD _ Cl.nil=x.g.cls.getD _ Cl.nil
   rw [List.getD_eq_getElem?_getD,List.getD_eq_getElem?_getD,List.getElem?_append_left hlt]
  rw [ho0 a (hy a ha),e0,hX.ulen a (hy a ha)]
  have h1:=cnt_le (g:=x.g) (x.g.o a)
  have h2:=hS.tot
  rw [zi7] at h2
  omega
 obtain ⟨H12,L1,e1,e2,e3,e4,e5,e6,e7⟩:=zjn hE hTI k (x0:=x0) (n:=x.g.n) (aa:=y.args) (sl:=sl) (by
   refine hS.args x.g.n y ?_
   exact hyN) hx0a (fun a ha=>by show a<(x.g.of++[_]).length; rw [List.length_append]; have:=hy a ha; omega) (fun a ha=>by
    rw [ho0 a (hy a ha)]
    show _<(x.g.cls++[_]).length
    have:=hI.cl a (hy a ha)
    rw [List.length_append]; omega) husz H11.next L0 r6 y.args.length 0 H11 L0 (by omega) d4 tb11 hm11 (Nat.le_refl _) rfl rfl (fun c id h=>.inl h)
 let x1:Gh:=⟨begSt x.g y,x.ids,x.sd,x.fe++[(-1,0,0,0,false)]⟩
 have e2:Rep T tx m H12 L1 x1:=e2
 have n12:H.next≤H12.next:=Nat.le_trans n11 e5.1
 have fp4:∀c id,L1.fp c id→L.fp c id∨H.next≤id:=fun c id hid=>by
  rcases e7 c id hid with h1 | h1
  ·exact fp3 c id h1
  ·exact .inr (Nat.le_trans n11 h1)
 have fm5:Fm (Wc L H.next) H11 H12:=e5.weak fun id _ hw hlt=>by
  obtain ⟨c,hc⟩:=hw (by omega)
  rcases fp3 c id hc with h1 | h1
  ·exact ⟨c,h1⟩
  ·omega
 have fmB:Fm (Wc L H.next) H H12:=fmT fmA fm5
 have hcl1:∀i,i<x1.g.n→x1.g.o i<x1.g.cls.length:=by
  intro i hi
  have hi:i<(begSt x.g y).n:=hi
  rw [beg_n] at hi
  show (begSt x.g y).o i<(addU _ _ _ _).length
  rw [z5h,List.length_append]
  by_cases hh:i<x.g.n
  ·rw [z3z hol hh]; have:=hI.cl i hh; omega
  ·have:i=x.g.n:=by omega
   rw [this,ze3 hol]; simp
 have hol1:x1.g.of.length=x1.g.n:=by
  show (x.g.of++[_]).length=(begSt x.g y).n
  rw [beg_n,List.length_append,hol]; rfl
 have hargs1:∀(i:Nat) z,x1.g.N[i]? = some z→∀a∈z.args,a<i:=by
  intro i z hz a ha
  have hz:(begSt x.g y).N[i]? = some z:=hz
  rw [beg_N] at hz
  split at hz
  ·rename_i ei
   cases hz
   rw [ei]; exact hy a ha
  ·exact hI.args i z hz a ha
 have hn1:x.g.n<x1.g.n:=by show x.g.n<(begSt x.g y).n; rw [beg_n]; omega
 have hcc:x1.g.cls.length=x1.g.n:=by
  show (addU _ _ _ _).length=(begSt x.g y).n
  rw [z5h,List.length_append,beg_n,hc]; rfl
 obtain ⟨H13,f1,f2⟩:=za8 hE k m e2 e3 hol1 hS hcl1 hargs1 e4 hTI hn1 (v:=((x.g.n:Nat):Int)) rfl
 have hsg:x1.g.sig x.g.n=Eg.keyOf y x.g.o:=by
  show (begSt x.g y).sig x.g.n=_
  exact z6o hol hy
 rw [hsg] at f1
 have e2':=e2.ext f2
 have hl13:=e2'.lkS hP.mp (Eg.keyOf y x.g.o)
 have n13:H.next≤H13.next:=Nat.le_trans n12 f2.1
 have m13:m≤H13.next:=Nat.le_trans e4 f2.1
 have tb13:Tb H13:=hE.tbx e3 f2
 have fmC':Fm (Wc L H.next) H H13:=fmT fmB (fmE f2)
 have walk:∀R:Option AH,(match x.g.sigs (Eg.keyOf y x.g.o) with
   | some j=>z19 (LCo k) m H13 (GL.p L1) ((x.g.n:Nat):Int) (j:Int) 0 0 ((x.g.n:Nat):Int) (j:Int) true
   | none=>upM Tryd.prog m 58 H13 (some L1.ms) (Value.string (tx (Eg.keyOf y x.g.o))) (Value.int .i64 ((x.g.n:Nat):Int)))=R→z1w (LCo k) m H (GL.p L) ((x.g.n:Nat):Int)=R:=by
  intro R hR
  unfold z1w
  rw [hTI] at a1
  rw [hTC] at a2
  rw [a1]
  simp only [Option.bind_some]
  rw [a2]
  simp only [Option.bind_some]
  rw [h4.q (j:=0) (v:=L.sN.v) rfl]
  simp only [show deSl (Sl3.v L.sN)=some L.sN from rfl,Option.bind_some,r1,r4]
  have hv:(if y.value=true then
    Option.bind (newR 3 1 #[(Value.int .i64 ((x.g.n:Nat):Int))] H4) fun x=>match x with
     | (s10,H11)=>Option.bind (H11.setCell m ((⟨p.1,0,none⟩:Addr).add 2) (Sl3.v s10)) fun H12=>some H12
    else some H4)=some H5:=by
   rcases a3 with ⟨h1,h2⟩ | ⟨h1,s10',H11',h2,h3⟩
   ·rw [h1,h2]; rfl
   ·rw [hTI] at h2
    rw [if_pos h1,h2]
    simp only [Option.bind_some]
    rw [h3]; rfl
  refine (congrArg (fun o=>Option.bind o _) hv).trans ?_
  simp only [Option.bind_some]
  rw [h5.q (j:=4) (v:=L.sO.v) rfl,h5.q (j:=5) (v:=L.sC.v) rfl]
  simp only [show deSl (Sl3.v L.sO)=some L.sO from rfl,show deSl (Sl3.v L.sC)=some L.sC from rfl,Option.bind_some]
  have hcn:L.sC.n=x.g.cls.length:=by
   have:=SlA.cnt (show SlA EP T.P m H5 (L.cl.map (·.1)) L.sC from h5.hold .C)
   rw [this,List.length_map]
   exact h.cll
  rw [hTI] at b1 b2
  rw [hTP] at c1 c2
  rw [hTE] at d1 d2
  rw [hcn,b1]
  simp only [Option.bind_some]
  rw [b2]
  simp only [Option.bind_some]
  rw [b3]
  simp only [Option.bind_some]
  rw [show rd deSl H7 ((⟨L.q,0,none⟩:Addr).add 5)=some L.sC from b4.q (j:=5) (v:=L.sC.v) rfl deSl]
  simp only [Option.bind_some]
  rw [c1]
  simp only [Option.bind_some]
  have c2':appS m 79 1 8 H8 L.sC z8=some (s8,H8'):=c2
  rw [c2']
  simp only [Option.bind_some]
  have c3':H8'.setCell m ((⟨L.q,0,none⟩:Addr).add 5) (Sl3.v s8)=some H9:=c3
  rw [c3']
  simp only [Option.bind_some]
  rw [show rd deSl H9 ((⟨L.q,0,none⟩:Addr).add 6)=some L.sF from c4.q (j:=6) (v:=L.sF.v) rfl deSl]
  simp only [Option.bind_some]
  have d1':newR 109 1 #[(Value.int .i64 (-1)),(Value.int .i64 0),(Value.int .i64 0),(Value.int .i64 0),(Value.bool false)] H9=some (z10,H10):=d1
  rw [d1']
  simp only [Option.bind_some]
  have d2':appS m 109 5 40 H10 L.sF z10=some (s10,H10'):=d2
  rw [d2']
  simp only [Option.bind_some]
  have d3':H10'.setCell m ((⟨L.q,0,none⟩:Addr).add 6) (Sl3.v s10)=some H11:=d3
  rw [d3']
  simp only [Option.bind_some]
  rw [show rd deSl H11 ((⟨L.q,0,none⟩:Addr).add 0)=some L.sN from d4.q (j:=0) (v:=L.sN.v) rfl deSl]
  obtain ⟨p8',sl',r1',r2',r3',r4',r5',r6'⟩:=d4.node (i:=x.g.n) (y:=y) hyN (v:=((x.g.n:Nat):Int)) rfl
  have r1':idxA 3 L.sN ((x.g.n:Nat):Int)=some p8':=r1'
  have r6':L.na[x.g.n]? = some sl':=r6'
  rw [r6] at r6'
  cases r6'
  simp only [Option.bind_some,r1',r3']
  refine (congrArg (fun o=>Option.bind o _) (show (LCo k).run (z1e (LCo k) m ((x.g.n:Nat):Int) ⟨L.q,0,none⟩ sl) (H11,0)=some (.inl (H12,(y.args.length:Int))) from e1)).trans ?_
  simp only [Option.bind_some]
  have hq1:L1.q=L.q:=e6
  have f1':zh (LCo k) m H12 (some ⟨L.q,0,none⟩) ((x.g.n:Nat):Int)=some (tx (Eg.keyOf y x.g.o),H13):=by rw [← hq1]; exact f1
  rw [f1']
  simp only [Option.bind_some]
  rw [← hq1,e2'.q (j:=7) (v:=.map (some L1.ms)) rfl deM]
  simp only [show deM (Value.map (some L1.ms))=some (some L1.ms) from rfl,Option.bind_some]
  rw [show lkM Tryd.prog 58 (deI .i64) H13 (some L1.ms) (Value.string (tx (Eg.keyOf y x.g.o)))=some ((((x.g.sigs (Eg.keyOf y x.g.o)).getD 0:Nat):Int),(x.g.sigs (Eg.keyOf y x.g.o)).isSome) from hl13]
  simp only [Option.bind_some]
  rw [← hR]
  cases hs:x.g.sigs (Eg.keyOf y x.g.o) with
  | some j =>
   simp only [Option.isSome_some,if_true,Option.getD_some,GL.p]
   cases z19 (LCo k) m H13 (some ⟨L1.q,0,none⟩) ((x.g.n:Nat):Int) (j:Int) 0 0 ((x.g.n:Nat):Int) (j:Int) true <;> rfl
  | none =>
   simp only [Option.isSome_none,Bool.false_eq_true,if_false]
   cases upM Tryd.prog m 58 H13 (some L1.ms) (Value.string (tx (Eg.keyOf y x.g.o))) (Value.int .i64 ((x.g.n:Nat):Int)) <;> rfl
 cases hs:x.g.sigs (Eg.keyOf y x.g.o) with
 | some j =>
  have hmi:=hI.beg_wait hy hs
  have hmx:=MX.beg hI hX hy x.g.sigs
  obtain ⟨H',L',x',g1,g2⟩:=zdm hE hP hTI k e2' tb13 (M:=M) (a:=x.g.n) (b:=j) hmi hmx hS m13 0 0 ((x.g.n:Nat):Int) (j:Int) true (v:=((x.g.n:Nat):Int)) (w:=(j:Int)) rfl rfl
  refine ⟨H',L',x',walk _ (by rw [hs]; exact g1),⟨⟨g2.rep,g2.tb,g2.mi,g2.mx,g2.sm,g2.nm,?_⟩,g2.q.trans e6,fmT fmC' (g2.fm.weak fun id _ hw hlt=>?_),fun c id hid=>?_⟩,g2.N,g2.ids,g2.sd⟩
  ·rw [g2.cll,hcc]
   show (begSt x.g y).N.length=x'.g.N.length
   rw [g2.N]
  ·obtain ⟨c,hc⟩:=hw (by omega)
   rcases fp4 c id hc with h1 | h1
   ·exact ⟨c,h1⟩
   ·omega
  ·rcases g2.fp c id hid with h1 | h1
   ·exact fp4 c id h1
   ·exact .inr (Nat.le_trans n13 h1)
 | none =>
  have hmi:=hI.beg_new' hy hs
  have hmx:=MX.beg hI hX hy fun s=>if s=Eg.keyOf y x.g.o then some x.g.n else x.g.sigs s
  obtain ⟨H',g1,g2,g3,g4⟩:=e2'.upS hE.inj hP.mp (Eg.keyOf y x.g.o) x.g.n
  refine ⟨H',L1,_,walk _ (by rw [hs]; exact g1),⟨⟨g2,hE.tb tb13 g3 fun id hid=>?_,hmi,hmx,hS.s _,by rw [g4]; exact m13,hcc⟩,e6,fmT fmC' (fmP (L1:=L1) g3 (fun id hid=>⟨.ms,hid⟩) fp4),fp4⟩,rfl,rfl,rfl⟩
  exact (e2'.low (c:=.ms) (id:=id) hid).1
end
end Go.Proofs.YtgkhbmoidenjaaaDoor
namespace Go.Proofs.YtgkhbmoidenjaaaDoor
open Go Go.Abs Go.Abs.Eg
set_option maxRecDepth 100000
section
variable {T:Tys} {tx:Key→ByteArray} {m:Nat} {H:AH} {L:GL} {x:Gh} {Tb:AH→Prop} {kt e:TypeId}
structure GS (T:Tys) (tx:Key→ByteArray) (m:Nat) (Tb:AH→Prop) (H:AH) (L:GL) (x:Gh):Prop where
 gr:GR T tx m Tb (Mof x.sd) H L x
 ids:IdsOK x.ids x.g.N
 sdr:∀s∈x.sd,okA x.g.N s.1=true∧okA x.g.N s.2.1=true
structure GO (T:Tys) (tx:Key→ByteArray) (m:Nat) (Tb:AH→Prop) (n0:Nat) (H:AH) (L:GL) (H':AH) (L':GL) (x':Gh):Prop where
 gs:GS T tx m Tb H' L' x'
 q:L'.q=L.q
 fm:Fm (Wc L n0) H H'
 fp:∀c id,L'.fp c id→L.fp c id∨n0≤id
theorem zge {N:List Nd} {y:Nd} {a:Int} (h:okA N a=true):okA (N++[y]) a=true:=by
 obtain ⟨n,rfl,hn⟩:=z3r.1 h
 exact z3r.2 ⟨n,rfl,by rw [List.length_append]; omega⟩
theorem GS.ext {H':AH} (hE:Env T tx m Tb) (h:GS T tx m Tb H L x) (hx:Ext H H'):GS T tx m Tb H' L x :=
 ⟨⟨h.gr.rep.ext hx,hE.tbx h.gr.tb hx,h.gr.mi,h.gr.mx,h.gr.sm,Nat.le_trans h.gr.nm hx.1,h.gr.cll⟩,h.ids,h.sdr⟩
theorem zft (hE:Env T tx m Tb) (hP:PE T 58 kt e) (hT:TyOK T) (k:Nat) (h:GS T tx m Tb H L x) {y:Nd} {sl:Sl3} (hs:SlA EI T.I m H y.args sl) {n0:Nat} (hn0:n0≤H.next) (hf:∀id,fpt sl id→n0≤id) (hd:∀c id,L.fp c id→¬fpt sl id)
  (hy:∀a∈y.args,a<x.g.n) (hl:y.args.length≤64) (hsy:-9223372036854775808≤y.sym∧y.sym<9223372036854775808) (ht:totN x.g.N+y.args.length≤1048576) :
  ∃H' L' x',z1c (LCo k) m H (GL.p L) y.sym sl y.value=some ((putP x.g.N y).1,(putP x.g.N y).2.1,H')∧GO T tx m Tb n0 H L H' L' x'∧x'.g.N=(putP x.g.N y).2.2∧x'.sd=x.sd:=by
 have hn:=h.gr.sm.n
 obtain ⟨H2,a1,a2⟩:=hE.text k m m H y.value y.sym sl y.args h.gr.tb h.gr.nm hs (fun a ha=>by have:=hy a ha; omega) hl hsy.1 hsy.2
 have h2:=h.gr.rep.ext a2
 have hlk:=h2.lkI hP.mp (y.value,y.sym,y.args)
 have hids:x.ids (y.value,y.sym,y.args)=x.g.N.findIdx? fun z=>decide (z=y):=h.ids y
 have m2:m≤H2.next:=Nat.le_trans h.gr.nm a2.1
 cases hfi:x.g.N.findIdx? fun z=>decide (z=y) with
 | some i =>
  rw [hfi] at hids
  rw [hids] at hlk
  have hp:putP x.g.N y=((i:Int),0,x.g.N):=by unfold putP; rw [hfi]
  refine ⟨H2,L,x,?_,⟨h.ext hE a2,rfl,fmE a2,fun _ _ h=>.inl h⟩,by rw [hp],rfl⟩
  rw [hp]
  unfold z1c
  rw [a1]
  simp only [Option.bind_some,GL.p]
  rw [h2.q (j:=1) (v:=.map (some L.mi)) rfl deM]
  simp only [show deM (Value.map (some L.mi))=some (some L.mi) from rfl,Option.bind_some]
  rw [show lkM Tryd.prog 58 (deI .i64) H2 (some L.mi) (Value.string (tx (y.value,y.sym,y.args)))=some (((((some i:Option Nat)).getD 0:Nat):Int),(some i:Option Nat).isSome) from hlk]
  rfl
 | none =>
  rw [hfi] at hids
  rw [hids] at hlk
  by_cases hbig:1048576≤x.g.N.length
  ·have hp:putP x.g.N y=(0,3,x.g.N):=by unfold putP; rw [hfi]; simp only [if_pos hbig]
   refine ⟨H2,L,x,?_,⟨h.ext hE a2,rfl,fmE a2,fun _ _ h=>.inl h⟩,by rw [hp],rfl⟩
   rw [hp]
   unfold z1c
   rw [a1]
   simp only [Option.bind_some,GL.p]
   rw [h2.q (j:=1) (v:=.map (some L.mi)) rfl deM]
   simp only [show deM (Value.map (some L.mi))=some (some L.mi) from rfl,Option.bind_some]
   rw [show lkM Tryd.prog 58 (deI .i64) H2 (some L.mi) (Value.string (tx (y.value,y.sym,y.args)))=some (((((none:Option Nat)).getD 0:Nat):Int),(none:Option Nat).isSome) from hlk]
   simp only [Option.bind_some,Option.isSome_none,Bool.false_eq_true,if_false]
   rw [h2.q (j:=0) (v:=L.sN.v) rfl deSl]
   simp only [show deSl (Sl3.v L.sN)=some L.sN from rfl,Option.bind_some,zbt h2]
   rw [if_pos (by show (1048576:Int)≤((x.g.N.length:Nat):Int); omega)]
  ·have hp:putP x.g.N y=(((x.g.N.length:Nat):Int),0,x.g.N++[y]):=by unfold putP; rw [hfi]; simp only [if_neg hbig]
   rw [hp]
   obtain ⟨H3,b1,b2,b3,b4⟩:=h2.upI hE.inj hP.mp (y.value,y.sym,y.args) x.g.n
   have m3:m≤H3.next:=by rw [b4]; exact m2
   have hs3:SlA EI T.I m H3 y.args sl:=(hs.ext a2).fr b3 fun id hid e=>hd .mi id e hid
   obtain ⟨z4,H4,s4,H4',H5,c1,c2,c3,c4,c5,c6⟩:=b2.pushN y hs3 hd (by show x.g.N.length≤_; omega) m3
   have m5:m≤H5.next:=Nat.le_trans m3 c5.1
   have n2:n0≤H2.next:=Nat.le_trans hn0 a2.1
   have n3:n0≤H3.next:=by rw [b4]; exact n2
   have n5:n0≤H5.next:=Nat.le_trans n3 c5.1
   have tb3:=hE.tb (hE.tbx h.gr.tb a2) b3 fun id hid=>(h2.low (c:=.mi) (id:=id) hid).1
   have tb5:=hE.tb tb3 c5 fun id hid=>hid.elim (fun e=>(b2.low (c:=.q) (id:=id) e).1) fun e=>(b2.low (c:=.N) (id:=id) e).1
   have fp1:∀c id,GL.fp { L with sN:=s4,na:=L.na++[sl] } c id→L.fp c id∨n0≤id:=fpN (fun i hi=>(c6 i hi).imp (fun h=>h) fun h=>Nat.le_trans n3 h) hf
   have hS:Small (begSt x.g y):=by
    refine ⟨by rw [beg_n]; show x.g.N.length+1≤_; omega,by rw [zi7,tot_eq]; exact ht,fun i z hz=>?_,fun i z hz=>?_,?_⟩
    ·rw [beg_N] at hz
     split at hz
     ·cases hz; exact hl
     ·exact h.gr.sm.args i z hz
    ·rw [beg_N] at hz
     split at hz
     ·cases hz; exact hsy
     ·exact h.gr.sm.sym i z hz
    ·show (addU _ _ _ _).length≤_
     rw [z5h,List.length_append,h.gr.cll]
     show x.g.N.length+1≤_
     omega
   obtain ⟨H6,L6,x6,d1,d2,d3,d4,d5⟩:=zio hE hP hT k (x:=withI x fun k'=>if k'=(y.value,y.sym,y.args) then some x.g.n else x.ids k') (y:=y) c4 tb5 (M:=Mof x.sd) h.gr.mi h.gr.mx hS h.gr.cll m5 hy (n:=x.g.n) rfl
   have d3:x6.g.N=x.g.N++[y]:=d3
   have d4:x6.ids=fun k'=>if k'=keyN y then some x.g.n else x.ids k':=d4
   have d5:x6.sd=x.sd:=d5
   refine ⟨H6,L6,x6,?_,⟨⟨by rw [d5]; exact d2.gr,?_,fun s hs'=>?_⟩,d2.q,?_,fun c id hid=>?_⟩,d3,d5⟩
   ·unfold z1c
    rw [a1]
    simp only [Option.bind_some,GL.p]
    rw [h2.q (j:=1) (v:=.map (some L.mi)) rfl deM]
    simp only [show deM (Value.map (some L.mi))=some (some L.mi) from rfl,Option.bind_some]
    rw [show lkM Tryd.prog 58 (deI .i64) H2 (some L.mi) (Value.string (tx (y.value,y.sym,y.args)))=some (((((none:Option Nat)).getD 0:Nat):Int),(none:Option Nat).isSome) from hlk]
    simp only [Option.bind_some,Option.isSome_none,Bool.false_eq_true,if_false]
    rw [h2.q (j:=0) (v:=L.sN.v) rfl deSl]
    simp only [show deSl (Sl3.v L.sN)=some L.sN from rfl,Option.bind_some,zbt h2]
    rw [if_neg (by show ¬(1048576:Int)≤((x.g.N.length:Nat):Int); omega)]
    have b1':upM Tryd.prog m 58 H2 (some L.mi) (Value.string (tx (y.value,y.sym,y.args))) (Value.int .i64 ((x.g.n:Nat):Int))=some H3:=b1
    rw [b1']
    simp only [Option.bind_some]
    rw [show rd deSl H3 ((⟨L.q,0,none⟩:Addr).add 0)=some L.sN from b2.q (j:=0) (v:=L.sN.v) rfl deSl]
    simp only [Option.bind_some]
    rw [hT.N] at c1 c2
    rw [c1]
    simp only [Option.bind_some]
    rw [c2]
    simp only [Option.bind_some]
    rw [c3]
    simp only [Option.bind_some]
    have d1':z1w (LCo k) m H5 (some ⟨L.q,0,none⟩) ((x.g.n:Nat):Int)=some H6:=d1
    rw [d1']
    rfl
   ·rw [d3,d4]
    exact h.ids.push hids
   ·rw [d5] at hs'
    obtain ⟨s1,s2⟩:=h.sdr s hs'
    rw [d3]
    exact ⟨zge s1,zge s2⟩
   ·refine fmT (fmE a2) (fmT (fmP (L1:=L) b3 (fun id hid=>⟨.mi,hid⟩) fun _ _ h=>.inl h) (fmT (fmP (L1:=L) c5 (fun id hid=>hid.elim (fun e=>⟨.q,e⟩) fun e=>⟨.N,e⟩) fun _ _ h=>.inl h) (d2.fm.weak fun id _ hw hlt=>?_)))
    obtain ⟨c,hc⟩:=hw (by omega)
    rcases fp1 c id hc with h1 | h1
    ·exact ⟨c,h1⟩
    ·omega
   ·rcases d2.fp c id hid with h1 | h1
    ·exact fp1 c id h1
    ·exact .inr (Nat.le_trans n5 h1)
end
end Go.Proofs.YtgkhbmoidenjaaaDoor
namespace Go.Proofs.YtgkhbmoidenjaaaDoor
open Go Go.Abs Go.Abs.Eg
set_option maxRecDepth 100000
section
variable {T:Tys} {tx:Key→ByteArray} {m:Nat} {H:AH} {L:GL} {x:Gh} {Tb:AH→Prop} {kt e:TypeId}
theorem zdt (hE:Env T tx m Tb) (hP:PE T 58 kt e) (hT:TyOK T) (k:Nat) (h:GS T tx m Tb H L x) {v:Int} (hsy:-9223372036854775808≤v∧v<9223372036854775808) (ht:totN x.g.N≤1048576) :
  ∃H' L' x',z1u (LCo k) m H (GL.p L) v=some ((valP x.g.N v).1,(valP x.g.N v).2.1,H')∧GO T tx m Tb H.next H L H' L' x'∧x'.g.N=(valP x.g.N v).2.2∧x'.sd=x.sd:=by
 obtain ⟨H',L',x',a1,a2,a3,a4⟩:=zft hE hP hT k h (y:=⟨true,v,[]⟩) (sl:=Sl3.nil) SlA.nil (n0:=H.next) (Nat.le_refl _) (fun id h=>absurd h zu) (fun _ _ _=>zu) (fun a ha=>by cases ha) (by simp) hsy (by simpa using ht)
 refine ⟨H',L',x',?_,a2,a3,a4⟩
 unfold z1u
 rw [z4k k h.gr.rep]
 simp only [Option.bind_some,if_true]
 rw [show z1c (LCo k) m H (GL.p L) v Sl3.nil true=_ from a1]
 rfl
theorem zj9 (c m1:Nat) {s:Sl3} {l:List Nat} (h:∀H',Ext H H'→RdV 1 H' s l.length (l.flatMap EI.enc)) (hN:l.length≤1000) (hm:m1≤H.next) :
  ∃s' H',z3q (LCo c) m1 H s=some (s',H')∧VecA EI 3 m1 H' l s'∧Ext H H'∧∀id,owns s' id→H.next≤id:=by
 unfold z3q
 cases hnil:isNilS s with
 | true =>
  have hp:s.p=none:=by
   unfold isNilS at hnil
   cases hq:s.p with
   | none=>rfl
   | some a=>rw [hq] at hnil; cases hnil
  have:l=[]:=by
   have:=(h H (Fm.refl _ _)).nil hp
   exact List.length_eq_zero_iff.1 this.1
  subst this
  exact ⟨Sl3.nil,H,rfl,VecA.nil _ _ _ _,Fm.refl _ _,fun id h=>absurd h zma⟩
 | false =>
  have hp:Ext H (H.push { obj:=.cells #[] 3 (0,0),opn:=false,esz:=0,ro:=false }):=Fm.push _ _ _
  obtain ⟨s',H',a1,a2,a3⟩:=VecA.app (E:=EI) (e:=3) (bytes:=8) (l:=[]) (l':=l) (m:=m1) (VecA.zero _ _ _ _ ⟨H.next,0,none⟩ ⟨by simp,rfl⟩) (h _ hp) (by simp only [List.length_nil,Nat.zero_add]; omega) (by simp only [List.length_nil,Nat.zero_add]; omega) (by simp; omega)
  have hx:=a3.ext hp fun id h=>absurd h zlm
  refine ⟨s',H',?_,a2,hx.1,hx.2⟩
  simp only [Bool.false_eq_true,if_false,newR,Option.bind_some]
  have a1':appS m1 3 1 8 (H.push { obj:=.cells #[] 3 (0,0),opn:=false,esz:=0,ro:=false }) ⟨some ⟨H.next,0,none⟩,0,0⟩ s=some (s',H'):=a1
  rw [a1']
  rfl
theorem zfq (k:Nat) (h:Rep T tx m H L x) {s:Sl3} {aa:List Int} (hs:AR H s aa) (hN:aa.length≤64) {pr:Addr} (hp:rd deP H pr=some (GL.p L)) :
  z21 (LCo k) H s (some pr)=some (!aa.all (okA x.g.N)):=by
 have loop:∀(d i:Nat),i+d=aa.length→(∀j (hj:j<aa.length),j<i→okA x.g.N aa[j]=true)→∃r,loopO (zy (LCo k) H s (some pr)) (i:Int)=some r∧(aa.all (okA x.g.N)=true→∃z,r=.inl z)∧(aa.all (okA x.g.N)=false→∃z:Nat,r=.inr (z:Int)):=by
  intro d
  induction d with
  | zero =>
   intro i hi hall
   refine ⟨.inl (i:Int),z27 ?_,fun _=>⟨_,rfl⟩,fun hc=>?_⟩
   ·unfold zy
    simp only [hs.n,if_neg (show ¬((i:Int)<(aa.length:Int)) by omega)]
   ·have:aa.all (okA x.g.N)=true:=by
     rw [List.all_eq_true]
     intro a ha
     obtain ⟨j,hj,rfl⟩:=List.mem_iff_getElem.1 ha
     exact hall j hj (by omega)
    rw [this] at hc; cases hc
  | succ d ih =>
   intro i hi hall
   have hil:i<aa.length:=by omega
   obtain ⟨q,r1,r2⟩:=hs.at_ i hil
   have hadd:z31 (LCo k) H aa[i] (some pr)=some (!okA x.g.N aa[i]):=by
    unfold z31
    simp only [Option.bind_some,hp]
    rw [z4h k h]
    rfl
   cases hok:okA x.g.N aa[i] with
   | true =>
    have hb:zy (LCo k) H s (some pr) (i:Int)=some (.next ((i+1:Nat):Int)):=by
     unfold zy
     simp only [hs.n,if_pos (show (i:Int)<(aa.length:Int) by omega),r1,r2,Option.bind_some,hadd,hok]
     rw [zv (n:=aa.length) hil (by rw [z1g]; omega)]
     rfl
    obtain ⟨r,c1,c2,c3⟩:=ih (i+1) (by omega) fun j hj hji=>by
     by_cases e:j=i
     ·subst e; exact hok
     ·exact hall j hj (by omega)
    exact ⟨r,by rw [z1m hb]; exact c1,c2,c3⟩
   | false =>
    refine ⟨.inr (i:Int),z8g ?_,fun hc=>?_,fun _=>⟨i,rfl⟩⟩
    ·unfold zy
     simp only [hs.n,if_pos (show (i:Int)<(aa.length:Int) by omega),r1,r2,Option.bind_some,hadd,hok]
     rfl
    ·rw [List.all_eq_true] at hc
     rw [hc _ (List.getElem_mem hil)] at hok; cases hok
 obtain ⟨r,c1,c2,c3⟩:=loop aa.length 0 (by omega) fun j hj hji=>absurd hji (Nat.not_lt_zero _)
 unfold z21 z39
 rw [show (LCo k).run (zy (LCo k) H s (some pr)) 0=some r from c1]
 cases hall:aa.all (okA x.g.N) with
 | true =>
  obtain ⟨z,rfl⟩:=c2 hall
  rfl
 | false =>
  obtain ⟨z,rfl⟩:=c3 hall
  show some (decide ((z:Int)≥0))=some (!false)
  rw [decide_eq_true (show (z:Int)≥0 by omega)]
  rfl
theorem zgm (hE:Env T tx m Tb) (hP:PE T 58 kt e) (hT:TyOK T) (k:Nat) (h:GS T tx m Tb H L x) {v:Int} (hsy:-9223372036854775808≤v∧v<9223372036854775808) {s:Sl3} {aa:List Int} (hs:∀H',Ext H H'→AR H' s aa) (ht:totN x.g.N+aa.length≤1048576) :
  ∃H' L' x',z1x (LCo k) m H (GL.p L) v s=some ((addP x.g.N v aa).1,(addP x.g.N v aa).2.1,H')∧GO T tx m Tb H.next H L H' L' x'∧x'.g.N=(addP x.g.N v aa).2.2∧x'.sd=x.sd:=by
 let H2:=H.push (pubB 23 [Value.pointer (GL.p L)])
 have x2:Ext H H2:=Fm.push _ _ _
 have h2:=h.ext hE x2
 have hpr:rd deP H2 (⟨H.next,0,none⟩:Addr)=some (GL.p L):=by
  have:=(ArrV.new (f:=23) (m:=m) (H:=H) (cells:=[Value.pointer (GL.p L)]) h.gr.nm).rd (j:=0) (v:=Value.pointer (GL.p L)) rfl deP
  rw [add_zero] at this
  exact this
 have hnb:newB 23 [Value.pointer (GL.p L)] H=some (⟨H.next,0,none⟩,H2):=rfl
 have hs2:=hs H2 x2
 have pre:z1x (LCo k) m H (GL.p L) v s=if (aa.length:Int) > 64 then some (0,51,H2) else if (!aa.all (okA x.g.N))=true then some (0,150,H2) else
   Option.bind (z3q (LCo k) (Nat.max m H2.next) H2 s) fun r=>Option.bind (z1c (LCo k) m r.2 (GL.p L) v r.1 false) fun r=>some (r.1,r.2.1,r.2.2):=by
  unfold z1x
  rw [hnb]
  simp only [Option.bind_some]
  rw [hpr]
  simp only [Option.bind_some]
  rw [z4k k h2.gr.rep]
  simp only [Option.bind_some,if_true,hs2.n]
  by_cases hbig:(aa.length:Int) > 64
  ·rw [if_pos hbig,if_pos hbig]
  ·rw [if_neg hbig,if_neg hbig,zfq k h2.gr.rep hs2 (by omega) hpr]
   rfl
 rw [pre]
 by_cases hbig:64<aa.length
 ·have hp:addP x.g.N v aa=(0,51,x.g.N):=by unfold addP; rw [if_pos hbig]
  rw [if_pos (by omega),hp]
  exact ⟨H2,L,x,rfl,⟨h2,rfl,fmE x2,fun _ _ h=>.inl h⟩,rfl,rfl⟩
 ·rw [if_neg (by omega)]
  cases hall:aa.all (okA x.g.N) with
  | false =>
   have hp:addP x.g.N v aa=(0,150,x.g.N):=by unfold addP; rw [if_neg hbig,hall]; rfl
   rw [hp]
   exact ⟨H2,L,x,rfl,⟨h2,rfl,fmE x2,fun _ _ h=>.inl h⟩,rfl,rfl⟩
  | true =>
   have hp:addP x.g.N v aa=putP x.g.N ⟨false,v,aa.map Int.toNat⟩:=by unfold addP; rw [if_neg hbig,hall]; rfl
   have hok:=List.all_eq_true.1 hall
   have hnn:∀a∈aa,0≤a:=fun a ha=>by obtain ⟨n,rfl,_⟩:=z3r.1 (hok a ha); exact Int.natCast_nonneg n
   obtain ⟨s',H3,b1,b2,b3,b4⟩:=zj9 k (Nat.max m H2.next) (H:=H2) (s:=s) (l:=aa.map Int.toNat) (fun H' hx=>by
    have:=(hs H' (x2.trans hx)).rdv
    rw [zal hnn] at this
    rw [List.length_map]; exact this) (by rw [List.length_map]; omega) (Nat.max_le.2 ⟨h2.gr.nm,Nat.le_refl _⟩)
   have h3:=h2.ext hE b3
   have hsl:SlA EI T.I m H3 (aa.map Int.toNat) s':=by rw [hT.I]; exact SlA.down (VecA.toS b2) (Nat.le_max_left _ _)
   have hfr:∀id,fpt s' id→H.next≤id:=fun id hid=>Nat.le_trans x2.1 (b4 id (zno b2 hid))
   obtain ⟨H',L',x',c1,c2,c3,c4⟩:=zft hE hP hT k h3 (y:=⟨false,v,aa.map Int.toNat⟩) (sl:=s') hsl (n0:=H.next) (Nat.le_trans x2.1 b3.1) hfr (fun c id hc hf=>by
    have h1:=(h.gr.rep.low hc).2
    have:=hfr id hf
    omega) (fun a ha=>by
     obtain ⟨b,hb,rfl⟩:=List.mem_map.1 ha
     obtain ⟨n,rfl,hn⟩:=z3r.1 (hok b hb)
     exact hn) (by show (aa.map Int.toNat).length≤64; rw [List.length_map]; omega) hsy (by show totN x.g.N+(aa.map Int.toNat).length≤_; rw [List.length_map]; exact ht)
   refine ⟨H',L',x',?_,⟨c2.gs,c2.q,fmT (fmE (x2.trans b3)) c2.fm,c2.fp⟩,by rw [hp]; exact c3,c4⟩
   rw [b1,hp]
   simp only [Option.bind_some,Bool.not_true,Bool.false_eq_true,if_false]
   have c1':z1c (LCo k) m H3 (GL.p L) v s' false=some ((putP x.g.N ⟨false,v,aa.map Int.toNat⟩).1,(putP x.g.N ⟨false,v,aa.map Int.toNat⟩).2.1,H'):=c1
   rw [c1']
   rfl
theorem z9o (hE:Env T tx m Tb) (hP:PE T 58 kt e) (hT:TyOK T) (k:Nat) (h:GS T tx m Tb H L x) (a b c:Int) (d:Bool) (hl:x.sd.length≤1048576) :
  ∃H' L' x',z1y (LCo k) m H (GL.p L) a b c d=some ((sayP x.g.N x.sd (a,b,c,d)).1,H')∧GO T tx m Tb H.next H L H' L' x'∧x'.g.N=x.g.N∧x'.sd=(sayP x.g.N x.sd (a,b,c,d)).2:=by
 have hm:=h.gr.nm
 cases hok:okA x.g.N a&&okA x.g.N b with
 | false =>
  have hp:sayP x.g.N x.sd (a,b,c,d)=(150,x.sd):=by unfold sayP; simp only [hok]; rfl
  refine ⟨H,L,x,?_,⟨h,rfl,Fm.refl _ _,fun _ _ h=>.inl h⟩,rfl,by rw [hp]⟩
  rw [hp]
  unfold z1y
  rw [z4k k h.gr.rep]
  simp only [Option.bind_some,if_true]
  rw [z4h k h.gr.rep,z4h k h.gr.rep]
  have e1:decide (0≤a∧a<(x.g.n:Int))=okA x.g.N a:=rfl
  have e2:decide (0≤b∧b<(x.g.n:Int))=okA x.g.N b:=rfl
  rw [e1,e2]
  cases ha:okA x.g.N a with
  | false=>rfl
  | true =>
   rw [ha] at hok
   simp only [Bool.true_and] at hok
   rw [hok]
   rfl
 | true =>
  have hp:sayP x.g.N x.sd (a,b,c,d)=(0,x.sd++[(a,b,c,d)]):=by unfold sayP; simp only [hok]; rfl
  simp only [Bool.and_eq_true] at hok
  obtain ⟨n1,ra,hn1⟩:=z3r.1 hok.1
  obtain ⟨n2,rb,hn2⟩:=z3r.1 hok.2
  rw [hp]
  obtain ⟨z1,H1,s1,H1',H2,b1,b2,b3,b4,b5,b6⟩:=h.gr.rep.pushS (a,b,c,d) hl hm
  have m2:m≤H2.next:=Nat.le_trans hm b5.1
  have tb2:Tb H2:=hE.tb h.gr.tb b5 fun id hid=>hid.elim (fun e=>(h.gr.rep.low (c:=.q) (id:=id) e).1) fun e=>(h.gr.rep.low (c:=.S) (id:=id) e).1
  have fp1:∀c id,GL.fp { L with sS:=s1 } c id→L.fp c id∨H.next≤id:=fpS b6
  have fm1:Fm (Wc L H.next) H H2:=fmP (L1:=L) b5 (fun id hid=>hid.elim (fun e=>⟨.q,e⟩) fun e=>⟨.S,e⟩) fun _ _ h=>.inl h
  have sdr':∀s∈x.sd++[(a,b,c,d)],okA x.g.N s.1=true∧okA x.g.N s.2.1=true:=by
   intro s hs
   rcases List.mem_append.1 hs with hs | hs
   ·exact h.sdr s hs
   ·rw [List.mem_singleton] at hs
    subst hs
    exact hok
  have pre:z1y (LCo k) m H (GL.p L) a b c d=if d=true then some (0,H2) else Option.bind (z19 (LCo k) m H2 (GL.p L) a b 0 c 0 0 false) fun H=>some (0,H):=by
   unfold z1y
   rw [z4k k h.gr.rep]
   simp only [Option.bind_some,if_true]
   rw [z4h k h.gr.rep,z4h k h.gr.rep]
   have e1:decide (0≤a∧a<(x.g.n:Int))=true:=hok.1
   have e2:decide (0≤b∧b<(x.g.n:Int))=true:=hok.2
   rw [e1,e2]
   simp only [Option.bind_some,if_true,Bool.not_true,Bool.false_eq_true,if_false,GL.p]
   rw [h.gr.rep.q (j:=2) (v:=L.sS.v) rfl deSl]
   simp only [show deSl (Sl3.v L.sS)=some L.sS from rfl,Option.bind_some]
   rw [hT.S] at b1 b2
   rw [b1]
   simp only [Option.bind_some]
   rw [b2]
   simp only [Option.bind_some]
   rw [b3]
   simp only [Option.bind_some]
   cases d with
   | true=>rfl
   | false =>
    simp only [Bool.false_eq_true,if_false]
    cases z19 (LCo k) m H2 (some ⟨L.q,0,none⟩) a b 0 c 0 0 false <;> rfl
  rw [pre]
  cases d with
  | true =>
   refine ⟨H2,_,_,rfl,⟨⟨⟨b4,tb2,?_,h.gr.mx,h.gr.sm,m2,h.gr.cll⟩,h.ids,sdr'⟩,rfl,fm1,fp1⟩,rfl,rfl⟩
   show MI x.g (Mof (x.sd++[(a,b,c,true)])) []
   rw [zh2]
   simp only [if_true,List.append_nil]
   exact h.gr.mi
  | false =>
   have hmi:MI x.g (Mof (x.sd++[(a,b,c,false)])) [(n1,n2)]:=by
    rw [zh2]
    have:=h.gr.mi.say (a:=n1) (b:=n2) hn1 hn2
    rw [ra,rb]
    simpa using this
   obtain ⟨H',L',x',g1,g2⟩:=zdm hE hP hT.I k b4 tb2 (M:=Mof (x.sd++[(a,b,c,false)])) hmi h.gr.mx h.gr.sm m2 0 c 0 0 false ra rb
   have g1':z19 (LCo k) m H2 (GL.p L) a b 0 c 0 0 false=some H':=g1
   have gN:x'.g.N=x.g.N:=g2.N
   have gsd:x'.sd=x.sd++[(a,b,c,false)]:=g2.sd
   refine ⟨H',L',x',by rw [g1']; rfl,⟨⟨⟨g2.rep,g2.tb,by rw [gsd]; exact g2.mi,g2.mx,g2.sm,g2.nm,?_⟩,?_,?_⟩,g2.q,fmT fm1 (g2.fm.weak fun id _ hw hlt=>?_),fun c id hid=>?_⟩,gN,gsd⟩
   ·rw [g2.cll]
    show x.g.cls.length=x'.g.N.length
    rw [gN]; exact h.gr.cll
   ·rw [show x'.ids=x.ids from g2.ids,gN]; exact h.ids
   ·rw [gsd,gN]; exact sdr'
   ·obtain ⟨c,hc⟩:=hw (by have:=b5.1; omega)
    rcases fp1 c id hc with h1 | h1
    ·exact ⟨c,h1⟩
    ·omega
   ·rcases g2.fp c id hid with h1 | h1
    ·exact fp1 c id h1
    ·exact .inr (Nat.le_trans b5.1 h1)
end
end Go.Proofs.YtgkhbmoidenjaaaDoor
namespace Go.Proofs.YtgkhbmoidenjaaaDoor
open Go Go.Abs Go.Abs.Eg
set_option maxRecDepth 100000
section
variable {T:Tys} {tx:Key→ByteArray} {m:Nat} {H:AH} {L:GL} {x:Gh} {Tb:AH→Prop} {kt e:TypeId}
theorem zg6 (hE:Env T tx m Tb) (hT:TyOK T) (k:Nat) (hb:Tb H) (hm:m≤H.next) :
  ∃H' L,z68 (LCo k) m H=some (GL.p L,H')∧GS T tx m Tb H' L ⟨⟨[],[],[],fun _=>none,[]⟩,fun _=>none,[],[]⟩∧Ext H H'∧∀c id,L.fp c id→H.next≤id:=by
 let H2:=H.push mapB
 let H4:=H2.push mapB
 let L:GL:=⟨H4.next,H.next,H2.next,Sl3.nil,Sl3.nil,Sl3.nil,Sl3.nil,Sl3.nil,Sl3.nil,[],[]⟩
 let H6:=H4.push (pubB 63 (qCells L))
 have x1:Ext H H2:=Fm.push _ _ _
 have x2:Ext H2 H4:=Fm.push _ _ _
 have x3:Ext H4 H6:=Fm.push _ _ _
 have n2:H2.next=H.next+1:=AH.next_push _ _
 have n4:H4.next=H.next+2:=by show (H2.push _).next=_; rw [AH.next_push,n2]
 have n6:H6.next=H.next+3:=by show (H4.push _).next=_; rw [AH.next_push,n4]
 have xx:Ext H H6:=x1.trans (x2.trans x3)
 have m1:MapU Value.string H6 H.next fun _=>none:=by
  have h1:=(MapU.new Value.string (H:=H)).fr x2 (by show H.next<H2.next; omega) (fun h=>h)
  exact h1.fr x3 (by show H.next<H4.next; omega) (fun h=>h)
 have m2:MapU Value.string H6 H2.next fun _=>none:=(MapU.new Value.string (H:=H2)).fr x3 (by show H2.next<H4.next; omega) (fun h=>h)
 have own:∀c id,L.fp c id→(c=.q∧id=H4.next)∨(c=.mi∧id=H.next)∨(c=.ms∧id=H2.next):=by
  intro c id h
  cases c with
  | q=>exact .inl ⟨rfl,h⟩
  | mi=>exact .inr (.inl ⟨rfl,h⟩)
  | ms=>exact .inr (.inr ⟨rfl,h⟩)
  | N=>exact (zu h).elim
  | S=>exact (zu h).elim
  | O=>exact (zu h).elim
  | C=>exact (zu h).elim
  | F=>exact (zu h).elim
  | blk k=>obtain ⟨p,hp,_⟩:=h; cases hp
  | us k=>obtain ⟨p,hp,_⟩:=h; cases hp
  | me k=>obtain ⟨p,hp,_⟩:=h; cases hp
  | va k=>obtain ⟨p,hp,_⟩:=h; cases hp
  | na k=>obtain ⟨p,hp,_⟩:=h; cases hp
 refine ⟨H6,L,rfl,⟨⟨⟨fun c=>?_,fun c c' id h1 h2=>?_,rfl,rfl,rfl⟩,hE.tbx hb xx,MI.empty,⟨fun i h=>absurd h (Nat.not_lt_zero i),fun i h=>absurd h (Nat.not_lt_zero i)⟩,⟨by decide,by decide,fun i y h=>(by cases h),fun i y h=>(by cases h),by decide⟩,by omega,rfl⟩,fun y=>rfl,fun s h=>(by cases h)⟩,xx,fun c id h=>?_⟩
 ·cases c with
  | q =>
   show ArrV T.G m H6 H4.next (qCells L)
   rw [hT.G]
   exact ArrV.new (by omega)
  | mi=>exact ⟨hm,by show H.next<H6.next; omega,_,m1,fun k=>rfl⟩
  | ms=>exact ⟨by show m≤H2.next; omega,by show H2.next<H6.next; omega,_,m2,fun k=>rfl⟩
  | N=>exact SlA.nil
  | S=>exact SlA.nil
  | O=>exact SlA.nil
  | C=>exact SlA.nil
  | F=>exact SlA.nil
  | blk k=>intro p hp; cases hp
  | us k=>intro p hp; cases hp
  | me k=>intro p hp; cases hp
  | va k=>intro p hp; cases hp
  | na k=>intro p hp; cases hp
 ·rcases own c id h1 with ⟨rfl,e1⟩ | ⟨rfl,e1⟩ | ⟨rfl,e1⟩ <;> rcases own c' id h2 with ⟨rfl,e2⟩ | ⟨rfl,e2⟩ | ⟨rfl,e2⟩ <;> first | rfl | (exfalso; omega)
 ·rcases own c id h with ⟨_,e1⟩ | ⟨_,e1⟩ | ⟨_,e1⟩ <;> omega
theorem z9w (k:Nat) (h:GS T tx m Tb H L x):z2d (LCo k) H (GL.p L)=some ((x.g.N.length:Nat):Int):=by
 unfold z2d
 rw [z4k k h.gr.rep]
 simp only [Option.bind_some,if_true,GL.p]
 rw [h.gr.rep.q (j:=0) (v:=L.sN.v) rfl deSl]
 simp only [show deSl (Sl3.v L.sN)=some L.sN from rfl,Option.bind_some,zbt h.gr.rep]
 rfl
theorem zeq (k:Nat) (h:GS T tx m Tb H L x) {a:Nat} (ha:a<x.g.n):z2o (LCo k) H (GL.p L) (a:Int)=some ((((x.g.c (x.g.o a)).low:Nat):Int),true):=by
 obtain ⟨q1,r1,r2⟩:=h.gr.rep.of_ (i:=a) (by rw [h.gr.mi.len]; exact ha) (v:=(a:Int)) rfl
 obtain ⟨q2,p,hp,r3,r4⟩:=h.gr.rep.cls_ (h.gr.mi.cl a ha) (v:=((x.g.o a:Nat):Int)) rfl
 unfold z2o
 rw [z4h k h.gr.rep,decide_eq_true (show (0:Int)≤(a:Int)∧(a:Int)<(x.g.n:Int) by omega)]
 simp only [Option.bind_some,if_true,GL.p]
 rw [h.gr.rep.q (j:=5) (v:=L.sC.v) rfl deSl,h.gr.rep.q (j:=4) (v:=L.sO.v) rfl deSl]
 simp only [show deSl (Sl3.v L.sC)=some L.sC from rfl,show deSl (Sl3.v L.sO)=some L.sO from rfl,Option.bind_some,r1,r2,r3,r4]
 rw [readC h.gr.rep hp (j:=3) (v:=.int .i64 (((x.g.c (x.g.o a)).low:Nat):Int)) rfl (deI .i64)]
 rfl
theorem readO (h:GS T tx m Tb H L x) {a:Int} (ha:okA x.g.N a=true):∃q,idxA 1 L.sO a=some q∧rd (deI .i64) H q=some ((x.g.o a.toNat:Nat):Int):=by
 obtain ⟨n,rfl,hn⟩:=z3r.1 ha
 exact h.gr.rep.of_ (i:=n) (by rw [h.gr.mi.len]; exact hn) rfl
theorem z3u {l:List Nat} {k:Nat} {o:Nat→Nat}:(∃v w r,l=v :: w :: r∧o v=k)↔∃h:1<l.length,o (l[0]'(by omega))=k:=by
 constructor
 ·rintro ⟨v,w,r,rfl,h⟩
  exact ⟨by simp,h⟩
 ·rintro ⟨h,e⟩
  match l,h,e with
  | v :: w :: r,_,e=>exact ⟨v,w,r,rfl,e⟩
theorem zdq (k:Nat) (h:GS T tx m Tb H L x) (hl:x.sd.length≤1048576):∃r:Bool,z1v (LCo k) H (GL.p L)=some r∧(r=false↔ClashP x.g.N x.sd (Cong x.g.N (Mof x.sd))):=by
 have hS:SlA ES T.S m H x.sd L.sS:=h.gr.rep.hold .S
 have hcn:=hS.cnt
 have hC:SlA EP T.P m H (L.cl.map (·.1)) L.sC:=h.gr.rep.hold .C
 have hcc:L.sC.n=x.g.cls.length:=by rw [hC.cnt,List.length_map]; exact h.gr.rep.cll
 have hcl:=h.gr.sm.cls
 rw [← zk5 h.gr.mi h.sdr]
 have A:=scanO (f:=zj (LCo k) H ⟨L.q,0,none⟩ L.sS) x.sd.length (fun i=>match x.sd[i]? with
   | some s=>s.2.2.2&&decide (x.g.o s.1.toNat=x.g.o s.2.1.toNat)
   | none=>false) (fun i=>((i:Int),0,0,0,false)) (fun r=>r.2.2.2.2=true) (fun i hi hp=>?_) (fun i hi hp=>?_) ?_
 rotate_left
 ·rw [List.getElem?_eq_getElem hi] at hp
  obtain ⟨q,r1,r2,r3,r4,r5⟩:=rd_ES hS hi (v:=(i:Int)) rfl
  obtain ⟨o1,o2⟩:=h.sdr _ (List.getElem_mem hi)
  obtain ⟨q1,r6,r7⟩:=readO h o1
  obtain ⟨q2,r8,r9⟩:=readO h o2
  unfold zj
  simp only [hcn,if_pos (show (i:Int)<(x.sd.length:Int) by omega),r1,r2,r3,r4,r5,Option.bind_some]
  rw [h.gr.rep.q (j:=4) (v:=L.sO.v) rfl deSl]
  simp only [show deSl (Sl3.v L.sO)=some L.sO from rfl,Option.bind_some,r6,r7,r8,r9]
  cases hsp:x.sd[i].2.2.2 with
  | false =>
   simp only [Bool.false_eq_true,if_false,Option.bind_some]
   rw [zv (n:=x.sd.length) hi (by rw [z1g]; omega)]
  | true =>
   simp only [hsp,Bool.true_and] at hp
   have hne:¬x.g.o x.sd[i].1.toNat=x.g.o x.sd[i].2.1.toNat:=of_decide_eq_false hp
   simp only [if_true,Option.bind_some,decide_eq_false (show ¬((x.g.o x.sd[i].1.toNat:Nat):Int)=((x.g.o x.sd[i].2.1.toNat:Nat):Int) by omega),Bool.false_eq_true,if_false]
   rw [zv (n:=x.sd.length) hi (by rw [z1g]; omega)]
 ·rw [List.getElem?_eq_getElem hi] at hp
  obtain ⟨q,r1,r2,r3,r4,r5⟩:=rd_ES hS hi (v:=(i:Int)) rfl
  obtain ⟨o1,o2⟩:=h.sdr _ (List.getElem_mem hi)
  obtain ⟨q1,r6,r7⟩:=readO h o1
  obtain ⟨q2,r8,r9⟩:=readO h o2
  simp only [Bool.and_eq_true,decide_eq_true_eq] at hp
  refine ⟨(x.sd[i].1,x.sd[i].2.1,x.sd[i].2.2.1,x.sd[i].2.2.2,true),?_,rfl⟩
  unfold zj
  simp only [hcn,if_pos (show (i:Int)<(x.sd.length:Int) by omega),r1,r2,r3,r4,r5,Option.bind_some]
  rw [h.gr.rep.q (j:=4) (v:=L.sO.v) rfl deSl]
  simp only [show deSl (Sl3.v L.sO)=some L.sO from rfl,Option.bind_some,r6,r7,r8,r9,hp.1,if_true,hp.2,decide_true]
 ·unfold zj
  simp only [hcn,if_neg (show ¬((x.sd.length:Int)<(x.sd.length:Int)) by omega)]
 have B:=scanO (f:=zk (LCo k) H ⟨L.q,0,none⟩ L.sC) x.g.cls.length (fun i=>if hh:1<(x.g.c i).vals.length then decide (x.g.o ((x.g.c i).vals[0]'(by omega))=i) else false) (fun i=>((i:Int),0,0,0,false)) (fun r=>r.2.2.2.2=true) (fun i hi hp=>?_) (fun i hi hp=>?_) ?_
 rotate_left
 ·obtain ⟨q,p,hp1,r1,r2⟩:=h.gr.rep.cls_ hi (v:=(i:Int)) rfl
  have hv:SlA EI T.I m H (x.g.c i).vals p.2.2.2:=h.gr.rep.hold (.va i) p hp1
  unfold zk
  simp only [hcc,if_pos (show (i:Int)<(x.g.cls.length:Int) by omega),r1,r2,Option.bind_some]
  rw [readC h.gr.rep hp1 (j:=2) (v:=p.2.2.2.v) rfl deSl]
  simp only [show deSl (Sl3.v p.2.2.2)=some p.2.2.2 from rfl,Option.bind_some,hv.cnt]
  by_cases hh:1<(x.g.c i).vals.length
  ·rw [dif_pos hh] at hp
   have hne:=of_decide_eq_false hp
   obtain ⟨q1,r3,r4⟩:=rd_EI hv (i:=0) (by omega) (v:=0) rfl
   obtain ⟨q2,r5,r6⟩:=h.gr.rep.of_ (i:=(x.g.c i).vals[0]) (by rw [h.gr.mi.len]; exact h.gr.mi.vlt i _ (List.getElem_mem _)) (v:=(((x.g.c i).vals[0]:Nat):Int)) rfl
   rw [h.gr.rep.q (j:=4) (v:=L.sO.v) rfl deSl]
   simp only [show deSl (Sl3.v L.sO)=some L.sO from rfl,Option.bind_some,r3,r4,r5,r6,if_pos (show (((x.g.c i).vals.length:Nat):Int) > 1 by omega),decide_eq_false (show ¬((x.g.o (x.g.c i).vals[0]:Nat):Int)=(i:Int) by omega),Bool.false_eq_true,if_false]
   rw [zv (n:=x.g.cls.length) hi (by rw [z1g]; omega)]
  ·simp only [if_neg (show ¬(((x.g.c i).vals.length:Nat):Int) > 1 by omega),Option.bind_some,Bool.false_eq_true,if_false]
   rw [zv (n:=x.g.cls.length) hi (by rw [z1g]; omega)]
 ·obtain ⟨q,p,hp1,r1,r2⟩:=h.gr.rep.cls_ hi (v:=(i:Int)) rfl
  have hv:SlA EI T.I m H (x.g.c i).vals p.2.2.2:=h.gr.rep.hold (.va i) p hp1
  by_cases hh:1<(x.g.c i).vals.length
  ·rw [dif_pos hh] at hp
   have heq:=of_decide_eq_true hp
   obtain ⟨q1,r3,r4⟩:=rd_EI hv (i:=0) (by omega) (v:=0) rfl
   obtain ⟨q3,r7,r8⟩:=rd_EI hv (i:=1) (by omega) (v:=1) rfl
   obtain ⟨q2,r5,r6⟩:=h.gr.rep.of_ (i:=(x.g.c i).vals[0]) (by rw [h.gr.mi.len]; exact h.gr.mi.vlt i _ (List.getElem_mem _)) (v:=(((x.g.c i).vals[0]:Nat):Int)) rfl
   refine ⟨((((x.g.c i).vals[0]:Nat):Int),(((x.g.c i).vals[1]:Nat):Int),0,false,true),?_,rfl⟩
   unfold zk
   simp only [hcc,if_pos (show (i:Int)<(x.g.cls.length:Int) by omega),r1,r2,Option.bind_some]
   rw [readC h.gr.rep hp1 (j:=2) (v:=p.2.2.2.v) rfl deSl]
   simp only [show deSl (Sl3.v p.2.2.2)=some p.2.2.2 from rfl,Option.bind_some,hv.cnt]
   rw [h.gr.rep.q (j:=4) (v:=L.sO.v) rfl deSl]
   simp only [show deSl (Sl3.v L.sO)=some L.sO from rfl,Option.bind_some,r3,r4,r5,r6,r7,r8,if_pos (show (((x.g.c i).vals.length:Nat):Int) > 1 by omega),heq,decide_true,if_true]
  ·rw [dif_neg hh] at hp; cases hp
 ·unfold zk
  simp only [hcc,if_neg (show ¬((x.g.cls.length:Int)<(x.g.cls.length:Int)) by omega)]
 have pre:z1v (LCo k) H (GL.p L)=Option.bind (z1t (LCo k) H (GL.p L)) fun r=>some (!r.2.2.2.2):=by
  unfold z1v
  rw [z4k k h.gr.rep]
  rfl
 rw [pre]
 unfold z1t
 simp only [GL.p,Option.bind_some]
 rw [h.gr.rep.q (j:=2) (v:=L.sS.v) rfl deSl]
 simp only [show deSl (Sl3.v L.sS)=some L.sS from rfl,Option.bind_some]
 rcases A with ⟨⟨i,hi,hp⟩,r,e1,e2⟩ | ⟨hall,e1⟩
 ·rw [show (LCo k).run (zj (LCo k) H ⟨L.q,0,none⟩ L.sS) (0,0,0,0,false)=some (.inr r) from e1]
  refine ⟨false,?_,fun _=>.inl ?_,fun _=>rfl⟩
  ·simp only [Option.bind_some,e2]; rfl
  ·rw [List.getElem?_eq_getElem hi] at hp
   simp only [Bool.and_eq_true,decide_eq_true_eq] at hp
   exact ⟨_,List.getElem_mem hi,hp.1,hp.2⟩
 ·rw [show (LCo k).run (zj (LCo k) H ⟨L.q,0,none⟩ L.sS) (0,0,0,0,false)=some (.inl ((x.sd.length:Int),0,0,0,false)) from e1]
  simp only [Option.bind_some]
  rw [h.gr.rep.q (j:=5) (v:=L.sC.v) rfl deSl]
  simp only [show deSl (Sl3.v L.sC)=some L.sC from rfl,Option.bind_some]
  have nosplit:¬∃s∈x.sd,s.2.2.2=true∧x.g.o s.1.toNat=x.g.o s.2.1.toNat:=by
   rintro ⟨s,hs,h1,h2⟩
   obtain ⟨i,hi,rfl⟩:=List.mem_iff_getElem.1 hs
   have:=hall i hi
   rw [List.getElem?_eq_getElem hi] at this
   simp only [h1,h2,decide_true,Bool.and_self] at this
   cases this
  rcases B with ⟨⟨i,hi,hp⟩,r,e3,e4⟩ | ⟨hall2,e3⟩
  ·rw [show (LCo k).run (zk (LCo k) H ⟨L.q,0,none⟩ L.sC) (0,0,0,0,false)=some (.inr r) from e3]
   refine ⟨false,?_,fun _=>.inr ⟨i,hi,z3u.2 ?_⟩,fun _=>rfl⟩
   ·simp only [Option.bind_some,e4]; rfl
   ·by_cases hh:1<(x.g.c i).vals.length
    ·rw [dif_pos hh] at hp
     exact ⟨hh,of_decide_eq_true hp⟩
    ·rw [dif_neg hh] at hp; cases hp
  ·rw [show (LCo k).run (zk (LCo k) H ⟨L.q,0,none⟩ L.sC) (0,0,0,0,false)=some (.inl ((x.g.cls.length:Int),0,0,0,false)) from e3]
   refine ⟨true,rfl,fun h=>(by cases h),fun hc=>?_⟩
   exfalso
   rcases hc with hc | ⟨i,hi,hc⟩
   ·exact nosplit hc
   ·obtain ⟨hh,heq⟩:=z3u.1 hc
    have:=hall2 i hi
    rw [dif_pos hh,decide_eq_true heq] at this
    cases this
theorem unl_if (sp:Bool) (o1 o2 oa ob:Nat):(if sp=true then if (o1:Int)=oa then if (o2:Int)=ob then some true else if (o1:Int)=ob then some (decide ((o2:Int)=oa)) else some false
   else if (o1:Int)=ob then some (decide ((o2:Int)=oa)) else some false else some false:Option Bool)=some (sp&&(decide (o1=oa)&&decide (o2=ob)||decide (o1=ob)&&decide (o2=oa))):=by
 cases sp with
 | false=>rfl
 | true =>
  simp only [if_true,Int.natCast_inj,Bool.true_and]
  have key:∀(A B C D:Prop) [Decidable A] [Decidable B] [Decidable C] [Decidable D],(if A then if B then some true else if C then some (decide D) else some false else if C then some (decide D) else some false:Option Bool)=some (decide A&&decide B||decide C&&decide D):=by
   intro A B C D _ _ _ _
   by_cases e1:A <;> by_cases e2:B <;> by_cases e3:C <;> simp [e1,e2,e3]
  exact key _ _ _ _
end
end Go.Proofs.YtgkhbmoidenjaaaDoor
namespace Go.Proofs.YtgkhbmoidenjaaaDoor
open Go Go.Abs Go.Abs.Eg
set_option maxRecDepth 100000
section
variable {T:Tys} {tx:Key→ByteArray} {m:Nat} {H:AH} {L:GL} {x:Gh} {Tb:AH→Prop} {kt e:TypeId}
theorem z8n (k:Nat) (h:GS T tx m Tb H L x) (hl:x.sd.length≤1048576) {a b:Nat} (ha:a<x.g.n) (hb:b<x.g.n):∃r:Bool,z1l (LCo k) H (GL.p L) (a:Int) (b:Int)=some r∧(r=true↔UnlikeP x.g.N x.sd (Cong x.g.N (Mof x.sd)) a b):=by
 have hS:SlA ES T.S m H x.sd L.sS:=h.gr.rep.hold .S
 have hcn:=hS.cnt
 have hn:=h.gr.sm.n
 rw [← zjs h.gr.mi h.sdr ha hb]
 obtain ⟨qa,ra1,ra2⟩:=h.gr.rep.of_ (i:=a) (by rw [h.gr.mi.len]; exact ha) (v:=(a:Int)) rfl
 obtain ⟨qb,rb1,rb2⟩:=h.gr.rep.of_ (i:=b) (by rw [h.gr.mi.len]; exact hb) (v:=(b:Int)) rfl
 obtain ⟨ca,pa,hpa,ra3,ra4⟩:=h.gr.rep.cls_ (h.gr.mi.cl a ha) (v:=((x.g.o a:Nat):Int)) rfl
 obtain ⟨cb,pb,hpb,rb3,rb4⟩:=h.gr.rep.cls_ (h.gr.mi.cl b hb) (v:=((x.g.o b:Nat):Int)) rfl
 have hva:SlA EI T.I m H (x.g.c (x.g.o a)).vals pa.2.2.2:=h.gr.rep.hold (.va _) pa hpa
 have hvb:SlA EI T.I m H (x.g.c (x.g.o b)).vals pb.2.2.2:=h.gr.rep.hold (.va _) pb hpb
 have vlen:∀i,i<x.g.n→(x.g.c (x.g.o i)).vals.length≤1048576:=fun i hi=>by
  have:=z6l x.g.n _ (h.gr.mi.vnd i hi) fun v hv=>h.gr.mi.vlt _ v hv
  omega
 have la:=vlen a ha
 have lb:=vlen b hb
 have A:=scanO (f:=z17 (LCo k) H ⟨L.q,0,none⟩ ((x.g.o a:Nat):Int) ((x.g.o b:Nat):Int) L.sS) x.sd.length (fun i=>match x.sd[i]? with
   | some s=>s.2.2.2&&(decide (x.g.o s.1.toNat=x.g.o a)&&decide (x.g.o s.2.1.toNat=x.g.o b)||decide (x.g.o s.1.toNat=x.g.o b)&&decide (x.g.o s.2.1.toNat=x.g.o a))
   | none=>false) (fun i=>(i:Int)) (fun r=>r=true) (fun i hi hp=>?_) (fun i hi hp=>⟨true,?_,rfl⟩) ?_
 rotate_left
 ·rw [List.getElem?_eq_getElem hi] at hp
  obtain ⟨q,r1,r2,r3,r4,r5⟩:=rd_ES hS hi (v:=(i:Int)) rfl
  obtain ⟨o1,o2⟩:=h.sdr _ (List.getElem_mem hi)
  obtain ⟨q1,r6,r7⟩:=readO h o1
  obtain ⟨q2,r8,r9⟩:=readO h o2
  unfold z17
  simp only [hcn,if_pos (show (i:Int)<(x.sd.length:Int) by omega),r1,r2,r3,r4,r5,Option.bind_some]
  rw [h.gr.rep.q (j:=4) (v:=L.sO.v) rfl deSl]
  simp only [show deSl (Sl3.v L.sO)=some L.sO from rfl,Option.bind_some,r6,r7,r8,r9]
  rw [unl_if]
  have hp:(x.sd[i].2.2.2&&(decide (x.g.o x.sd[i].1.toNat=x.g.o a)&&decide (x.g.o x.sd[i].2.1.toNat=x.g.o b)||decide (x.g.o x.sd[i].1.toNat=x.g.o b)&&decide (x.g.o x.sd[i].2.1.toNat=x.g.o a)))=false:=hp
  rw [hp]
  simp only [Option.bind_some,Bool.false_eq_true,if_false]
  rw [zv (n:=x.sd.length) hi (by rw [z1g]; omega)]
 ·rw [List.getElem?_eq_getElem hi] at hp
  obtain ⟨q,r1,r2,r3,r4,r5⟩:=rd_ES hS hi (v:=(i:Int)) rfl
  obtain ⟨o1,o2⟩:=h.sdr _ (List.getElem_mem hi)
  obtain ⟨q1,r6,r7⟩:=readO h o1
  obtain ⟨q2,r8,r9⟩:=readO h o2
  unfold z17
  simp only [hcn,if_pos (show (i:Int)<(x.sd.length:Int) by omega),r1,r2,r3,r4,r5,Option.bind_some]
  rw [h.gr.rep.q (j:=4) (v:=L.sO.v) rfl deSl]
  simp only [show deSl (Sl3.v L.sO)=some L.sO from rfl,Option.bind_some,r6,r7,r8,r9]
  rw [unl_if]
  have hp:(x.sd[i].2.2.2&&(decide (x.g.o x.sd[i].1.toNat=x.g.o a)&&decide (x.g.o x.sd[i].2.1.toNat=x.g.o b)||decide (x.g.o x.sd[i].1.toNat=x.g.o b)&&decide (x.g.o x.sd[i].2.1.toNat=x.g.o a)))=true:=hp
  rw [hp]
  rfl
 ·unfold z17
  simp only [hcn,if_neg (show ¬((x.sd.length:Int)<(x.sd.length:Int)) by omega)]
 have inner:∀(i:Nat) (v:Nat),((∃w∈(x.g.c (x.g.o b)).vals,v≠w)∧loopO (zm (LCo k) H ⟨L.q,0,none⟩ ((x.g.o b:Nat):Int) pa.2.2.2 (i:Int) (v:Int) pb.2.2.2) 0=some (.inr true)) ∨
   ((∀w∈(x.g.c (x.g.o b)).vals,v=w)∧∃z,loopO (zm (LCo k) H ⟨L.q,0,none⟩ ((x.g.o b:Nat):Int) pa.2.2.2 (i:Int) (v:Int) pb.2.2.2) 0=some (.inl z)):=by
  intro i v
  have B:=scanO (f:=zm (LCo k) H ⟨L.q,0,none⟩ ((x.g.o b:Nat):Int) pa.2.2.2 (i:Int) (v:Int) pb.2.2.2) (x.g.c (x.g.o b)).vals.length (fun j=>match (x.g.c (x.g.o b)).vals[j]? with
   | some w=>decide (v≠w)
   | none=>false) (fun j=>(j:Int)) (fun r=>r=true) (fun j hj hp=>?_) (fun j hj hp=>⟨true,?_,rfl⟩) ?_
  rotate_left
  ·rw [List.getElem?_eq_getElem hj] at hp
   obtain ⟨q,r1,r2⟩:=rd_EI hvb hj (v:=(j:Int)) rfl
   have hp:decide (v≠(x.g.c (x.g.o b)).vals[j])=false:=hp
   have heq:v=(x.g.c (x.g.o b)).vals[j]:=by
    have:=of_decide_eq_false hp
    omega
   unfold zm
   simp only [hvb.cnt,if_pos (show (j:Int)<((x.g.c (x.g.o b)).vals.length:Int) by omega),r1,r2,Option.bind_some]
   rw [if_pos (show (v:Int)=(((x.g.c (x.g.o b)).vals[j]:Nat):Int) by omega),zv (n:=(x.g.c (x.g.o b)).vals.length) hj (by rw [z1g]; omega)]
  ·rw [List.getElem?_eq_getElem hj] at hp
   obtain ⟨q,r1,r2⟩:=rd_EI hvb hj (v:=(j:Int)) rfl
   have hne:v≠(x.g.c (x.g.o b)).vals[j]:=of_decide_eq_true hp
   unfold zm
   simp only [hvb.cnt,if_pos (show (j:Int)<((x.g.c (x.g.o b)).vals.length:Int) by omega),r1,r2,Option.bind_some]
   rw [if_neg (show ¬(v:Int)=(((x.g.c (x.g.o b)).vals[j]:Nat):Int) by omega)]
  ·unfold zm
   simp only [hvb.cnt,if_neg (show ¬(((x.g.c (x.g.o b)).vals.length:Int)<((x.g.c (x.g.o b)).vals.length:Int)) by omega)]
  rcases B with ⟨⟨j,hj,hp⟩,r,e1,e2⟩ | ⟨hall,e1⟩
  ·rw [List.getElem?_eq_getElem hj] at hp
   exact .inl ⟨⟨_,List.getElem_mem hj,of_decide_eq_true hp⟩,by rw [← e2]; exact e1⟩
  ·refine .inr ⟨fun w hw=>?_,_,e1⟩
   obtain ⟨j,hj,rfl⟩:=List.mem_iff_getElem.1 hw
   have:=hall j hj
   rw [List.getElem?_eq_getElem hj] at this
   have:=of_decide_eq_false this
   omega
 have C:=scanO (f:=z16 (LCo k) H ⟨L.q,0,none⟩ ((x.g.o b:Nat):Int) pa.2.2.2) (x.g.c (x.g.o a)).vals.length (fun i=>match (x.g.c (x.g.o a)).vals[i]? with
   | some v=>(x.g.c (x.g.o b)).vals.any fun w=>decide (v≠w)
   | none=>false) (fun i=>(i:Int)) (fun r=>r=true) (fun i hi hp=>?_) (fun i hi hp=>⟨true,?_,rfl⟩) ?_
 rotate_left
 ·rw [List.getElem?_eq_getElem hi] at hp
  obtain ⟨q,r1,r2⟩:=rd_EI hva hi (v:=(i:Int)) rfl
  have hp:((x.g.c (x.g.o b)).vals.any fun w=>decide ((x.g.c (x.g.o a)).vals[i]≠w))=false:=hp
  unfold z16
  simp only [hva.cnt,if_pos (show (i:Int)<((x.g.c (x.g.o a)).vals.length:Int) by omega),r1,r2,Option.bind_some]
  rw [h.gr.rep.q (j:=5) (v:=L.sC.v) rfl deSl]
  simp only [show deSl (Sl3.v L.sC)=some L.sC from rfl,Option.bind_some,rb3,rb4]
  rw [readC h.gr.rep hpb (j:=2) (v:=pb.2.2.2.v) rfl deSl]
  simp only [show deSl (Sl3.v pb.2.2.2)=some pb.2.2.2 from rfl,Option.bind_some]
  rcases inner i (x.g.c (x.g.o a)).vals[i] with ⟨⟨w,hw,hne⟩,_⟩ | ⟨_,z,e1⟩
  ·have:=List.any_eq_false.1 hp w hw
   simp only [decide_eq_true_eq] at this
   exact absurd hne this
  ·rw [show (LCo k).run (zm (LCo k) H ⟨L.q,0,none⟩ ((x.g.o b:Nat):Int) pa.2.2.2 (i:Int) (((x.g.c (x.g.o a)).vals[i]:Nat):Int) pb.2.2.2) 0=some (.inl z) from e1]
   simp only [Option.bind_some]
   rw [zv (n:=(x.g.c (x.g.o a)).vals.length) hi (by rw [z1g]; omega)]
 ·rw [List.getElem?_eq_getElem hi] at hp
  obtain ⟨q,r1,r2⟩:=rd_EI hva hi (v:=(i:Int)) rfl
  have hp:((x.g.c (x.g.o b)).vals.any fun w=>decide ((x.g.c (x.g.o a)).vals[i]≠w))=true:=hp
  unfold z16
  simp only [hva.cnt,if_pos (show (i:Int)<((x.g.c (x.g.o a)).vals.length:Int) by omega),r1,r2,Option.bind_some]
  rw [h.gr.rep.q (j:=5) (v:=L.sC.v) rfl deSl]
  simp only [show deSl (Sl3.v L.sC)=some L.sC from rfl,Option.bind_some,rb3,rb4]
  rw [readC h.gr.rep hpb (j:=2) (v:=pb.2.2.2.v) rfl deSl]
  simp only [show deSl (Sl3.v pb.2.2.2)=some pb.2.2.2 from rfl,Option.bind_some]
  rcases inner i (x.g.c (x.g.o a)).vals[i] with ⟨_,e1⟩ | ⟨hall,_⟩
  ·rw [show (LCo k).run (zm (LCo k) H ⟨L.q,0,none⟩ ((x.g.o b:Nat):Int) pa.2.2.2 (i:Int) (((x.g.c (x.g.o a)).vals[i]:Nat):Int) pb.2.2.2) 0=some (.inr true) from e1]
   rfl
  ·obtain ⟨w,hw,hne⟩:=List.any_eq_true.1 hp
   exact absurd (hall w hw) (of_decide_eq_true hne)
 ·unfold z16
  simp only [hva.cnt,if_neg (show ¬(((x.g.c (x.g.o a)).vals.length:Int)<((x.g.c (x.g.o a)).vals.length:Int)) by omega)]
 unfold z1l
 rw [z4h k h.gr.rep,decide_eq_true (show (0:Int)≤(a:Int)∧(a:Int)<(x.g.n:Int) by omega),z4h k h.gr.rep,decide_eq_true (show (0:Int)≤(b:Int)∧(b:Int)<(x.g.n:Int) by omega)]
 simp only [Option.bind_some,if_true,Bool.not_true,Bool.false_eq_true,if_false,GL.p]
 rw [h.gr.rep.q (j:=4) (v:=L.sO.v) rfl deSl,h.gr.rep.q (j:=2) (v:=L.sS.v) rfl deSl]
 simp only [show deSl (Sl3.v L.sO)=some L.sO from rfl,show deSl (Sl3.v L.sS)=some L.sS from rfl,Option.bind_some,ra1,ra2,rb1,rb2]
 rcases A with ⟨⟨i,hi,hp⟩,r,e1,e2⟩ | ⟨hall,e1⟩
 ·rw [show (LCo k).run (z17 (LCo k) H ⟨L.q,0,none⟩ ((x.g.o a:Nat):Int) ((x.g.o b:Nat):Int) L.sS) 0=some (.inr r) from e1]
  refine ⟨r,rfl,fun _=>.inl ?_,fun _=>e2⟩
  rw [List.getElem?_eq_getElem hi] at hp
  simp only [Bool.and_eq_true,Bool.or_eq_true,decide_eq_true_eq] at hp
  exact ⟨_,List.getElem_mem hi,hp.1,hp.2⟩
 ·rw [show (LCo k).run (z17 (LCo k) H ⟨L.q,0,none⟩ ((x.g.o a:Nat):Int) ((x.g.o b:Nat):Int) L.sS) 0=some (.inl (x.sd.length:Int)) from e1]
  simp only [Option.bind_some]
  rw [h.gr.rep.q (j:=5) (v:=L.sC.v) rfl deSl]
  simp only [show deSl (Sl3.v L.sC)=some L.sC from rfl,Option.bind_some,ra3,ra4]
  rw [readC h.gr.rep hpa (j:=2) (v:=pa.2.2.2.v) rfl deSl]
  simp only [show deSl (Sl3.v pa.2.2.2)=some pa.2.2.2 from rfl,Option.bind_some]
  rcases C with ⟨⟨i,hi,hp⟩,r,e3,e4⟩ | ⟨hall2,e3⟩
  ·rw [show (LCo k).run (z16 (LCo k) H ⟨L.q,0,none⟩ ((x.g.o b:Nat):Int) pa.2.2.2) 0=some (.inr r) from e3]
   refine ⟨r,rfl,fun _=>.inr ?_,fun _=>e4⟩
   rw [List.getElem?_eq_getElem hi] at hp
   obtain ⟨w,hw,hne⟩:=List.any_eq_true.1 hp
   exact ⟨_,List.getElem_mem hi,w,hw,of_decide_eq_true hne⟩
  ·rw [show (LCo k).run (z16 (LCo k) H ⟨L.q,0,none⟩ ((x.g.o b:Nat):Int) pa.2.2.2) 0=some (.inl (((x.g.c (x.g.o a)).vals.length:Nat):Int)) from e3]
   refine ⟨false,rfl,fun h=>(by cases h),fun hc=>?_⟩
   exfalso
   rcases hc with ⟨s,hs,h1,h2⟩ | ⟨v,hv,w,hw,hne⟩
   ·obtain ⟨i,hi,rfl⟩:=List.mem_iff_getElem.1 hs
    have:=hall i hi
    rw [List.getElem?_eq_getElem hi] at this
    have this:(x.sd[i].2.2.2&&(decide (x.g.o x.sd[i].1.toNat=x.g.o a)&&decide (x.g.o x.sd[i].2.1.toNat=x.g.o b)||decide (x.g.o x.sd[i].1.toNat=x.g.o b)&&decide (x.g.o x.sd[i].2.1.toNat=x.g.o a)))=false:=this
    have that:(x.sd[i].2.2.2&&(decide (x.g.o x.sd[i].1.toNat=x.g.o a)&&decide (x.g.o x.sd[i].2.1.toNat=x.g.o b)||decide (x.g.o x.sd[i].1.toNat=x.g.o b)&&decide (x.g.o x.sd[i].2.1.toNat=x.g.o a)))=true:=by
     simp only [Bool.and_eq_true,Bool.or_eq_true,decide_eq_true_eq]
     exact ⟨h1,h2⟩
    rw [this] at that
    cases that
   ·obtain ⟨i,hi,rfl⟩:=List.mem_iff_getElem.1 hv
    have:=hall2 i hi
    rw [List.getElem?_eq_getElem hi] at this
    have:=List.any_eq_false.1 this w hw
    simp only [decide_eq_true_eq] at this
    exact this hne
end
end Go.Proofs.YtgkhbmoidenjaaaDoor
namespace Go.Proofs.YtgkhbmoidenjaaaDoor
open Go Go.Abs Go.Abs.Eg
set_option maxRecDepth 100000
section
variable {m:Nat} {H:AH} {id:Nat} {f:Nat→Nat}
def okT (s:ByteArray):Bool:=(List.range 100).all fun x=>bytA s ((2*x:Nat):Int) == some ((48+x / 10:Nat):Int)&&bytA s ((2*x+1:Nat):Int) == some ((48+x % 10:Nat):Int)
theorem two_hi {s:ByteArray} {X:Int} {x:Nat} (hs:okT s=true) (hX:X=x) (hx:x<100):bytA s (IntKind.u32.wrap ((IntKind.u32.wrap (X*2))+1))=some ((48+x % 10:Nat):Int):=by
 have h:=List.all_eq_true.1 hs x (by simp; omega)
 simp only [Bool.and_eq_true,beq_iff_eq] at h
 rw [z2r (x:=X*2) (n:=2*x) (by omega) (by omega),z2r (x:=((2*x:Nat):Int)+1) (n:=2*x+1) (by omega) (by omega)]
 exact h.2
theorem two_lo {s:ByteArray} {X:Int} {x:Nat} (hs:okT s=true) (hX:X=x) (hx:x<100):bytA s (IntKind.u32.wrap (X*2))=some ((48+x / 10:Nat):Int):=by
 have h:=List.all_eq_true.1 hs x (by simp; omega)
 simp only [Bool.and_eq_true,beq_iff_eq] at h
 rw [z2r (x:=X*2) (n:=2*x) (by omega) (by omega)]
 exact h.1
theorem wr1 {e:TypeId} {c d j:Nat} (h:AB e m H id f) {w x:Int} (hw:w=(j:Int)) (hj:j<d) (hd:d≤23) (b:Nat) (hx:x=(b:Int)) :
  ∃q H',idxA 1 ⟨some ⟨id,1,none⟩,d,c⟩ w=some q∧H.setCell m q (.int .u8 x)=some H'∧AB e m H' id (upd f (1+j) b)∧Fm (fun i=>i=id) H H'∧H'.next=H.next:=by
 subst hx
 obtain ⟨H',a1,a2,a3,a4⟩:=h.put (j:=1+j) (by omega) b
 refine ⟨_,H',zem rfl hw hj,?_,a2,a3,a4⟩
 rw [← a1,Nat.mul_one,z2e,z2e,Nat.zero_add]
theorem fmI {id:Nat} {H H1 H2:AH} (h1:Fm (fun i=>i=id) H H1) (h2:Fm (fun i=>i=id) H1 H2):Fm (fun i=>i=id) H H2:=h1.comp h2 fun _ _ h=>h
theorem zo0 (k:Nat) {e:TypeId} {n d c v i:Nat} (h:AB e m H id f) (hD:Dg n d f v (i+8)) (hd:d≤23) (hv:v<18446744073709551616) :
  ∃H' f',z11 (LCo k) m ⟨some ⟨id,1,none⟩,d,c⟩ (H,(v:Int),((i+8:Nat):Int))=some (.next (H',((v / 100000000:Nat):Int),(i:Int)))∧AB e m H' id f'∧Dg n d f' (v / 100000000) i∧Fm (fun i=>i=id) H H'∧H'.next=H.next:=by
 have hle:=hD.le
 have w32:IntKind.u32.wrap (Int.tmod (v:Int) 100000000)=((v % 100000000:Nat):Int):=z2r rfl (by omega)
 obtain ⟨W,hW⟩:∃W,W=v % 100000000:=⟨_,rfl⟩
 rw [← hW] at w32
 have X0:Int.tmod (Int.tmod (W:Int) 10000) 100=((W % 10000 % 100:Nat):Int):=rfl
 have X2:Int.tmod ((W / 10000:Nat):Int) 100=((W / 10000 % 100:Nat):Int):=rfl
 have X1:IntKind.u32.wrap (Int.tdiv (Int.tmod (W:Int) 10000) 100)=((W % 10000 / 100:Nat):Int):=z2r rfl (by omega)
 have X2':IntKind.u32.wrap (Int.tdiv (W:Int) 10000)=((W / 10000:Nat):Int):=z2r rfl (by omega)
 have X3:IntKind.u32.wrap (Int.tdiv ((W / 10000:Nat):Int) 100)=((W / 10000 / 100:Nat):Int):=z2r rfl (by omega)
 obtain ⟨p1,H1,a1,a2,a3,a4,a5⟩:=wr1 (c:=c) h (w:=IntKind.i64.wrap (((i+8:Nat):Int) - 1)) (j:=i+7) (z13 (by omega) (by omega)) (by omega) hd (48+W % 10000 % 100 % 10) rfl
 obtain ⟨p2,H2,b1,b2,b3,b4,b5⟩:=wr1 (c:=c) a3 (w:=IntKind.i64.wrap (((i+8:Nat):Int) - 2)) (j:=i+6) (z13 (by omega) (by omega)) (by omega) hd (48+W % 10000 % 100 / 10) rfl
 obtain ⟨p3,H3,c1,c2,c3,c4,c5⟩:=wr1 (c:=c) b3 (w:=IntKind.i64.wrap (((i+8:Nat):Int) - 3)) (j:=i+5) (z13 (by omega) (by omega)) (by omega) hd (48+W % 10000 / 100 % 10) rfl
 obtain ⟨p4,H4,d1,d2,d3,d4,d5⟩:=wr1 (c:=c) c3 (w:=IntKind.i64.wrap (((i+8:Nat):Int) - 4)) (j:=i+4) (z13 (by omega) (by omega)) (by omega) hd (48+W % 10000 / 100 / 10) rfl
 obtain ⟨p5,H5,e1,e2,e3,e4,e5⟩:=wr1 (c:=c) d3 (w:=IntKind.i64.wrap (((i+8:Nat):Int) - 5)) (j:=i+3) (z13 (by omega) (by omega)) (by omega) hd (48+W / 10000 % 100 % 10) rfl
 obtain ⟨p6,H6,f1,f2,f3,f4,f5⟩:=wr1 (c:=c) e3 (w:=IntKind.i64.wrap (((i+8:Nat):Int) - 6)) (j:=i+2) (z13 (by omega) (by omega)) (by omega) hd (48+W / 10000 % 100 / 10) rfl
 obtain ⟨p7,H7,g1,g2,g3,g4,g5⟩:=wr1 (c:=c) f3 (w:=IntKind.i64.wrap (((i+8:Nat):Int) - 7)) (j:=i+1) (z13 (by omega) (by omega)) (by omega) hd (48+W / 10000 / 100 % 10) rfl
 obtain ⟨p8,H8,h1,h2,h3,h4,h5⟩:=wr1 (c:=c) g3 (w:=IntKind.i64.wrap (((i+8:Nat):Int) - 8)) (j:=i) (z13 (by omega) (by omega)) (by omega) hd (48+W / 10000 / 100 / 10) rfl
 refine ⟨H8,_,?_,h3,?_,fmI a4 (fmI b4 (fmI c4 (fmI d4 (fmI e4 (fmI f4 (fmI g4 h4)))))),by rw [h5,g5,f5,e5,d5,c5,b5,a5]⟩
 ·unfold z11
  simp only [if_pos (show ((i+8:Nat):Int)≥8 by omega),w32,X0,X1,X2',X2,X3]
  rw [two_hi (X:=((W % 10000 % 100:Nat):Int)) (x:=W % 10000 % 100) ?hs rfl (by omega)]
  simp only [Option.bind_some]
  rw [two_lo (X:=((W % 10000 % 100:Nat):Int)) (x:=W % 10000 % 100) ?hs rfl (by omega)]
  simp only [Option.bind_some,a1,a2,b1,b2]
  rw [two_hi (X:=((W % 10000 / 100:Nat):Int)) (x:=W % 10000 / 100) ?hs rfl (by omega)]
  simp only [Option.bind_some]
  rw [two_lo (X:=((W % 10000 / 100:Nat):Int)) (x:=W % 10000 / 100) ?hs rfl (by omega)]
  simp only [Option.bind_some,c1,c2,d1,d2]
  rw [two_hi (X:=((W / 10000 % 100:Nat):Int)) (x:=W / 10000 % 100) ?hs rfl (by omega)]
  simp only [Option.bind_some]
  rw [two_lo (X:=((W / 10000 % 100:Nat):Int)) (x:=W / 10000 % 100) ?hs rfl (by omega)]
  simp only [Option.bind_some,e1,e2,f1,f2]
  rw [two_hi (X:=((W / 10000 / 100:Nat):Int)) (x:=W / 10000 / 100) ?hs rfl (by omega)]
  simp only [Option.bind_some]
  rw [two_lo (X:=((W / 10000 / 100:Nat):Int)) (x:=W / 10000 / 100) ?hs rfl (by omega)]
  simp only [Option.bind_some,g1,g2,h1,h2]
  rw [show IntKind.u64.wrap (Int.tdiv (v:Int) 100000000)=((v / 100000000:Nat):Int) from zlk rfl (by omega),z13 (n:=i) (by omega) (by omega)]
  all_goals kernel_rfl
 ·have D1:=Dg.pair (i:=i+6) (b1:=48+W % 10000 % 100 % 10) (b2:=48+W % 10000 % 100 / 10) hD (by omega) (by omega)
  have D2:=Dg.pair (i:=i+4) (b1:=48+W % 10000 / 100 % 10) (b2:=48+W % 10000 / 100 / 10) D1 (by omega) (by omega)
  have D3:=Dg.pair (i:=i+2) (b1:=48+W / 10000 % 100 % 10) (b2:=48+W / 10000 % 100 / 10) D2 (by omega) (by omega)
  have D4:=Dg.pair (i:=i) (b1:=48+W / 10000 / 100 % 10) (b2:=48+W / 10000 / 100 / 10) D3 (by omega) (by omega)
  rw [show v / 10 / 10 / 10 / 10 / 10 / 10 / 10 / 10=v / 100000000 by omega] at D4
  exact D4
end
end Go.Proofs.YtgkhbmoidenjaaaDoor
namespace Go.Proofs.YtgkhbmoidenjaaaDoor
open Go Go.Abs Go.Abs.Eg
set_option maxRecDepth 100000
section
variable {m:Nat} {H:AH} {id:Nat} {f:Nat→Nat}
theorem vlt {n d v i:Nat} (hn:n<10 ^ d) (h:Dg n d f v i):v<10 ^ i:=by
 rw [h.v]
 refine Nat.div_lt_of_lt_mul ?_
 rw [← Nat.pow_add,show d - i+i=d by have:=h.le; omega]
 exact hn
theorem vle {n d v i:Nat} (h:Dg n d f v i):v≤n:=by
 rw [h.v]; exact Nat.div_le_self _ _
theorem zn5 (k:Nat) {e:TypeId} {n d c:Nat} (hd:d≤23) (hn:n<18446744073709551616):∀(F i:Nat),i≤F→∀(H:AH) (f:Nat→Nat) (v:Nat),AB e m H id f→Dg n d f v i →
  ∃H' f' v' i',loopO (z11 (LCo k) m ⟨some ⟨id,1,none⟩,d,c⟩) (H,(v:Int),(i:Int))=some (.inl (H',((v':Nat):Int),((i':Nat):Int)))∧i'<8∧AB e m H' id f'∧Dg n d f' v' i'∧Fm (fun i=>i=id) H H'∧H'.next=H.next:=by
 intro F
 induction F with
 | zero =>
  intro i hi H f v h hD
  have:i=0:=by omega
  subst this
  refine ⟨H,f,v,0,z27 ?_,by omega,h,hD,Fm.refl _ _,rfl⟩
  unfold z11
  rfl
 | succ F ih =>
  intro i hi H f v h hD
  by_cases h8:8≤i
  ·obtain ⟨j,rfl⟩:∃j,i=j+8:=⟨i - 8,by omega⟩
   obtain ⟨H1,f1,a1,a2,a3,a4,a5⟩:=zo0 (c:=c) k h hD hd (by have:=vle hD; omega)
   obtain ⟨H2,f2,v2,i2,b1,b2,b3,b4,b5,b6⟩:=ih j (by omega) H1 f1 _ a2 a3
   exact ⟨H2,f2,v2,i2,by rw [z1m a1]; exact b1,b2,b3,b4,fmI a4 b5,by rw [b6,a5]⟩
  ·refine ⟨H,f,v,i,z27 ?_,by omega,h,hD,Fm.refl _ _,rfl⟩
   unfold z11
   simp only [if_neg (show ¬((i:Int)≥8) by omega)]
theorem zke (k:Nat) {e:TypeId} {n d c:Nat} (h:AB e m H id f) (hd:d≤23) (hn:n<18446744073709551616) (hnd:n<10 ^ d) :
  ∃H' f' v',z2j (LCo k) m H ⟨some ⟨id,1,none⟩,d,c⟩ (n:Int)=some H'∧AB e m H' id f'∧Dg n d f' v' 0∧Fm (fun i=>i=id) H H'∧H'.next=H.next:=by
 obtain ⟨H1,f1,v1,i1,a1,a2,a3,a4,a5,a6⟩:=zn5 (m:=m) (c:=c) k hd hn d d (Nat.le_refl _) H f n h (Dg.start n d f)
 have v1lt:=vlt hnd a4
 have hv1:v1<10000000:=Nat.lt_of_lt_of_le v1lt (Nat.pow_le_pow_right (by omega) (show i1≤7 by omega))
 have w1:IntKind.u32.wrap ((v1:Nat):Int)=((v1:Nat):Int):=z2r rfl (by omega)
 have four:∃H2 f2 v2 i2,(if (i1:Int)≥4 then
    Option.bind (bytA (⟨#[48,48,48,49,48,50,48,51,48,52,48,53,48,54,48,55,48,56,48,57,49,48,49,49,49,50,49,51,49,52,49,53,49,54,49,55,49,56,49,57,50,48,50,49,50,50,50,51,50,52,50,53,50,54,50,55,50,56,50,57,51,48,51,49,51,50,51,51,51,52,51,53,51,54,51,55,51,56,51,57,52,48,52,49,52,50,52,51,52,52,52,53,52,54,52,55,52,56,52,57,53,48,53,49,53,50,53,51,53,52,53,53,53,54,53,55,53,56,53,57,54,48,54,49,54,50,54,51,54,52,54,53,54,54,54,55,54,56,54,57,55,48,55,49,55,50,55,51,55,52,55,53,55,54,55,55,55,56,55,57,56,48,56,49,56,50,56,51,56,52,56,53,56,54,56,55,56,56,56,57,57,48,57,49,57,50,57,51,57,52,57,53,57,54,57,55,57,56,57,57]⟩:ByteArray) (IntKind.u32.wrap ((IntKind.u32.wrap ((Int.tmod (Int.tmod (IntKind.u32.wrap ((v1:Nat):Int)) 10000) 100)*2))+1))) fun x34 =>
    Option.bind (bytA (⟨#[48,48,48,49,48,50,48,51,48,52,48,53,48,54,48,55,48,56,48,57,49,48,49,49,49,50,49,51,49,52,49,53,49,54,49,55,49,56,49,57,50,48,50,49,50,50,50,51,50,52,50,53,50,54,50,55,50,56,50,57,51,48,51,49,51,50,51,51,51,52,51,53,51,54,51,55,51,56,51,57,52,48,52,49,52,50,52,51,52,52,52,53,52,54,52,55,52,56,52,57,53,48,53,49,53,50,53,51,53,52,53,53,53,54,53,55,53,56,53,57,54,48,54,49,54,50,54,51,54,52,54,53,54,54,54,55,54,56,54,57,55,48,55,49,55,50,55,51,55,52,55,53,55,54,55,55,55,56,55,57,56,48,56,49,56,50,56,51,56,52,56,53,56,54,56,55,56,56,56,57,57,48,57,49,57,50,57,51,57,52,57,53,57,54,57,55,57,56,57,57]⟩:ByteArray) (IntKind.u32.wrap ((Int.tmod (Int.tmod (IntKind.u32.wrap ((v1:Nat):Int)) 10000) 100)*2))) fun x35 =>
    Option.bind (idxA 1 ⟨some ⟨id,1,none⟩,d,c⟩ (IntKind.i64.wrap ((i1:Int) - 1))) fun p36 =>
    Option.bind (H1.setCell m p36 (Value.int .u8 x34)) fun H37 =>
    Option.bind (idxA 1 ⟨some ⟨id,1,none⟩,d,c⟩ (IntKind.i64.wrap ((i1:Int) - 2))) fun p38 =>
    Option.bind (H37.setCell m p38 (Value.int .u8 x35)) fun H39 =>
    Option.bind (bytA (⟨#[48,48,48,49,48,50,48,51,48,52,48,53,48,54,48,55,48,56,48,57,49,48,49,49,49,50,49,51,49,52,49,53,49,54,49,55,49,56,49,57,50,48,50,49,50,50,50,51,50,52,50,53,50,54,50,55,50,56,50,57,51,48,51,49,51,50,51,51,51,52,51,53,51,54,51,55,51,56,51,57,52,48,52,49,52,50,52,51,52,52,52,53,52,54,52,55,52,56,52,57,53,48,53,49,53,50,53,51,53,52,53,53,53,54,53,55,53,56,53,57,54,48,54,49,54,50,54,51,54,52,54,53,54,54,54,55,54,56,54,57,55,48,55,49,55,50,55,51,55,52,55,53,55,54,55,55,55,56,55,57,56,48,56,49,56,50,56,51,56,52,56,53,56,54,56,55,56,56,56,57,57,48,57,49,57,50,57,51,57,52,57,53,57,54,57,55,57,56,57,57]⟩:ByteArray) (IntKind.u32.wrap ((IntKind.u32.wrap ((IntKind.u32.wrap (Int.tdiv (Int.tmod (IntKind.u32.wrap ((v1:Nat):Int)) 10000) 100))*2))+1))) fun x40 =>
    Option.bind (bytA (⟨#[48,48,48,49,48,50,48,51,48,52,48,53,48,54,48,55,48,56,48,57,49,48,49,49,49,50,49,51,49,52,49,53,49,54,49,55,49,56,49,57,50,48,50,49,50,50,50,51,50,52,50,53,50,54,50,55,50,56,50,57,51,48,51,49,51,50,51,51,51,52,51,53,51,54,51,55,51,56,51,57,52,48,52,49,52,50,52,51,52,52,52,53,52,54,52,55,52,56,52,57,53,48,53,49,53,50,53,51,53,52,53,53,53,54,53,55,53,56,53,57,54,48,54,49,54,50,54,51,54,52,54,53,54,54,54,55,54,56,54,57,55,48,55,49,55,50,55,51,55,52,55,53,55,54,55,55,55,56,55,57,56,48,56,49,56,50,56,51,56,52,56,53,56,54,56,55,56,56,56,57,57,48,57,49,57,50,57,51,57,52,57,53,57,54,57,55,57,56,57,57]⟩:ByteArray) (IntKind.u32.wrap ((IntKind.u32.wrap (Int.tdiv (Int.tmod (IntKind.u32.wrap ((v1:Nat):Int)) 10000) 100))*2))) fun x41 =>
    Option.bind (idxA 1 ⟨some ⟨id,1,none⟩,d,c⟩ (IntKind.i64.wrap ((i1:Int) - 3))) fun p42 =>
    Option.bind (H39.setCell m p42 (Value.int .u8 x40)) fun H43 =>
    Option.bind (idxA 1 ⟨some ⟨id,1,none⟩,d,c⟩ (IntKind.i64.wrap ((i1:Int) - 4))) fun p44 =>
    Option.bind (H43.setCell m p44 (Value.int .u8 x41)) fun H45 =>
    some (H45,(IntKind.i64.wrap ((i1:Int) - 4)),(IntKind.u32.wrap (Int.tdiv (IntKind.u32.wrap ((v1:Nat):Int)) 10000)))
   else some (H1,(i1:Int),(IntKind.u32.wrap ((v1:Nat):Int))):Option (AH×Int×Int))=some (H2,((i2:Nat):Int),((v2:Nat):Int))∧i2<4∧AB e m H2 id f2∧Dg n d f2 v2 i2∧Fm (fun i=>i=id) H1 H2∧H2.next=H1.next:=by
  by_cases h4:4≤i1
  ·obtain ⟨i,rfl⟩:∃j,i1=j+4:=⟨i1 - 4,by omega⟩
   have hle:=a4.le
   have X0:Int.tmod (Int.tmod (v1:Int) 10000) 100=((v1 % 10000 % 100:Nat):Int):=rfl
   have X1:IntKind.u32.wrap (Int.tdiv (Int.tmod (v1:Int) 10000) 100)=((v1 % 10000 / 100:Nat):Int):=z2r rfl (by omega)
   have X2:IntKind.u32.wrap (Int.tdiv (v1:Int) 10000)=((v1 / 10000:Nat):Int):=z2r rfl (by omega)
   obtain ⟨p1,G1,b1,b2,b3,b4,b5⟩:=wr1 (c:=c) a3 (w:=IntKind.i64.wrap (((i+4:Nat):Int) - 1)) (j:=i+3) (z13 (by omega) (by omega)) (by omega) hd (48+v1 % 10000 % 100 % 10) rfl
   obtain ⟨p2,G2,c1,c2,c3,c4,c5⟩:=wr1 (c:=c) b3 (w:=IntKind.i64.wrap (((i+4:Nat):Int) - 2)) (j:=i+2) (z13 (by omega) (by omega)) (by omega) hd (48+v1 % 10000 % 100 / 10) rfl
   obtain ⟨p3,G3,d1,d2,d3,d4,d5⟩:=wr1 (c:=c) c3 (w:=IntKind.i64.wrap (((i+4:Nat):Int) - 3)) (j:=i+1) (z13 (by omega) (by omega)) (by omega) hd (48+v1 % 10000 / 100 % 10) rfl
   obtain ⟨p4,G4,e1,e2,e3,e4,e5⟩:=wr1 (c:=c) d3 (w:=IntKind.i64.wrap (((i+4:Nat):Int) - 4)) (j:=i) (z13 (by omega) (by omega)) (by omega) hd (48+v1 % 10000 / 100 / 10) rfl
   have D1:=Dg.pair (i:=i+2) (b1:=48+v1 % 10000 % 100 % 10) (b2:=48+v1 % 10000 % 100 / 10) a4 (by omega) (by omega)
   have D2:=Dg.pair (i:=i) (b1:=48+v1 % 10000 / 100 % 10) (b2:=48+v1 % 10000 / 100 / 10) D1 (by omega) (by omega)
   rw [show v1 / 10 / 10 / 10 / 10=v1 / 10000 by omega] at D2
   refine ⟨G4,_,v1 / 10000,i,?_,by omega,e3,D2,fmI b4 (fmI c4 (fmI d4 e4)),by rw [e5,d5,c5,b5]⟩
   simp only [if_pos (show ((i+4:Nat):Int)≥4 by omega),w1,X0,X1,X2]
   rw [two_hi (X:=((v1 % 10000 % 100:Nat):Int)) (x:=v1 % 10000 % 100) ?hs rfl (by omega)]
   simp only [Option.bind_some]
   rw [two_lo (X:=((v1 % 10000 % 100:Nat):Int)) (x:=v1 % 10000 % 100) ?hs rfl (by omega)]
   simp only [Option.bind_some,b1,b2,c1,c2]
   rw [two_hi (X:=((v1 % 10000 / 100:Nat):Int)) (x:=v1 % 10000 / 100) ?hs rfl (by omega)]
   simp only [Option.bind_some]
   rw [two_lo (X:=((v1 % 10000 / 100:Nat):Int)) (x:=v1 % 10000 / 100) ?hs rfl (by omega)]
   simp only [Option.bind_some,d1,d2,e1,e2]
   rw [z13 (n:=i) (by omega) (by omega)]
   all_goals kernel_rfl
  ·refine ⟨H1,f1,v1,i1,?_,by omega,a3,a4,Fm.refl _ _,rfl⟩
   rw [if_neg (show ¬((i1:Int)≥4) by omega),w1]
 obtain ⟨H2,f2,v2,i2,b1,b2,b3,b4,b5,b6⟩:=four
 have v2lt:=vlt hnd b4
 have hv2:v2<1000:=Nat.lt_of_lt_of_le v2lt (Nat.pow_le_pow_right (by omega) (show i2≤3 by omega))
 have two:∃H3 f3 v3 i3,(if (i2:Int)≥2 then
    Option.bind (bytA (⟨#[48,48,48,49,48,50,48,51,48,52,48,53,48,54,48,55,48,56,48,57,49,48,49,49,49,50,49,51,49,52,49,53,49,54,49,55,49,56,49,57,50,48,50,49,50,50,50,51,50,52,50,53,50,54,50,55,50,56,50,57,51,48,51,49,51,50,51,51,51,52,51,53,51,54,51,55,51,56,51,57,52,48,52,49,52,50,52,51,52,52,52,53,52,54,52,55,52,56,52,57,53,48,53,49,53,50,53,51,53,52,53,53,53,54,53,55,53,56,53,57,54,48,54,49,54,50,54,51,54,52,54,53,54,54,54,55,54,56,54,57,55,48,55,49,55,50,55,51,55,52,55,53,55,54,55,55,55,56,55,57,56,48,56,49,56,50,56,51,56,52,56,53,56,54,56,55,56,56,56,57,57,48,57,49,57,50,57,51,57,52,57,53,57,54,57,55,57,56,57,57]⟩:ByteArray) (IntKind.u32.wrap ((IntKind.u32.wrap ((Int.tmod ((v2:Nat):Int) 100)*2))+1))) fun x49 =>
    Option.bind (bytA (⟨#[48,48,48,49,48,50,48,51,48,52,48,53,48,54,48,55,48,56,48,57,49,48,49,49,49,50,49,51,49,52,49,53,49,54,49,55,49,56,49,57,50,48,50,49,50,50,50,51,50,52,50,53,50,54,50,55,50,56,50,57,51,48,51,49,51,50,51,51,51,52,51,53,51,54,51,55,51,56,51,57,52,48,52,49,52,50,52,51,52,52,52,53,52,54,52,55,52,56,52,57,53,48,53,49,53,50,53,51,53,52,53,53,53,54,53,55,53,56,53,57,54,48,54,49,54,50,54,51,54,52,54,53,54,54,54,55,54,56,54,57,55,48,55,49,55,50,55,51,55,52,55,53,55,54,55,55,55,56,55,57,56,48,56,49,56,50,56,51,56,52,56,53,56,54,56,55,56,56,56,57,57,48,57,49,57,50,57,51,57,52,57,53,57,54,57,55,57,56,57,57]⟩:ByteArray) (IntKind.u32.wrap ((Int.tmod ((v2:Nat):Int) 100)*2))) fun x50 =>
    Option.bind (idxA 1 ⟨some ⟨id,1,none⟩,d,c⟩ (IntKind.i64.wrap ((i2:Int) - 1))) fun p51 =>
    Option.bind (H2.setCell m p51 (Value.int .u8 x49)) fun H52 =>
    Option.bind (idxA 1 ⟨some ⟨id,1,none⟩,d,c⟩ (IntKind.i64.wrap ((i2:Int) - 2))) fun p53 =>
    Option.bind (H52.setCell m p53 (Value.int .u8 x50)) fun H54 =>
    some (H54,(IntKind.i64.wrap ((i2:Int) - 2)),(IntKind.u32.wrap (Int.tdiv ((v2:Nat):Int) 100)))
   else some (H2,(i2:Int),((v2:Nat):Int)):Option (AH×Int×Int))=some (H3,((i3:Nat):Int),((v3:Nat):Int))∧i3<2∧AB e m H3 id f3∧Dg n d f3 v3 i3∧Fm (fun i=>i=id) H2 H3∧H3.next=H2.next:=by
  by_cases h4:2≤i2
  ·obtain ⟨i,rfl⟩:∃j,i2=j+2:=⟨i2 - 2,by omega⟩
   have hle:=b4.le
   have X0:Int.tmod (v2:Int) 100=((v2 % 100:Nat):Int):=rfl
   obtain ⟨p1,G1,e1,e2,e3,e4,e5⟩:=wr1 (c:=c) b3 (w:=IntKind.i64.wrap (((i+2:Nat):Int) - 1)) (j:=i+1) (z13 (by omega) (by omega)) (by omega) hd (48+v2 % 100 % 10) rfl
   obtain ⟨p2,G2,c1,c2,c3,c4,c5⟩:=wr1 (c:=c) e3 (w:=IntKind.i64.wrap (((i+2:Nat):Int) - 2)) (j:=i) (z13 (by omega) (by omega)) (by omega) hd (48+v2 % 100 / 10) rfl
   have D1:=Dg.pair (i:=i) (b1:=48+v2 % 100 % 10) (b2:=48+v2 % 100 / 10) b4 (by omega) (by omega)
   rw [show v2 / 10 / 10=v2 / 100 by omega] at D1
   refine ⟨G2,_,v2 / 100,i,?_,by omega,c3,D1,fmI e4 c4,by rw [c5,e5]⟩
   simp only [if_pos (show ((i+2:Nat):Int)≥2 by omega),X0]
   rw [two_hi (X:=((v2 % 100:Nat):Int)) (x:=v2 % 100) ?hs2 rfl (by omega)]
   simp only [Option.bind_some]
   rw [two_lo (X:=((v2 % 100:Nat):Int)) (x:=v2 % 100) ?hs2 rfl (by omega)]
   simp only [Option.bind_some,e1,e2,c1,c2]
   rw [z13 (n:=i) (by omega) (by omega),show IntKind.u32.wrap (Int.tdiv ((v2:Nat):Int) 100)=((v2 / 100:Nat):Int) from z2r rfl (by omega)]
   all_goals kernel_rfl
  ·refine ⟨H2,f2,v2,i2,?_,by omega,b3,b4,Fm.refl _ _,rfl⟩
   rw [if_neg (show ¬((i2:Int)≥2) by omega)]
 obtain ⟨H3,f3,v3,i3,c1,c2,c3,c4,c5,c6⟩:=two
 have v3lt:=vlt hnd c4
 have hv3:v3<10:=Nat.lt_of_lt_of_le v3lt (Nat.pow_le_pow_right (by omega) (show i3≤1 by omega))
 have last:∃H4 f4 v4,(if (i3:Int) > 0 then
   Option.bind (idxA 1 ⟨some ⟨id,1,none⟩,d,c⟩ 0) fun p55 =>
   Option.bind (H3.setCell m p55 (Value.int .u8 (IntKind.u8.wrap (IntKind.u32.wrap (48+((v3:Nat):Int)))))) fun H56 =>
   some H56
  else some H3:Option AH)=some H4∧AB e m H4 id f4∧Dg n d f4 v4 0∧Fm (fun i=>i=id) H3 H4∧H4.next=H3.next:=by
  by_cases h4:i3=0
  ·subst h4
   exact ⟨H3,f3,v3,rfl,c3,c4,Fm.refl _ _,rfl⟩
  ·have:i3=1:=by omega
   subst this
   have hle:=c4.le
   have hb:IntKind.u8.wrap (IntKind.u32.wrap (48+((v3:Nat):Int)))=((48+v3:Nat):Int):=by
    rw [z2r (n:=48+v3) (by omega) (by omega)]
    unfold IntKind.wrap
    simp only [IntKind.bits,IntKind.signed,Bool.false_and,Bool.false_eq_true,if_false]
    omega
   obtain ⟨p1,G1,e1,e2,e3,e4,e5⟩:=wr1 (c:=c) c3 (w:=0) (j:=0) rfl (by omega) hd (48+v3) hb
   refine ⟨G1,_,v3 / 10,?_,e3,Dg.one c4 (by omega),e4,e5⟩
   rw [if_pos (show ((1:Nat):Int) > 0 by omega),e1]
   simp only [Option.bind_some,e2]
 obtain ⟨H4,f4,v4,d1,d2,d3,d4,d5⟩:=last
 refine ⟨H4,f4,v4,?_,d2,d3,fmI a5 (fmI b5 (fmI c5 d4)),by rw [d5,c6,b6,a6]⟩
 unfold z2j
 refine (congrArg (fun o=>Option.bind o _) (show (LCo k).run (z11 (LCo k) m ⟨some ⟨id,1,none⟩,d,c⟩) (H,(n:Int),((d:Nat):Int))=_ from a1)).trans ?_
 simp only [Option.bind_some]
 refine (congrArg (fun o=>Option.bind o _) b1).trans ?_
 simp only [Option.bind_some]
 refine (congrArg (fun o=>Option.bind o _) c1).trans ?_
 simp only [Option.bind_some]
 exact d1
end
end Go.Proofs.YtgkhbmoidenjaaaDoor
namespace Go.Proofs.YtgkhbmoidenjaaaDoor
open Go Go.Abs Go.Abs.Eg
set_option maxRecDepth 100000
section
variable {m:Nat} {H:AH} {id:Nat} {f:Nat→Nat}
def okL (s:ByteArray):Bool:=(List.range 256).all fun x=>(List.range 9).any fun l=>bytA s ((x:Nat):Int) == some ((l:Nat):Int)&&Nat.blt x (2 ^ l)&&(x == 0||(Nat.ble 1 l&&Nat.ble (2 ^ (l - 1)) x))
theorem okL_at {s:ByteArray} (hs:okL s=true) {x:Nat} (hx:x<256):∃l,l≤8∧bytA s ((x:Nat):Int)=some ((l:Nat):Int)∧x<2 ^ l∧(1≤x→1≤l∧2 ^ (l - 1)≤x):=by
 have h:=List.all_eq_true.1 hs x (by simp; omega)
 obtain ⟨l,hl,h⟩:=List.any_eq_true.1 h
 simp only [Bool.and_eq_true,Bool.or_eq_true,beq_iff_eq,Nat.blt_eq,Nat.ble_eq] at h
 obtain ⟨⟨h1,h2⟩,h3⟩:=h
 exact ⟨l,by simp at hl; omega,h1,h2,fun hx=>h3.resolve_left (by omega)⟩
theorem znt {n x y l:Nat} (hx:x=n / 2 ^ y) (h1:x<2 ^ l) (h2:1≤x→1≤l∧2 ^ (l - 1)≤x) (hy:y=0∨1≤x):n<2 ^ (y+l)∧(1≤n→1≤y+l∧2 ^ (y+l - 1)≤n):=by
 have hp:0<2 ^ y:=Nat.two_pow_pos y
 refine ⟨?_,fun hn=>?_⟩
 ·rw [hx,Nat.div_lt_iff_lt_mul hp] at h1
  rw [Nat.pow_add,Nat.mul_comm]
  exact h1
 ·have hx1:1≤x:=by
   rcases hy with e | e
   ·subst e; simp at hx; omega
   ·exact e
  obtain ⟨h3,h4⟩:=h2 hx1
  refine ⟨by omega,?_⟩
  rw [hx,Nat.le_div_iff_mul_le hp] at h4
  rw [show y+l - 1=(l - 1)+y by omega,Nat.pow_add]
  exact h4
theorem zj1 (L:LC) {n:Nat} (hn:n<18446744073709551616):∃l,l≤64∧z69 L (n:Int)=some ((l:Nat):Int)∧n<2 ^ l∧(1≤n→1≤l∧2 ^ (l - 1)≤n):=by
 have s1:∃x y:Nat,(if (n:Int)≥4294967296 then some ((ishr .u64 (n:Int) 32),32) else some ((n:Int),0):Option (Int×Int))=some (((x:Nat):Int),((y:Nat):Int))∧x=n / 2 ^ y∧(y=0∨1≤x)∧x<4294967296∧y≤32:=by
  by_cases h:4294967296≤n
  ·refine ⟨n / 4294967296,32,?_,rfl,.inr (by omega),by omega,by omega⟩
   rw [if_pos (by omega),show ishr .u64 (n:Int) 32=((n / 4294967296:Nat):Int) from zad (k:=.u64) (x:=n) (n:=32) rfl rfl (by decide)]
   rfl
  ·exact ⟨n,0,by rw [if_neg (by omega)]; rfl,by simp,.inl rfl,by omega,by omega⟩
 obtain ⟨x1,y1,a1,a2,a3,a4,a5⟩:=s1
 have s2:∃x y:Nat,(if ((x1:Nat):Int)≥65536 then some ((ishr .u64 ((x1:Nat):Int) 16),(IntKind.i64.wrap (((y1:Nat):Int)+16))) else some (((x1:Nat):Int),((y1:Nat):Int)):Option (Int×Int))=some (((x:Nat):Int),((y:Nat):Int))∧x=n / 2 ^ y∧(y=0∨1≤x)∧x<65536∧y≤48:=by
  by_cases h:65536≤x1
  ·refine ⟨x1 / 65536,y1+16,?_,?_,.inr (by omega),by omega,by omega⟩
   ·rw [if_pos (by omega),show ishr .u64 ((x1:Nat):Int) 16=((x1 / 65536:Nat):Int) from zad (k:=.u64) (x:=x1) (n:=16) rfl rfl (by decide),z13 (n:=y1+16) (by omega) (by omega)]
   ·rw [a2,Nat.div_div_eq_div_mul,Nat.pow_add]
  ·exact ⟨x1,y1,by rw [if_neg (by omega)],a2,a3,by omega,by omega⟩
 obtain ⟨x2,y2,b1,b2,b3,b4,b5⟩:=s2
 have s3:∃x y:Nat,(if ((x2:Nat):Int)≥256 then some ((ishr .u64 ((x2:Nat):Int) 8),(IntKind.i64.wrap (((y2:Nat):Int)+8))) else some (((x2:Nat):Int),((y2:Nat):Int)):Option (Int×Int))=some (((x:Nat):Int),((y:Nat):Int))∧x=n / 2 ^ y∧(y=0∨1≤x)∧x<256∧y≤56:=by
  by_cases h:256≤x2
  ·refine ⟨x2 / 256,y2+8,?_,?_,.inr (by omega),by omega,by omega⟩
   ·rw [if_pos (by omega),show ishr .u64 ((x2:Nat):Int) 8=((x2 / 256:Nat):Int) from zad (k:=.u64) (x:=x2) (n:=8) rfl rfl (by decide),z13 (n:=y2+8) (by omega) (by omega)]
   ·rw [b2,Nat.div_div_eq_div_mul,Nat.pow_add]
  ·exact ⟨x2,y2,by rw [if_neg (by omega)],b2,b3,by omega,by omega⟩
 obtain ⟨x3,y3,c1,c2,c3,c4,c5⟩:=s3
 have hw8:IntKind.u8.wrap ((x3:Nat):Int)=((x3:Nat):Int):=by
  unfold IntKind.wrap
  simp only [IntKind.bits,IntKind.signed,Bool.false_and,Bool.false_eq_true,if_false]
  omega
 obtain ⟨l,d1,d2,d3,d4⟩:=okL_at (s:=(⟨#[0,1,2,2,3,3,3,3,4,4,4,4,4,4,4,4,5,5,5,5,5,5,5,5,5,5,5,5,5,5,5,5,6,6,6,6,6,6,6,6,6,6,6,6,6,6,6,6,6,6,6,6,6,6,6,6,6,6,6,6,6,6,6,6,7,7,7,7,7,7,7,7,7,7,7,7,7,7,7,7,7,7,7,7,7,7,7,7,7,7,7,7,7,7,7,7,7,7,7,7,7,7,7,7,7,7,7,7,7,7,7,7,7,7,7,7,7,7,7,7,7,7,7,7,7,7,7,7,8,8,8,8,8,8,8,8,8,8,8,8,8,8,8,8,8,8,8,8,8,8,8,8,8,8,8,8,8,8,8,8,8,8,8,8,8,8,8,8,8,8,8,8,8,8,8,8,8,8,8,8,8,8,8,8,8,8,8,8,8,8,8,8,8,8,8,8,8,8,8,8,8,8,8,8,8,8,8,8,8,8,8,8,8,8,8,8,8,8,8,8,8,8,8,8,8,8,8,8,8,8,8,8,8,8,8,8,8,8,8,8,8,8,8,8,8,8,8,8,8,8,8,8,8,8,8,8]⟩:ByteArray)) (by kernel_rfl) c4
 obtain ⟨e1,e2⟩:=znt c2 d3 d4 c3
 refine ⟨y3+l,by omega,?_,e1,e2⟩
 unfold z69
 refine (congrArg (fun o=>Option.bind o _) a1).trans ?_
 simp only [Option.bind_some]
 refine (congrArg (fun o=>Option.bind o _) b1).trans ?_
 simp only [Option.bind_some]
 refine (congrArg (fun o=>Option.bind o _) c1).trans ?_
 simp only [Option.bind_some]
 rw [hw8]
 refine (congrArg (fun o=>Option.bind o _) d2).trans ?_
 simp only [Option.bind_some]
 rw [z13 (x:=((l:Nat):Int)) (n:=l) rfl (by omega),z13 (n:=y3+l) (by omega) (by omega)]
def isI (v:Option Value) (n:Nat):Bool:=match v with
 | some (.int .u64 z)=>decide (z=(n:Int))
 | _=>false
theorem isI_eq {v:Option Value} {n:Nat} (h:isI v n=true):v=some (.int .u64 ((n:Nat):Int)):=by
 unfold isI at h
 split at h
 ·rw [of_decide_eq_true h]
 ·cases h
theorem znf:(List.range 20).all (fun t=>isI ((tabs.head?).bind fun x=>x.2.2[t]?) (10 ^ t))=true:=by kernel_rfl
theorem zlu:∃x,tabs=[x]∧x.1=0:=⟨_,rfl,rfl⟩
theorem pow_rd (hT:HasT H) {t:Nat} (ht:t<20):rd (deI .u64) H ((⟨0,0,none⟩:Addr).add (t*1))=some ((10 ^ t:Nat):Int):=by
 obtain ⟨x,hx,hg⟩:=zlu
 have h:=List.all_eq_true.1 znf t (by simp; omega)
 rw [hx] at h
 simp only [List.head?_cons,Option.bind_some] at h
 have hv:x.2.2[t]? = some (.int .u64 ((10 ^ t:Nat):Int)):=isI_eq h
 have hT':=hT x (by rw [hx]; simp)
 rw [hg] at hT'
 have hc:H.cell ((⟨0,0,none⟩:Addr).add (t*1))=some (.int .u64 ((10 ^ t:Nat):Int)):=by
  rw [z2e]
  exact z7n (a:=⟨0,0+t*1,none⟩) hT'.1 rfl rfl (by simpa using hv)
 unfold rd
 rw [hc]
 rfl
theorem ze1 (L:LC) (hT:HasT H) {n:Nat} (hn:n<18446744073709551616) (h1:1≤n):z38 L H (n:Int)=some ((nd n:Nat):Int)∧nd n≤20:=by
 obtain ⟨l,a1,a2,a3,a4⟩:=zj1 L hn
 obtain ⟨a5,a6⟩:=a4 h1
 obtain ⟨b1,b2⟩:=nd_log h1 a5 a1 a6 a3
 have b3:nd n≤20:=by rw [b2]; split <;> omega
 refine ⟨?_,b3⟩
 unfold z38
 rw [a2]
 simp only [Option.bind_some]
 have hlog:z37 L ((l:Nat):Int)=some ((l*78913 / 262144:Nat):Int):=by
  unfold z37
  rw [z13 (n:=l*78913) (by omega) (by omega),show ishr .i64 ((l*78913:Nat):Int) 18=((l*78913 / 262144:Nat):Int) from zad (k:=.i64) (x:=l*78913) (n:=18) rfl rfl (by decide)]
 rw [hlog]
 simp only [Option.bind_some]
 have hix:idxR 1 20 (⟨0,0,none⟩:Addr) ((l*78913 / 262144:Nat):Int)=some ((⟨0,0,none⟩:Addr).add ((l*78913 / 262144)*1)):=by
  unfold idxR
  rw [if_pos (by omega),Int.toNat_natCast]
 rw [hix]
 simp only [Option.bind_some]
 rw [pow_rd hT (by omega)]
 simp only [Option.bind_some]
 unfold z5a
 by_cases h:10 ^ (l*78913 / 262144)≤n
 ·rw [if_pos h] at b2
  rw [if_pos (decide_eq_true (by exact Int.ofNat_le.2 h))]
  simp only [Option.bind_some]
  rw [z13 (n:=nd n) (by rw [b2]; omega) (by omega)]
 ·rw [if_neg h] at b2
  rw [if_neg (by rw [decide_eq_true_eq]; exact fun hh=>h (Int.ofNat_le.1 hh))]
  simp only [Option.bind_some]
  rw [z13 (n:=nd n) (by rw [b2]; omega) (by omega)]
end
end Go.Proofs.YtgkhbmoidenjaaaDoor
namespace Go.Proofs.YtgkhbmoidenjaaaDoor
open Go Go.Abs Go.Abs.Eg
set_option maxRecDepth 100000
section
variable {m:Nat} {H:AH} {id:Nat} {f:Nat→Nat}
def smallL (a:Nat):List Nat:=if a<10 then [48+a] else [48+a / 10,48+a % 10]
def isB (v:Option ByteArray) (l:List Nat):Bool:=match v with
 | some b=>b.data.toList == l.map Nat.toUInt8
 | none=>false
theorem isB_eq {v:Option ByteArray} {l:List Nat} (h:isB v l=true):v=some (bytesL l):=by
 unfold isB at h
 split at h
 ·rename_i b
  have:b.data.toList=l.map Nat.toUInt8:=by simpa using h
  congr 1
  unfold bytesL
  apply ByteArray.ext
  simp only [← this,Array.toArray_toList]
 ·cases h
theorem zlp (L:LC):(List.range 100).all (fun a=>isB (z5c L ((a:Nat):Int)) (smallL a))=true:=by kernel_rfl
theorem zj6 {a:Nat} (h:a<100):itoaL (a:Int)=smallL a:=by
 unfold itoaL smallL
 rw [if_neg (by omega),Int.natAbs_natCast,List.nil_append]
 by_cases h1:a<10
 ·rw [z5g h1,if_pos h1]
  show []++[48+a % 10]=_
  rw [Nat.mod_eq_of_lt h1]; rfl
 ·rw [nd_big h1,z5g (by omega),if_neg h1]
  show ([]++[48+a / 10 % 10])++[48+a % 10]=_
  rw [Nat.mod_eq_of_lt (show a / 10<10 by omega)]; rfl
theorem bts_AB {e:TypeId} (h:AB e m H id f) {o c:Nat} {cs:List Nat} (ho:o+cs.length≤24) (hcs:∀(i:Nat) (hi:i<cs.length),f (o+i)=cs[i]):bts H ⟨some ⟨id,o,none⟩,cs.length,c⟩=some (bytesL cs):=by
 unfold bts
 have:=rdBytesQ (H:=H) (a:=⟨id,o,none⟩) cs 0 fun i hi=>by
  have:=h.cell (j:=o+i) (by omega)
  rw [hcs i hi] at this
  rw [z2e] at this ⊢
  rw [Nat.zero_add] at this ⊢
  exact this
 simp only [this]
 rfl
theorem wrapU (x:Int):IntKind.u64.wrap x=x % 18446744073709551616:=by
 unfold IntKind.wrap
 simp only [IntKind.bits,IntKind.signed,Bool.false_and,Bool.false_eq_true,if_false]
 rfl
theorem zdy (k:Nat) (hT:HasT H) (hm:m≤H.next) {a:Int} (h0:-9223372036854775808≤a) (h1:a<9223372036854775808):∃H',z23 (LCo k) m H a 10=some (bytesL (itoaL a),H')∧Ext H H':=by
 by_cases hs:0≤a∧a<100
 ·obtain ⟨n,rfl⟩:∃n:Nat,a=n:=⟨a.toNat,by omega⟩
  refine ⟨H,?_,Fm.refl _ _⟩
  have h:=isB_eq (List.all_eq_true.1 (zlp (LCo k)) n (by simp; omega))
  unfold z23
  rw [if_pos rfl,if_pos hs.1]
  simp only [Option.bind_some,decide_eq_true hs.2,if_true]
  rw [h,zj6 (by omega)]
  rfl
 ·have hn1:1≤a.natAbs:=by omega
  have hn2:a.natAbs<18446744073709551616:=by omega
  have hn3:a.natAbs<10 ^ (18+1):=by
   have:(10:Nat) ^ (18+1)=10000000000000000000:=by decide
   rw [this]; omega
  have hv:(if a<0 then some (IntKind.u64.wrap (0 - (IntKind.u64.wrap a))) else some (IntKind.u64.wrap a):Option Int)=some ((a.natAbs:Nat):Int):=by
   rw [wrapU,wrapU]
   split
   ·congr 1; omega
   ·congr 1; omega
  have hd19:=nd_le 18 _ hn3
  let H4:=H.push (pubB 149 [(Value.int .u8 0),(Value.int .u8 0),(Value.int .u8 0),(Value.int .u8 0),(Value.int .u8 0),(Value.int .u8 0),(Value.int .u8 0),(Value.int .u8 0),(Value.int .u8 0),(Value.int .u8 0),(Value.int .u8 0),(Value.int .u8 0),(Value.int .u8 0),(Value.int .u8 0),(Value.int .u8 0),(Value.int .u8 0),(Value.int .u8 0),(Value.int .u8 0),(Value.int .u8 0),(Value.int .u8 0),(Value.int .u8 0),(Value.int .u8 0),(Value.int .u8 0),(Value.int .u8 0)])
  have x4:Ext H H4:=Fm.push _ _ _
  have hA:AB 149 m H4 H.next fun _=>0:=AB.new (by rfl) hm
  obtain ⟨hnd,_⟩:=ze1 (LCo k) (hT.ext x4) hn2 hn1
  obtain ⟨d,hd⟩:∃d,d=nd a.natAbs:=⟨_,rfl⟩
  have hdp:1≤d:=by rw [hd]; exact nd_pos _
  have hlt:a.natAbs<10 ^ d:=by rw [hd]; exact nd_lt _
  rw [← hd] at hnd hd19
  have hw1:IntKind.i64.wrap (1+(d:Int))=((1+d:Nat):Int):=z13 (by omega) (by omega)
  obtain ⟨H8,f8,v8,a1,a2,a3,a4,a5⟩:=zke (c:=23) k hA (d:=d) (by omega) hn2 hlt
  have hf8:∀(i:Nat) (hi:i<(decD d a.natAbs).length),f8 (1+i)=(decD d a.natAbs)[i]:=fun i hi=>by
   have:=a3.done (j:=i) (by rw [z3g] at hi; exact hi)
   rw [List.getElem?_eq_getElem hi] at this
   exact Option.some.inj this
  have x8:Ext H H8:=⟨Nat.le_trans x4.1 a4.1,fun id b hid hw hg=>a4.2 id b (Nat.lt_of_lt_of_le hid x4.1) (by show ¬id=H.next; omega) (x4.2 id b hid hw hg)⟩
  have hs7:slcR 1 24 ⟨H.next,0,none⟩ (some 1) (some ((1+d:Nat):Int))=some ⟨some ⟨H.next,1,none⟩,d,23⟩:=by
   unfold slcR
   simp only [Option.getD_some]
   rw [if_pos (by unfold OPEN; omega)]
   simp only [show ¬(24=(1:Int).toNat) by decide,if_false,Option.some.injEq,Sl3.mk.injEq]
   refine ⟨?_,by omega,by decide⟩
   rw [z2e]; rfl
  have pre:z23 (LCo k) m H a 10=if a<0 then
    Option.bind (idxR 1 24 ⟨H.next,0,none⟩ 0) fun p9=>Option.bind (H8.setCell m p9 (Value.int .u8 45)) fun H10=>Option.bind (slcR 1 24 ⟨H.next,0,none⟩ none (some ((1+d:Nat):Int))) fun s11=>Option.bind (bts H10 s11) fun s12=>some (s12,H10)
    else Option.bind (bts H8 ⟨some ⟨H.next,1,none⟩,d,23⟩) fun s14=>some (s14,H8):=by
   unfold z23
   rw [if_pos rfl]
   have hsm:(if 0≤a then some (decide (a<100)) else some false:Option Bool)=some false:=by
    split
    ·rw [decide_eq_false (by omega)]
    ·rfl
   refine (congrArg (fun o=>Option.bind o _) hsm).trans ?_
   simp only [Option.bind_some,Bool.false_eq_true,if_false]
   refine (congrArg (fun o=>Option.bind o _) (show newB 149 _ H=some (⟨H.next,0,none⟩,H4) from rfl)).trans ?_
   simp only [Option.bind_some]
   refine (congrArg (fun o=>Option.bind o _) hv).trans ?_
   simp only [Option.bind_some]
   rw [hnd]
   simp only [Option.bind_some,hw1,hs7]
   rw [a1]
   rfl
  rw [pre]
  by_cases hneg:a<0
  ·rw [if_pos hneg]
   obtain ⟨H9,b1,b2,b3,b4⟩:=a2.put (j:=0) (by omega) 45
   have hix:idxR 1 24 ⟨H.next,0,none⟩ 0=some ((⟨H.next,0,none⟩:Addr).add 0):=rfl
   have hs11:slcR 1 24 ⟨H.next,0,none⟩ none (some ((1+d:Nat):Int))=some ⟨some ⟨H.next,0,none⟩,(45 :: decD d a.natAbs).length,24⟩:=by
    unfold slcR
    simp only [Option.getD_some,Option.getD_none]
    rw [if_pos (by unfold OPEN; omega)]
    simp only [show ¬(24=(0:Int).toNat) by decide,if_false,Option.some.injEq,Sl3.mk.injEq]
    refine ⟨?_,by rw [List.length_cons,z3g]; omega,by decide⟩
    rw [z2e]; rfl
   have hb:=bts_AB b2 (o:=0) (c:=24) (cs:=45 :: decD d a.natAbs) (by rw [List.length_cons,z3g]; omega) fun i hi=>by
    cases i with
    | zero=>rfl
    | succ i =>
     show upd f8 0 45 (0+(i+1))=(decD d a.natAbs)[i]'(by simpa using hi)
     unfold upd
     rw [if_neg (by omega),← hf8 i (by simpa using hi)]
     congr 1
     omega
   refine ⟨H9,?_,⟨Nat.le_trans x8.1 b3.1,fun id b hid hw hg=>b3.2 id b (Nat.lt_of_lt_of_le hid x8.1) (by show ¬id=H.next; omega) (x8.2 id b hid hw hg)⟩⟩
   rw [hix]
   simp only [Option.bind_some]
   have b1':H8.setCell m ((⟨H.next,0,none⟩:Addr).add 0) (Value.int .u8 45)=some H9:=b1
   rw [b1']
   simp only [Option.bind_some]
   rw [hs11]
   simp only [Option.bind_some]
   rw [hb]
   simp only [Option.bind_some]
   unfold itoaL
   rw [if_pos hneg,← hd]
   rfl
  ·rw [if_neg hneg]
   have hb:=bts_AB a2 (o:=1) (c:=23) (cs:=decD d a.natAbs) (by rw [z3g]; omega) hf8
   rw [z3g] at hb
   refine ⟨H8,?_,x8⟩
   rw [hb]
   simp only [Option.bind_some]
   unfold itoaL
   rw [if_neg hneg,← hd]
   rfl
theorem zez (k:Nat) (hT:HasT H) (hm:m≤H.next) {a:Int} (h0:-9223372036854775808≤a) (h1:a<9223372036854775808):∃H',z3s (LCo k) m H a=some (bytesL (itoaL a),H')∧Ext H H':=by
 obtain ⟨H',a1,a2⟩:=zdy k hT hm h0 h1
 refine ⟨H',?_,a2⟩
 unfold z3s z47
 rw [a1]
 rfl
theorem zcy {a:Int} (h0:-9223372036854775808≤a) (h1:a<9223372036854775808):(itoaL a).length≤20:=by
 unfold itoaL
 rw [List.length_append,z3g]
 have:a.natAbs<10 ^ (18+1):=by
  have:(10:Nat) ^ (18+1)=10000000000000000000:=by decide
  rw [this]; omega
 have:=nd_le 18 _ this
 split <;> simp <;> omega
theorem cat_ok {l l':List Nat} (h:l.length+l'.length≤9223372036854775807):strcat (bytesL l) (bytesL l')=some (bytesL (l++l')):=by
 unfold strcat
 rw [zcj,zcj,if_neg (by rw [show IntKind.i64.max=9223372036854775807 from rfl]; omega),zfg]
theorem zlj (k m2:Nat) {sl:Sl3} {l:List Nat} (hl:l.length≤64) (hla:∀a∈l,a≤1048576) {pre:List Nat} (hp:pre.length≤1000):∀(d i:Nat) (H:AH),i+d=l.length→HasT H→m≤H.next→(∀H',Ext H H'→SlA EI 3 m2 H' l sl) →
  ∃H',loopO (z2v (LCo k) m sl) (H,bytesL (pre++argsL (l.take i)),(i:Int))=some (.inl (H',bytesL (pre++argsL l),(l.length:Int)))∧Ext H H':=by
 have hal:∀(l:List Nat),(∀a∈l,a≤1048576)→(argsL l).length≤21*l.length:=by
  intro l
  induction l with
  | nil=>intro _; exact Nat.le_refl _
  | cons a l ih =>
   intro h
   have h1:=ih fun b hb=>h b (List.mem_cons_of_mem _ hb)
   have h2:=h a (by simp)
   have h3:=zcy (a:=(a:Int)) (by omega) (by omega)
   show (32 :: (itoaL (a:Int))++argsL l).length≤_
   simp only [List.length_append,List.length_cons]
   omega
 intro d
 induction d with
 | zero =>
  intro i H hi hT hm hs
  have:i=l.length:=by omega
  subst this
  have h0:=(hs H (Fm.refl _ _)).cnt
  refine ⟨H,?_,Fm.refl _ _⟩
  rw [List.take_length]
  refine z27 ?_
  unfold z2v
  simp only [h0,if_neg (show ¬((l.length:Int)<(l.length:Int)) by omega)]
 | succ d ih =>
  intro i H hi hT hm hs
  have hil:i<l.length:=by omega
  have h0:=hs H (Fm.refl _ _)
  obtain ⟨q,r1,r2⟩:=rd_EI h0 hil (v:=(i:Int)) rfl
  have hli:=hla _ (List.getElem_mem hil)
  obtain ⟨H1,a1,a2⟩:=zez k hT hm (a:=((l[i]:Nat):Int)) (by omega) (by omega)
  have ln1:=zcy (a:=((l[i]:Nat):Int)) (by omega) (by omega)
  have ln2:=hal (l.take i) fun a ha=>hla a (List.mem_of_mem_take ha)
  rw [List.length_take] at ln2
  have c1:strcat (⟨#[32]⟩:ByteArray) (bytesL (itoaL ((l[i]:Nat):Int)))=some (bytesL (32 :: itoaL ((l[i]:Nat):Int))):=cat_ok (l:=[32]) (by simp only [List.length_singleton]; omega)
  have c2:strcat (bytesL (pre++argsL (l.take i))) (bytesL (32 :: itoaL ((l[i]:Nat):Int)))=some (bytesL (pre++argsL (l.take (i+1)))):=by
   rw [cat_ok (by simp only [List.length_append,List.length_cons]; omega),List.take_succ_eq_append_getElem hil]
   congr 2
   unfold argsL
   rw [List.flatMap_append,List.append_assoc]
   congr 2
   simp
  obtain ⟨H2,b1,b2⟩:=ih (i+1) H1 (by omega) (hT.ext a2) (Nat.le_trans hm a2.1) fun H' hx=>hs H' (a2.trans hx)
  refine ⟨H2,?_,a2.trans b2⟩
  rw [← b1]
  refine z1m ?_
  unfold z2v
  simp only [h0.cnt,if_pos (show (i:Int)<(l.length:Int) by omega),r1,r2,Option.bind_some,a1,c1,c2]
  rw [zv (n:=l.length) hil (by rw [z1g]; omega)]
theorem zmv {T:Tys} {Tb:AH→Prop} (hI:T.I=3) (htab:∀H,Tb H→HasT H) (htb:∀{H H':AH} {W:Nat→Prop},Tb H→Fm W H H'→(∀id,W id→m≤id)→Tb H'):Env T txK m Tb:=by
 refine ⟨znl,htb,fun k m1 m2 H v s sl l hb hm hs hla hl h0 h1=>?_⟩
 rw [hI] at hs
 have hT:=htab H hb
 obtain ⟨H1,a1,a2⟩:=zez (m:=m1) k hT hm h0 h1
 have ln1:=zcy h0 h1
 obtain ⟨H2,b1,b2⟩:=zlj (m:=m1) k m2 hl hla (pre:=(if v then 118 else 115) :: itoaL s) (by simp only [List.length_cons]; omega) l.length 0 H1 (by omega) (hT.ext a2) (Nat.le_trans hm a2.1) fun H' hx=>hs.ext (a2.trans hx)
 refine ⟨H2,?_,a2.trans b2⟩
 have c1:strcat (bytesL [if v then 118 else 115]) (bytesL (itoaL s))=some (bytesL ((if v then 118 else 115) :: itoaL s)):=cat_ok (l:=[if v then 118 else 115]) (by simp only [List.length_singleton]; omega)
 have hv:(if v=true then some (⟨#[118]⟩:ByteArray) else some (⟨#[115]⟩:ByteArray):Option ByteArray)=some (bytesL [if v then 118 else 115]):=by cases v <;> rfl
 unfold z40
 refine (congrArg (fun o=>Option.bind o _) hv).trans ?_
 simp only [Option.bind_some]
 rw [a1]
 simp only [Option.bind_some]
 rw [c1]
 simp only [Option.bind_some]
 have b1':(LCo k).run (z2v (LCo k) m1 sl) (H1,bytesL ((if v then 118 else 115) :: itoaL s),0)=some (.inl (H2,bytesL (((if v then 118 else 115) :: itoaL s)++argsL l),(l.length:Int))):=by
  have e:((if v then 118 else 115) :: itoaL s)++argsL (l.take 0)=(if v then 118 else 115) :: itoaL s:=by simp [argsL]
  rw [e] at b1
  exact b1
 rw [b1']
 rfl
end
end Go.Proofs.YtgkhbmoidenjaaaDoor
namespace Go.Proofs.YtgkhbmoidenjaaaDoor
open Go Go.Abs Go.Abs.Eg
set_option maxRecDepth 100000
theorem strK:KeyK Tryd.prog 9 (fun s:ByteArray=>Value.string s):=by
 refine ⟨⟨.string,by kernel_rfl,.inl fun a b=>?_⟩,fun a b=>by kernel_rfl,fun a=>?_⟩
 ·show some (a == b)=_
  rw [ba_beq]
 ·show (a == a)=true
  rw [ba_beq]; simp
theorem mp:MP Tryd.prog 58 9 3:=⟨strK,by kernel_rfl,by kernel_rfl⟩
theorem del_eq (m:Nat) (H H':AH) (r:Option Nat) (s:ByteArray) (h:aDelete Tryd.prog m #[58] [.map r,.string s] H=some (.tuple #[],H')):gOp Tryd.prog m (opsOf (cfst (csnd (csnd (csnd (cfst (cfst (csnd (csnd (cfst (cfst (csnd (cfst (csnd (csnd B73))))))))))))))) 7 [(65,.val (Value.map r)),(68,.val (Value.string s))] deV H=some (.tuple #[],H'):=by
 unfold gOp
 rw [show runOp Tryd.prog (NE.plain 0) ih0 m (opAt (opsOf (cfst (csnd (csnd (csnd (cfst (cfst (csnd (csnd (cfst (cfst (csnd (cfst (csnd (csnd B73))))))))))))))) 7) (evV [(65,.val (Value.map r)),(68,.val (Value.string s))]) H=aDelete Tryd.prog m #[58] [.map r,.string s] H from by kernel_rfl]
 rw [h]
 rfl
theorem min_eq (a b:Int) (H:AH):gOp1 Tryd.prog (opsOf (cfst (csnd (csnd (csnd (csnd (csnd (csnd (csnd (csnd (csnd B73))))))))))) 9 [(166,.val (Value.int .i64 a)),(170,.val (Value.int .i64 b))] (deI .i64) H=some (min a b):=by
 have h:runOp Tryd.prog (NE.plain 0) ih0 0 (opAt (opsOf (cfst (csnd (csnd (csnd (csnd (csnd (csnd (csnd (csnd (csnd B73))))))))))) 9) (evV [(166,.val (Value.int .i64 a)),(170,.val (Value.int .i64 b))]) H=some (.int .i64 (if b<a then b else a),H):=by kernel_rfl
 unfold gOp1 gOp
 rw [h]
 show some (if b<a then b else a)=some (min a b)
 congr 1
 split <;> omega
theorem pe {T:Tys}:PE T 58 9 3:=⟨mp,del_eq,min_eq⟩
end Go.Proofs.YtgkhbmoidenjaaaDoor
