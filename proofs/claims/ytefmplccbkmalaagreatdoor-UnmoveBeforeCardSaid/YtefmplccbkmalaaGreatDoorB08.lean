import Derived.Test.YtefmplccbkmalaaGreatDoorB07
set_option maxRecDepth 100000
set_option maxHeartbeats 12800000
namespace Go.Proofs.YtefmplccbkmalaaGreatDoor
open Go.RowKit

def leapsL:List (Int×Int):=[(1,2),(2,1),(2,-1),(1,-2),(-1,-2),(-2,-1),(-2,1),(-1,2)]
def diagL:List (Int×Int):=[(1,1),(-1,1),(-1,-1),(1,-1)]
def strL:List (Int×Int):=[(1,0),(0,1),(-1,0),(0,-1)]
def bq(w:World):Prop:=cg w 5 0 leapsL∧cg w 6 0 diagL∧cg w 7 0 strL∧w.cell? ⟨3,0,none⟩=some (.int .i64 8)∧w.cell? ⟨3,1,none⟩=some (.int .i64 8)
theorem bq.call{w w':World}(h:bq w)(hb:Below w.heap.size w w'):bq w':=by obtain⟨h1,h2,h3,h4,h5⟩:=h;have hs:=h3.1;exact⟨h1.call hb,h2.call hb,h3.call hb,(hb.cell (p:=⟨3,0,none⟩) (by show 3<w.heap.size;omega)).trans h4,(hb.cell (p:=⟨3,1,none⟩) (by show 3<w.heap.size;omega)).trans h5⟩
theorem AN(W:World):(Instr.sliceAt 182 (.pointer (some ⟨5,0,none⟩)) none none none).run Tryz.prog W=.ok (.slice (some ⟨5,0,none⟩) 8 8) W:=by kernel_rfl
theorem vA(W:World):(Instr.sliceAt 184 (.pointer (some ⟨6,0,none⟩)) none none none).run Tryz.prog W=.ok (.slice (some ⟨6,0,none⟩) 4 4) W:=by kernel_rfl
theorem uT(W:World):(Instr.sliceAt 184 (.pointer (some ⟨7,0,none⟩)) none none none).run Tryz.prog W=.ok (.slice (some ⟨7,0,none⟩) 4 4) W:=by kernel_rfl
theorem uW:∀ x∈leapsL,(-2≤x.1∧x.1≤2)∧(-2≤x.2∧x.2≤2):=by decide
theorem wU:∀ x∈diagL,(-2≤x.1∧x.1≤2)∧(-2≤x.2∧x.2≤2):=by decide
theorem yW:∀ x∈strL,(-2≤x.1∧x.1≤2)∧(-2≤x.2∧x.2≤2):=by decide
theorem mZ(F R a oc:Nat)(hF:3≤F∧F≤8)(hR:3≤R∧R≤8)(ha:a<F*R)(hoc:oc<2^64)(w:World)(hg:bq w):
  Clz 146 #[.agg #[.int .i64 F,.int .i64 R],.int .i64 a,.int .u64 (oc:Nat),.slice (some ⟨6,0,none⟩) 4 4] w fun e w'=>e=.returned (.int .u64 (slideW F R a oc diagL 4:Nat))∧Below w.heap.size w w' :=
 mo F R a oc 6 0 4 diagL _ _ _ _ _ _ _ _ rfl hF hR ha (by decide) (by decide) (by decide) (by decide) (by decide) (by decide) (by decide) (by decide) (by decide) (by decide) (by decide) (by decide) hoc w hg.2.1
theorem nV(F R a oc:Nat)(hF:3≤F∧F≤8)(hR:3≤R∧R≤8)(ha:a<F*R)(hoc:oc<2^64)(w:World)(hg:bq w):
  Clz 146 #[.agg #[.int .i64 F,.int .i64 R],.int .i64 a,.int .u64 (oc:Nat),.slice (some ⟨7,0,none⟩) 4 4] w fun e w'=>e=.returned (.int .u64 (slideW F R a oc strL 4:Nat))∧Below w.heap.size w w' :=
 mo F R a oc 7 0 4 strL _ _ _ _ _ _ _ _ rfl hF hR ha (by decide) (by decide) (by decide) (by decide) (by decide) (by decide) (by decide) (by decide) (by decide) (by decide) (by decide) (by decide) hoc w hg.2.2.1
theorem mX(F R a:Nat)(hF:3≤F∧F≤8)(hR:3≤R∧R≤8)(ha:a<F*R)(w:World)(hg:bq w):
  Clz 145 #[.agg #[.int .i64 F,.int .i64 R],.int .i64 a,.slice (some ⟨5,0,none⟩) 8 8] w fun e w'=>e=.returned (.int .u64 (leapW F R a leapsL 8:Nat))∧Below w.heap.size w w' :=
 fU F R a 5 0 8 leapsL hF hR ha uW (by decide) w hg.1
theorem nD(F R a:Nat)(hF:3≤F∧F≤8)(hR:3≤R∧R≤8)(ha:a<F*R)(w:World)(hg:bq w):
  Clz 145 #[.agg #[.int .i64 F,.int .i64 R],.int .i64 a,.slice (some ⟨6,0,none⟩) 4 4] w fun e w'=>e=.returned (.int .u64 (leapW F R a diagL 4:Nat))∧Below w.heap.size w w' :=
 fU F R a 6 0 4 diagL hF hR ha wU (by decide) w hg.2.1
theorem qh(F R a:Nat)(hF:3≤F∧F≤8)(hR:3≤R∧R≤8)(ha:a<F*R)(w:World)(hg:bq w):
  Clz 145 #[.agg #[.int .i64 F,.int .i64 R],.int .i64 a,.slice (some ⟨7,0,none⟩) 4 4] w fun e w'=>e=.returned (.int .u64 (leapW F R a strL 4:Nat))∧Below w.heap.size w w' :=
 fU F R a 7 0 4 strL hF hR ha yW (by decide) w hg.2.2.1
def pwnL(bl:Bool):List (Int×Int):=[(-1,sdI bl),(1,sdI bl)]
theorem nG(F R a:Nat)(bl:Bool)(hF:3≤F∧F≤8)(hR:3≤R∧R≤8)(ha:a<F*R)(w:World):
  Clz 121 #[.agg #[.int .i64 F,.int .i64 R],.bool bl,.int .i64 a] w fun e w'=>e=.returned (.tuple #[.int .u64 (leapW F R a (pwnL bl) 2:Nat),.int .i64 0])∧Below w.heap.size w w':=by
 have hA:=ac.new w (.cells #[.int .i64 (F:Int),.int .i64 (R:Int)] 23);have hB:=ae w (.cells #[.int .i64 (F:Int),.int .i64 (R:Int)] 23);have hsv:=fun W=>dn F R a W
 rw[gY hF hR ha]at hsv;have hlp:=fun g W h=>fU F R a g 0 2 (pwnL bl) hF hR ha (by cases bl<;>decide) (by simp[pwnL]) W h
 have hfw:=fun W=>jA bl W
 have hpl:pwnL bl=[(-1,sdI bl),(1,sdI bl)]:=rfl;rw[show(pwnL bl).length=2 from rfl]at hlp;generalize leapW F R a (pwnL bl) 2=V at *;generalize pwnL bl=PL at *;generalize sdI bl=up at *;replace hpl:=zhd hpl;have⟨hc0,hl0⟩:=hA.cl;go_enter Tryz.func121,Tryz.ntmps121;go_wp2_with fail;refine(hsv _).mono ?_;rintro e w2 ⟨rfl,hb2⟩;have hA2:=hA.call hb2;have hB2:=zbc hB hb2;clear hc0 hl0 hA hB hsv;have⟨hc2,hl2⟩:=hA2.cl;go_wp2_with fail;refine(hfw _).mono ?_;rintro e w3 ⟨rfl,rfl⟩;go_wp2_with fail;have hNb:=ae w2 (.cells #[.int .i64 (-1),.int .i64 up,.int .i64 1,.int .i64 up] 181);have hN:=ac.new w2 (.cells #[.int .i64 (-1),.int .i64 up,.int .i64 1,.int .i64 up] 181);refine(hlp _ _ ?_).mono ?_
 ·rw[hpl.out];refine⟨hN.lt,fun j hj=>?_⟩;have hj2:j<2:=hj;rcases(by omega:j=0∨j=1)with rfl|rfl
  ·exact⟨hN.cells 0,hN.cells 1⟩
  ·exact⟨hN.cells 2,hN.cells 3⟩
 rintro e w4 ⟨rfl,hb4⟩;go_wp2_with fail;go_ret2
 exact⟨rfl,aI (zbc hB2 hNb) (Nat.le_trans hB2.size hNb.size) hb4⟩
theorem mR{x y z:Int}{W:World}(h:bits .or .u64 x y=z):(binOp .or 64 (.int .u64 x) (.int .u64 y)).run Tryz.prog W=.ok (.int .u64 z) W:=by rw[vG,h]
def reachW(F R a oc:Nat)(k:Int):Nat :=
 if k=2 then leapW F R a leapsL 8 else if k=3 then slideW F R a oc diagL 4 else if k=4 then slideW F R a oc strL 4
 else if k=5 then slideW F R a oc diagL 4|||slideW F R a oc strL 4 else leapW F R a diagL 4|||leapW F R a strL 4
theorem ei{F R a oc:Nat}(st:List (Int×Int)):∀ k,slideW F R a oc st k<2^(F*R):=by
 intro k;induction k with
 | zero=>simp[slideW,Nat.two_pow_pos]
 | succ k ih=>exact tX _ _ (fun x hx=>by have:=gV x hx;rw[←Int.natCast_mul]at this;exact this) ih
theorem reachW_lt{F R a oc:Nat}(k:Int):reachW F R a oc k<2^(F*R):=by
 unfold reachW;split
 ·exact bY _ _
 split
 ·exact ei _ _
 split
 ·exact ei _ _
 split
 ·exact Nat.or_lt_two_pow (ei _ _) (ei _ _)
 ·exact Nat.or_lt_two_pow (bY _ _) (bY _ _)
theorem iT(F R a oc:Nat)(k:Int)(hk:2≤k∧k≤6)(hF:3≤F∧F≤8)(hR:3≤R∧R≤8)(ha:a<F*R)(hoc:oc<2^(F*R))(w:World)(hg:bq w):
  Clz 93 #[.agg #[.int .i64 F,.int .i64 R],.int .i8 k,.int .i64 a,.int .u64 (oc:Nat)] w fun e w'=>e=.returned (.tuple #[.int .u64 (reachW F R a oc k:Nat),.int .i64 0])∧Below w.heap.size w w':=by
 have hA:=ac.new w (.cells #[.int .i64 (F:Int),.int .i64 (R:Int)] 23);have hB:=ae w (.cells #[.int .i64 (F:Int),.int .i64 (R:Int)] 23);have hon:=fun W=>mu F R a oc hF hR ha hoc W
 have hoc64:oc<2^64:=Nat.lt_of_lt_of_le hoc (eE hF hR);have hm1:=fun W h=>mX F R a hF hR ha W h
 have hm2:=fun W h=>nD F R a hF hR ha W h
 have hm3:=fun W h=>qh F R a hF hR ha W h
 have hs1:=fun W h=>mZ F R a oc hF hR ha hoc64 W h
 have hs2:=fun W h=>nV F R a oc hF hR ha hoc64 W h
 have hb1:=ei (a:=a) (F:=F) (R:=R) (oc:=oc) diagL 4;have hb2:=ei (F:=F) (R:=R) (a:=a) (oc:=oc) strL 4;have hb3:=bY (F:=F) (R:=R) (a:=a) diagL 4;have hb4:=bY (F:=F) (R:=R) (a:=a) strL 4;have hp:=eE hF hR;have o1:bits .or .u64 ((slideW F R a oc diagL 4:Nat):Int) ((slideW F R a oc strL 4:Nat):Int)=((slideW F R a oc diagL 4|||slideW F R a oc strL 4:Nat):Int):=u64_or_nat _ _ (Nat.lt_of_lt_of_le hb1 hp) (Nat.lt_of_lt_of_le hb2 hp);have o2:bits .or .u64 ((leapW F R a diagL 4:Nat):Int) ((leapW F R a strL 4:Nat):Int)=((leapW F R a diagL 4|||leapW F R a strL 4:Nat):Int):=u64_or_nat _ _ (Nat.lt_of_lt_of_le hb3 hp) (Nat.lt_of_lt_of_le hb4 hp);have hrw:∀ k,reachW F R a oc k=if k=2 then leapW F R a leapsL 8 else if k=3 then slideW F R a oc diagL 4 else if k=4 then slideW F R a oc strL 4
  else if k=5 then slideW F R a oc diagL 4|||slideW F R a oc strL 4 else leapW F R a diagL 4|||leapW F R a strL 4:=fun _=>rfl
 generalize reachW F R a oc=RW at *;generalize slideW F R a oc diagL 4=SD at *;generalize slideW F R a oc strL 4=SS at *;generalize leapW F R a diagL 4=LD at *;generalize leapW F R a strL 4=LS at *;generalize leapW F R a leapsL 8=LL at *;clear hp hoc;generalize SD|||SS=SQ at *
 generalize LD|||LS=LK at *
 replace o1:=zhd o1;replace o2:=zhd o2;have⟨hc0,hl0⟩:=hA.cl;have hgA:=hg.call hB;rcases(by omega:k=2∨k=3∨k=4∨k=5∨k=6)with rfl|rfl|rfl|rfl|rfl
 ·have e0:Hid (RW 2=LL):=zhd (by rw[hrw];simp);clear hrw;go_enter Tryz.func93,Tryz.ntmps93;go_wp2_with fail;refine(hon _).mono ?_;rintro e w2 ⟨rfl,hb2⟩;have hA2:=hA.call hb2;have hB2:=zbc hB hb2;have hg2:=hgA.call hb2;clear hc0 hl0 hA hB hon hgA;have hA:=hA2;have⟨hc2,hl2⟩:=hA2.cl;go_wp2_with fail;refine bc (by kernel_rfl) (by kernel_rfl) [some 18,some 19,some 20,some 21,some 8,some 9] (by rfl) (by rfl) w2.heap.size (fun i8=>match i8 with|0=>.agg #[.int .i64 (F:Int),.int .i64 (R:Int)] | 1=>.int .i64 ((a:Nat):Int)|2=>.slice (some ⟨5,0,none⟩) 8 8|3=>.int .u64 (LL:Nat)|4=>.int .u64 (LL:Nat)|5=>.int .i64 0|_=>undef) (fun _=>none) ?hstep ?hend
  case hstep =>
   intro i9 o9 f9 W ho hi hC hf K hK;have hi:i9<6:=hi;rcases i9 with _|_|_|_|_|_|i9
   ·exact ay (og ho) 23 (.tmp 4) (oo ho) (ah rfl rfl) [.int .i64 (F:Int),.int .i64 (R:Int)] (by kernel_rfl) (fun j v hv=>by rw[Nat.zero_add,(hA.call hC).cells j];simpa using hv) (kk hK)
   ·exact al (og ho) (.tmp 2) (oo ho) (ah rfl rfl) (kk hK)
   ·exact de (og ho) 182 (.global 5) none none none (oo ho) rfl rfl rfl rfl (AN W) (kk hK)
   ·exact ee (og ho) 145 (.tmp 18) (.tmp 19) (.tmp 20) #[23,3,179] (oo ho) (ri 0 (da ho hf 0)) (ri 1 (da ho hf 1)) (ri 2 (da ho hf 2)) (fun _ _=>rfl) (hm1 W ((hg2.call hC))) (by rintro u w9 ⟨h9,hb9⟩;injection h9 with h9;subst h9;exact hK _ _ hb9 rfl) (fun _ _ h=>nomatch h.1) (fun _ h=>nomatch h.1)
   ·exact aE (og ho) (.tmp 21) (oo ho) (ri 3 (da ho hf 3)) (kk hK)
   ·exact aE (og ho) (.const (.int .i64 0)) (oo ho) rfl (kk hK)
   ·omega
  case hend =>
   intro f9 W hC hf;have hv:=hf 4 (by decide);have hz:=hf 5 (by decide);replace hv:f9 4=.int .u64 (LL:Nat):=hv;replace hz:f9 5=.int .i64 0:=hz;have hBW:=zbc hB2 hC;clear hf;simp only[ao,Act.put,List.setIfInBounds_toArray,List.set_cons_succ,List.set_cons_zero];rw[hv,hz];go_wp2_with fail;go_ret2
   exact⟨by rw[e0.out];rfl,hBW⟩
 ·have e0:Hid (RW 3=SD):=zhd (by rw[hrw];simp);clear hrw;go_enter Tryz.func93,Tryz.ntmps93;go_wp2_with fail;refine(hon _).mono ?_;rintro e w2 ⟨rfl,hb2⟩;have hA2:=hA.call hb2;have hB2:=zbc hB hb2;have hg2:=hgA.call hb2;clear hc0 hl0 hA hB hon hgA;have hA:=hA2;have⟨hc2,hl2⟩:=hA2.cl;go_wp2_with fail;refine bc (by kernel_rfl) (by kernel_rfl) [some 24,some 25,some 26,some 27,some 28,some 8,some 9] (by rfl) (by rfl) w2.heap.size (fun i8=>match i8 with|0=>.agg #[.int .i64 (F:Int),.int .i64 (R:Int)] | 1=>.int .i64 ((a:Nat):Int)|2=>.int .u64 (oc:Nat)|3=>.slice (some ⟨6,0,none⟩) 4 4|4=>.int .u64 (SD:Nat)|5=>.int .u64 (SD:Nat)|6=>.int .i64 0|_=>undef) (fun _=>none) ?hstep ?hend
  case hstep =>
   intro i9 o9 f9 W ho hi hC hf K hK;have hi:i9<7:=hi;rcases i9 with _|_|_|_|_|_|_|i9
   ·exact ay (og ho) 23 (.tmp 4) (oo ho) (ah rfl rfl) [.int .i64 (F:Int),.int .i64 (R:Int)] (by kernel_rfl) (fun j v hv=>by rw[Nat.zero_add,(hA.call hC).cells j];simpa using hv) (kk hK)
   ·exact al (og ho) (.tmp 2) (oo ho) (ah rfl rfl) (kk hK)
   ·exact al (og ho) (.tmp 3) (oo ho) (ah rfl rfl) (kk hK)
   ·exact de (og ho) 184 (.global 6) none none none (oo ho) rfl rfl rfl rfl (vA W) (kk hK)
   ·exact eX (og ho) 146 (.tmp 24) (.tmp 25) (.tmp 26) (.tmp 27) #[23,3,64,179] (oo ho) (ri 0 (da ho hf 0)) (ri 1 (da ho hf 1)) (ri 2 (da ho hf 2)) (ri 3 (da ho hf 3)) (fun _ _=>rfl) (hs1 W ((hg2.call hC))) (by rintro u w9 ⟨h9,hb9⟩;injection h9 with h9;subst h9;exact hK _ _ hb9 rfl) (fun _ _ h=>nomatch h.1) (fun _ h=>nomatch h.1)
   ·exact aE (og ho) (.tmp 28) (oo ho) (ri 4 (da ho hf 4)) (kk hK)
   ·exact aE (og ho) (.const (.int .i64 0)) (oo ho) rfl (kk hK)
   ·omega
  case hend =>
   intro f9 W hC hf;have hv:=hf 5 (by decide);have hz:=hf 6 (by decide);replace hv:f9 5=.int .u64 (SD:Nat):=hv;replace hz:f9 6=.int .i64 0:=hz;have hBW:=zbc hB2 hC;clear hf;simp only[ao,Act.put,List.setIfInBounds_toArray,List.set_cons_succ,List.set_cons_zero];rw[hv,hz];go_wp2_with fail;go_ret2
   exact⟨by rw[e0.out];rfl,hBW⟩
 ·have e0:Hid (RW 4=SS):=zhd (by rw[hrw];simp);clear hrw;go_enter Tryz.func93,Tryz.ntmps93;go_wp2_with fail;refine(hon _).mono ?_;rintro e w2 ⟨rfl,hb2⟩;have hA2:=hA.call hb2;have hB2:=zbc hB hb2;have hg2:=hgA.call hb2;clear hc0 hl0 hA hB hon hgA;have hA:=hA2;have⟨hc2,hl2⟩:=hA2.cl;go_wp2_with fail;refine bc (by kernel_rfl) (by kernel_rfl) [some 31,some 32,some 33,some 34,some 35,some 8,some 9] (by rfl) (by rfl) w2.heap.size (fun i8=>match i8 with|0=>.agg #[.int .i64 (F:Int),.int .i64 (R:Int)] | 1=>.int .i64 ((a:Nat):Int)|2=>.int .u64 (oc:Nat)|3=>.slice (some ⟨7,0,none⟩) 4 4|4=>.int .u64 (SS:Nat)|5=>.int .u64 (SS:Nat)|6=>.int .i64 0|_=>undef) (fun _=>none) ?hstep ?hend
  case hstep =>
   intro i9 o9 f9 W ho hi hC hf K hK;have hi:i9<7:=hi;rcases i9 with _|_|_|_|_|_|_|i9
   ·exact ay (og ho) 23 (.tmp 4) (oo ho) (ah rfl rfl) [.int .i64 (F:Int),.int .i64 (R:Int)] (by kernel_rfl) (fun j v hv=>by rw[Nat.zero_add,(hA.call hC).cells j];simpa using hv) (kk hK)
   ·exact al (og ho) (.tmp 2) (oo ho) (ah rfl rfl) (kk hK)
   ·exact al (og ho) (.tmp 3) (oo ho) (ah rfl rfl) (kk hK)
   ·exact de (og ho) 184 (.global 7) none none none (oo ho) rfl rfl rfl rfl (uT W) (kk hK)
   ·exact eX (og ho) 146 (.tmp 31) (.tmp 32) (.tmp 33) (.tmp 34) #[23,3,64,179] (oo ho) (ri 0 (da ho hf 0)) (ri 1 (da ho hf 1)) (ri 2 (da ho hf 2)) (ri 3 (da ho hf 3)) (fun _ _=>rfl) (hs2 W ((hg2.call hC))) (by rintro u w9 ⟨h9,hb9⟩;injection h9 with h9;subst h9;exact hK _ _ hb9 rfl) (fun _ _ h=>nomatch h.1) (fun _ h=>nomatch h.1)
   ·exact aE (og ho) (.tmp 35) (oo ho) (ri 4 (da ho hf 4)) (kk hK)
   ·exact aE (og ho) (.const (.int .i64 0)) (oo ho) rfl (kk hK)
   ·omega
  case hend =>
   intro f9 W hC hf;have hv:=hf 5 (by decide);have hz:=hf 6 (by decide);replace hv:f9 5=.int .u64 (SS:Nat):=hv;replace hz:f9 6=.int .i64 0:=hz;have hBW:=zbc hB2 hC;clear hf;simp only[ao,Act.put,List.setIfInBounds_toArray,List.set_cons_succ,List.set_cons_zero];rw[hv,hz];go_wp2_with fail;go_ret2
   exact⟨by rw[e0.out];rfl,hBW⟩
 ·have e0:Hid (RW 5=SQ):=zhd (by rw[hrw];simp);clear hrw;go_enter Tryz.func93,Tryz.ntmps93;go_wp2_with fail;refine(hon _).mono ?_;rintro e w2 ⟨rfl,hb2⟩;have hA2:=hA.call hb2;have hB2:=zbc hB hb2;have hg2:=hgA.call hb2;clear hc0 hl0 hA hB hon hgA;have hA:=hA2;have⟨hc2,hl2⟩:=hA2.cl;go_wp2_with fail;refine bc (by kernel_rfl) (by kernel_rfl) [some 38,some 39,some 40,some 41,some 42,some 43,some 44,some 45,some 46,some 47,some 48,some 8,some 9] (by rfl) (by rfl) w2.heap.size (fun i8=>match i8 with|0=>.agg #[.int .i64 (F:Int),.int .i64 (R:Int)] | 1=>.int .i64 ((a:Nat):Int)|2=>.int .u64 (oc:Nat)|3=>.slice (some ⟨6,0,none⟩) 4 4|4=>.int .u64 (SD:Nat)|5=>.agg #[.int .i64 (F:Int),.int .i64 (R:Int)] | 6=>.int .i64 ((a:Nat):Int)|7=>.int .u64 (oc:Nat)|8=>.slice (some ⟨7,0,none⟩) 4 4|9=>.int .u64 (SS:Nat)|10=>.int .u64 (SQ:Nat)|11=>.int .u64 (SQ:Nat)|12=>.int .i64 0|_=>undef) (fun _=>none) ?hstep ?hend
  case hstep =>
   intro i9 o9 f9 W ho hi hC hf K hK;have hi:i9<13:=hi;rcases i9 with _|_|_|_|_|_|_|_|_|_|_|_|_|i9
   ·exact ay (og ho) 23 (.tmp 4) (oo ho) (ah rfl rfl) [.int .i64 (F:Int),.int .i64 (R:Int)] (by kernel_rfl) (fun j v hv=>by rw[Nat.zero_add,(hA.call hC).cells j];simpa using hv) (kk hK)
   ·exact al (og ho) (.tmp 2) (oo ho) (ah rfl rfl) (kk hK)
   ·exact al (og ho) (.tmp 3) (oo ho) (ah rfl rfl) (kk hK)
   ·exact de (og ho) 184 (.global 6) none none none (oo ho) rfl rfl rfl rfl (vA W) (kk hK)
   ·exact eX (og ho) 146 (.tmp 38) (.tmp 39) (.tmp 40) (.tmp 41) #[23,3,64,179] (oo ho) (ri 0 (da ho hf 0)) (ri 1 (da ho hf 1)) (ri 2 (da ho hf 2)) (ri 3 (da ho hf 3)) (fun _ _=>rfl) (hs1 W ((hg2.call hC))) (by rintro u w9 ⟨h9,hb9⟩;injection h9 with h9;subst h9;exact hK _ _ hb9 rfl) (fun _ _ h=>nomatch h.1) (fun _ h=>nomatch h.1)
   ·exact ay (og ho) 23 (.tmp 4) (oo ho) (ah rfl rfl) [.int .i64 (F:Int),.int .i64 (R:Int)] (by kernel_rfl) (fun j v hv=>by rw[Nat.zero_add,(hA.call hC).cells j];simpa using hv) (kk hK)
   ·exact al (og ho) (.tmp 2) (oo ho) (ah rfl rfl) (kk hK)
   ·exact al (og ho) (.tmp 3) (oo ho) (ah rfl rfl) (kk hK)
   ·exact de (og ho) 184 (.global 7) none none none (oo ho) rfl rfl rfl rfl (uT W) (kk hK)
   ·exact eX (og ho) 146 (.tmp 43) (.tmp 44) (.tmp 45) (.tmp 46) #[23,3,64,179] (oo ho) (ri 5 (da ho hf 5)) (ri 6 (da ho hf 6)) (ri 7 (da ho hf 7)) (ri 8 (da ho hf 8)) (fun _ _=>rfl) (hs2 W ((hg2.call hC))) (by rintro u w9 ⟨h9,hb9⟩;injection h9 with h9;subst h9;exact hK _ _ hb9 rfl) (fun _ _ h=>nomatch h.1) (fun _ h=>nomatch h.1)
   ·exact aK (og ho) .or 64 64 (.tmp 42) (.tmp 47) (oo ho) (ri 4 (da ho hf 4)) (ri 9 (da ho hf 9)) (bM _ _ _ _ _ _ _ _) (mR o1.out) (kk hK)
   ·exact aE (og ho) (.tmp 48) (oo ho) (ri 10 (da ho hf 10)) (kk hK)
   ·exact aE (og ho) (.const (.int .i64 0)) (oo ho) rfl (kk hK)
   ·omega
  case hend =>
   intro f9 W hC hf;have hv:=hf 11 (by decide);have hz:=hf 12 (by decide);replace hv:f9 11=.int .u64 (SQ:Nat):=hv;replace hz:f9 12=.int .i64 0:=hz;have hBW:=zbc hB2 hC;clear hf;simp only[ao,Act.put,List.setIfInBounds_toArray,List.set_cons_succ,List.set_cons_zero];rw[hv,hz];go_wp2_with fail;go_ret2
   exact⟨by rw[e0.out];rfl,hBW⟩
 ·have e0:Hid (RW 6=LK):=zhd (by rw[hrw];simp);clear hrw;go_enter Tryz.func93,Tryz.ntmps93;go_wp2_with fail;refine(hon _).mono ?_;rintro e w2 ⟨rfl,hb2⟩;have hA2:=hA.call hb2;have hB2:=zbc hB hb2;have hg2:=hgA.call hb2;clear hc0 hl0 hA hB hon hgA;have hA:=hA2;have⟨hc2,hl2⟩:=hA2.cl;go_wp2_with fail;refine bc (by kernel_rfl) (by kernel_rfl) [some 51,some 52,some 53,some 54,some 55,some 56,some 57,some 58,some 59,some 8,some 9] (by rfl) (by rfl) w2.heap.size (fun i8=>match i8 with|0=>.agg #[.int .i64 (F:Int),.int .i64 (R:Int)] | 1=>.int .i64 ((a:Nat):Int)|2=>.slice (some ⟨6,0,none⟩) 4 4|3=>.int .u64 (LD:Nat)|4=>.agg #[.int .i64 (F:Int),.int .i64 (R:Int)] | 5=>.int .i64 ((a:Nat):Int)|6=>.slice (some ⟨7,0,none⟩) 4 4|7=>.int .u64 (LS:Nat)|8=>.int .u64 (LK:Nat)|9=>.int .u64 (LK:Nat)|10=>.int .i64 0|_=>undef) (fun _=>none) ?hstep ?hend
  case hstep =>
   intro i9 o9 f9 W ho hi hC hf K hK;have hi:i9<11:=hi;rcases i9 with _|_|_|_|_|_|_|_|_|_|_|i9
   ·exact ay (og ho) 23 (.tmp 4) (oo ho) (ah rfl rfl) [.int .i64 (F:Int),.int .i64 (R:Int)] (by kernel_rfl) (fun j v hv=>by rw[Nat.zero_add,(hA.call hC).cells j];simpa using hv) (kk hK)
   ·exact al (og ho) (.tmp 2) (oo ho) (ah rfl rfl) (kk hK)
   ·exact de (og ho) 184 (.global 6) none none none (oo ho) rfl rfl rfl rfl (vA W) (kk hK)
   ·exact ee (og ho) 145 (.tmp 51) (.tmp 52) (.tmp 53) #[23,3,179] (oo ho) (ri 0 (da ho hf 0)) (ri 1 (da ho hf 1)) (ri 2 (da ho hf 2)) (fun _ _=>rfl) (hm2 W ((hg2.call hC))) (by rintro u w9 ⟨h9,hb9⟩;injection h9 with h9;subst h9;exact hK _ _ hb9 rfl) (fun _ _ h=>nomatch h.1) (fun _ h=>nomatch h.1)
   ·exact ay (og ho) 23 (.tmp 4) (oo ho) (ah rfl rfl) [.int .i64 (F:Int),.int .i64 (R:Int)] (by kernel_rfl) (fun j v hv=>by rw[Nat.zero_add,(hA.call hC).cells j];simpa using hv) (kk hK)
   ·exact al (og ho) (.tmp 2) (oo ho) (ah rfl rfl) (kk hK)
   ·exact de (og ho) 184 (.global 7) none none none (oo ho) rfl rfl rfl rfl (uT W) (kk hK)
   ·exact ee (og ho) 145 (.tmp 55) (.tmp 56) (.tmp 57) #[23,3,179] (oo ho) (ri 4 (da ho hf 4)) (ri 5 (da ho hf 5)) (ri 6 (da ho hf 6)) (fun _ _=>rfl) (hm3 W ((hg2.call hC))) (by rintro u w9 ⟨h9,hb9⟩;injection h9 with h9;subst h9;exact hK _ _ hb9 rfl) (fun _ _ h=>nomatch h.1) (fun _ h=>nomatch h.1)
   ·exact aK (og ho) .or 64 64 (.tmp 54) (.tmp 58) (oo ho) (ri 3 (da ho hf 3)) (ri 7 (da ho hf 7)) (bM _ _ _ _ _ _ _ _) (mR o2.out) (kk hK)
   ·exact aE (og ho) (.tmp 59) (oo ho) (ri 8 (da ho hf 8)) (kk hK)
   ·exact aE (og ho) (.const (.int .i64 0)) (oo ho) rfl (kk hK)
   ·omega
  case hend =>
   intro f9 W hC hf;have hv:=hf 9 (by decide);have hz:=hf 10 (by decide);replace hv:f9 9=.int .u64 (LK:Nat):=hv;replace hz:f9 10=.int .i64 0:=hz;have hBW:=zbc hB2 hC;clear hf;simp only[ao,Act.put,List.setIfInBounds_toArray,List.set_cons_succ,List.set_cons_zero];rw[hv,hz];go_wp2_with fail;go_ret2
   exact⟨by rw[e0.out];rfl,hBW⟩
def atW(F R oc:Nat)(x:Int)(a:Nat):Nat:=if kindI x=1 then leapW F R a (pwnL (decide (x<0))) 2 else reachW F R a oc (kindI x)
theorem yZ(F R oc:Nat)(x:Int)(a:Nat):atW F R oc x a<2^(F*R):=by
 unfold atW;split
 ·exact bY _ _
 ·exact reachW_lt _
theorem xM(F R a oc:Nat)(x:Int)(p:Option Addr)(c:Nat)(xs:List Int)(hF:3≤F∧F≤8)(hR:3≤R∧R≤8)(hlen:xs.length=F*R)(ha:a<F*R)(hoc:oc<2^(F*R))(hxa:xs[a]?.getD 0=x)(hx6:-6≤x∧x≤6)(hx0:x≠0)(w:World)(hg:bq w)(hx:Arr .i8 w p xs):
  Clz 177 #[.agg (ar F R p xs.length c).toArray,.int .i64 a,.int .u64 (oc:Nat)] w fun e w'=>e=.returned (.int .u64 (atW F R oc x a:Nat))∧Below w.heap.size w w':=by
 have hA:=ac.new w (.cells (ar F R p xs.length c).toArray 68);have hB:=ae w (.cells (ar F R p xs.length c).toArray 68);have hlt:a<xs.length:=by omega
 obtain⟨ha64,_⟩:=bU hF hR ha;have hii:(a:Int)<xs.length:=by omega
 obtain⟨g,o,rfl,hgl,hcc⟩:=(hx.call hB).at hlt;have hci:=hcc a hlt;rw[hxa]at hci;clear hcc hxa;have hpw:=fun bl W=>nG F R a bl hF hR ha W
 have hre:=fun k hk W h=>iT F R a oc k hk hF hR ha hoc W h
 have hgA:=hg.call hB;have hof:atW F R oc x a=if kindI x=1 then leapW F R a (pwnL (decide (x<0))) 2 else reachW F R a oc (kindI x):=rfl
 generalize atW F R oc x a=V at *;have h0:=hA.cells 0;have h1:=hA.cells 1;have hl0:=hA.lt;replace hlen:=zhd hlen;rcases(by omega:x=1∨x=-1∨(2≤x∧x≤6)∨(-6≤x∧x≤-2))with rfl|rfl|hx2|hx2
 ·replace hof:Hid (V=leapW F R a (pwnL false) 2):=zhd hof;have hpw:=hpw false;go_enter Tryz.func177,Tryz.ntmps177;go_wp2_with fail;refine(hpw _).mono ?_;rintro e w2 ⟨rfl,hb2⟩;go_wp2_with fail;go_ret;exact⟨by rw[hof.out];rfl,zbc hB hb2⟩
 ·replace hof:Hid (V=leapW F R a (pwnL true) 2):=zhd hof;have hpw:=hpw true;go_enter Tryz.func177,Tryz.ntmps177;go_wp2_with fail;refine(hpw _).mono ?_;rintro e w2 ⟨rfl,hb2⟩;go_wp2_with fail;go_ret;exact⟨by rw[hof.out];rfl,zbc hB hb2⟩
 ·have hk:kindI x=x:=by unfold kindI;rw[if_neg (by omega)]
  rw[hk,if_neg (by omega)]at hof;replace hof:=zhd hof;have hre:=hre x (by omega);have hmx:max x (-x)=x:=by omega
  have hnw:IntKind.i8.wrap (-x)=-x:=dj (by omega) (by omega);go_enter Tryz.func177,Tryz.ntmps177;go_wp2_with fail;refine(hre _ hgA).mono ?_;rintro e w2 ⟨rfl,hb2⟩;go_wp2_with fail;go_ret;exact⟨by rw[hof.out];rfl,zbc hB hb2⟩
 ·have hk:kindI x=-x:=by unfold kindI;rw[if_pos (by omega)]
  rw[hk,if_neg (by omega)]at hof;replace hof:=zhd hof;have hre:=hre (-x) (by omega);have hmx:max x (-x)=-x:=by omega
  have hnw:IntKind.i8.wrap (-x)=-x:=dj (by omega) (by omega);go_enter Tryz.func177,Tryz.ntmps177;go_wp2_with fail;refine(hre _ hgA).mono ?_;rintro e w2 ⟨rfl,hb2⟩;go_wp2_with fail;go_ret;exact⟨by rw[hof.out];rfl,zbc hB hb2⟩
def atrW(F R oc:Nat)(xs:List Int)(a:Nat)(bl:Bool):Nat→Nat
 | 0=>0
 | k+1=>if decide (sgnI (xs[k]?.getD 0)=sdI bl)&&(atW F R oc (xs[k]?.getD 0) k).testBit a then atrW F R oc xs a bl k|||2^k else atrW F R oc xs a bl k
theorem xV(F R oc:Nat)(xs:List Int)(a:Nat)(bl:Bool)(k:Nat):atrW F R oc xs a bl k<2^k:=by
 induction k with
 | zero=>simp[atrW]
 | succ k ih =>
  have h1:(2:Nat)^k≤2^(k+1):=Nat.pow_le_pow_right (by decide) (by omega);simp only[atrW];split
  ·exact Nat.or_lt_two_pow (by omega) (Nat.pow_lt_pow_right (by decide) (by omega))
  ·omega
theorem ea{f r:Int}{xs:List Int}(h:aF f r xs=true):∀ x∈xs,-6≤x∧x≤6:=by obtain⟨_,_,_,_,_,_,_,_,h6⟩:=dJ h;exact h6
theorem iE(F R a:Nat)(bl:Bool)(p:Option Addr)(c:Nat)(xs:List Int)(hF:3≤F∧F≤8)(hR:3≤R∧R≤8)(hlen:xs.length=F*R)(ha:a<F*R)(hor:aF F R xs=true)(w:World)(hg:bq w)(hx:Arr .i8 w p xs):
  Clz 124 #[.agg (ar F R p xs.length c).toArray,.int .i64 a,.bool bl] w fun e w'=>e=.returned (.int .u64 (atrW F R (setW gNon xs xs.length) xs a bl xs.length:Nat))∧Below w.heap.size w w':=by
 have hA:=ac.new w (.cells (ar F R p xs.length c).toArray 68);have hB:=ae w (.cells (ar F R p xs.length c).toArray 68);have hl64:xs.length≤64:=by rw[hlen];exact Nat.mul_le_mul hF.2 hR.2
 have h6:=ea hor;have hbo:aL F R xs=true:=by unfold aF at hor;simp only[Bool.and_eq_true]at hor;exact hor.1
 have hoc:=fun W h=>nu F R p c xs W h hbo
 have hocl:setW gNon xs xs.length<2^(F*R):=by
  rw[←hlen];apply Nat.lt_pow_two_of_testBit
  intro i hi;rw[setW_bit];simp;omega
 have hof:=fun k x hk h1 h2 h3 W h4 h5=>xM F R k (setW gNon xs xs.length) x p c xs hF hR hlen hk hocl h1 h2 h3 W h4 h5
 have hal:=fun k=>xV F R (setW gNon xs xs.length) xs a bl k
 have hbl:=fun x k=>yZ F R (setW gNon xs xs.length) x k
 have hnx0:∀ k,atrW F R (setW gNon xs xs.length) xs a bl (k+1)=if decide (sgnI (xs[k]?.getD 0)=sdI bl)&&(atW F R (setW gNon xs xs.length) (xs[k]?.getD 0) k).testBit a then atrW F R (setW gNon xs xs.length) xs a bl k|||2^k else atrW F R (setW gNon xs xs.length) xs a bl k:=fun k=>rfl
 have hz:atrW F R (setW gNon xs xs.length) xs a bl 0=0:=rfl;generalize atrW F R (setW gNon xs xs.length) xs a bl=AW at *;generalize atW F R (setW gNon xs xs.length)=OW at *;generalize setW gNon xs xs.length=oc at *;have ha64:a<64:=by omega
 have hai:(a:Int)<64:=by omega
 have hpw:=eE hF hR;have h0:=hA.cells 0;have h1:=hA.cells 1;have h2:=hA.cells 2;have hl0:=hA.lt;replace hlen:=zhd hlen;go_enter Tryz.func124,Tryz.ntmps124;go_wp2_with fail;refine(hoc _ (hx.call hB)).mono ?_;rintro e w2 ⟨rfl,hb2⟩;have hA2:=hA.call hb2;have hB2:=zbc hB hb2;have hg2:=hg.call hB2;have hx2:=hx.call hB2;clear h0 h1 h2 hl0 hA hB hg hx hoc;have h0:=hA2.cells 0;have h1:=hA2.cells 1;have h2:=hA2.cells 2;have hl0:=hA2.lt;go_wp2_with fail;go_loopg [7,16] 65 (fun q sv iv wr=>∃ i:Nat,q+i=65∧i≤xs.length∧iv=.int .i64 i∧sv=.int .u64 (AW i:Nat)∧Below w2.heap.size w2 wr)
 case atStart=>exact⟨0,rfl,Nat.zero_le _,rfl,by rw[hz];rfl,Below.refl _ _⟩
 case round =>
  obtain⟨i,hq,hi,rfl,rfl,hbr⟩:=hrel;have hAr:=hA2.call hbr;have hBr:=zbc hB2 hbr;have h0:=hAr.cells 0;have h1:=hAr.cells 1;have h2:=hAr.cells 2;have hl0:=hAr.lt;by_cases hlt:i<xs.length
  ·have hii:(i:Int)<xs.length:=by omega
   have hgr:=hg2.call hbr;have hxr:=hx2.call hbr;have hxr0:=hxr;obtain⟨g,o,rfl,hgl,hcc⟩:=hxr.at hlt;have hci:=hcc i hlt;have hnx:=hnx0 i;have hali:=hal i;obtain⟨x,hx⟩:∃ x,x=xs[i]?.getD 0:=⟨_,rfl⟩;have hx6:-6≤x∧x≤6:=h6 x (by rw[hx,List.getElem?_eq_getElem hlt];exact List.getElem_mem hlt);rw[←hx]at hci hnx;have hiF:i<F*R:=by rw[←hlen.out];exact hlt
   have hofi:=hof i x hiF hx.symm hx6;have hbli:=hbl x i;replace hx:=zhd hx;clear hcc;generalize AW i=S at *;generalize OW x i=V at *;have hV64:V<2^64:=Nat.lt_of_lt_of_le hbli hpw;have c8:=dK (x:=a) hV64;have hi64:i<64:=by omega
   have hi64':(i:Int)<64:=by omega
   have hS64:S<18446744073709551616:=Nat.lt_of_lt_of_le hali (Nat.pow_le_pow_right (n:=2) (by decide) (by omega:i≤64));have wo:bits .or .u64 (S:Int) (IntKind.u64.wrap (2^i))=((S|||2^i:Nat):Int):=fp hS64 hi64;go_wp2_with fail;refine(yJ x bl _).mono ?_;rintro e w4 ⟨rfl,rfl⟩;rcases hs:decide (sgnI x=sdI bl)with _|_
   ·rw[hs]at hnx;replace hnx:=zhd (hnx.trans (if_neg (by simp)));go_wp2_with fail;go_roundg (gk-1)
    case measure=>omega
    case rel=>exact⟨i+1,by omega,by omega,by go_num,by rw[hnx.out],hbr⟩
   ·have hxn:x≠0:=by
     rintro rfl;simp only[decide_eq_true_eq]at hs;unfold sgnI sdI at hs;cases bl<;>simp at hs
    have hofi:=hofi hxn;rw[hs,Bool.true_and]at hnx;replace hs:=zhd hs;go_wp2_with fail;refine(hofi _ hgr hxr0).mono ?_;rintro e w5 ⟨rfl,hb5⟩;have hb6:=zbc hbr hb5;rcases ht:V.testBit a with _|_
    ·rw[ht]at hnx c8;replace hnx:=zhd (hnx.trans (if_neg (by simp)));go_wp2_with fail;go_roundg (gk-1)
     case measure=>omega
     case rel=>exact⟨i+1,by omega,by omega,by go_num,by rw[hnx.out],hb6⟩
    ·rw[ht]at hnx c8;replace hnx:=zhd (hnx.trans (if_pos rfl));replace wo:=zhd wo;go_wp2_with fail;go_roundg (gk-1)
     case measure=>omega
     case rel=>refine⟨i+1,by omega,by omega,by go_num,?_,hb6⟩;rw[wo.out,hnx.out]
  ·have hii:¬(i:Int)<xs.length:=by omega
   obtain rfl:i=xs.length:=by omega
   go_wp2_with fail;go_ret;exact⟨rfl,hBr⟩
theorem mp{g:Int→Bool}{xs:List Int}:∀ n,(∀ j,j<n→g (xs[j]?.getD 0)=false)→idxs g xs n=[]:=by
 intro n;induction n with
 | zero=>intro _;rfl
 | succ n ih=>intro h;simp only[idxs];rw[if_neg (by rw[h n (by omega)];simp)];exact ih (fun j hj=>h j (by omega))
theorem uA{g:Int→Bool}{xs:List Int}{i:Nat}(h1:∀ j,j<i→g (xs[j]?.getD 0)=false)(h2:g (xs[i]?.getD 0)=true):∀ m,(∀ j,i<j→j<i+1+m→g (xs[j]?.getD 0)=false)→idxs g xs (i+1+m)=[(i:Int)]:=by
 intro m;induction m with
 | zero=>intro _;simp only[idxs];rw[if_pos h2,mp i h1];rfl
 | succ m ih=>intro h;rw[←Nat.add_assoc];simp only[idxs];rw[if_neg (by rw[h (i+1+m) (by omega) (by omega)];simp)];exact ih (fun j hj hk=>h j hj (by omega))
theorem mK{g:Int→Bool}{xs:List Int}(n:Nat):∀ m,(idxs g xs n).length≤(idxs g xs (n+m)).length:=by
 intro m;induction m with
 | zero=>exact Nat.le_refl _
 | succ m ih =>
  rw[←Nat.add_assoc];simp only[idxs];split
  ·simp;omega
  ·exact ih
theorem us{g:Int→Bool}{xs:List Int}{i j n:Nat}(hi:g (xs[i]?.getD 0)=true)(hj:g (xs[j]?.getD 0)=true)(hij:i<j)(hn:j<n):2≤(idxs g xs n).length:=by
 obtain⟨m1,e1⟩:∃ m,j=i+1+m:=⟨j-(i+1),by omega⟩;obtain⟨m2,e2⟩:∃ m,n=j+1+m:=⟨n-(j+1),by omega⟩;have h1:=mK (g:=g) (xs:=xs) (i+1) m1;have h2:=mK (g:=g) (xs:=xs) (j+1) m2;rw[←e1]at h1;rw[←e2]at h2;have h3:(idxs g xs (i+1)).length=(idxs g xs i).length+1:=by simp only[idxs];rw[if_pos hi];simp
 have h4:(idxs g xs (j+1)).length=(idxs g xs j).length+1:=by simp only[idxs];rw[if_pos hj];simp
 omega
theorem uS{xs:List Int}{bl:Bool}(h:cD xs (6*sdI bl)<0):kgI xs bl=-1:=by
 have h1:xs.any (·==6*sdI bl)=false:=by
  rcases e:xs.any (·==6*sdI bl)with _|_
  ·rfl
  ·exfalso;unfold cD at h;rw[e]at h;simp only[if_true]at h;omega
 rw[List.any_eq_false]at h1;have h2:kgL xs bl=[]:=mp _ (fun j hj=>by
  have:=h1 xs[j] (List.getElem_mem hj);simpa[hj]using this)
 unfold kgI;rw[h2];rfl
theorem pd{xs:List Int}{x:Int}{i:Nat}(h:cD xs x=i):i<xs.length∧xs[i]?.getD 0=x∧∀ j,j<i→¬xs[j]?.getD 0=x:=by
 unfold cD at h;rcases e:xs.any (·==x)with _|_
 ·rw[e]at h;simp at h
 ·rw[e]at h;simp only[if_true]at h;have hi:xs.findIdx (·==x)=i:=by omega
  rw[List.any_eq_true]at e;have hl:=List.findIdx_lt_length_of_exists e;rw[hi]at hl;have hf:=(List.findIdx_eq hl).1 hi;refine⟨hl,?_,fun j hj=>?_⟩
  ·have:=hf.1;simp only[List.getElem?_eq_getElem hl,Option.getD_some];simpa using this
  ·have hjl:j<xs.length:=by omega
   have:=hf.2 j (by omega);simp only[List.getElem?_eq_getElem hjl,Option.getD_some];simpa using this
theorem yt{xs:List Int}{bl:Bool}{i:Nat}(h:cD xs (6*sdI bl)=i)(h2:(xs.drop (i+1)).any (·==6*sdI bl)=true):kgI xs bl=-1:=by
 obtain⟨hl,hg,_⟩:=pd h;rw[List.any_eq_true]at h2;obtain⟨y,hy,hyx⟩:=h2;obtain⟨m,hm,e⟩:=List.getElem_of_mem hy;rw[List.length_drop]at hm;rw[List.getElem_drop]at e;have hj:i+1+m<xs.length:=by omega
 have h3:2≤(kgL xs bl).length:=us (i:=i) (j:=i+1+m) (by simpa using hg) (by rw[List.getElem?_eq_getElem hj,Option.getD_some,e];exact hyx) (by omega) hj;unfold kgI;rw[if_neg (by omega)]
theorem xD{xs:List Int}{bl:Bool}{i:Nat}(h:cD xs (6*sdI bl)=i)(h2:(xs.drop (i+1)).any (·==6*sdI bl)=false):kgI xs bl=i:=by
 obtain⟨hl,hg,hb⟩:=pd h;rw[List.any_eq_false]at h2;obtain⟨m,hm⟩:∃ m,xs.length=i+1+m:=⟨xs.length-(i+1),by omega⟩;have h3:kgL xs bl=[(i:Int)]:=by
  unfold kgL;rw[hm];refine uA (fun j hj=>?_) (by simpa using hg) m (fun j hj hk=>?_)
  ·have:=hb j hj;simpa using this
  ·have hjl:j<xs.length:=by omega
   have:=h2 xs[j] (by rw[List.mem_drop_iff_getElem];exact⟨j-(i+1),by omega,by congr 1;omega⟩);simpa[hjl]using this
 unfold kgI;rw[h3];rfl
theorem om{k:IntKind}{W:World}{g o:Nat}{xs:List Int}(i:Nat)(h:Arr k W (some ⟨g,o,none⟩) xs):Arr k W (some ⟨g,o+i,none⟩) (xs.drop i):=by
 by_cases hi:xs.length≤i
 ·left;exact List.drop_of_length_le hi
 ·obtain⟨g',o',e,hl,hc⟩:=h.at (i:=i) (by omega);injection e with e;injection e with e1 e2 e3;subst e1 e2;refine .inr ⟨_,_,rfl,hl,fun j hj=>?_⟩;rw[List.length_drop]at hj;rw[Nat.add_assoc,hc (i+j) (by omega),List.getElem?_drop]
def kngV(f r:Int)(xs:List Int)(bl:Bool):Value:=if aF f r xs then(if kgI xs bl<0 then .tuple #[.int .i64 0,.int .i64 9]else .tuple #[.int .i64 (kgI xs bl),.int .i64 0])else .tuple #[.int .i64 0,.int .i64 2]
theorem oI(f r:Int)(bl:Bool)(p:Option Addr)(c:Nat)(xs:List Int)(w:World)(hx:Arr .i8 w p xs)(hl:xs.length≤1000)(hcap:xs.length≤c):
  Clz 136 #[.agg (ar f r p xs.length c).toArray,.bool bl] w fun e w'=>e=.returned (kngV f r xs bl)∧Below w.heap.size w w':=by
 have hA:=ac.new w (.cells (ar f r p xs.length c).toArray 68);have hB:=ae w (.cells (ar f r p xs.length c).toArray 68);have hor:=fun W h=>ji f r p c xs W h
 have hix:=fun W h=>mN p c xs (6*sdI bl) W h (by omega)
 have h0:=hA.cells 0;have h1:=hA.cells 1;have h2:=hA.cells 2;have hl0:=hA.lt;obtain⟨V,hV⟩:∃ V,V=kngV f r xs bl:=⟨_,rfl⟩;rw[←hV];rcases hs:aF f r xs with _|_
 ·have e0:Hid (V=.tuple #[.int .i64 0,.int .i64 2]):=zhd (by rw[hV,kngV,hs];rfl);rw[hs]at hor;clear hV;go_enter Tryz.func136,Tryz.ntmps136;go_wp2_with fail;refine(hor _ (hx.call hB)).mono ?_;rintro e w2 ⟨rfl,hb2⟩;go_wp2_with fail;go_ret2
  exact⟨by rw[e0.out];rfl,zbc hB hb2⟩
 ·rw[hs]at hor;rw[kngV,hs,if_pos rfl]at hV;have hlt2:=x8 (xs:=xs) (x:=6*sdI bl);rcases Int.lt_or_le (cD xs (6*sdI bl)) 0 with hi|hi
  ·have e0:Hid (V=.tuple #[.int .i64 0,.int .i64 9]):=zhd (by rw[hV,uS hi];rfl);have hi1:cD xs (6*sdI bl)=-1:=by omega
   rw[hi1]at hix;clear hV hi hi1 hlt2;have hx1:=hx.call hB;cases bl
   all_goals
    go_enter Tryz.func136,Tryz.ntmps136;go_wp2_with fail;refine(hor _ hx1).mono ?_;rintro e w2 ⟨rfl,hb2⟩;have hA2:=hA.call hb2;have hB2:=zbc hB hb2;have hx2:=hx1.call hb2;clear h0 h1 h2 hl0 hA hB hor hx1;have h0:=hA2.cells 0;have h1:=hA2.cells 1;have h2:=hA2.cells 2;have hl0:=hA2.lt;go_wp2_with fail;refine(hix _ hx2).mono ?_;rintro e w3 ⟨rfl,hb3⟩;go_wp2_with fail;go_ret2
    exact⟨by rw[e0.out];rfl,zbc hB2 hb3⟩
  ·obtain⟨i,hi⟩:∃ i:Nat,cD xs (6*sdI bl)=i:=⟨(cD xs (6*sdI bl)).toNat,by omega⟩;rw[hi]at hix;have hil:i<xs.length:=by omega
   have e0:Hid (V=if(xs.drop (i+1)).any (·==6*sdI bl)then .tuple #[.int .i64 0,.int .i64 9]else .tuple #[.int .i64 (i:Int),.int .i64 0]):=zhd (by
    rcases hd:(xs.drop (i+1)).any (·==6*sdI bl)with _|_
    ·rw[hV,xD hi hd,if_neg (by omega)];rfl
    ·rw[hV,yt hi hd];rfl)
   clear hV;replace hi:=zhd hi;clear hlt2 hi;have hx1:=hx.call hB;have b1:((i+1:Nat):Int)≤xs.length:=by omega
   have b2:((i+1:Nat):Int)≤c:=by omega
   have b3:(i:Int)+1≤xs.length:=by omega
   have b4:(i:Int)+1≤c:=by omega
   have b5:(xs.length:Int)≤c:=by omega
   obtain⟨g,o,rfl,hgl,hcc⟩:=hx1.at hil;clear hcc hgl;have hct:=fun W h=>eM (some ⟨g,o+(i+1),none⟩) (c-(i+1)) (xs.drop (i+1)) (6*sdI bl) W h (by rw[List.length_drop];omega)
   have hct2:=fun W h=>eM (some ⟨g,o,none⟩) 0 (xs.drop (i+1)) (6*sdI bl) W h (by rw[List.length_drop];omega)
   rw[List.length_drop]at hct hct2;have hdn:i+1=c→xs.drop (i+1)=[]:=fun h=>List.drop_of_length_le (by omega)
   have had:=fun W (h:Arr .i8 W (some ⟨g,o,none⟩) xs)=>om (i+1) h
   generalize xs.drop (i+1)=ys at *;generalize hys:ys.any (·==6*sdI bl)=D at *;cases bl
   all_goals
    go_enter Tryz.func136,Tryz.ntmps136;go_wp2_with fail;refine(hor _ hx1).mono ?_;rintro e w2 ⟨rfl,hb2⟩;have hA2:=hA.call hb2;have hB2:=zbc hB hb2;have hx2:=hx1.call hb2;clear h0 h1 h2 hl0 hA hB hor hx1;have h0:=hA2.cells 0;have h1:=hA2.cells 1;have h2:=hA2.cells 2;have hl0:=hA2.lt;go_wp2_with fail;refine(hix _ hx2).mono ?_;rintro e w3 ⟨rfl,hb3⟩;have hA3:=hA2.call hb3;have hB3:=zbc hB2 hb3;have hx3:=hx2.call hb3;clear h0 h1 h2 hl0 hix hx2;have h0:=hA3.cells 0;have h1:=hA3.cells 1;have h2:=hA3.cells 2;have hl0:=hA3.lt;go_wp2_with fail
    all_goals
     first
      | refine(hct _ (had _ hx3)).mono ?_
      | refine(hct2 _ (.inl (hdn (by omega)))).mono ?_
     rintro e w4 ⟨rfl,hb4⟩;have hB4:=zbc hB3 hb4;cases D
     all_goals
      go_wp2_with fail;go_ret2
      exact⟨by rw[e0.out];rfl,hB4⟩
def chkW(F R:Nat)(xs:List Int)(bl:Bool):Nat:=atrW F R (setW gNon xs xs.length) xs (kgI xs bl).toNat (!bl) xs.length
def chkV(f r:Int)(xs:List Int)(bl:Bool):Value:=if aF f r xs then(if kgI xs bl<0 then .tuple #[.int .u64 0,.int .i64 9]else .tuple #[.int .u64 (chkW f.toNat r.toNat xs bl:Nat),.int .i64 0])else .tuple #[.int .u64 0,.int .i64 2]
theorem iZ(f r:Int)(bl:Bool)(p:Option Addr)(c:Nat)(xs:List Int)(w:World)(hg:bq w)(hx:Arr .i8 w p xs)(hl:xs.length≤1000)(hcap:xs.length≤c):
  Clz 125 #[.agg (ar f r p xs.length c).toArray,.bool bl] w fun e w'=>e=.returned (chkV f r xs bl)∧Below w.heap.size w w':=by
 have hA:=ac.new w (.cells (ar f r p xs.length c).toArray 68);have hB:=ae w (.cells (ar f r p xs.length c).toArray 68);have hkg:=fun W h=>oI f r bl p c xs W h hl hcap
 have h0:=hA.cells 0;have h1:=hA.cells 1;have h2:=hA.cells 2;have hl0:=hA.lt;have hg1:=hg.call hB;have hx1:=hx.call hB;obtain⟨V,hV⟩:∃ V,V=chkV f r xs bl:=⟨_,rfl⟩;rw[←hV];rcases hs:aF f r xs with _|_
 ·have e0:Hid (V=.tuple #[.int .u64 0,.int .i64 2]):=zhd (by rw[hV,chkV,hs];rfl);have e1:kngV f r xs bl=.tuple #[.int .i64 0,.int .i64 2]:=by rw[kngV,hs];rfl
  rw[e1]at hkg;clear hV e1;go_enter Tryz.func125,Tryz.ntmps125;go_wp2_with fail;refine(hkg _ hx1).mono ?_;rintro e w2 ⟨rfl,hb2⟩;go_wp2_with fail;go_ret2
  exact⟨by rw[e0.out];rfl,zbc hB hb2⟩
 ·rw[chkV,hs,if_pos rfl]at hV;rcases Int.lt_or_le (kgI xs bl) 0 with hk|hk
  ·have e0:Hid (V=.tuple #[.int .u64 0,.int .i64 9]):=zhd (by rw[hV,if_pos hk]);have e1:kngV f r xs bl=.tuple #[.int .i64 0,.int .i64 9]:=by rw[kngV,hs,if_pos rfl,if_pos hk]
   rw[e1]at hkg;clear hV e1;go_enter Tryz.func125,Tryz.ntmps125;go_wp2_with fail;refine(hkg _ hx1).mono ?_;rintro e w2 ⟨rfl,hb2⟩;go_wp2_with fail;go_ret2
   exact⟨by rw[e0.out];rfl,zbc hB hb2⟩
  ·obtain⟨k,hkn,hkl⟩:∃ k:Nat,kgI xs bl=k∧k<xs.length:=by
    rcases nJ xs bl with h|h
    ·omega
    ·exact h
   have hor:=hs;obtain⟨F,R,rfl,rfl,hF,hR,hlen,_,_⟩:=dJ hs;rw[if_neg (by omega)]at hV;have e1:kngV F R xs bl=.tuple #[.int .i64 (k:Int),.int .i64 0]:=by rw[kngV,hs,if_pos rfl,if_neg (by omega),hkn]
   rw[e1]at hkg;have hat:=fun W hg h=>iE F R k (!bl) p c xs hF hR hlen (by omega) hor W hg h
   have hV2:V=.tuple #[.int .u64 (atrW F R (setW gNon xs xs.length) xs k (!bl) xs.length:Nat),.int .i64 0]:=by rw[hV,chkW,hkn,Int.toNat_natCast,Int.toNat_natCast,Int.toNat_natCast]
   generalize atrW F R (setW gNon xs xs.length) xs k (!bl) xs.length=S at *;replace hV2:=zhd hV2;clear hV e1 hkn hs hor;replace hlen:=zhd hlen;go_enter Tryz.func125,Tryz.ntmps125;go_wp2_with fail;refine(hkg _ hx1).mono ?_;rintro e w2 ⟨rfl,hb2⟩;have hA2:=hA.call hb2;have hB2:=zbc hB hb2;have hx2:=hx1.call hb2;have hg2:=hg1.call hb2;clear h0 h1 h2 hl0 hA hB hkg hx1 hg1;have h0:=hA2.cells 0;have h1:=hA2.cells 1;have h2:=hA2.cells 2;have hl0:=hA2.lt;go_wp2_with fail;refine(hat _ hg2 hx2).mono ?_;rintro e w3 ⟨rfl,hb3⟩;go_wp2_with fail;go_ret2
   exact⟨by rw[hV2.out];rfl,zbc hB2 hb3⟩
def cJ(f r:Int)(xs:List Int)(bl:Bool):Bool:=aF f r xs&&(!decide (kgI xs bl<0)&&(!decide (kgI xs (!bl)<0)&&decide (chkW f.toNat r.toNat xs (!bl)=0)))
theorem tT(f r:Int)(xs:List Int)(bl:Bool):∃(k e:Int) (S:Nat) (e2:Int),kngV f r xs bl=.tuple #[.int .i64 k,.int .i64 e]∧chkV f r xs (!bl)=.tuple #[.int .u64 (S:Nat),.int .i64 e2]∧cJ f r xs bl=(decide (e=0)&&(decide (e2=0)&&decide ((S:Int)=0))):=by
 unfold kngV chkV cJ;rcases hs:aF f r xs with _|_
 ·exact⟨0,2,0,2,rfl,rfl,rfl⟩
 ·by_cases h1:kgI xs bl<0<;>by_cases h2:kgI xs (!bl)<0
  ·exact⟨0,9,0,9,by simp[h1],by simp[h2],by simp[h1]⟩
  ·exact⟨0,9,_,0,by simp[h1],by simp[h2];rfl,by simp[h1]⟩
  ·exact⟨_,0,0,9,by simp[h1];rfl,by simp[h2],by simp[h1,h2]⟩
  ·exact⟨_,0,_,0,by simp[h1];rfl,by simp[h2];rfl,by simp[h1,h2]⟩
theorem ug(f r ca pa ha fu:Int)(bl:Bool)(p:Option Addr)(c:Nat)(xs:List Int)(w:World)(hg:bq w)(hx:Arr .i8 w p xs)(hl:xs.length≤1000)(hcap:xs.length≤c):
  Clz 75 #[.agg (aa f r p xs.length c bl ca pa ha fu).toArray] w fun e w'=>e=.returned (.bool (cJ f r xs bl))∧Below w.heap.size w w':=by
 obtain⟨k,e1,S,e2,hk,hc,hB⟩:=tT f r xs bl;have hkg:=fun W h=>oI f r bl p c xs W h hl hcap
 have hch:=fun W hg h=>iZ f r (!bl) p c xs W hg h hl hcap
 rw[hk]at hkg;rw[hc]at hch;rw[hB];clear hk hc hB;have hA:=ac.new w (.cells (aa f r p xs.length c bl ca pa ha fu).toArray 26);have hB:=ae w (.cells (aa f r p xs.length c bl ca pa ha fu).toArray 26);have h0:=hA.cells 0;have h1:=hA.cells 1;have h2:=hA.cells 2;have h3:=hA.cells 3;have hl0:=hA.lt;have hg1:=hg.call hB;have hx1:=hx.call hB;go_enter Tryz.func75,Tryz.ntmps75;go_wp2_with fail;have hbd:=ae (w.alloc (.cells (aa f r p xs.length c bl ca pa ha fu).toArray 26)) (.cells (ar f r p xs.length c).toArray 68);have hD1:=ac.new' (w.alloc (.cells (aa f r p xs.length c bl ca pa ha fu).toArray 26)) (.cells (ar f r p xs.length c).toArray 68) (q:=w.heap.size+1) (by simp);have hA1:=hA.call hbd;have hB1:=zbc hB hbd;have hg2:=hg1.call hbd;have hx2:=hx1.call hbd;refine(hkg _ hx2).mono ?_;rintro e w2 ⟨rfl,hb2⟩;have hA2:=hA1.call hb2;have hB2:=zbc hB1 hb2;have hx3:=hx2.call hb2;have hg3:=hg2.call hb2;have hD2:=hD1.call hb2;clear h0 h1 h2 h3 hl0 hA hB hkg hx1 hg1 hD1 hx2 hg2 hbd;have h0:=hD2.cells 0;have h1:=hD2.cells 1;have h2:=hD2.cells 2;have h3:=hA2.cells 3;have hl0:=hD2.lt;go_wp2_with fail;refine(hch _ hg3 hx3).mono ?_;rintro e w3 ⟨rfl,hb3⟩;have hB3:=zbc hB2 hb3;clear h0 h1 h2 h3 hl0 hD2 hx3 hg3;by_cases z1:e1=0<;>by_cases z2:e2=0<;>by_cases z3:(S:Int)=0
 all_goals
  go_wp2_with fail;go_ret;exact⟨aV (by first|(simp[z1,z2,z3];done)|(simp only[beq_false_of_ne z3,decide_eq_false z3,z1,z2];rfl)),hB3⟩
def dw(F:Nat)(xs:List Int):Bool:=!(xs.drop (xs.length-F)).any (·==1)&&!(xs.take F).any (·==-1)
theorem tR{k:IntKind}{W:World}{g o:Nat}{xs:List Int}(i:Nat)(h:Arr k W (some ⟨g,o,none⟩) xs):Arr k W (some ⟨g,o,none⟩) (xs.take i):=by
 by_cases hi:xs.length=0
 ·left;rw[List.length_eq_zero_iff]at hi;rw[hi,List.take_nil]
 ·obtain⟨g',o',e,hl,hc⟩:=h.at (i:=0) (by omega);injection e with e;injection e with e1 e2 e3;subst e1 e2;exact oL i hl hc
theorem tV(F R:Nat)(ca pa ha fu:Int)(bl:Bool)(p:Option Addr)(c:Nat)(xs:List Int)(hF:3≤F∧F≤8)(hl:xs.length≤1000)(hcap:xs.length≤c)(hFl:F<xs.length)(w:World)(hx:Arr .i8 w p xs):
  Clz 77 #[.agg (aa F R p xs.length c bl ca pa ha fu).toArray] w fun e w'=>e=.returned (.bool (dw F xs))∧Below w.heap.size w w':=by
 have hA:=ac.new w (.cells (aa F R p xs.length c bl ca pa ha fu).toArray 26);have hB:=ae w (.cells (aa F R p xs.length c bl ca pa ha fu).toArray 26);have hx1:=hx.call hB;obtain⟨g,o,rfl,hgl,hcc⟩:=hx1.at (i:=0) (by omega);clear hcc hgl;obtain⟨n,hn⟩:∃ n,n=xs.length-F:=⟨_,rfl⟩;have hdl:(xs.drop n).length=xs.length-n:=List.length_drop;have htl:(xs.take F).length=F:=by rw[List.length_take];omega
 have hc1:=fun W h=>eM (some ⟨g,o+n,none⟩) (c-n) (xs.drop n) 1 W h (by rw[hdl];omega)
 have hc2:=fun W h=>eM (some ⟨g,o,none⟩) c (xs.take F) (-1) W h (by rw[htl];omega)
 have ha1:=fun W (h:Arr .i8 W (some ⟨g,o,none⟩) xs)=>om n h
 have ha2:=fun W (h:Arr .i8 W (some ⟨g,o,none⟩) xs)=>tR F h
 have hVd:dw F xs=(!(xs.drop n).any (·==1)&&!(xs.take F).any (·==-1)):=by rw[hn];rfl
 rw[hdl]at hc1;rw[htl]at hc2;rw[hVd];clear hdl htl hVd;generalize xs.drop n=y1 at *;generalize xs.take F=y2 at *;generalize hd1:y1.any (·==1)=D1 at *;generalize hd2:y2.any (·==-1)=D2 at *;have e1:wrap64 ((xs.length:Int)-F)=((n:Nat):Int):=by rw[hn,show((xs.length-F:Nat):Int)=(xs.length:Int)-F by omega];exact IntWalk.wrap64_in _ (by omega)
 have hnl:(n:Int)≤xs.length:=by omega
 have hnc:(n:Int)≤c:=by omega
 have hlc:(xs.length:Int)≤c:=by omega
 have hFc:(F:Int)≤c:=by omega
 have hnn:¬n=c:=by omega
 subst hn;have h0:=hA.cells 0;have h2:=hA.cells 2;have hl0:=hA.lt;go_enter Tryz.func77,Tryz.ntmps77;go_wp2_with fail;show Code.wp _ _ _ _ (w.alloc (.cells (aa F R (some ⟨g,o,none⟩) xs.length c bl ca pa ha fu).toArray 26));generalize w.alloc (.cells (aa F R (some ⟨g,o,none⟩) xs.length c bl ca pa ha fu).toArray 26)=w1 at *;refine bc (by kernel_rfl) (by kernel_rfl) [some 5,some 6,some 7,some 8,some 9,some 10,some 3,some 4] (by rfl) (by rfl) w1.heap.size (fun i8=>match i8 with|0=>.pointer (some ⟨w.heap.size,2,none⟩)|1=>.slice (some ⟨g,o,none⟩) xs.length c|2=>.int .i64 ((xs.length:Nat):Int)|3=>.pointer (some ⟨w.heap.size,0,none⟩)|4=>.pointer (some ⟨w.heap.size,0,none⟩)|5=>.int .i64 ((F:Nat):Int)|6=>.int .i64 ((xs.length:Nat):Int)|7=>.int .i64 ((F:Nat):Int)|_=>undef) (fun _=>none) ?hstep ?hend
 case hstep =>
  intro i9 o9 f9 W ho hi hC hf K hK;have hi:i9<8:=hi;rcases i9 with _|_|_|_|_|_|_|_|i9
  ·exact au (og ho) 26 (.tmp 1) 1 (oo ho) (ah rfl rfl) (n:=2) (by kernel_rfl) (kk hK)
  ·exact ap (og ho) 24 (.tmp 5) (oo ho) (ri 0 (da ho hf 0)) (by kernel_rfl) ((hA.call hC).cells 2) (kk hK)
  ·exact lg (og ho) (.tmp 6) 24 (oo ho) Tryz.underlying24 (ri 1 (da ho hf 1)) (kk hK)
  ·exact au (og ho) 26 (.tmp 1) 0 (oo ho) (ah rfl rfl) (n:=0) (by kernel_rfl) (kk hK)
  ·exact au (og ho) 23 (.tmp 8) 0 (oo ho) (ri 3 (da ho hf 3)) (n:=0) (by kernel_rfl) (kk hK)
  ·exact ap (og ho) 3 (.tmp 9) (oo ho) (ri 4 (da ho hf 4)) (by kernel_rfl) ((hA.call hC).cells 0) (kk hK)
  ·exact aE (og ho) (.tmp 7) (oo ho) (ri 2 (da ho hf 2)) (kk hK)
  ·exact aE (og ho) (.tmp 10) (oo ho) (ri 5 (da ho hf 5)) (kk hK)
  ·omega
 case hend =>
  intro f9 W hC hf;have hv6:f9 6=.int .i64 ((xs.length:Nat):Int):=hf 6 (by decide);have hv7:f9 7=.int .i64 ((F:Nat):Int):=hf 7 (by decide);have hA2:=hA.call hC;have hB2:=zbc hB hC;have hx2:=hx1.call hC;clear hf hA hB hx1 h0 h2 hl0 hC;have h0:=hA2.cells 0;have h2:=hA2.cells 2;have hl0:=hA2.lt;simp only[ao,Act.put,List.setIfInBounds_toArray,List.set_cons_succ,List.set_cons_zero];rw[hv6,hv7];clear hv6 hv7;go_wp2_with fail;refine(hc1 _ (ha1 _ hx2)).mono ?_;rintro e w3 ⟨rfl,hb3⟩;have hA3:=hA2.call hb3;have hB3:=zbc hB2 hb3;have hx3:=hx2.call hb3;clear hx2 h0 h2 hl0;have h0:=hA3.cells 0;have h2:=hA3.cells 2;have hl0:=hA3.lt;cases D1
  ·go_wp2_with fail;refine(hc2 _ (ha2 _ hx3)).mono ?_;rintro e w4 ⟨rfl,hb4⟩;go_wp2_with fail;go_ret;exact⟨by cases D2<;>rfl,zbc hB3 hb4⟩
  ·go_wp2_with fail;go_ret;exact⟨rfl,hB3⟩
end Go.Proofs.YtefmplccbkmalaaGreatDoor
