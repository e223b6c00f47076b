/- The law UnmoveBefore returns true at any position and any move backwards; the walks and the plain facts lie in the texts before. -/
import Derived.Test.YtefmplccbkmalaaGreatDoorB15
import Derived.Test.YtefmplccbkmalaaGreatDoorB27
import Derived.Test.YtefmplccbkmalaaGreatDoorTie
import Derived.Test.YtefmplccbkmalaaGreatDoorCards
import Derived.Test.YtefmplccbkmalaaGreatDoorRows
import Derived.SevenTiedAt
import Derived.HandedShaped
import Derived.ProofKit
import Derived.LaidMore
import Derived.OpenShut
set_option maxRecDepth 100000
set_option maxHeartbeats 12800000
namespace Go.Proofs.YtefmplccbkmalaaGreatDoor
open Go.ChangeShapes Go.WideShapes Go.ChangeAt Go.RowKit
section
variable {H:Type} {enc:TypeId×Value→H} {W:World} {base:Nat} {sp:Nat→Bool} {held:Bool}

theorem Tryz.laidOut:laidOutB Tryz.prog=true:=by kernel_rfl
theorem Tryz.own:ownKnob Tryz.prog.godebug=none:=by kernel_rfl
theorem Tryz.cells3:Tryz.prog.cellsOf 3=1:=by kernel_rfl
theorem Tryz.cells4:Tryz.prog.cellsOf 4=1:=by kernel_rfl
theorem Tryz.cells5:Tryz.prog.cellsOf 5=1:=by kernel_rfl
theorem Tryz.cells38:Tryz.prog.cellsOf 38=1:=by kernel_rfl
theorem Tryz.cells40:Tryz.prog.cellsOf 40=3:=by kernel_rfl
theorem Tryz.cells42:Tryz.prog.cellsOf 42=7:=by kernel_rfl
theorem Tryz.cells181:Tryz.prog.cellsOf 181=2:=by kernel_rfl
theorem Tryz.cells131:Tryz.prog.cellsOf 131=6:=by kernel_rfl
theorem Tryz.cells104:Tryz.prog.cellsOf 104=6:=by kernel_rfl
theorem Tryz.cells132:Tryz.prog.cellsOf 132=24:=by kernel_rfl
theorem Tryz.cells150:Tryz.prog.cellsOf 150=24:=by kernel_rfl
theorem Tryz.cellTypes42:Tryz.prog.cellTypes Tryz.prog.depth 42=some [3,3,38,38,3,5,3]:=by kernel_rfl
theorem kQ{x:Int}(h:(Lit.int .u8 x).wf=true):0≤x∧x<256:=by have h1:IntKind.u8.min=0:=rfl;have h2:IntKind.u8.max=255:=rfl;simp only[Lit.wf,Bool.and_eq_true,decide_eq_true_eq]at h;omega
theorem nj{x:Int}(h:(Lit.int .i8 x).wf=true):-128≤x∧x≤127:=by have h1:IntKind.i8.min=-128:=rfl;have h2:IntKind.i8.max=127:=rfl;simp only[Lit.wf,Bool.and_eq_true,decide_eq_true_eq]at h;omega
theorem qN{w:World}{a:Addr}{v:Value}(h:w.cell? a=some v):a.block<w.heap.size∧a.spot=none:=by
 unfold World.cell? at h;split at h
 ·rename_i e;refine⟨(Array.getElem?_eq_some_iff.1 e).1,?_⟩;split at h
  ·cases h
  ·rename_i e2;simpa using e2
 ·cases h
theorem dd{W:World}{base:Nat}{c:Value}(h:Cell.okWide Tryz.prog W .any base 3 c):∃ n,c=.int .i64 n :=
 okWide_int Tryz.underlying3 (by simp only[Value.okWide,Tryz.underlying3];exact h)
theorem qA{W:World}{base:Nat}{c:Value}(h:Cell.okWide Tryz.prog W .any base 5 c):∃ n,c=.int .u8 n :=
 okWide_int Tryz.underlying5 (by simp only[Value.okWide,Tryz.underlying5];exact h)
theorem qR{W:World}{base:Nat}{c:Value}(h:Cell.okWide Tryz.prog W .any base 38 c):∃ n,c=.int .i8 n :=
 okWide_int Tryz.underlying38 (by simp only[Value.okWide];exact h)
theorem tp{W:World}{base:Nat}{v:Value}(h:Value.okWide Tryz.prog W .any base 42 v):∃ r:Ret,v=.agg r.cs.toArray:=by
 simp only[Value.okWide,Tryz.underlying42]at h;obtain⟨cs,rfl,hsz,ts,hts,_,hall⟩:=h;rw[Tryz.cellTypes42]at hts;cases hts
 rw[Tryz.cells42]at hsz;obtain⟨l⟩:=cs;match l,hsz with
 | [c0,c1,c2,c3,c4,c5,c6],_ =>
  have g:∀(i:Nat) (c:Value),[c0,c1,c2,c3,c4,c5,c6][i]? = some c→∃ u,[3,3,38,38,3,5,3][i%7]? = some u∧Cell.okWide Tryz.prog W .any base u c:=fun i c hc=>hall i c (by rw[List.getElem?_toArray];exact hc)
  obtain⟨_,e0,h0⟩:=g 0 c0 rfl;obtain⟨_,e1,h1⟩:=g 1 c1 rfl;obtain⟨_,e2,h2⟩:=g 2 c2 rfl;obtain⟨_,e3,h3⟩:=g 3 c3 rfl;obtain⟨_,e4,h4⟩:=g 4 c4 rfl;obtain⟨_,e5,h5⟩:=g 5 c5 rfl;obtain⟨_,e6,h6⟩:=g 6 c6 rfl;cases e0;cases e1;cases e2;cases e3;cases e4;cases e5;cases e6
  obtain⟨n0,rfl⟩:=dd h0;obtain⟨n1,rfl⟩:=dd h1;obtain⟨n2,rfl⟩:=qR h2;obtain⟨n3,rfl⟩:=qR h3;obtain⟨n4,rfl⟩:=dd h4;obtain⟨n5,rfl⟩:=qA h5;obtain⟨n6,rfl⟩:=dd h6;exact⟨⟨⟨n0,n1,n2⟩,n3,n4,n5,n6⟩,rfl⟩
theorem qH{m:Nat}{n:Int}{y:DataW H×List MemPlace}(h:DataW.trod enc Tryz.prog W base sp held m 38 [.int .i8 n]=some y):-128≤n∧n≤127:=by
 obtain⟨q,e1,_,hw⟩:=DataW.trod_int Tryz.underlying38 h;obtain rfl:n=q:=by simpa using e1
 exact nj hw
theorem yc{m:Nat}{n:Int}{y:DataW H×List MemPlace}(h:DataW.trod enc Tryz.prog W base sp held m 5 [.int .u8 n]=some y):0≤n∧n<256:=by
 obtain⟨q,e1,_,hw⟩:=DataW.trod_int Tryz.underlying5 h;obtain rfl:n=q:=by simpa using e1
 exact kQ hw
theorem rU{fuel:Nat}{r:Ret}{x:DataW H×List MemPlace}
  (h:DataW.trod enc Tryz.prog W base sp held fuel 42 r.cs=some x):(-128≤r.mv.pr∧r.mv.pr≤127)∧(-128≤r.cp∧r.cp≤127)∧(0≤r.ca∧r.ca<256):=by
 obtain⟨⟨f,t,p⟩,c,a,k,s⟩:=r;obtain⟨xs,m,_,_,_,hlen,hf⟩:=DataW.trod_struct Tryz.underlying42 h;have h0:DataW.trod enc Tryz.prog W base sp held m 40 ((([.int .i64 f,.int .i64 t,.int .i8 p,.int .i8 c,.int .i64 a,.int .u8 k,.int .i64 s]:List Value).drop 0).take (Tryz.prog.cellsOf 40))=xs[0]?:=hf 0 _ rfl;have h1:DataW.trod enc Tryz.prog W base sp held m 38 ((([.int .i64 f,.int .i64 t,.int .i8 p,.int .i8 c,.int .i64 a,.int .u8 k,.int .i64 s]:List Value).drop 3).take (Tryz.prog.cellsOf 38))=xs[1]?:=hf 1 _ rfl;have h3:DataW.trod enc Tryz.prog W base sp held m 5 ((([.int .i64 f,.int .i64 t,.int .i8 p,.int .i8 c,.int .i64 a,.int .u8 k,.int .i64 s]:List Value).drop 5).take (Tryz.prog.cellsOf 5))=xs[3]?:=hf 3 _ rfl;have hl:xs.length=5:=hlen;rw[List.getElem?_eq_getElem (l:=xs) (i:=0) (by omega),Tryz.cells40]at h0;rw[List.getElem?_eq_getElem (l:=xs) (i:=1) (by omega),Tryz.cells38]at h1;rw[List.getElem?_eq_getElem (l:=xs) (i:=3) (by omega),Tryz.cells5]at h3;obtain⟨ys,m2,_,_,_,hlen2,hf2⟩:=DataW.trod_struct Tryz.underlying40 h0;have h2:DataW.trod enc Tryz.prog W base sp held m2 38 ((([.int .i64 f,.int .i64 t,.int .i8 p]:List Value).drop 2).take (Tryz.prog.cellsOf 38))=ys[2]?:=hf2 2 _ rfl;have hl2:ys.length=3:=hlen2;rw[List.getElem?_eq_getElem (l:=ys) (i:=2) (by omega),Tryz.cells38]at h2;exact⟨qH h2,qH h1,yc h3⟩
theorem j0{fuel n:Nat}{t:TypeId}{cs:List Value}{L:List (Int×Int)}{ps:List MemPlace}
  (ht:Tryz.prog.underlying t=some (.array n 181)) (hn:L.length=n) (h:DataW.trod enc Tryz.prog W base sp held fuel t cs=some (.agg (L.map fun s=>.agg [.lit (.int .i64 s.1),.lit (.int .i64 s.2)]),ps)) :
  ∀ j,j<n→cs[j*2]? = some (.int .i64 (L[j]?.getD (0,0)).1)∧cs[j*2+1]? = some (.int .i64 (L[j]?.getD (0,0)).2):=by
 obtain⟨xs,m,_,hx,_,hn3,hel⟩:=DataW.trod_array ht h;intro j hj;have hj2:=hel j hj;rw[Tryz.cells181,List.getElem?_eq_getElem (l:=xs) (i:=j) (by omega)]at hj2;have hx1:=congrArg Prod.fst hx;injection hx1 with hx1;have hxj:=congrArg (fun l=>l[j]?) hx1;simp only[List.getElem?_map]at hxj;rw[List.getElem?_eq_getElem (l:=xs) (i:=j) (by omega),List.getElem?_eq_getElem (l:=L) (i:=j) (by omega)]at hxj;simp only[Option.map_some,Option.some.injEq]at hxj;obtain⟨y0,y1,m2,e,_,h0,h1⟩:=trod_struct2 Tryz.underlying181 hj2;rw[e]at hxj;simp only[DataW.agg.injEq,List.cons.injEq,and_true]at hxj;have h0:DataW.trod enc Tryz.prog W base sp held m2 3 (((((cs.drop (j*2)).take 2).drop 0)).take (Tryz.prog.cellsOf 3))=some y0:=h0;have h1:DataW.trod enc Tryz.prog W base sp held m2 3 (((((cs.drop (j*2)).take 2).drop 1)).take (Tryz.prog.cellsOf 3))=some y1:=h1;rw[Tryz.cells3]at h0 h1;obtain⟨k0,e0,f0,_⟩:=DataW.trod_int Tryz.underlying3 h0;obtain⟨k1,e1,f1,_⟩:=DataW.trod_int Tryz.underlying3 h1;rw[f0,f1]at hxj;have g0:k0=L[j].1:=by have:=hxj.1;simp at this;exact this.symm
 have g1:k1=L[j].2:=by have:=hxj.2;simp at this;exact this.symm
 rw[List.getElem?_eq_getElem (l:=L) (i:=j) (by omega)];simp only[Option.getD_some];constructor
 ·have:=congrArg (fun l=>l[0]?) e0;simp[List.getElem?_drop]at this;rw[this,g0]
 ·have:=congrArg (fun l=>l[0]?) e1;simp[List.getElem?_drop]at this;rw[this,g1]
theorem zT{fuel:Nat}{cs:List Value}{ps:List MemPlace}{L:List Nat}(hn:L.length=64)
  (h:DataW.trod enc Tryz.prog W base sp held fuel 173 cs=some (.agg (L.map fun s:Nat=>.lit (.int .u8 (s:Int))),ps)):∀ j,j<64→cs[j]? = some (.int .u8 ((L.getD j 0:Nat):Int)):=by
 obtain⟨xs,m,_,hx,_,hn3,hel⟩:=DataW.trod_array Tryz.underlying173 h;intro j hj;have hj2:=hel j hj;rw[Tryz.cells5,List.getElem?_eq_getElem (l:=xs) (i:=j) (by omega)]at hj2;have hx1:=congrArg Prod.fst hx;injection hx1 with hx1;have hxj:=congrArg (fun l=>l[j]?) hx1;simp only[List.getElem?_map]at hxj;rw[List.getElem?_eq_getElem (l:=xs) (i:=j) (by omega),List.getElem?_eq_getElem (l:=L) (i:=j) (by omega)]at hxj;simp only[Option.map_some,Option.some.injEq]at hxj;obtain⟨q,e0,f0,_⟩:=DataW.trod_int Tryz.underlying5 hj2;rw[f0]at hxj;simp only[DataW.lit.injEq,Lit.int.injEq,true_and]at hxj;have hg:L.getD j 0=L[j]:=by rw[List.getD,List.getElem?_eq_getElem (l:=L) (i:=j) (by omega)];rfl
 have:=congrArg (fun l=>l[0]?) e0;simp[List.getElem?_drop]at this;rw[this,hg,hxj]
def mc(pk n:String)(t o b:Nat):Field:={ name:=n,type:=t,offset:=o,embedded:=false,tag:="",pkgPath:=pk,byteOffset:=b}
abbrev zD(pk:String):Array Field:=#[mc pk "bit" 5 0 0,mc pk "black" 4 1 1,mc pk "from" 3 2 8,mc pk "to" 3 3 16,mc pk "corner" 3 4 24,mc pk "crossing" 3 5 32]
def uM{H:Type}(c:Cas):DataW H:=.agg [.lit (.int .u8 c.bit),.lit (.bool c.bl),.lit (.int .i64 c.fr),.lit (.int .i64 c.tg),.lit (.int .i64 c.co),.lit (.int .i64 c.cr)]
theorem kK{fuel:Nat}{e:TypeId}{pk:String}{l:List Value}{x:DataW H×List MemPlace}(c:Cas)
  (he:Tryz.prog.underlying e=some (.struct (zD pk)))
  (hc:Tryz.prog.cellsOf e=6) (h:DataW.trod enc Tryz.prog W base sp held fuel e l=some x) (hx:x.1=uM c):l=c.cs:=by
 obtain⟨xs,m,_,hxx,hl,hlen,hf⟩:=DataW.trod_struct he h;rw[hc]at hl;match xs,hlen with
 | [y0,y1,y2,y3,y4,y5],_ =>
  match l,hl with
  | [a0,a1,a2,a3,a4,a5],_=>have h0:DataW.trod enc Tryz.prog W base sp held m 5 ((([a0,a1,a2,a3,a4,a5]:List Value).drop 0).take (Tryz.prog.cellsOf 5))=some y0:=hf 0 _ rfl;have h1:DataW.trod enc Tryz.prog W base sp held m 4 ((([a0,a1,a2,a3,a4,a5]:List Value).drop 1).take (Tryz.prog.cellsOf 4))=some y1:=hf 1 _ rfl;have h2:DataW.trod enc Tryz.prog W base sp held m 3 ((([a0,a1,a2,a3,a4,a5]:List Value).drop 2).take (Tryz.prog.cellsOf 3))=some y2:=hf 2 _ rfl;have h3:DataW.trod enc Tryz.prog W base sp held m 3 ((([a0,a1,a2,a3,a4,a5]:List Value).drop 3).take (Tryz.prog.cellsOf 3))=some y3:=hf 3 _ rfl;have h4:DataW.trod enc Tryz.prog W base sp held m 3 ((([a0,a1,a2,a3,a4,a5]:List Value).drop 4).take (Tryz.prog.cellsOf 3))=some y4:=hf 4 _ rfl;have h5:DataW.trod enc Tryz.prog W base sp held m 3 ((([a0,a1,a2,a3,a4,a5]:List Value).drop 5).take (Tryz.prog.cellsOf 3))=some y5:=hf 5 _ rfl;rw[Tryz.cells5]at h0;rw[Tryz.cells4]at h1;rw[Tryz.cells3]at h2 h3 h4 h5;obtain⟨q0,e0,f0,_⟩:=DataW.trod_int Tryz.underlying5 h0;obtain⟨q1,e1,f1⟩:=DataW.trod_bool Tryz.underlying4 h1;obtain⟨q2,e2,f2,_⟩:=DataW.trod_int Tryz.underlying3 h2;obtain⟨q3,e3,f3,_⟩:=DataW.trod_int Tryz.underlying3 h3;obtain⟨q4,e4,f4,_⟩:=DataW.trod_int Tryz.underlying3 h4;obtain⟨q5,e5,f5,_⟩:=DataW.trod_int Tryz.underlying3 h5;rw[hxx]at hx;subst f0 f1 f2 f3 f4 f5;simp[uM]at hx;simp at e0 e1 e2 e3 e4 e5;subst e0 e1 e2 e3 e4 e5;simp[Cas.cs,hx]
theorem lj{fuel:Nat}{t e:TypeId}{pk:String}{cs:List Value}{ps:List MemPlace}(ht:Tryz.prog.underlying t=some (.array 4 e))
  (he:Tryz.prog.underlying e=some (.struct (zD pk)))
  (hc:Tryz.prog.cellsOf e=6) (hct:Tryz.prog.cellsOf t=24) (h:DataW.trod enc Tryz.prog W base sp held fuel t cs=some (.agg (az.map uM),ps)):cs=casV:=by
 obtain⟨xs,m,_,hx,hl,hn3,hel⟩:=DataW.trod_array ht h;rw[hct]at hl;have hx1:=congrArg Prod.fst hx;injection hx1 with hx1;match xs,hn3 with
 | [y0,y1,y2,y3],_ =>
  have g0:=hel 0 (by decide);have g1:=hel 1 (by decide);have g2:=hel 2 (by decide);have g3:=hel 3 (by decide);rw[hc]at g0 g1 g2 g3;simp only[az,List.map_cons,List.map_nil,List.cons.injEq,and_true]at hx1;have k0:=kK _ he hc g0 hx1.1.symm;have k1:=kK _ he hc g1 hx1.2.1.symm;have k2:=kK _ he hc g2 hx1.2.2.1.symm;have k3:=kK _ he hc g3 hx1.2.2.2.symm;have e:cs=(cs.drop (0*6)).take 6++((cs.drop (1*6)).take 6++((cs.drop (2*6)).take 6++(cs.drop (3*6)).take 6)):=by
   match cs,hl with
   | [_,_,_,_,_,_,_,_,_,_,_,_,_,_,_,_,_,_,_,_,_,_,_,_],_=>rfl
  rw[e,k0,k1,k2,k3];rfl
theorem qv{fuel:Nat}{cs:List Value}{ps:List MemPlace}(h:DataW.trod enc Tryz.prog W base sp held fuel 23 cs=some (.agg [.lit (.int .i64 8),.lit (.int .i64 8)],ps)):
  cs[0]? = some (.int .i64 8)∧cs[1]? = some (.int .i64 8):=by
 obtain⟨y0,y1,m2,e,_,h0,h1⟩:=trod_struct2 Tryz.underlying23 h;have e':=congrArg Prod.fst e;simp only[DataW.agg.injEq,List.cons.injEq,and_true]at e';have c3:=Tryz.cells3;simp only[c3]at h0 h1;obtain⟨k0,e0,f0,_⟩:=DataW.trod_int Tryz.underlying3 h0;obtain⟨k1,e1,f1,_⟩:=DataW.trod_int Tryz.underlying3 h1;rw[f0,f1]at e';have g0:k0=8:=by have:=e'.1;simp at this;exact this.symm
 have g1:k1=8:=by have:=e'.2;simp at this;exact this.symm
 have a0:=congrArg (fun l=>l[0]?) e0;have a1:=congrArg (fun l=>l[0]?) e1;simp at a0 a1;exact⟨by rw[a0,g0],by rw[a1,g1]⟩
def ic:List (String×DataW Unit):=[("math/bits.deBruijn64tab",Rows.laid_math_bits_deBruijn64tab),("caissa/ray.straight",Rows.laid_caissa_ray_straight),("caissa/ray.diagonal",Rows.laid_caissa_ray_diagonal),("caissa/ray.leaps",Rows.laid_caissa_ray_leaps),("caissa/position.full",Rows.laid_caissa_position_full),("caissa/making.castles",Rows.laid_caissa_making_castles),("caissa/unmove.castles",Rows.laid_caissa_unmove_castles),("caissa/unmove.full",Rows.laid_caissa_unmove_full)]
theorem uu(os:Os)(args:Array Value):laidMetH Tryz.prog ic ((World.doorLaid Tryz.prog 400 os).forCall (fun _ _=>0) ⟨#[],args,[]⟩).memory :=
 laidMetH_of_parts3 (fuel:=8) (laidMet_of_run' 8 (by kernel_rfl) (by kernel_rfl)) (by kernel_rfl) (by kernel_rfl)
abbrev glb(n:String)(i:Nat)(t:TypeId):Prop:=Tryz.prog.globalNamed n=some i∧(Tryz.prog.globals[i]?).map (·.type)=some t
theorem gle{a b:Nat}{x:Option Nat}(h:x=some a)(k:x=some b):a=b:=Option.some.inj (h.symm.trans k)
theorem gl0:glb "caissa/unmove.castles" 0 132:=⟨by kernel_rfl,by kernel_rfl⟩
theorem gl1:glb "caissa/unmove.full" 1 23:=⟨by kernel_rfl,by kernel_rfl⟩
theorem gl2:glb "caissa/making.castles" 2 150:=⟨by kernel_rfl,by kernel_rfl⟩
theorem gl3:glb "caissa/position.full" 3 23:=⟨by kernel_rfl,by kernel_rfl⟩
theorem gl4:glb "math/bits.deBruijn64tab" 4 173:=⟨by kernel_rfl,by kernel_rfl⟩
theorem gl5:glb "caissa/ray.leaps" 5 182:=⟨by kernel_rfl,by kernel_rfl⟩
theorem gl6:glb "caissa/ray.diagonal" 6 184:=⟨by kernel_rfl,by kernel_rfl⟩
theorem gl7:glb "caissa/ray.straight" 7 184:=⟨by kernel_rfl,by kernel_rfl⟩
theorem qY{W:World}(h:laidMetH Tryz.prog ic W):aM W∧bO W:=by
 rw[MakeChecks.laidMetH_plain _ _ _ (by kernel_rfl)]at h;obtain⟨ps,⟨g0,t0,cs0,f0,p0,q0,hg0,ht0,hv0,hd0,⟨g1,t1,cs1,f1,p1,q1,hg1,ht1,hv1,hd1,⟨g2,t2,cs2,f2,p2,q2,hg2,ht2,hv2,hd2,⟨g3,t3,cs3,f3,p3,q3,hg3,ht3,hv3,hd3,⟨g4,t4,cs4,f4,p4,q4,hg4,ht4,hv4,hd4,⟨g5,t5,cs5,f5,p5,q5,hg5,ht5,hv5,hd5,⟨g6,t6,cs6,f6,p6,q6,hg6,ht6,hv6,hd6,⟨g7,t7,cs7,f7,p7,q7,hg7,ht7,hv7,hd7,_,_⟩,_⟩,_⟩,_⟩,_⟩,_⟩,_⟩,_⟩,_⟩:=h;obtain rfl:=gle gl4.1 hg0;obtain rfl:=gle gl7.1 hg1;obtain rfl:=gle gl6.1 hg2;obtain rfl:=gle gl5.1 hg3;obtain rfl:=gle gl3.1 hg4;obtain rfl:=gle gl2.1 hg5;obtain rfl:=gle gl0.1 hg6;obtain rfl:=gle gl1.1 hg7;obtain rfl:=gle gl4.2 ht0;obtain rfl:=gle gl7.2 ht1;obtain rfl:=gle gl6.2 ht2;obtain rfl:=gle gl5.2 ht3;obtain rfl:=gle gl3.2 ht4;obtain rfl:=gle gl2.2 ht5;obtain rfl:=gle gl0.2 ht6;obtain rfl:=gle gl1.2 ht7;have s0:=zT (L:=Lib.deBruijn64tab) (by decide) hd0;have s1:=j0 (L:=strL) Tryz.underlying184 rfl hd1;have s2:=j0 (L:=diagL) Tryz.underlying184 rfl hd2;have s3:=j0 (L:=leapsL) Tryz.underlying182 rfl hd3;have s4:=qv hd4;have s5:=lj Tryz.underlying150 Tryz.underlying104 Tryz.cells104 Tryz.cells150 hd5;have s6:=lj Tryz.underlying132 Tryz.underlying131 Tryz.cells131 Tryz.cells132 hd6;have s7:=qv hd7;have v0:=World.var?_cell hg0 hv0;have v1:=World.var?_cell hg1 hv1;have v2:=World.var?_cell hg2 hv2;have v3:=World.var?_cell hg3 hv3;have v4:=World.var?_cell hg4 hv4;have v5:=World.var?_cell hg5 hv5;have v6:=World.var?_cell hg6 hv6;have v7:=World.var?_cell hg7 hv7;have hc:∀ {g:Nat} {cs:Array Value},(∀ j,W.cell? ⟨g,j,none⟩=cs[j]?)→∀ j,W.cell? ⟨g,j,none⟩=cs.toList[j]?:=fun hv j=>by rw[hv j];simp
 have mk:∀(g n:Nat) (cs:Array Value) (L:List (Int×Int)),0<n→L.length=n→(∀ j,W.cell? ⟨g,j,none⟩=cs[j]?)→(∀ j,j<n→cs.toList[j*2]? = some (.int .i64 (L[j]?.getD (0,0)).1)∧cs.toList[j*2+1]? = some (.int .i64 (L[j]?.getD (0,0)).2))→cg W g 0 L:=by intro g n cs L hn hl hv hs;have hc:=hc hv;refine⟨(qN ((hc 0).trans (hs 0 hn).1)).1,fun j hj=>?_⟩;rw[Nat.zero_add,hc,hc];exact hs j (by omega)
 exact⟨⟨⟨mk 5 8 cs3 leapsL (by decide) rfl v3 s3,mk 6 4 cs2 diagL (by decide) rfl v2 s2,mk 7 4 cs1 strL (by decide) rfl v1 s1,(hc v4 0).trans s4.1,(hc v4 1).trans s4.2⟩,fun j v e=>by rw[hc v6,s6];exact e,fun j v e=>by rw[hc v5,s5];exact e,(hc v7 0).trans s7.1,(hc v7 1).trans s7.2⟩,fun j hj=>(hc v0 j).trans (s0 j hj)⟩
theorem A4{H:Type}{enc:TypeId×Value→H}{os:Os}{f:FuncId}{fn:Func}{s:ChangeSpec}(started:os.Started)(noInit:Tryz.checked.prog.inits.idxOf? f=none)(hfn:Tryz.checked.prog.funcs[f]? = some fn)
  (witness:∃(w:World) (tape:Tape) (i:Input),w.os=os∧(w.forCall tape i).Shaped Tryz.checked.prog∧i.vars=[]∧Input.okWide Tryz.checked.prog (w.forCall tape i) .any w.heap.size f i ∧
   ((s.pre enc Tryz.checked.prog fn [] false (w.forCall tape i).memory i.args∧laidMetH Tryz.prog ic (w.forCall tape i).memory)∧sizedMet enc Tryz.checked.prog fn (OpenSpec.ofChange s) false (w.forCall tape i).memory i.args)∧({}:Assume).holds Tryz.checked.prog (lone (Frame.enter Tryz.checked.prog f i.args .normal) [] (w.forCall tape i)))
  (contract:∀(W:World) (base:Nat) (args:Array Value) (ds gs:List (DataW H)) (before:List MemPlace),
   (∀(j:Nat) t v,fn.params[j]? = some t→args[j]? = some v→Value.okWide Tryz.prog W .any base t v) →
   DataW.Whole enc Tryz.prog fn.params.toList s.vars false W args.toList ds gs before→aM W→bO W →
   Clz f args W fun e W'=>∃ v,e=.returned v∧s.post enc Tryz.checked.prog fn false true false false W args v W') :
  ReturnsInHanded {} Tryz.checked os f .any (fun w args=>(s.pre enc Tryz.prog fn [] false w args∧laidMetH Tryz.prog ic w)∧sizedMet enc Tryz.prog fn (OpenSpec.ofChange s) false w args) (s.post enc Tryz.prog fn false true false false):=by
 refine returnsInHanded_of_calls Tryz.own started noInit witness ?_;intro w tape i _ _ _ hok hpre _;obtain⟨_,_,_,fn',hfn',_,_,_,_,hval⟩:=hok;obtain rfl:fn'=fn:=Option.some.inj (hfn'.symm.trans hfn);obtain⟨⟨⟨ds,gs,before,hw,_⟩,hx⟩,_⟩:=hpre;have hw':=DataW.Whole.of_heap (w':=w.forCall tape i) (by rfl) hw;have hx':laidMetH Tryz.prog ic (w.forCall tape i):=hx.of_heap (by rfl);refine(contract (w.forCall tape i) w.heap.size i.args ds gs before hval hw' (qY hx').1 (qY hx').2).mono ?_;rintro e W' ⟨v,rfl,hp⟩;exact ChangeSpec.post_blind hp
end
theorem Tryz.cells26:Tryz.prog.cellsOf 26=8:=by kernel_rfl
theorem Tryz.cells24:Tryz.prog.cellsOf 24=1:=by kernel_rfl
theorem Tryz.cellTypes26:Tryz.prog.cellTypes Tryz.prog.depth 26=some [3,3,24,4,5,3,3,3]:=by kernel_rfl
theorem yT{k:IntKind}{w:World}{a:Addr}{n:Nat}{zs:List Int}(hn:n≤zs.length)(hcell:∀ i,i<zs.length→w.cell? (a.add i)=some (.int k (zs.getD i 0))):Arr k w (some a) (zs.take n):=by
 by_cases h0:n=0
 ·subst h0;exact .inl (by simp)
 ·obtain⟨b,o,s⟩:=a;have h1:=hcell 0 (by omega);obtain⟨h2,h3⟩:=qN h1;simp[Addr.add]at h2 h3;subst h3;refine .inr ⟨b,o,rfl,h2,fun j hj=>?_⟩;rw[List.length_take]at hj;have hj2:=hcell j (by omega);have e:(⟨b,o,none⟩:Addr).add j=⟨b,o+j,none⟩:=by
   unfold Addr.add;split
   ·rename_i e;subst e;rfl
   ·rfl
  rw[e]at hj2;rw[hj2,List.getElem?_take_of_lt (by omega)];simp[List.getD]
theorem tZ{W:World}{base:Nat}{c:Value}(h:Cell.okWide Tryz.prog W .any base 4 c):∃ n,c=.bool n :=
 okWide_bool Tryz.underlying4 (by simp only[Value.okWide,Tryz.underlying4];exact h)
theorem rp{W:World}{base:Nat}{c:Value}(h:Cell.okWide Tryz.prog W .any base 24 c):∃ a n k,c=.slice a n k :=
 okWide_slice Tryz.underlying24 (by simp only[Value.okWide,Tryz.underlying24];exact h)
theorem vU{W:World}{base:Nat}{v:Value}(h:Value.okWide Tryz.prog W .any base 26 v):∃(f r:Int) (a:Option Addr) (n k:Nat) (bl:Bool) (ca pa ha fu:Int),v=.agg (aa f r a n k bl ca pa ha fu).toArray:=by
 simp only[Value.okWide,Tryz.underlying26]at h;obtain⟨cs,rfl,hsz,ts,hts,_,hall⟩:=h;rw[Tryz.cellTypes26]at hts;cases hts
 rw[Tryz.cells26]at hsz;obtain⟨l⟩:=cs;match l,hsz with
 | [c0,c1,c2,c3,c4,c5,c6,c7],_ =>
  have g:∀(i:Nat) (c:Value),[c0,c1,c2,c3,c4,c5,c6,c7][i]? = some c→∃ u,[3,3,24,4,5,3,3,3][i%8]? = some u∧Cell.okWide Tryz.prog W .any base u c:=fun i c hc=>hall i c (by rw[List.getElem?_toArray];exact hc)
  obtain⟨_,e0,h0⟩:=g 0 c0 rfl;obtain⟨_,e1,h1⟩:=g 1 c1 rfl;obtain⟨_,e2,h2⟩:=g 2 c2 rfl;obtain⟨_,e3,h3⟩:=g 3 c3 rfl;obtain⟨_,e4,h4⟩:=g 4 c4 rfl;obtain⟨_,e5,h5⟩:=g 5 c5 rfl;obtain⟨_,e6,h6⟩:=g 6 c6 rfl;obtain⟨_,e7,h7⟩:=g 7 c7 rfl;cases e0;cases e1;cases e2;cases e3;cases e4;cases e5;cases e6;cases e7
  obtain⟨n0,rfl⟩:=dd h0;obtain⟨n1,rfl⟩:=dd h1;obtain⟨a,n,k,rfl⟩:=rp h2;obtain⟨n3,rfl⟩:=tZ h3;obtain⟨n4,rfl⟩:=qA h4;obtain⟨n5,rfl⟩:=dd h5;obtain⟨n6,rfl⟩:=dd h6;obtain⟨n7,rfl⟩:=dd h7;exact⟨n0,n1,a,n,k,n3,n4,n5,n6,n7,rfl⟩
theorem sq{H:Type}{enc:TypeId×Value→H}{W:World}{base:Nat}{sp:Nat→Bool}{held:Bool}{fuel:Nat}{f r:Int}{a:Option Addr}{n k:Nat}{bl:Bool}{ca pa ha fu:Int}{x:DataW H×List MemPlace}
  (h:DataW.trod enc Tryz.prog W base sp held fuel 26 (aa f r a n k bl ca pa ha fu)=some x) :
  (0≤ca∧ca<256)∧∃ m y,DataW.trod enc Tryz.prog W base sp held m 24 [.slice a n k]=some y:=by
 obtain⟨xs,m,_,_,_,hlen,hf⟩:=DataW.trod_struct Tryz.underlying26 h;have h1:DataW.trod enc Tryz.prog W base sp held m 24 (((aa f r a n k bl ca pa ha fu).drop 2).take (Tryz.prog.cellsOf 24))=xs[1]?:=hf 1 _ rfl;have h3:DataW.trod enc Tryz.prog W base sp held m 5 (((aa f r a n k bl ca pa ha fu).drop 4).take (Tryz.prog.cellsOf 5))=xs[3]?:=hf 3 _ rfl;have hl:xs.length=7:=hlen;rw[List.getElem?_eq_getElem (l:=xs) (i:=1) (by omega),Tryz.cells24]at h1;rw[List.getElem?_eq_getElem (l:=xs) (i:=3) (by omega),Tryz.cells5]at h3;refine⟨?_,m,_,h1⟩;obtain⟨q,e1,_,hw⟩:=DataW.trod_int Tryz.underlying5 h3;have e2:[Value.int .u8 ca]=[Value.int .u8 q]:=e1;obtain rfl:ca=q:=by simpa using e2
 exact kQ hw
theorem mT{H:Type}{enc:TypeId×Value→H}{W:World}{base:Nat}{d:DataW H}{p:List MemPlace}{v:Value}(hv:Value.okWide Tryz.prog W .any base 26 v)(h:DataW.Trod enc Tryz.prog W 0 (fun _=>true) true 26 v d p):
  ∃(f r:Int) (a:Option Addr) (c:Nat) (xs:List Int) (bl:Bool) (ca pa ha fu:Int),v=.agg (aa f r a xs.length c bl ca pa ha fu).toArray∧(0≤ca∧ca<256)∧xs.length≤9223372036854775807∧xs.length≤c∧(∀ x∈xs,-128≤x∧x≤127)∧Arr .i8 W a xs:=by
 obtain⟨f,r,a0,len,cap,bl,ca,pa,ha,fu,rfl⟩:=vU hv;obtain⟨fuel,hf⟩:=h;have hmax:maxLen≤9223372036854775807:=by decide
 obtain⟨hca,m,y,h1⟩:=sq hf;rcases open_ints Tryz.underlying24 Tryz.underlying38 Tryz.cells38 h1 with⟨hcs,_⟩|⟨a,len',cap',zs,hcs,_,hl,hmx,hz,_,hcell,hwz⟩
 ·simp only[List.cons.injEq,Value.slice.injEq,and_true]at hcs;obtain⟨rfl,rfl,rfl⟩:=hcs;exact⟨f,r,none,0,[],bl,ca,pa,ha,fu,rfl,hca,by decide,by decide,fun x hx=>(by cases hx),.inl rfl⟩
 ·simp only[List.cons.injEq,Value.slice.injEq,and_true]at hcs;obtain⟨rfl,rfl,rfl⟩:=hcs;simp only[if_true]at hz;have hlen:(zs.take len).length=len:=by simp;omega
  exact⟨f,r,some a,cap,zs.take len,bl,ca,pa,ha,fu,by rw[hlen],hca,by omega,by omega,fun x hx'=>nj (hwz x (List.mem_of_mem_take hx')),yT (n:=len) (by omega) hcell⟩

theorem sT{H:Type}{enc:TypeId×Value→H}{W:World}{base:Nat}{d:DataW H}{p:List MemPlace}{v:Value}(hv:Value.okWide Tryz.prog W .any base 42 v)(h:DataW.Trod enc Tryz.prog W 0 (fun _=>true) true 42 v d p):
  ∃ r:Ret,v=.agg r.cs.toArray∧(0≤r.ca∧r.ca<256):=by
 obtain⟨r,rfl⟩:=tp hv;obtain⟨fuel,hf⟩:=h;exact⟨r,rfl,(rU hf).2.2⟩
theorem mY(os:Os)(started:os.Started)(H:Type)(enc:TypeId×Value→H):
  ReturnsInHanded {} Tryz.checked os 5 .any (fun w args=>(Rows.unmoveBeforeSpec.pre enc Tryz.prog Tryz.f5 [] false w args∧laidMetH Tryz.prog ic w)∧sizedMet enc Tryz.prog Tryz.f5 (OpenSpec.ofChange Rows.unmoveBeforeSpec) false w args)
   (Rows.unmoveBeforeSpec.post enc Tryz.prog Tryz.f5 false true false false):=by
 refine A4 started (by kernel_rfl) Tryz.func5
  (ChangeSpec.witness_shaped (enc:=enc) (C:=Tryz.checked) (os:=os) (X:=fun w _=>laidMetH Tryz.prog ic w) false (World.doorLaid Tryz.prog 400 os) #[.agg (aa 0 0 none 0 0 false 0 0 0 0).toArray,.agg (Ret.cs ⟨⟨0,0,0⟩,0,0,0,0⟩).toArray] 8 rfl (World.shaped_of_RefB (by kernel_rfl) (by kernel_rfl)) (by kernel_rfl) (by kernel_rfl) (by kernel_rfl) (uu os _)) ?_
 intro W base args ds gs before hval0 hW hg hm;have hval:∀(j:Nat) t v,Tryz.f5.params[j]? = some t→args[j]? = some v→Value.okWide Tryz.prog W .any base t v:=hval0;have hW':=hW;obtain⟨p,q,hA0,hV,rfl,_,_⟩:=hW;have hA:DataW.TrodAll enc Tryz.prog W 0 (fun _=>true) true Tryz.f5.params.toList args.toList ds p:=hA0;rw[Tryz.params5]at hA hval;obtain⟨v0,v1,d0,d1,p0,p1,rfl,rfl,rfl,h0,h1⟩:=trodAll_two hA;obtain⟨rfl,rfl⟩:=trodVars_none hV;obtain⟨f,r,a,c,xs,bl,ca,pa,ha,fu,rfl,hca,hl,hcap,h8,hAx⟩:=mT (hval 0 26 v0 rfl rfl) h0;obtain⟨m,rfl,hm2⟩:=sT (hval 1 42 v1 rfl rfl) h1;clear hval0;simp only[List.append_nil]at hW';have hlt:∀ x∈p0++p1,x.block<W.heap.size:=fun x hx=>by simpa using hW'.lt x hx
 refine(kf f r xs bl ca pa ha fu m a c hca hm2 hcap W hg hm hAx).mono fun e W' ⟨he,hnx⟩=>?_
 subst he;have k0:=Below.trod Tryz.laidOut (by kernel_rfl) (of_decide_eq_true (by kernel_rfl)) h0 hnx (fun x hx=>hlt x (by simp[hx]));have k1:=Below.trod Tryz.laidOut (by kernel_rfl) (of_decide_eq_true (by kernel_rfl)) h1 hnx (fun x hx=>hlt x (by simp[hx]));refine⟨_,rfl,_,_,_,[],p0++p1,[],hW',trodAll_mk1 (shut_bool Tryz.underlying4 _),trodAll_mk2 k0 k1,rfl,?_,fun h=>by cases h⟩;exact hnx.frame _
theorem jN:Rows.UnmoveBeforeSaid :=
 OpenClaim.holds_of_wide 5 Tryz.f5 rfl rfl rfl rfl rfl rfl rfl ⟨rfl,rfl,rfl,rfl,rfl⟩ rfl rfl rfl rfl rfl (by kernel_rfl) Tryz.func5 (by kernel_rfl)
  (of_decide_eq_true (by kernel_rfl)) (by unfold Func.isWrapper;first|(rw[if_pos (by decide +kernel)];kernel_rfl)|(rw[if_neg (by decide +kernel)];exact⟨rfl,rfl⟩))
  (fun os started H enc _=>mY os started H enc)
theorem unmoveBefore_holds:Rows.UnmoveBeforeCardSaid :=
 Claim7.holds_tied_plain_at .later [] [.data,.widerDeep,.widerDeep,.widerDeep,.data,.data,.data,.data] true (true,"a5d3b325c32bca0c7f9e58ffd96356276e684a09f1e11020bf73b7a4c47845ce") true
  jN (fun _ h=>by cases h) (by kernel_rfl) (fun _ h=>by cases h) unmoveBefore_row_tie rfl ⟨rfl,rfl⟩ (by kernel_rfl) rfl
  (fun f fn hf hfn=>by
   obtain rfl:f=5:=Option.some.inj ((show Tryz.prog.funcNamed "caissa/caissalaw13.UnmoveBefore"=some 5 by kernel_rfl).symm.trans hf) |>.symm
   obtain rfl:fn=Tryz.f5:=(Option.some.inj (Tryz.func5.symm.trans hfn)).symm;exact⟨by kernel_rfl,fun j t ht=>by
    rw[Tryz.params5]at ht;have hm:t∈[26,42]:=by simpa using Array.mem_of_getElem? ht
    have hall:([26,42].all fun u=>!Tryz.prog.wantsStandIn u)=true:=by kernel_rfl
    exact(show Tryz.prog.wantsStandIn t=false by simpa using List.all_eq_true.1 hall t hm)⟩)
  (by kernel_rfl)
#print axioms unmoveBefore_holds
end Go.Proofs.YtefmplccbkmalaaGreatDoor
