import Derived.Test.YtefmplccbkmalaaGreatDoorB11
set_option maxRecDepth 100000
set_option maxHeartbeats 12800000
namespace Go.Proofs.YtefmplccbkmalaaGreatDoor
open Go.RowKit Go.Sort Go.BigFrame

structure MkS(w:World)(P:Pos)(pp:Option Addr)(cc:Nat)(m:Mv)(q0 q1 q2 q3 q4 qw qa cap:Nat)(wy:List Value)(ys:List Int)(row und:List Value)(W:World):Prop where
 b:Bw w W
 p:ac W q0 (.cells (aa P.F P.R pp P.xs.length cc P.bl P.ca P.pa P.ha P.fu).toArray 26 (0,0))
 m:ac W q1 (.cells m.cs.toArray 40 (0,0))
 e:ac W q4 (.cells #[.int .i64 0] 31 (0,0))
 w:ac W qw (.cells wy.toArray 104 (0,0))
 o:ac W q2 (.cells row.toArray 26 (0,0))
 y:aC W qa cap ys
 u:ac W q3 (.cells und.toArray 54 (0,0))
section
variable {w:World} {P:Pos} {pp:Option Addr} {cc:Nat} {m:Mv} {q0 q1 q2 q3 q4 qw qa cap:Nat} {wy:List Value} {ys:List Int} {row und:List Value} {W W':World}
theorem MkS.call(h:MkS w P pp cc m q0 q1 q2 q3 q4 qw qa cap wy ys row und W)(hb:Bw W W'):MkS w P pp cc m q0 q1 q2 q3 q4 qw qa cap wy ys row und W' :=
 ⟨aI h.b h.b.size hb,h.p.call hb,h.m.call hb,h.e.call hb,h.w.call hb,h.o.call hb,h.y.call hb,h.u.call hb⟩
theorem MkS.set2(hq:MkQ w q0 q1 q2 q3 q4 qw)(hqa:qw<qa)(h:MkS w P pp cc m q0 q1 q2 q3 q4 qw qa cap wy ys row und W)(i:Nat)(v:Value):MkS w P pp cc m q0 q1 q2 q3 q4 qw qa cap wy ys (row.set i v) und (W.setCell ⟨q2,i,none⟩ v):=by unfold MkQ at hq;have ho:=h.o.set_ i v;rw[List.setIfInBounds_toArray]at ho;exact⟨h.b.setCell (by show w.heap.size≤q2;omega) v,h.p.far (by show q0≠q2;omega) v,h.m.far (by show q1≠q2;omega) v,h.e.far (by show q4≠q2;omega) v,h.w.far (by show qw≠q2;omega) v,ho,h.y.far (by show qa≠q2;omega) v,h.u.far (by show q3≠q2;omega) v⟩
theorem MkS.set3(hq:MkQ w q0 q1 q2 q3 q4 qw)(hqa:qw<qa)(h:MkS w P pp cc m q0 q1 q2 q3 q4 qw qa cap wy ys row und W)(i:Nat)(v:Value):MkS w P pp cc m q0 q1 q2 q3 q4 qw qa cap wy ys row (und.set i v) (W.setCell ⟨q3,i,none⟩ v):=by unfold MkQ at hq;have hu:=h.u.set_ i v;rw[List.setIfInBounds_toArray]at hu;exact⟨h.b.setCell (by show w.heap.size≤q3;omega) v,h.p.far (by show q0≠q3;omega) v,h.m.far (by show q1≠q3;omega) v,h.e.far (by show q4≠q3;omega) v,h.w.far (by show qw≠q3;omega) v,h.o.far (by show q2≠q3;omega) v,h.y.far (by show qa≠q3;omega) v,hu⟩
theorem MkS.setA(hq:MkQ w q0 q1 q2 q3 q4 qw)(hqa:qw<qa)(h:MkS w P pp cc m q0 q1 q2 q3 q4 qw qa cap wy ys row und W)(i:Nat)(v:Int):MkS w P pp cc m q0 q1 q2 q3 q4 qw qa cap wy (ys.set i v) row und (W.setCell ⟨qa,i,none⟩ (.int .i8 v)):=by unfold MkQ at hq;exact⟨h.b.setCell (by show w.heap.size≤qa;omega) _,h.p.far (by show q0≠qa;omega) _,h.m.far (by show q1≠qa;omega) _,h.e.far (by show q4≠qa;omega) _,h.w.far (by show qw≠qa;omega) _,h.o.far (by show q2≠qa;omega) _,h.y.set i v,h.u.far (by show q3≠qa;omega) _⟩
end
theorem rW(w:World)(F R:Nat)(xs:List Int)(bl:Bool)(can:Nat)(pa ha fu:Int)(pp:Option Addr)(cc:Nat)(a b:Nat)(pr:Int)(q0 q1 q2 q3 q4 qw qa cap:Nat)(x:Int)(cb:Bool)(wy:List Value)(T:Array Value)(hT:MkT T q0 q1 q2 q3 q4 x qw cb)(ys:List Int)(u:Und)(Rs:Ending→World→Prop)
  (hfu:0≤fu∧fu≤10000) (CA:Nat) (PA HA:Int)
  (W:World) (hQ:MkQ w q0 q1 q2 q3 q4 qw) (hqa:qw<qa) (hS:MkS w ⟨F,R,xs,bl,can,pa,ha,fu⟩ pp cc ⟨a,b,pr⟩ q0 q1 q2 q3 q4 qw qa cap wy ys (aa F R (some ⟨qa,0,none⟩) ys.length cap bl CA PA HA fu) u.cs W)
  (hnext:∀ cd,Tryz.f23.body.map (aq 23)=some cd→∀ T' W',MkT T' q0 q1 q2 q3 q4 x qw cb →
   MkS w ⟨F,R,xs,bl,can,pa,ha,fu⟩ pp cc ⟨a,b,pr⟩ q0 q1 q2 q3 q4 qw qa cap wy ys (aa F R (some ⟨qa,0,none⟩) ys.length cap (!bl) CA PA HA (if bl then fu+1 else fu)) u.cs W' →
   cd.wp Tryz.prog (bodyPostD Tryz.prog Tryz.f23 Rs) {tmps:=T',defers:=cw q4 q2 q3} W')
  (cd:Code) (hcd:Tryz.f23.body.map (aq 21)=some cd):cd.wp Tryz.prog (bodyPostD Tryz.prog Tryz.f23 Rs) {tmps:=T,defers:=cw q4 q2 q3} W:=by
 obtain rfl:=Option.some.inj ((show Tryz.f23.body.map (aq 21)=some _ from rfl).symm.trans hcd);clear hcd;simp only[aq];obtain⟨X,rfl⟩:=hT.fr;clear hT;dsimp only[mkF,litB,Nat.reduceAdd];have p1:∀ j,W.cell? ⟨q0,j,none⟩=(aa F R pp xs.length cc bl can pa ha fu).toArray[j]?:=hS.p.cells;have l2:=hS.p.lt;have o1:=hS.o.cells 7;have f1:=hS.o.frozen 7;have l1:=hS.o.lt;cases bl
 ·go_upto_region 35 with fail;rename_i hk;replace hk:=zhd hk;clear o1 f1 l1;have o1:=hS.o.cells 3;have f1:=hS.o.frozen 3;have l1:=hS.o.lt;go_wp2_with fail;have hS3:MkS w ⟨F,R,xs,false,can,pa,ha,fu⟩ pp cc ⟨a,b,pr⟩ q0 q1 q2 q3 q4 qw qa cap wy ys (aa F R (some ⟨qa,0,none⟩) ys.length cap true CA PA HA fu) u.cs (W.setCell ⟨q2,3,none⟩ (.bool true)):=hS.set2 hQ hqa 3 (.bool true);generalize W.setCell ⟨q2,3,none⟩ (.bool true)=W3 at *;refine hk.out _ _ ?_;refine hnext _ rfl _ _ ?_ hS3;exact⟨rfl,rfl,rfl,rfl,rfl,rfl,rfl,rfl,rfl⟩
 ·go_upto_region 35 with fail;rename_i hk;replace hk:=zhd hk;have hS2:MkS w ⟨F,R,xs,true,can,pa,ha,fu⟩ pp cc ⟨a,b,pr⟩ q0 q1 q2 q3 q4 qw qa cap wy ys (aa F R (some ⟨qa,0,none⟩) ys.length cap true CA PA HA (fu+1)) u.cs (W.setCell ⟨q2,7,none⟩ (.int .i64 (fu+1))):=hS.set2 hQ hqa 7 (.int .i64 (fu+1));generalize W.setCell ⟨q2,7,none⟩ (.int .i64 (fu+1))=W2 at *;clear o1 f1 l1 p1 l2;have p1:∀ j,W2.cell? ⟨q0,j,none⟩=(aa F R pp xs.length cc true can pa ha fu).toArray[j]?:=hS2.p.cells;have l2:=hS2.p.lt;have o1:=hS2.o.cells 3;have f1:=hS2.o.frozen 3;have l1:=hS2.o.lt;go_wp2_with fail;have hS3:MkS w ⟨F,R,xs,true,can,pa,ha,fu⟩ pp cc ⟨a,b,pr⟩ q0 q1 q2 q3 q4 qw qa cap wy ys (aa F R (some ⟨qa,0,none⟩) ys.length cap false CA PA HA (fu+1)) u.cs (W2.setCell ⟨q2,3,none⟩ (.bool false)):=hS2.set2 hQ hqa 3 (.bool false);generalize W2.setCell ⟨q2,3,none⟩ (.bool false)=W3 at *;refine hk.out _ _ ?_;refine hnext _ rfl _ _ ?_ hS3;exact⟨rfl,rfl,rfl,rfl,rfl,rfl,rfl,rfl,rfl⟩
theorem ng(w:World)(F R:Nat)(xs:List Int)(bl:Bool)(can:Nat)(pa ha fu:Int)(pp:Option Addr)(cc:Nat)(a b:Nat)(pr:Int)(q0 q1 q2 q3 q4 qw qa cap:Nat)(x:Int)(cb:Bool)(wy:List Value)(T:Array Value)(hT:MkT T q0 q1 q2 q3 q4 x qw cb)(ys:List Int)(u:Und)(Rs:Ending→World→Prop)
  (hx:-6≤x∧x≤6) (hha:0≤ha∧ha≤10000) (hfu:0≤fu∧fu≤10000) (CA:Nat) (PA:Int)
  (W:World) (hQ:MkQ w q0 q1 q2 q3 q4 qw) (hqa:qw<qa) (hS:MkS w ⟨F,R,xs,bl,can,pa,ha,fu⟩ pp cc ⟨a,b,pr⟩ q0 q1 q2 q3 q4 qw qa cap wy ys (aa F R (some ⟨qa,0,none⟩) ys.length cap bl CA PA ha fu) u.cs W)
  (hnext:∀ cd,Tryz.f23.body.map (aq 23)=some cd→∀ T' W',MkT T' q0 q1 q2 q3 q4 x qw cb →
   MkS w ⟨F,R,xs,bl,can,pa,ha,fu⟩ pp cc ⟨a,b,pr⟩ q0 q1 q2 q3 q4 qw qa cap wy ys (aa F R (some ⟨qa,0,none⟩) ys.length cap (!bl) CA PA (if kindI x=1∨u.cp≠0 then 0 else ha+1) (if bl then fu+1 else fu)) u.cs W' →
   cd.wp Tryz.prog (bodyPostD Tryz.prog Tryz.f23 Rs) {tmps:=T',defers:=cw q4 q2 q3} W')
  (cd:Code) (hcd:Tryz.f23.body.map (aq 19)=some cd):cd.wp Tryz.prog (bodyPostD Tryz.prog Tryz.f23 Rs) {tmps:=T,defers:=cw q4 q2 q3} W:=by
 obtain rfl:=Option.some.inj ((show Tryz.f23.body.map (aq 19)=some _ from rfl).symm.trans hcd);clear hcd;simp only[aq];obtain⟨X,rfl⟩:=hT.fr;clear hT;dsimp only[mkF,litB,Nat.reduceAdd];have hk:=fun W=>eI x (by omega) W
 have o1:=hS.o.cells 6;have f1:=hS.o.frozen 6;have l1:=hS.o.lt;go_upto_region 31 with fail;have hS2:MkS w ⟨F,R,xs,bl,can,pa,ha,fu⟩ pp cc ⟨a,b,pr⟩ q0 q1 q2 q3 q4 qw qa cap wy ys (aa F R (some ⟨qa,0,none⟩) ys.length cap bl CA PA (ha+1) fu) u.cs (W.setCell ⟨q2,6,none⟩ (.int .i64 (ha+1))):=hS.set2 hQ hqa 6 (.int .i64 (ha+1));generalize W.setCell ⟨q2,6,none⟩ (.int .i64 (ha+1))=W2 at *;clear o1 f1 l1 hS;rename_i k33 hk33 k32 hk32;replace hk33:=zhd hk33;have u1:=hS2.u.cells 3;have ul:=hS2.u.lt;have o1:=hS2.o.cells 6;have f1:=hS2.o.frozen 6;have l1:=hS2.o.lt;go_wp2_with fail;refine(hk _).mono ?_;rintro e W3 ⟨rfl,rfl⟩;rcases z1:(kindI x==1)with _|_
 ·rcases z2:(u.cp != 0)with _|_
  ·have hif:(if kindI x=1∨u.cp≠0 then 0 else ha+1)=(ha+1):=if_neg (by simp at z1 z2;simp[z1,z2]);rw[hif]at hnext;clear hif;go_wp2_with fail;refine hk33.out _ _ ?_;refine rW w F R xs bl can pa ha fu pp cc a b pr q0 q1 q2 q3 q4 qw qa cap x cb wy _ ?_ ys u Rs hfu CA PA (ha+1) W2 hQ hqa hS2 hnext _ ?_
   ·exact⟨rfl,rfl,rfl,rfl,rfl,rfl,rfl,rfl,rfl⟩
   ·exact rfl
  ·have hif:(if kindI x=1∨u.cp≠0 then 0 else ha+1)=0:=if_pos (by simp at z2;simp[z2]);rw[hif]at hnext;clear hif;go_wp2_with fail;have hS3:MkS w ⟨F,R,xs,bl,can,pa,ha,fu⟩ pp cc ⟨a,b,pr⟩ q0 q1 q2 q3 q4 qw qa cap wy ys (aa F R (some ⟨qa,0,none⟩) ys.length cap bl CA PA 0 fu) u.cs (W2.setCell ⟨q2,6,none⟩ (.int .i64 0)):=hS2.set2 hQ hqa 6 (.int .i64 0);generalize W2.setCell ⟨q2,6,none⟩ (.int .i64 0)=W3 at *;refine hk33.out _ _ ?_;refine rW w F R xs bl can pa ha fu pp cc a b pr q0 q1 q2 q3 q4 qw qa cap x cb wy _ ?_ ys u Rs hfu CA PA 0 W3 hQ hqa hS3 hnext _ ?_
   ·exact⟨rfl,rfl,rfl,rfl,rfl,rfl,rfl,rfl,rfl⟩
   ·exact rfl
 ·have hif:(if kindI x=1∨u.cp≠0 then 0 else ha+1)=0:=if_pos (by simp at z1;simp[z1]);rw[hif]at hnext;clear hif;go_wp2_with fail;have hS3:MkS w ⟨F,R,xs,bl,can,pa,ha,fu⟩ pp cc ⟨a,b,pr⟩ q0 q1 q2 q3 q4 qw qa cap wy ys (aa F R (some ⟨qa,0,none⟩) ys.length cap bl CA PA 0 fu) u.cs (W2.setCell ⟨q2,6,none⟩ (.int .i64 0)):=hS2.set2 hQ hqa 6 (.int .i64 0);generalize W2.setCell ⟨q2,6,none⟩ (.int .i64 0)=W3 at *;refine hk33.out _ _ ?_;refine rW w F R xs bl can pa ha fu pp cc a b pr q0 q1 q2 q3 q4 qw qa cap x cb wy _ ?_ ys u Rs hfu CA PA 0 W3 hQ hqa hS3 hnext _ ?_
  ·exact⟨rfl,rfl,rfl,rfl,rfl,rfl,rfl,rfl,rfl⟩
  ·exact rfl
theorem Aq(w:World)(F R:Nat)(xs:List Int)(bl:Bool)(can:Nat)(pa ha fu:Int)(pp:Option Addr)(cc:Nat)(a b:Nat)(pr:Int)(q0 q1 q2 q3 q4 qw qa cap:Nat)(x:Int)(cb:Bool)(wy:List Value)(T:Array Value)(hT:MkT T q0 q1 q2 q3 q4 x qw cb)(ys:List Int)(u:Und)(Rs:Ending→World→Prop)
  (hF:3≤F∧F≤8) (ha64:a<64) (hb64:b<64) (hx:-6≤x∧x≤6) (hca:can<256) (hha:0≤ha∧ha≤10000) (hfu:0≤fu∧fu≤10000)
  (W:World) (hG:aM w) (hQ:MkQ w q0 q1 q2 q3 q4 qw) (hqa:qw<qa) (hS:MkS w ⟨F,R,xs,bl,can,pa,ha,fu⟩ pp cc ⟨a,b,pr⟩ q0 q1 q2 q3 q4 qw qa cap wy ys (aa F R (some ⟨qa,0,none⟩) ys.length cap bl can pa ha fu) u.cs W)
  (hnext:∀ cd,Tryz.f23.body.map (aq 23)=some cd→∀ T' W',MkT T' q0 q1 q2 q3 q4 x qw cb →
   MkS w ⟨F,R,xs,bl,can,pa,ha,fu⟩ pp cc ⟨a,b,pr⟩ q0 q1 q2 q3 q4 qw qa cap wy ys (aa F R (some ⟨qa,0,none⟩) ys.length cap (!bl) (clrN can (lostW a|||lostW b):Nat) (if kindI x=1∧((b:Int)-a=2*F∨(b:Int)-a=-(2*F))then(a:Int)+((b:Int)-a)/2 else -1) (if kindI x=1∨u.cp≠0 then 0 else ha+1) (if bl then fu+1 else fu)) u.cs W' →
   cd.wp Tryz.prog (bodyPostD Tryz.prog Tryz.f23 Rs) {tmps:=T',defers:=cw q4 q2 q3} W')
  (cd:Code) (hcd:Tryz.f23.body.map (aq 16)=some cd):cd.wp Tryz.prog (bodyPostD Tryz.prog Tryz.f23 Rs) {tmps:=T,defers:=cw q4 q2 q3} W:=by
 obtain rfl:=Option.some.inj ((show Tryz.f23.body.map (aq 16)=some _ from rfl).symm.trans hcd);clear hcd;simp only[aq];obtain⟨X,rfl⟩:=hT.fr;clear hT;dsimp only[mkF,litB,Nat.reduceAdd];have hk:=fun W=>eI x (by omega) W
 have t1:=ax (w:=W) (fun W' h=>lr a W' ((hG.call hS.b).call h));have t2:=ax (w:=W) (fun W' h=>lr b W' ((hG.call hS.b).call h));have b1:lostW a<256:=iG _ _;have b2:lostW b<256:=iG _ _;have b3:lostW a|||lostW b<256:=Nat.or_lt_two_pow (n:=8) b1 b2
 have hcl:clrN can (lostW a|||lostW b)=can&&&(255-(lostW a|||lostW b)):=rfl;generalize clrN can (lostW a|||lostW b)=CA at *;generalize lostW a=L1 at *;generalize lostW b=L2 at *;have m2:=am hS.o;have m1:∀ d os j,(grow (redrawn W d) os).cell? ⟨q1,j,none⟩=(#[.int .i64 (a:Int),.int .i64 (b:Int),.int .i8 pr]:Array Value)[j]?:=am hS.m;go_upto_region 25 with fail;refine aN 11 (by kernel_rfl) (by kernel_rfl) ?_;simp only[List.take_succ_cons,List.take_zero,List.drop_succ_cons,List.drop_zero];repeat(go_big_quiet_step (first|with_reducible exact t1 _ _|with_reducible exact t2 _ _))
 refine wpQuiet_nil ?_;intro W2 hb2;have hS2:=hS.call hb2;clear hS m1 m2 t1 t2;have e1:=u8_andNot_nat can (L1|||L2) hca b3;rw[←hcl]at e1;have ev:bits .andNot .u8 (can:Int) (bits .or .u8 (L1:Int) (L2:Int))=(CA:Int):=by rw[u8_or_nat L1 L2 b1 b2,e1]
 clear e1 hcl;have o1:=hS2.o.cells 4;have f1:=hS2.o.frozen 4;have l1:=hS2.o.lt;go_upto_region 26 with fail;have hS3:MkS w ⟨F,R,xs,bl,can,pa,ha,fu⟩ pp cc ⟨a,b,pr⟩ q0 q1 q2 q3 q4 qw qa cap wy ys (aa F R (some ⟨qa,0,none⟩) ys.length cap bl CA pa ha fu) u.cs (W2.setCell ⟨q2,4,none⟩ (.int .u8 (CA:Nat))):=hS2.set2 hQ hqa 4 (.int .u8 (CA:Nat));generalize W2.setCell ⟨q2,4,none⟩ (.int .u8 (CA:Nat))=W3 at *;clear o1 f1 l1 ev hS2 b1 b2 b3;have o1:=hS3.o.cells 5;have f1:=hS3.o.frozen 5;have l1:=hS3.o.lt;go_upto_region 27 with fail;have hS4:MkS w ⟨F,R,xs,bl,can,pa,ha,fu⟩ pp cc ⟨a,b,pr⟩ q0 q1 q2 q3 q4 qw qa cap wy ys (aa F R (some ⟨qa,0,none⟩) ys.length cap bl CA (-1) ha fu) u.cs (W3.setCell ⟨q2,5,none⟩ (.int .i64 (-1))):=hS3.set2 hQ hqa 5 (.int .i64 (-1));generalize W3.setCell ⟨q2,5,none⟩ (.int .i64 (-1))=W4 at *;clear o1 f1 l1 hS3;have p1:∀ j,W4.cell? ⟨q1,j,none⟩=(#[.int .i64 (a:Int),.int .i64 (b:Int),.int .i8 pr]:Array Value)[j]?:=hS4.m.cells;have l1:=hS4.m.lt;have p2:∀ j,W4.cell? ⟨q0,j,none⟩=(aa F R pp xs.length cc bl can pa ha fu).toArray[j]?:=hS4.p.cells;have l2:=hS4.p.lt;rename_i k19 hk19 k28 hk28;replace hk19:=zhd hk19;have o1o:=hS4.o.cells 5;have f1o:=hS4.o.frozen 5;have l1o:=hS4.o.lt;go_wp2_with fail;refine(hk _).mono ?_;rintro e W5 ⟨rfl,rfl⟩;rcases z1:(kindI x==1)with _|_
 ·have hif:(if kindI x=1∧((b:Int)-a=2*F∨(b:Int)-a=-(2*F))then(a:Int)+((b:Int)-a)/2 else -1)=-1:=if_neg (by simp at z1;simp[z1]);rw[hif]at hnext;clear hif;go_wp2_with fail;refine hk19.out _ _ ?_;refine ng w F R xs bl can pa ha fu pp cc a b pr q0 q1 q2 q3 q4 qw qa cap x cb wy _ ?_ ys u Rs hx hha hfu CA (-1) W4 hQ hqa hS4 hnext _ ?_
  ·exact⟨rfl,rfl,rfl,rfl,rfl,rfl,rfl,rfl,rfl⟩
  ·exact rfl
 ·rcases z2:(((b:Int)-a)==2*F)with _|_
  ·rcases z3:(((b:Int)-a)==-2*F)with _|_
   ·have hif:(if kindI x=1∧((b:Int)-a=2*F∨(b:Int)-a=-(2*F))then(a:Int)+((b:Int)-a)/2 else -1)=-1:=if_neg (by simp at z2 z3;rintro⟨_,h|h⟩<;>omega);rw[hif]at hnext;clear hif;go_wp2_with fail;refine hk19.out _ _ ?_;refine ng w F R xs bl can pa ha fu pp cc a b pr q0 q1 q2 q3 q4 qw qa cap x cb wy _ ?_ ys u Rs hx hha hfu CA (-1) W4 hQ hqa hS4 hnext _ ?_
    ·exact⟨rfl,rfl,rfl,rfl,rfl,rfl,rfl,rfl,rfl⟩
    ·exact rfl
   ·have hif:(if kindI x=1∧((b:Int)-a=2*F∨(b:Int)-a=-(2*F))then(a:Int)+((b:Int)-a)/2 else -1)=(a:Int)+((b:Int)-a)/2:=if_pos (by simp at z1 z3;exact⟨z1,.inr (by omega)⟩);rw[hif]at hnext;clear hif;have ev:Hid (wrap64 ((a:Int)+((b:Int)-a).tdiv 2)=(a:Int)+((b:Int)-a)/2):=zhd (by
     have h1:(b:Int)-a=2*(-(F:Int)):=by simp at z3;omega
     rw[h1,Int.mul_tdiv_cancel_left _ (by decide:(2:Int)≠0)];rw[IntWalk.wrap64_in _ (by omega)];omega)
    go_wp2_with fail;rw[ev.out];have hS5:MkS w ⟨F,R,xs,bl,can,pa,ha,fu⟩ pp cc ⟨a,b,pr⟩ q0 q1 q2 q3 q4 qw qa cap wy ys (aa F R (some ⟨qa,0,none⟩) ys.length cap bl CA ((a:Int)+((b:Int)-a)/2) ha fu) u.cs (W4.setCell ⟨q2,5,none⟩ (.int .i64 ((a:Int)+((b:Int)-a)/2))):=hS4.set2 hQ hqa 5 (.int .i64 ((a:Int)+((b:Int)-a)/2));generalize W4.setCell ⟨q2,5,none⟩ (.int .i64 ((a:Int)+((b:Int)-a)/2))=W5 at *;refine hk19.out _ _ ?_;refine ng w F R xs bl can pa ha fu pp cc a b pr q0 q1 q2 q3 q4 qw qa cap x cb wy _ ?_ ys u Rs hx hha hfu CA ((a:Int)+((b:Int)-a)/2) W5 hQ hqa hS5 hnext _ ?_
    ·exact⟨rfl,rfl,rfl,rfl,rfl,rfl,rfl,rfl,rfl⟩
    ·exact rfl
  ·have hif:(if kindI x=1∧((b:Int)-a=2*F∨(b:Int)-a=-(2*F))then(a:Int)+((b:Int)-a)/2 else -1)=(a:Int)+((b:Int)-a)/2:=if_pos (by simp at z1 z2;exact⟨z1,.inl z2⟩);rw[hif]at hnext;clear hif;have ev:Hid (wrap64 ((a:Int)+((b:Int)-a).tdiv 2)=(a:Int)+((b:Int)-a)/2):=zhd (by
    have h1:(b:Int)-a=2*(F:Int):=by simpa using z2
    rw[h1,Int.mul_tdiv_cancel_left _ (by decide:(2:Int)≠0)];rw[IntWalk.wrap64_in _ (by omega)];omega)
   go_wp2_with fail;rw[ev.out];have hS5:MkS w ⟨F,R,xs,bl,can,pa,ha,fu⟩ pp cc ⟨a,b,pr⟩ q0 q1 q2 q3 q4 qw qa cap wy ys (aa F R (some ⟨qa,0,none⟩) ys.length cap bl CA ((a:Int)+((b:Int)-a)/2) ha fu) u.cs (W4.setCell ⟨q2,5,none⟩ (.int .i64 ((a:Int)+((b:Int)-a)/2))):=hS4.set2 hQ hqa 5 (.int .i64 ((a:Int)+((b:Int)-a)/2));generalize W4.setCell ⟨q2,5,none⟩ (.int .i64 ((a:Int)+((b:Int)-a)/2))=W5 at *;refine hk19.out _ _ ?_;refine ng w F R xs bl can pa ha fu pp cc a b pr q0 q1 q2 q3 q4 qw qa cap x cb wy _ ?_ ys u Rs hx hha hfu CA ((a:Int)+((b:Int)-a)/2) W5 hQ hqa hS5 hnext _ ?_
   ·exact⟨rfl,rfl,rfl,rfl,rfl,rfl,rfl,rfl,rfl⟩
   ·exact rfl
def kj(wo:Option Cas)(ys:List Int):List Int:=match wo with|some c=>(ys.set c.cr (ys[c.co]?.getD 0)).set c.co 0|none=>ys
theorem Ag(w:World)(F R:Nat)(xs:List Int)(bl:Bool)(can:Nat)(pa ha fu:Int)(pp:Option Addr)(cc:Nat)(a b:Nat)(pr:Int)(q0 q1 q2 q3 q4 qw qa cap:Nat)(x:Int)(cb:Bool)(wy:List Value)(T:Array Value)(hT:MkT T q0 q1 q2 q3 q4 x qw cb)(ys:List Int)(u:Und)(Rs:Ending→World→Prop)
  (hly:ys.length=xs.length) (hlb:b<xs.length) (hpr:pr=0∨(2≤pr∧pr≤5)) (wo:Option Cas) (hwy:wy=bA wo) (hwo:cb=true→∃ c,wo=some c∧c.cr<xs.length∧c.co<xs.length)
  (W:World) (hQ:MkQ w q0 q1 q2 q3 q4 qw) (hqa:qw<qa) (hS:MkS w ⟨F,R,xs,bl,can,pa,ha,fu⟩ pp cc ⟨a,b,pr⟩ q0 q1 q2 q3 q4 qw qa cap wy ys (aa F R (some ⟨qa,0,none⟩) xs.length cap bl can pa ha fu) u.cs W)
  (hnext:∀ cd,Tryz.f23.body.map (aq 16)=some cd→∀ T' W',MkT T' q0 q1 q2 q3 q4 x qw cb →
   MkS w ⟨F,R,xs,bl,can,pa,ha,fu⟩ pp cc ⟨a,b,pr⟩ q0 q1 q2 q3 q4 qw qa cap wy (if pr≠0 then ys.set b (if bl then -pr else pr)else if cb then kj wo ys else ys) (aa F R (some ⟨qa,0,none⟩) xs.length cap bl can pa ha fu) u.cs W' →
   cd.wp Tryz.prog (bodyPostD Tryz.prog Tryz.f23 Rs) {tmps:=T',defers:=cw q4 q2 q3} W')
  (cd:Code) (hcd:Tryz.f23.body.map (aq 15)=some cd):cd.wp Tryz.prog (bodyPostD Tryz.prog Tryz.f23 Rs) {tmps:=T,defers:=cw q4 q2 q3} W:=by
 obtain rfl:=Option.some.inj ((show Tryz.f23.body.map (aq 15)=some _ from rfl).symm.trans hcd);clear hcd;simp only[aq];obtain⟨X,rfl⟩:=hT.fr;clear hT;dsimp only[mkF,litB,Nat.reduceAdd];have p1:∀ j,W.cell? ⟨q1,j,none⟩=(#[.int .i64 (a:Int),.int .i64 (b:Int),.int .i8 pr]:Array Value)[j]?:=hS.m.cells;have l1:=hS.m.lt;have p0:∀ j,W.cell? ⟨q0,j,none⟩=(aa F R pp xs.length cc bl can pa ha fu).toArray[j]?:=hS.p.cells;have l0:=hS.p.lt;have⟨p2,l2⟩:=hS.o.cl;have lq:=hS.y.lt;have hyb:=hS.y.cell (j:=b) (by omega);have hyf:=hS.y.frozen b;have hii:(b:Int)<xs.length:=by omega
 replace hly:=zhd hly;go_upto_region 19 with fail;rename_i k16 hk16 k20 hk20;replace hk16:=zhd hk16;rcases zpr:(pr != 0)with _|_
 ·have zp:pr=0:=by simpa using zpr
  rw[if_neg (by simp[zp])]at hnext;rcases cb with _|_
  ·rw[if_neg (by simp)]at hnext;go_wp2_with fail;refine hk16.out _ _ ?_;refine hnext _ rfl _ _ ?_ hS;exact⟨rfl,rfl,rfl,rfl,rfl,rfl,rfl,rfl,rfl⟩
  ·obtain⟨c,rfl,hc1,hc2⟩:=hwo rfl;simp only[if_true,kj]at hnext;subst hwy;have hi1:(c.cr:Int)<xs.length:=by omega
   have hi2:(c.co:Int)<xs.length:=by omega
   go_upto_region 24 with fail;have hv:=hS.y.cell (j:=c.co) (by have:=hly.out;omega);have hv2:=hS.y.cell (j:=c.cr) (by have:=hly.out;omega);generalize ys[c.co]?.getD 0=v at *;have hf2:=hS.y.frozen c.cr;obtain⟨Wk,hWk⟩:∃ Wk:Nat→World,Wk=fun k=>match k with|0=>W|1=>W.setCell ⟨qa,c.cr,none⟩ (.int .i8 v)|_=>(W.setCell ⟨qa,c.cr,none⟩ (.int .i8 v)).setCell ⟨qa,c.co,none⟩ (.int .i8 0):=⟨_,rfl⟩
   have hW0:Wk 0=W:=by subst hWk;rfl
   have hW1:Wk (0+1)=(Wk 0).setCell ⟨qa,c.cr,none⟩ (.int .i8 v):=by subst hWk;rfl
   have hW2:Wk (1+1)=(Wk 1).setCell ⟨qa,c.co,none⟩ (.int .i8 0):=by subst hWk;rfl
   have hS1:=hS.setA hQ hqa c.cr v;have hS2:=hS1.setA hQ hqa c.co 0;have m2:=bj (Wk:=Wk) (q:=q2) (fun k=>by
    subst hWk;rcases k with _|_|k
    ·exact hS.o
    ·exact hS1.o
    ·exact hS2.o)
   have m3:=bj (Wk:=Wk) (q:=qw) (fun k=>by
    subst hWk;rcases k with _|_|k
    ·exact hS.w
    ·exact hS1.w
    ·exact hS2.w)
   have m3':∀ k d os j,(grow (redrawn (Wk k) d) os).cell? ⟨qw,j,none⟩=c.cs.toArray[j]?:=m3;have hSk:MkS w ⟨F,R,xs,bl,can,pa,ha,fu⟩ pp cc ⟨a,b,pr⟩ q0 q1 q2 q3 q4 qw qa cap (bA (some c)) ((ys.set c.cr v).set c.co 0) (aa F R (some ⟨qa,0,none⟩) xs.length cap bl can pa ha fu) u.cs (Wk [15,17].length):=by subst hWk;exact hS2
   have c15:(Wk 0).cell? ⟨qa,c.cr,none⟩=some (.int .i8 (ys[c.cr]?.getD 0)):=by rw[hW0];exact hv2
   have g15:(Wk 0).frozen? ⟨qa,c.cr,none⟩=false:=by rw[hW0];exact hf2
   have hy1:aC (Wk 1) qa cap (ys.set c.cr v):=by subst hWk;exact hS1.y
   have c17:=hy1.cell (j:=c.co) (by rw[List.length_set];have:=hly.out;omega);have g17:=hy1.frozen c.co;have n1:=cell_regrown (w:=Wk 0) (a:=⟨qa,c.co,none⟩) (by rw[hW0];exact hv);clear hWk m3 hyb hyf hii p1 p0 p2 l0 l1 l2 hv hf2 hS1 hS2;replace hW1:=zhd hW1;replace hW2:=zhd hW2;refine aR [15,17] [(0,0),(0,0),(0,0),(0,0),(0,1),(0,1),(0,1),(0,1),(0,0),(0,0),(0,0),(0,0),(0,0),(0,0),(0,0),(9,9),(1,1)] Wk (by kernel_rfl) (by kernel_rfl) hW0 ?_;replace hW0:=zhd hW0;iterate 4 (refine a8 0 rfl rfl ?_;go_big_quiet_step (fail);refine wpQuiet_nil ?_)
   iterate 4 (refine ci rfl rfl ?_;go_big_quiet_step (fail);refine wpQuiet_nil ?_)
   iterate 7 (refine a8 0 rfl rfl ?_;go_big_quiet_step (fail);refine wpQuiet_nil ?_)
   refine dc 0 rfl rfl 38 (.tmp 195) (.tmp 194) rfl rfl rfl (by kernel_rfl) rfl c15 g15 hW1.out rfl ?_;refine a8 1 rfl rfl ?_;go_big_quiet_step (fail);refine wpQuiet_nil ?_;refine dc 1 rfl rfl 38 (.tmp 196) (.const (.int .i8 0)) rfl rfl rfl (by kernel_rfl) rfl c17 g17 hW2.out rfl ?_;refine cm ?_;intro W6 hb6;have hS6:=hSk.call hb6;clear m2 m3';go_wp2_with fail;refine hk16.out _ _ ?_;refine hnext _ rfl _ _ ?_ hS6;exact⟨rfl,rfl,rfl,rfl,rfl,rfl,rfl,rfl,rfl⟩
 ·have zp:pr≠0:=by simpa using zpr
  rw[if_pos zp]at hnext;have nw:IntKind.i8.wrap (-pr)=-pr:=dj (by omega) (by omega);cases bl
  ·simp only[Bool.false_eq_true,if_false]at hnext;go_wp2_with fail;have hS2:MkS w ⟨F,R,xs,false,can,pa,ha,fu⟩ pp cc ⟨a,b,pr⟩ q0 q1 q2 q3 q4 qw qa cap wy (ys.set b pr) (aa F R (some ⟨qa,0,none⟩) xs.length cap false can pa ha fu) u.cs (W.setCell ⟨qa,b,none⟩ (.int .i8 (pr))):=hS.setA hQ hqa b (pr);generalize W.setCell ⟨qa,b,none⟩ (.int .i8 (pr))=W2 at *;refine hk16.out _ _ ?_;refine hnext _ rfl _ _ ?_ hS2;exact⟨rfl,rfl,rfl,rfl,rfl,rfl,rfl,rfl,rfl⟩
  ·simp only[if_true]at hnext;go_wp2_with fail;have hS2:MkS w ⟨F,R,xs,true,can,pa,ha,fu⟩ pp cc ⟨a,b,pr⟩ q0 q1 q2 q3 q4 qw qa cap wy (ys.set b (-pr)) (aa F R (some ⟨qa,0,none⟩) xs.length cap true can pa ha fu) u.cs (W.setCell ⟨qa,b,none⟩ (.int .i8 (-pr))):=hS.setA hQ hqa b (-pr);generalize W.setCell ⟨qa,b,none⟩ (.int .i8 (-pr))=W2 at *;refine hk16.out _ _ ?_;refine hnext _ rfl _ _ ?_ hS2;exact⟨rfl,rfl,rfl,rfl,rfl,rfl,rfl,rfl,rfl⟩
theorem wm(w:World)(F R:Nat)(xs:List Int)(bl:Bool)(can:Nat)(pa ha fu:Int)(pp:Option Addr)(cc:Nat)(a b:Nat)(pr:Int)(q0 q1 q2 q3 q4 qw qa cap:Nat)(x:Int)(cb:Bool)(wy:List Value)(T:Array Value)(hT:MkT T q0 q1 q2 q3 q4 x qw cb)(ys:List Int)(u:Und)(Rs:Ending→World→Prop)
  (hly:ys.length=xs.length) (hla:a<xs.length) (hlb:b<xs.length)
  (W:World) (hQ:MkQ w q0 q1 q2 q3 q4 qw) (hqa:qw<qa) (hS:MkS w ⟨F,R,xs,bl,can,pa,ha,fu⟩ pp cc ⟨a,b,pr⟩ q0 q1 q2 q3 q4 qw qa cap wy ys (aa F R (some ⟨qa,0,none⟩) xs.length cap bl can pa ha fu) u.cs W)
  (hnext:∀ cd,Tryz.f23.body.map (aq 15)=some cd→∀ T' W',MkT T' q0 q1 q2 q3 q4 x qw cb →
   MkS w ⟨F,R,xs,bl,can,pa,ha,fu⟩ pp cc ⟨a,b,pr⟩ q0 q1 q2 q3 q4 qw qa cap wy ((ys.set a 0).set b x) (aa F R (some ⟨qa,0,none⟩) xs.length cap bl can pa ha fu) u.cs W' →
   cd.wp Tryz.prog (bodyPostD Tryz.prog Tryz.f23 Rs) {tmps:=T',defers:=cw q4 q2 q3} W')
  (cd:Code) (hcd:Tryz.f23.body.map (aq 14)=some cd):cd.wp Tryz.prog (bodyPostD Tryz.prog Tryz.f23 Rs) {tmps:=T,defers:=cw q4 q2 q3} W:=by
 obtain rfl:=Option.some.inj ((show Tryz.f23.body.map (aq 14)=some _ from rfl).symm.trans hcd);clear hcd;simp only[aq];obtain⟨X,rfl⟩:=hT.fr;clear hT;dsimp only[mkF,litB,Nat.reduceAdd];have p1:∀ j,W.cell? ⟨q1,j,none⟩=(#[.int .i64 (a:Int),.int .i64 (b:Int),.int .i8 pr]:Array Value)[j]?:=hS.m.cells;have hi1:(a:Int)<xs.length:=by omega
 have hi2:(b:Int)<xs.length:=by omega
 have hv:=hS.y.cell (j:=a) (by omega);have hf2:=hS.y.frozen a;obtain⟨Wk,hWk⟩:∃ Wk:Nat→World,Wk=fun k=>match k with|0=>W|1=>W.setCell ⟨qa,a,none⟩ (.int .i8 0)|_=>(W.setCell ⟨qa,a,none⟩ (.int .i8 0)).setCell ⟨qa,b,none⟩ (.int .i8 x):=⟨_,rfl⟩
 have hW0:Wk 0=W:=by subst hWk;rfl
 have hW1:Wk (0+1)=(Wk 0).setCell ⟨qa,a,none⟩ (.int .i8 0):=by subst hWk;rfl
 have hW2:Wk (1+1)=(Wk 1).setCell ⟨qa,b,none⟩ (.int .i8 x):=by subst hWk;rfl
 have hS1:=hS.setA hQ hqa a 0;have hS2:=hS1.setA hQ hqa b x;have m2:=bj (Wk:=Wk) (q:=q2) (fun k=>by
  subst hWk;rcases k with _|_|k
  ·exact hS.o
  ·exact hS1.o
  ·exact hS2.o)
 have m3:=bj (Wk:=Wk) (q:=q1) (fun k=>by
  subst hWk;rcases k with _|_|k
  ·exact hS.m
  ·exact hS1.m
  ·exact hS2.m)
 have m3':∀ k d os j,(grow (redrawn (Wk k) d) os).cell? ⟨q1,j,none⟩=(#[.int .i64 (a:Int),.int .i64 (b:Int),.int .i8 pr]:Array Value)[j]?:=m3;have hSk:MkS w ⟨F,R,xs,bl,can,pa,ha,fu⟩ pp cc ⟨a,b,pr⟩ q0 q1 q2 q3 q4 qw qa cap wy ((ys.set a 0).set b x) (aa F R (some ⟨qa,0,none⟩) xs.length cap bl can pa ha fu) u.cs (Wk [10,12].length):=by subst hWk;exact hS2
 have c15:(Wk 0).cell? ⟨qa,a,none⟩=some (.int .i8 (ys[a]?.getD 0)):=by rw[hW0];exact hv
 have g15:(Wk 0).frozen? ⟨qa,a,none⟩=false:=by rw[hW0];exact hf2
 have hy1:aC (Wk 1) qa cap (ys.set a 0):=by subst hWk;exact hS1.y
 have c17:=hy1.cell (j:=b) (by rw[List.length_set];omega);have g17:=hy1.frozen b;clear hWk m3 p1 hv hf2 hS1 hS2;replace hly:=zhd hly;replace hW1:=zhd hW1;replace hW2:=zhd hW2;go_upto_region 18 with fail;rename_i k15 hk15;replace hk15:=zhd hk15;try dsimp only
 refine aR [10,12] [(0,0),(0,0),(0,0),(0,0),(0,1),(0,1),(0,1),(0,1),(0,1),(0,0),(9,9),(1,1)] Wk (by kernel_rfl) (by kernel_rfl) hW0 ?_;replace hW0:=zhd hW0;iterate 4 (refine a8 0 rfl rfl ?_;go_big_quiet_step (fail);refine wpQuiet_nil ?_)
 iterate 5 (refine ci rfl rfl ?_;go_big_quiet_step (fail);refine wpQuiet_nil ?_)
 refine a8 0 rfl rfl ?_;go_big_quiet_step (fail);refine wpQuiet_nil ?_;refine dc 0 rfl rfl 38 (.tmp 150) (.const (.int .i8 0)) rfl rfl rfl (by kernel_rfl) rfl c15 g15 hW1.out rfl ?_;refine a8 1 rfl rfl ?_;go_big_quiet_step (fail);refine wpQuiet_nil ?_;refine dc 1 rfl rfl 38 (.tmp 151) (.tmp 149) rfl rfl rfl (by kernel_rfl) rfl c17 g17 hW2.out rfl ?_;refine cm ?_;intro W6 hb6;have hS6:=hSk.call hb6;clear m2 m3';go_wp2_with fail;refine hk15.out _ _ ?_;refine hnext _ rfl _ _ ?_ hS6;exact⟨rfl,rfl,rfl,rfl,rfl,rfl,rfl,rfl,rfl⟩
theorem z7(w:World)(F R:Nat)(xs:List Int)(bl:Bool)(can:Nat)(pa ha fu:Int)(pp:Option Addr)(cc:Nat)(a b:Nat)(pr:Int)(q0 q1 q2 q3 q4 qw qa cap:Nat)(x:Int)(cb:Bool)(wy:List Value)(T:Array Value)(hT:MkT T q0 q1 q2 q3 q4 x qw cb)(ys:List Int)(u:Und)(Rs:Ending→World→Prop)
  (hly:ys.length=xs.length) (hla:a<xs.length) (hlb:b<xs.length) (hat:u.at_=-1∨∃ k:Nat,u.at_=k∧k<xs.length)
  (W:World) (hQ:MkQ w q0 q1 q2 q3 q4 qw) (hqa:qw<qa) (hS:MkS w ⟨F,R,xs,bl,can,pa,ha,fu⟩ pp cc ⟨a,b,pr⟩ q0 q1 q2 q3 q4 qw qa cap wy ys (aa F R (some ⟨qa,0,none⟩) xs.length cap bl can pa ha fu) u.cs W)
  (hnext:∀ cd,Tryz.f23.body.map (aq 15)=some cd→∀ T' W',MkT T' q0 q1 q2 q3 q4 x qw cb →
   MkS w ⟨F,R,xs,bl,can,pa,ha,fu⟩ pp cc ⟨a,b,pr⟩ q0 q1 q2 q3 q4 qw qa cap wy (((if 0≤u.at_ then ys.set u.at_.toNat 0 else ys).set a 0).set b x) (aa F R (some ⟨qa,0,none⟩) xs.length cap bl can pa ha fu) u.cs W' →
   cd.wp Tryz.prog (bodyPostD Tryz.prog Tryz.f23 Rs) {tmps:=T',defers:=cw q4 q2 q3} W')
  (cd:Code) (hcd:Tryz.f23.body.map (aq 13)=some cd):cd.wp Tryz.prog (bodyPostD Tryz.prog Tryz.f23 Rs) {tmps:=T,defers:=cw q4 q2 q3} W:=by
 obtain rfl:=Option.some.inj ((show Tryz.f23.body.map (aq 13)=some _ from rfl).symm.trans hcd);clear hcd;simp only[aq];obtain⟨X,rfl⟩:=hT.fr;clear hT;dsimp only[mkF,litB,Nat.reduceAdd];have p1:∀ j,W.cell? ⟨q3,j,none⟩=(#[.int .i64 u.mv.fr,.int .i64 u.mv.tg,.int .i8 u.mv.pr,.int .i8 u.cp,.int .i64 u.at_,.int .u8 u.ca,.int .i64 u.pa,.int .i64 u.ha,.int .i64 u.fu]:Array Value)[j]?:=hS.u.cells;have l1:=hS.u.lt;have⟨p2,l2⟩:=hS.o.cl;have lq:=hS.y.lt;go_upto_region 16 with fail;rename_i k14 hk14 k17 hk17;replace hk14:=zhd hk14;obtain⟨t,ht⟩:∃ t,t=u.at_:=⟨_,rfl⟩;rw[←ht]at p1 hat hnext;replace ht:=zhd ht;rcases hat with rfl|⟨k,rfl,hk⟩
 ·rw[if_neg (by omega)]at hnext;replace hly:=zhd hly;go_wp2_with fail;refine hk14.out _ _ ?_;refine wm w F R xs bl can pa ha fu pp cc a b pr q0 q1 q2 q3 q4 qw qa cap x cb wy _ ?_ ys u Rs hly.out hla hlb W hQ hqa hS hnext _ ?_
  ·exact⟨rfl,rfl,rfl,rfl,rfl,rfl,rfl,rfl,rfl⟩
  ·exact rfl
 ·rw[if_pos (by omega),Int.toNat_natCast]at hnext;have hkk:(k:Int)<xs.length:=by omega
  have hv:=hS.y.cell (j:=k) (by omega);have hf2:=hS.y.frozen k;replace hly:=zhd hly;go_wp2_with fail;have hS2:MkS w ⟨F,R,xs,bl,can,pa,ha,fu⟩ pp cc ⟨a,b,pr⟩ q0 q1 q2 q3 q4 qw qa cap wy (ys.set k 0) (aa F R (some ⟨qa,0,none⟩) xs.length cap bl can pa ha fu) u.cs (W.setCell ⟨qa,k,none⟩ (.int .i8 (0))):=hS.setA hQ hqa k (0);generalize W.setCell ⟨qa,k,none⟩ (.int .i8 (0))=W2 at *;refine hk14.out _ _ ?_;refine wm w F R xs bl can pa ha fu pp cc a b pr q0 q1 q2 q3 q4 qw qa cap x cb wy _ ?_ (ys.set k 0) u Rs (by rw[List.length_set];exact hly.out) hla hlb W2 hQ hqa hS2 hnext _ ?_
  ·exact⟨rfl,rfl,rfl,rfl,rfl,rfl,rfl,rfl,rfl⟩
  ·exact rfl
structure MkZ(w:World)(P:Pos)(pp:Option Addr)(cc:Nat)(m:Mv)(q0 q1 q2 q3 q4 qw:Nat)(wy:List Value)(row und:List Value)(W:World):Prop where
 b:Bw w W
 p:ac W q0 (.cells (aa P.F P.R pp P.xs.length cc P.bl P.ca P.pa P.ha P.fu).toArray 26 (0,0))
 m:ac W q1 (.cells m.cs.toArray 40 (0,0))
 e:ac W q4 (.cells #[.int .i64 0] 31 (0,0))
 w:ac W qw (.cells wy.toArray 104 (0,0))
 o:ac W q2 (.cells row.toArray 26 (0,0))
 u:ac W q3 (.cells und.toArray 54 (0,0))
section
variable {w:World} {P:Pos} {pp:Option Addr} {cc:Nat} {m:Mv} {q0 q1 q2 q3 q4 qw qa cap:Nat} {wy:List Value} {ys:List Int} {row row' und und':List Value} {W W':World}
theorem MkZ.call(h:MkZ w P pp cc m q0 q1 q2 q3 q4 qw wy row und W)(hb:Bw W W'):MkZ w P pp cc m q0 q1 q2 q3 q4 qw wy row und W' :=
 ⟨aI h.b h.b.size hb,h.p.call hb,h.m.call hb,h.e.call hb,h.w.call hb,h.o.call hb,h.u.call hb⟩
theorem MkZ.set3(hq:MkQ w q0 q1 q2 q3 q4 qw)(h:MkZ w P pp cc m q0 q1 q2 q3 q4 qw wy row und W)(i:Nat)(v:Value):MkZ w P pp cc m q0 q1 q2 q3 q4 qw wy row (und.set i v) (W.setCell ⟨q3,i,none⟩ v):=by unfold MkQ at hq;have hu:=h.u.set_ i v;rw[List.setIfInBounds_toArray]at hu;exact⟨h.b.setCell (by show w.heap.size≤q3;omega) v,h.p.far (by show q0≠q3;omega) v,h.m.far (by show q1≠q3;omega) v,h.e.far (by show q4≠q3;omega) v,h.w.far (by show qw≠q3;omega) v,h.o.far (by show q2≠q3;omega) v,hu⟩
theorem MkZ.row3(hq:MkQ w q0 q1 q2 q3 q4 qw)(h:MkZ w P pp cc m q0 q1 q2 q3 q4 qw wy row und W):MkZ w P pp cc m q0 q1 q2 q3 q4 qw wy row und' (W.setRow q3 und'.toArray):=by unfold MkQ at hq;exact⟨aj h.b (by omega) h.b.size,h.p.setRow_far (by omega),h.m.setRow_far (by omega),h.e.setRow_far (by omega),h.w.setRow_far (by omega),h.o.setRow_far (by omega),ak h.u⟩
theorem MkZ.row2(hq:MkQ w q0 q1 q2 q3 q4 qw)(hqa:qw<qa)(h:MkZ w P pp cc m q0 q1 q2 q3 q4 qw wy row und W)(hy:aC W qa cap ys):MkS w P pp cc m q0 q1 q2 q3 q4 qw qa cap wy ys row' und (W.setRow q2 row'.toArray):=by unfold MkQ at hq;exact⟨aj h.b (by omega) h.b.size,h.p.setRow_far (by omega),h.m.setRow_far (by omega),h.e.setRow_far (by omega),h.w.setRow_far (by omega),ak h.o,hy.farR (by omega) _,h.u.setRow_far (by omega)⟩
end
theorem zY(w:World)(F R:Nat)(xs:List Int)(bl:Bool)(can:Nat)(pa ha fu:Int)(pp:Option Addr)(cc:Nat)(a b:Nat)(pr:Int)(q0 q1 q2 q3 q4 qw:Nat)(x:Int)(cb:Bool)(wy:List Value)(T:Array Value)(hT:MkT T q0 q1 q2 q3 q4 x qw cb)(Rs:Ending→World→Prop)(u:Und)
  (hl0:0<xs.length) (hl64:xs.length≤64) (hxs:Arr .i8 w pp xs)
  (W:World) (hQ:MkQ w q0 q1 q2 q3 q4 qw) (hS:MkZ w ⟨F,R,xs,bl,can,pa,ha,fu⟩ pp cc ⟨a,b,pr⟩ q0 q1 q2 q3 q4 qw wy af u.cs W)
  (hnext:∀ cd,Tryz.f23.body.map (aq 13)=some cd→∀ T' W' qa cap,qw<qa→MkT T' q0 q1 q2 q3 q4 x qw cb →
   MkS w ⟨F,R,xs,bl,can,pa,ha,fu⟩ pp cc ⟨a,b,pr⟩ q0 q1 q2 q3 q4 qw qa cap wy xs (aa F R (some ⟨qa,0,none⟩) xs.length cap bl can pa ha fu) u.cs W' →
   cd.wp Tryz.prog (bodyPostD Tryz.prog Tryz.f23 Rs) {tmps:=T',defers:=cw q4 q2 q3} W')
  (cd:Code) (hcd:Tryz.f23.body.map (aq 12)=some cd):cd.wp Tryz.prog (bodyPostD Tryz.prog Tryz.f23 Rs) {tmps:=T,defers:=cw q4 q2 q3} W:=by
 obtain rfl:=Option.some.inj ((show Tryz.f23.body.map (aq 12)=some _ from rfl).symm.trans hcd);clear hcd;simp only[aq];obtain⟨X,rfl⟩:=hT.fr;clear hT;dsimp only[mkF,litB,Nat.reduceAdd];obtain⟨g,o,rfl,_⟩:=bQ (hxs.call hS.b) hl0;have hxW:=hxs.call hS.b;have hcp:=nN F R can pa ha fu bl g o cc xs W hxW hl0 (by omega);have hp:ac W q0 (.cells (aa F R (some ⟨g,o,none⟩) xs.length cc bl can pa ha fu).toArray 26 (0,0)):=hS.p;have⟨p1,l1⟩:=hp.cl;have hqw:=hS.w.lt;go_upto_region 15 with fail;rename_i hk;replace hk:=zhd hk;go_wp2_with fail;refine hcp.mono ?_;rintro e W2 ⟨qa,cap,rfl,hb2,hqa,hY⟩;have hS2:=hS.call hb2;have hqa2:qw<qa:=by omega
 clear p1 l1 hqw hxW hcp hp hqa hS;have hZ:=hS2.o;have⟨hi,ho⟩:=zrw 26 (A:=(aa F R (some ⟨qa,0,none⟩) xs.length cap bl can pa ha fu).toArray) (by kernel_rfl) (by simp[Value.oneCell']);go_wp2_with (first|((refine ai rfl 26 (.tmp 4) (.tmp 132) rfl q2 _ rfl rfl 26 _ hZ hi.out rfl ho.out ?_);rintro w3 rfl)|fail);refine hk.out _ _ ?_;refine hnext _ rfl _ _ qa cap hqa2 ?_ (hS2.row2 hQ hqa2 hY);exact⟨rfl,rfl,rfl,rfl,rfl,rfl,rfl,rfl,rfl⟩
theorem zZ(a b F:Nat)(hF:3≤F∧F≤8)(ha:a<64):wrap64 (wrap64 ((a:Int)-(a:Int)%F)+(b:Int)%F)=((a/F*F+b%F:Nat):Int):=by
 have h1:(a:Int)%F=((a%F:Nat):Int):=by norm_cast
 have h2:(b:Int)%F=((b%F:Nat):Int):=by norm_cast
 have h3:=Nat.div_add_mod a F;have h4:b%F<F:=Nat.mod_lt _ (by omega);rw[Nat.mul_comm]at h3;rw[h1,h2];generalize a/F*F=D at *;generalize a%F=A at *;generalize b%F=B at *;rw[IntWalk.wrap64_in ((a:Int)-A) (by omega),IntWalk.wrap64_in _ (by omega)];omega
theorem rO(w:World)(F R:Nat)(xs:List Int)(bl:Bool)(can:Nat)(pa ha fu:Int)(pp:Option Addr)(cc:Nat)(a b:Nat)(pr:Int)(q0 q1 q2 q3 q4 qw:Nat)(x:Int)(cb:Bool)(wy:List Value)(T:Array Value)(hT:MkT T q0 q1 q2 q3 q4 x qw cb)(Rs:Ending→World→Prop)(K:Nat)(cp:Int)
  (W:World) (hQ:MkQ w q0 q1 q2 q3 q4 qw) (hS:MkZ w ⟨F,R,xs,bl,can,pa,ha,fu⟩ pp cc ⟨a,b,pr⟩ q0 q1 q2 q3 q4 qw wy af (Und.mk ⟨a,b,pr⟩ cp K can pa ha fu).cs W)
  (hnext:∀ cd,Tryz.f23.body.map (aq 12)=some cd→∀ T' W',MkT T' q0 q1 q2 q3 q4 x qw cb →
   MkZ w ⟨F,R,xs,bl,can,pa,ha,fu⟩ pp cc ⟨a,b,pr⟩ q0 q1 q2 q3 q4 qw wy af (Und.mk ⟨a,b,pr⟩ cp (if cp=0 then -1 else(K:Int)) can pa ha fu).cs W' →
   cd.wp Tryz.prog (bodyPostD Tryz.prog Tryz.f23 Rs) {tmps:=T',defers:=cw q4 q2 q3} W')
  (cd:Code) (hcd:Tryz.f23.body.map (aq 11)=some cd):cd.wp Tryz.prog (bodyPostD Tryz.prog Tryz.f23 Rs) {tmps:=T,defers:=cw q4 q2 q3} W:=by
 obtain rfl:=Option.some.inj ((show Tryz.f23.body.map (aq 11)=some _ from rfl).symm.trans hcd);clear hcd;simp only[aq];obtain⟨X,rfl⟩:=hT.fr;clear hT;dsimp only[mkF,litB,Nat.reduceAdd];have u1:=hS.u.cells 1;have u2:=hS.u.cells 3;have ul:=hS.u.lt;have u3:=hS.u.cells 4;have uf:=hS.u.frozen 4;go_upto_region 13 with fail;rename_i k hk k2 hk2;replace hk:=zhd hk;rcases z:(cp==0)with _|_
 ·rw[if_neg (by simpa using z)]at hnext;go_wp2_with fail;refine hk.out _ _ ?_;refine hnext _ rfl _ _ ?_ hS;exact⟨rfl,rfl,rfl,rfl,rfl,rfl,rfl,rfl,rfl⟩
 ·rw[if_pos (by simpa using z)]at hnext;go_wp2_with fail;have hS3:MkZ w ⟨F,R,xs,bl,can,pa,ha,fu⟩ pp cc ⟨a,b,pr⟩ q0 q1 q2 q3 q4 qw wy af (Und.mk ⟨a,b,pr⟩ cp (-1) can pa ha fu).cs (W.setCell ⟨q3,4,none⟩ (.int .i64 (-1))):=hS.set3 hQ 4 (.int .i64 (-1));generalize W.setCell ⟨q3,4,none⟩ (.int .i64 (-1))=W3 at *;refine hk.out _ _ ?_;refine hnext _ rfl _ _ ?_ hS3;exact⟨rfl,rfl,rfl,rfl,rfl,rfl,rfl,rfl,rfl⟩
theorem A5(w:World)(F R:Nat)(xs:List Int)(bl:Bool)(can:Nat)(pa ha fu:Int)(pp:Option Addr)(cc:Nat)(a b:Nat)(pr:Int)(q0 q1 q2 q3 q4 qw:Nat)(x:Int)(cb:Bool)(wy:List Value)(T:Array Value)(hT:MkT T q0 q1 q2 q3 q4 x qw cb)(Rs:Ending→World→Prop)
  (hF:3≤F∧F≤8) (hla:a<xs.length) (hlb:b<xs.length) (hl64:xs.length≤64) (hm:xs.length=F*R) (hxs:Arr .i8 w pp xs) (hx:-6≤x∧x≤6) (und:List Value) (hund:und.length=9)
  (W:World) (hQ:MkQ w q0 q1 q2 q3 q4 qw) (hS:MkZ w ⟨F,R,xs,bl,can,pa,ha,fu⟩ pp cc ⟨a,b,pr⟩ q0 q1 q2 q3 q4 qw wy af und W) (K:Nat) (hK:K=if kindI x=1∧(b:Int)=pa then a/F*F+b%F else b) (hKl:K<xs.length)
  (hnext:∀ cd,Tryz.f23.body.map (aq 12)=some cd→∀ T' W',MkT T' q0 q1 q2 q3 q4 x qw cb →
   MkZ w ⟨F,R,xs,bl,can,pa,ha,fu⟩ pp cc ⟨a,b,pr⟩ q0 q1 q2 q3 q4 qw wy af (Und.mk ⟨a,b,pr⟩ (xs[K]?.getD 0) (if xs[K]?.getD 0=0 then -1 else(K:Int)) can pa ha fu).cs W' →
   cd.wp Tryz.prog (bodyPostD Tryz.prog Tryz.f23 Rs) {tmps:=T',defers:=cw q4 q2 q3} W')
  (cd:Code) (hcd:Tryz.f23.body.map (aq 9)=some cd):cd.wp Tryz.prog (bodyPostD Tryz.prog Tryz.f23 Rs) {tmps:=T,defers:=cw q4 q2 q3} W:=by
 obtain rfl:=Option.some.inj ((show Tryz.f23.body.map (aq 9)=some _ from rfl).symm.trans hcd);clear hcd;simp only[aq];obtain⟨X,rfl⟩:=hT.fr;clear hT;dsimp only[mkF,litB,Nat.reduceAdd];obtain⟨g,o,rfl,hb⟩:=bQ (hxs.call hS.b) hlb;have hk:=fun W=>eI x (by omega) W
 have⟨hi,ho⟩:=zrw 54 (A:=((Und.mk ⟨a,b,pr⟩ (xs[b]?.getD 0) b can pa ha fu).cs).toArray) (by kernel_rfl) (by simp[Value.oneCell']);have p0:∀ d os j,(grow (redrawn W d) os).cell? ⟨q0,j,none⟩=(aa F R (some ⟨g,o,none⟩) xs.length cc bl can pa ha fu).toArray[j]?:=am hS.p;have m1:∀ d os j,(grow (redrawn W d) os).cell? ⟨q1,j,none⟩=(#[.int .i64 (a:Int),.int .i64 (b:Int),.int .i8 pr]:Array Value)[j]?:=am hS.m;have c1:=cell_regrown hb;have hii:(b:Int)<xs.length:=by omega
 have hS0:=hS;clear hS;replace hm:=zhd hm;replace hK:=zhd hK;generalize hz:xs[b]?.getD 0=z at *;replace hz:=zhd hz;go_upto_region 9 with fail;rename_i hk2;replace hk2:=zhd hk2;refine aN 18 (by kernel_rfl) (by kernel_rfl) ?_;simp only[List.take_succ_cons,List.take_zero,List.drop_succ_cons,List.drop_zero];repeat(go_big_quiet_step (fail))
 refine wpQuiet_nil ?_;intro W2 hb2;have hS2:=hS0.call hb2;clear p0 m1 c1 hS0 hb;have hZ:=hS2.u;have hos:Hid (und.toArray.size=((Und.mk ⟨a,b,pr⟩ z b can pa ha fu).cs).toArray.size):=zhd (by simp[hund]);go_wp2_with (first|((refine ai rfl 54 (.tmp 5) (.tmp 92) rfl q3 ((Und.mk ⟨a,b,pr⟩ z b can pa ha fu).cs).toArray rfl rfl 54 _ hZ hi.out hos.out ho.out ?_);rintro w3 rfl)|fail);have hS3:MkZ w ⟨F,R,xs,bl,can,pa,ha,fu⟩ (some ⟨g,o,none⟩) cc ⟨a,b,pr⟩ q0 q1 q2 q3 q4 qw wy af (Und.mk ⟨a,b,pr⟩ z b can pa ha fu).cs (W2.setRow q3 ((Und.mk ⟨a,b,pr⟩ z b can pa ha fu).cs).toArray):=hS2.row3 hQ;generalize W2.setRow q3 ((Und.mk ⟨a,b,pr⟩ z b can pa ha fu).cs).toArray=W3 at *;clear hZ hos hi ho hS2;have p1:∀ j,W3.cell? ⟨q1,j,none⟩=(#[.int .i64 (a:Int),.int .i64 (b:Int),.int .i8 pr]:Array Value)[j]?:=hS3.m.cells;have l1:=hS3.m.lt;have p0:∀ j,W3.cell? ⟨q0,j,none⟩=(aa F R (some ⟨g,o,none⟩) xs.length cc bl can pa ha fu).toArray[j]?:=hS3.p.cells;have l0:=hS3.p.lt;refine hk2.out _ _ ?_;go_upto_region 10 with fail;rename_i k3 hk3 k4 hk4;replace hk3:=zhd hk3;go_wp2_with fail;refine(hk _).mono ?_;rintro e W5 ⟨rfl,rfl⟩;rcases z1:(kindI x==1)with _|_
 ·have hKb:K=b:=by rw[hK.out,if_neg (by simp at z1;simp[z1])]
  go_wp2_with fail;rw[hKb,hz.out]at hnext;refine hk3.out _ _ ?_;refine rO w F R xs bl can pa ha fu _ cc a b pr q0 q1 q2 q3 q4 qw x cb wy _ ?_ Rs b z W3 hQ hS3 hnext _ ?_
  ·exact⟨rfl,rfl,rfl,rfl,rfl,rfl,rfl,rfl,rfl⟩
  ·exact rfl
 ·rcases z2:((b:Int)==pa)with _|_
  ·have hKb:K=b:=by rw[hK.out,if_neg (by simp at z2;simp[z2])]
   go_wp2_with fail;rw[hKb,hz.out]at hnext;refine hk3.out _ _ ?_;refine rO w F R xs bl can pa ha fu _ cc a b pr q0 q1 q2 q3 q4 qw x cb wy _ ?_ Rs b z W3 hQ hS3 hnext _ ?_
   ·exact⟨rfl,rfl,rfl,rfl,rfl,rfl,rfl,rfl,rfl⟩
   ·exact rfl
  ·have hKb:K=a/F*F+b%F:=by rw[hK.out,if_pos (by simp at z1 z2;exact⟨z1,z2⟩)]
   have ev:=zZ a b F hF (by omega);rw[←hKb]at ev;replace ev:=zhd ev;clear hKb;go_upto_region 11 with fail;clear p0 p1;have p1:∀ d os j,(grow (redrawn W3 d) os).cell? ⟨q1,j,none⟩=(#[.int .i64 (a:Int),.int .i64 (b:Int),.int .i8 pr]:Array Value)[j]?:=am hS3.m;have p0:∀ d os j,(grow (redrawn W3 d) os).cell? ⟨q0,j,none⟩=(aa F R (some ⟨g,o,none⟩) xs.length cc bl can pa ha fu).toArray[j]?:=am hS3.p;refine aN 17 (by kernel_rfl) (by kernel_rfl) ?_;simp only[List.take_succ_cons,List.take_zero,List.drop_succ_cons,List.drop_zero];repeat(go_big_quiet_step (fail))
   refine wpQuiet_nil ?_;intro W6 hb6;have hS6:=hS3.call hb6;clear p0 p1 l0 l1 hS3;have p4:=hS6.u.cells 4;have f4:=hS6.u.frozen 4;have l4:=hS6.u.lt;go_upto_region 12 with fail;rw[ev.out];have hS7:MkZ w ⟨F,R,xs,bl,can,pa,ha,fu⟩ (some ⟨g,o,none⟩) cc ⟨a,b,pr⟩ q0 q1 q2 q3 q4 qw wy af (Und.mk ⟨a,b,pr⟩ z K can pa ha fu).cs (W6.setCell ⟨q3,4,none⟩ (.int .i64 (K:Nat))):=hS6.set3 hQ 4 (.int .i64 (K:Nat));generalize W6.setCell ⟨q3,4,none⟩ (.int .i64 (K:Nat))=W7 at *;clear p4 f4 l4 hS6 ev;obtain⟨g',o',e1,hb7⟩:=bQ (hxs.call hS7.b) hKl;injection e1 with e1;injection e1 with e1 e2;subst e1 e2;have p4:∀ j,W7.cell? ⟨q3,j,none⟩=(#[.int .i64 (a:Int),.int .i64 (b:Int),.int .i8 pr,.int .i8 z,.int .i64 (K:Nat),.int .u8 can,.int .i64 pa,.int .i64 ha,.int .i64 fu]:Array Value)[j]?:=hS7.u.cells;have f4:=hS7.u.frozen 3;have l4:=hS7.u.lt;have p0:∀ j,W7.cell? ⟨q0,j,none⟩=(aa F R (some ⟨g,o,none⟩) xs.length cc bl can pa ha fu).toArray[j]?:=hS7.p.cells;have l0:=hS7.p.lt;have hiK:(K:Int)<xs.length:=by omega
   generalize hv:xs[K]?.getD 0=v at *;go_wp2_with fail;have hS8:MkZ w ⟨F,R,xs,bl,can,pa,ha,fu⟩ (some ⟨g,o,none⟩) cc ⟨a,b,pr⟩ q0 q1 q2 q3 q4 qw wy af (Und.mk ⟨a,b,pr⟩ v K can pa ha fu).cs (W7.setCell ⟨q3,3,none⟩ (.int .i8 v)):=hS7.set3 hQ 3 (.int .i8 v);generalize W7.setCell ⟨q3,3,none⟩ (.int .i8 v)=W8 at *;refine hk3.out _ _ ?_;refine rO w F R xs bl can pa ha fu _ cc a b pr q0 q1 q2 q3 q4 qw x cb wy _ ?_ Rs K v W8 hQ hS8 hnext _ ?_
   ·exact⟨rfl,rfl,rfl,rfl,rfl,rfl,rfl,rfl,rfl⟩
   ·exact rfl
theorem zO{f r:Int}{xs:List Int}{ca:Int}(h0:0≤ca)(h:cstB f r xs ca=true):ca≤15∧(ca≠0→f=8∧r=8):=by
 unfold cstB at h;simp only[Bool.and_eq_true,Bool.not_eq_true',decide_eq_false_iff_not]at h;refine⟨by omega,fun hne=>?_⟩;have hk:∀ k,(bB f r xs k=true)→f=8∧r=8:=fun k hk=>by
  unfold bB at hk;simp only[Bool.and_eq_true,beq_iff_eq]at hk;exact⟨hk.1,hk.2.1⟩
 have h4:=h.2;simp only[bJ,bitI,Bool.and_eq_true,Bool.or_eq_true,Bool.not_eq_true',beq_eq_false_iff_ne,ne_eq,Bool.true_and]at h4;obtain⟨⟨⟨h1,h2⟩,h3⟩,h4⟩:=h4;by_cases e1:ca/1%2=1
 ·exact hk _ (h1.resolve_left (fun h=>h e1))
 ·by_cases e2:ca/2%2=1
  ·exact hk _ (h2.resolve_left (fun h=>h e2))
  ·by_cases e3:ca/4%2=1
   ·exact hk _ (h3.resolve_left (fun h=>h e3))
   ·by_cases e4:ca/8%2=1
    ·exact hk _ (h4.resolve_left (fun h=>h e4))
    ·omega
theorem eW{f r:Int}{xs:List Int}{bl:Bool}{ca pa ha fu:Int}(h:pvW f r xs bl ca pa ha fu=true)(h0:0≤ca):
  ∃ F R:Nat,f=F∧r=R∧(3≤F∧F≤8)∧(3≤R∧R≤8)∧xs.length=F*R∧aF F R xs=true∧ca≤15∧(ca≠0→F=8∧R=8)∧(0≤ha∧ha≤10000)∧(1≤fu∧fu≤10000):=by
 have hW:pvW f r xs bl ca pa ha fu=((((((true&&aL f r xs)&&cJ f r xs bl)&&dw f.toNat xs)&&cstB f r xs ca)&&passB f.toNat r.toNat xs bl pa ha)&&gJ ha fu):=rfl;rw[hW]at h;simp only[Bool.and_eq_true]at h;obtain⟨⟨⟨⟨⟨⟨_,h1⟩,h2⟩,h3⟩,h4⟩,h5⟩,h6⟩:=h;have ho:aF f r xs=true:=by unfold cJ at h2;simp only[Bool.and_eq_true]at h2;exact h2.1
 obtain⟨F,R,rfl,rfl,hF,hR,hlen,_,_⟩:=dJ ho;have hc:=zO h0 h4;unfold gJ at h6;simp only[Bool.and_eq_true,decide_eq_true_eq]at h6;exact⟨F,R,rfl,rfl,hF,hR,hlen,ho,hc.1,fun hn=>(by have:=hc.2 hn;omega),⟨h6.1,h6.2.1⟩,h6.2.2⟩
theorem qz{P:Pos}{m:Mv}:∀ {l:List Cas} {c:Cas} {b:Bool},casW P m l=(some c,b)→c∈l∧P.ca.toNat&&&c.bit≠0
 | [],c,b,h=>by cases h
 | d::l,c,b,h=>by
  unfold casW at h;split at h
  ·have:=qz h;exact⟨List.mem_cons_of_mem _ this.1,this.2⟩
  ·rename_i hc;injection h with h1 h2;injection h1 with h1;subst h1;exact⟨List.mem_cons_self,fun h=>hc (.inr (.inl h))⟩
theorem pf{P:Pos}{m:Mv}:∀ {l:List Cas},(casW P m l).2=true→∃ c,(casW P m l).1=some c
 | [],h=>by cases h
 | d::l,h=>by
  unfold casW at h ⊢;split at h
  ·rename_i hc;rw[if_pos hc];exact pf h
  ·rename_i hc;rw[if_neg hc];exact⟨d,rfl⟩
theorem jY{P:Pos}{m:Mv}{c:Cas}(h:(castW P m).1=some c):c∈az∧P.ca.toNat&&&c.bit≠0:=by
 unfold castW at h;split at h
 ·cases h
 ·exact qz (b:=(casW P m az).2) (Prod.ext h rfl)
theorem en{P:Pos}{m:Mv}(h:(castW P m).2=true):∃ c,(castW P m).1=some c:=by
 unfold castW at h ⊢;split at h
 ·cases h
 ·rename_i hc;rw[if_neg hc];exact pf h
def cz(F:Nat)(x pa:Int)(a b:Nat):Nat:=if kindI x=1∧(b:Int)=pa then a/F*F+b%F else b
theorem xL{F R a b:Nat}{x pa:Int}(hF:3≤F∧F≤8)(ha:a<F*R)(hb:b<F*R):cz F x pa a b<F*R:=by
 unfold cz;split
 ·have h1:a/F<R:=Nat.div_lt_of_lt_mul ha;have h2:b%F<F:=Nat.mod_lt _ (by omega);have h3:(a/F+1)*F≤R*F:=Nat.mul_le_mul_right F h1;rw[Nat.add_mul,Nat.one_mul,Nat.mul_comm R F]at h3;omega
 ·exact hb
theorem tw(F R:Nat)(xs:List Int)(bl:Bool)(can:Nat)(pa ha fu:Int)(a b:Nat)(pr:Int):bL ⟨F,R,xs,bl,can,pa,ha,fu⟩ ⟨a,b,pr⟩=(if xs[cz F (xs[a]?.getD 0) pa a b]?.getD 0=0 then -1 else(cz F (xs[a]?.getD 0) pa a b:Int),xs[cz F (xs[a]?.getD 0) pa a b]?.getD 0):=by
 have h3:=Nat.div_add_mod a F;rw[Nat.mul_comm]at h3;have h1:(a:Int)%F=((a%F:Nat):Int):=by norm_cast
 have h2:(b:Int)%F=((b%F:Nat):Int):=by norm_cast
 have h4:(if kindI (xs[a]?.getD 0)=1∧(b:Int)=pa then(a:Int)-a%F+b%F else(b:Int))=((cz F (xs[a]?.getD 0) pa a b:Nat):Int):=by
  unfold cz;split
  ·rw[h1,h2];generalize a/F*F=D at *;generalize a%F=A at *;generalize b%F=B at *;omega
  ·rfl
 unfold bL Pos.at_;simp only[Int.toNat_natCast];rw[h4,Int.toNat_natCast]
theorem od(w:World)(F R:Nat)(xs:List Int)(bl:Bool)(can:Nat)(pa ha fu:Int)(pp:Option Addr)(cc:Nat)(a b:Nat)(pr:Int)(q0 q1 q2 q3 q4 qw:Nat)(cb:Bool)(wo:Option Cas)(T:Array Value)(hT:MkT T q0 q1 q2 q3 q4 (xs[a]?.getD 0) qw cb)(Rs:Ending→World→Prop)
  (hF:3≤F∧F≤8) (hR:3≤R∧R≤8) (hlen:xs.length=F*R) (hor:aF F R xs=true) (hcc:xs.length≤cc) (hal:a<F*R) (hbl:b<F*R) (hpr:pr=0∨(2≤pr∧pr≤5)) (hca:can<256) (hha:0≤ha∧ha≤10000) (hfu:0≤fu∧fu≤10000)
  (hwo:cb=true→∃ c,wo=some c) (hwc:∀ c,wo=some c→c∈az∧F=8∧R=8) (hG:aM w) (hxs:Arr .i8 w pp xs)
  (W:World) (hQ:MkQ w q0 q1 q2 q3 q4 qw) (hS:MkZ w ⟨F,R,xs,bl,can,pa,ha,fu⟩ pp cc ⟨a,b,pr⟩ q0 q1 q2 q3 q4 qw (bA wo) af aw W)
  (Q:Pos) (hQd:Q=dU ⟨F,R,xs,bl,can,pa,ha,fu⟩ ⟨a,b,pr⟩ (if cb then wo else none)) (C:Bool)
  (hCd:C=(decide (chkS F R Q.xs bl≠0)||(cb&&(decide (chkS F R xs bl≠0)||decide (atrW F R (setW gNon xs xs.length) xs ((wo.map Cas.cr).getD 0) (!bl) xs.length≠0)))))
  (h90:C=true→∀ w',Bw w w'→Rs (mkE 90) w')
  (h7:C=false→(10000<Q.ha∨10000<Q.fu)→∀ w',Bw w w'→Rs (mkE 7) w')
  (hok:C=false→¬(10000<Q.ha∨10000<Q.fu)→∀ w' qa cap,Bw w w'→w.heap.size≤qa→aC w' qa cap Q.xs→Rs (.returned (.tuple #[.agg (aa Q.F Q.R (some ⟨qa,0,none⟩) Q.xs.length cap Q.bl Q.ca Q.pa Q.ha Q.fu).toArray,.agg (eT ⟨F,R,xs,bl,can,pa,ha,fu⟩ ⟨a,b,pr⟩).cs.toArray,.int .i64 0])) w')
  (cd:Code) (hcd:Tryz.f23.body.map (aq 9)=some cd):cd.wp Tryz.prog (bodyPostD Tryz.prog Tryz.f23 Rs) {tmps:=T,defers:=cw q4 q2 q3} W:=by
 have h6:=ea hor;have hla:a<xs.length:=by omega
 have hlb:b<xs.length:=by omega
 have hl64:xs.length≤64:=by have:=Nat.mul_le_mul hF.2 hR.2;omega
 have hxa:-6≤xs[a]?.getD 0∧xs[a]?.getD 0≤6:=by rw[List.getElem?_eq_getElem hla];exact h6 _ (List.getElem_mem hla)
 have hK:=xL (x:=xs[a]?.getD 0) (pa:=pa) hF hal hbl;rw[←hlen]at hK;have hcap:=tw F R xs bl can pa ha fu a b pr;have hund:eT ⟨F,R,xs,bl,can,pa,ha,fu⟩ ⟨a,b,pr⟩=⟨⟨a,b,pr⟩,xs[cz F (xs[a]?.getD 0) pa a b]?.getD 0,(if xs[cz F (xs[a]?.getD 0) pa a b]?.getD 0=0 then -1 else(cz F (xs[a]?.getD 0) pa a b:Int)),can,pa,ha,fu⟩:=by unfold eT;rw[hcap]
 have hbrd:∀ wy:Option Cas,brdW ⟨F,R,xs,bl,can,pa,ha,fu⟩ ⟨a,b,pr⟩ wy=(if pr≠0 then(((if 0≤(eT ⟨F,R,xs,bl,can,pa,ha,fu⟩ ⟨a,b,pr⟩).at_ then xs.set (eT ⟨F,R,xs,bl,can,pa,ha,fu⟩ ⟨a,b,pr⟩).at_.toNat 0 else xs).set a 0).set b (xs[a]?.getD 0)).set b (if bl then -pr else pr)else kj wy (((if 0≤(eT ⟨F,R,xs,bl,can,pa,ha,fu⟩ ⟨a,b,pr⟩).at_ then xs.set (eT ⟨F,R,xs,bl,can,pa,ha,fu⟩ ⟨a,b,pr⟩).at_.toNat 0 else xs).set a 0).set b (xs[a]?.getD 0))):=by intro wy;unfold brdW eT Pos.at_;simp only[Int.toNat_natCast];cases wy<;>rfl
 obtain⟨u,hu⟩:∃ u,u=eT ⟨F,R,xs,bl,can,pa,ha,fu⟩ ⟨a,b,pr⟩:=⟨_,rfl⟩;rw[←hu]at hbrd hund hok;obtain⟨X2,hX2⟩:∃ X2,X2=((if 0≤u.at_ then xs.set u.at_.toNat 0 else xs).set a 0).set b (xs[a]?.getD 0):=⟨_,rfl⟩;simp only[←hX2]at hbrd;have hlX:X2.length=xs.length:=by rw[hX2];split<;>simp
 have hat:u.at_=-1∨∃ k:Nat,u.at_=k∧k<xs.length:=by
  rw[hund];by_cases hz:xs[cz F (xs[a]?.getD 0) pa a b]?.getD 0=0
  ·left;simp only[if_pos hz]
  ·right;exact⟨cz F (xs[a]?.getD 0) pa a b,by simp only[if_neg hz],hK⟩
 obtain⟨Y,hY⟩:∃ Y,Y=brdW ⟨F,R,xs,bl,can,pa,ha,fu⟩ ⟨a,b,pr⟩ (if cb then wo else none):=⟨_,rfl⟩;have hYl:Y.length=xs.length:=by
  rw[hY,hbrd];split
  ·simp[hlX]
  ·cases cb
   ·simp[hlX,kj]
   ·obtain⟨c,rfl⟩:=hwo rfl;simp[hlX,kj]
 have hYd:(if pr≠0 then X2.set b (if bl then -pr else pr)else if cb then kj wo X2 else X2)=Y:=by
  rw[hY,hbrd];cases cb
  ·simp[kj]
  ·simp
 have hQx:Q.xs=Y:=by rw[hQd,hY];rfl
 have hcl:∀ c,wo=some c→c.cr<xs.length∧c.co<xs.length:=by intro c h;obtain⟨hm,rfl,rfl⟩:=hwc c h;rw[hlen];simp only[az,List.mem_cons,List.not_mem_nil,or_false]at hm;rcases hm with rfl|rfl|rfl|rfl<;>decide
 refine A5 w F R xs bl can pa ha fu pp cc a b pr q0 q1 q2 q3 q4 qw (xs[a]?.getD 0) cb (bA wo) T hT Rs hF hla hlb hl64 hlen hxs hxa aw rfl W hQ hS (cz F (xs[a]?.getD 0) pa a b) rfl hK ?_ cd hcd;intro cd12 h12 T2 W2 hT2 hS2;rw[←hund]at hS2;refine zY w F R xs bl can pa ha fu pp cc a b pr q0 q1 q2 q3 q4 qw (xs[a]?.getD 0) cb (bA wo) T2 hT2 Rs u (by omega) hl64 hxs W2 hQ hS2 ?_ cd12 h12;intro cd13 h13 T3 W3 qa cap hqa hT3 hS3;refine z7 w F R xs bl can pa ha fu pp cc a b pr q0 q1 q2 q3 q4 qw qa cap (xs[a]?.getD 0) cb (bA wo) T3 hT3 xs u Rs rfl hla hlb hat W3 hQ hqa hS3 ?_ cd13 h13;intro cd15 h15 T4 W4 hT4 hS4;rw[←hX2]at hS4;refine Ag w F R xs bl can pa ha fu pp cc a b pr q0 q1 q2 q3 q4 qw qa cap (xs[a]?.getD 0) cb (bA wo) T4 hT4 X2 u Rs hlX hlb hpr wo rfl (fun h=>by obtain⟨c,rfl⟩:=hwo h;exact⟨c,rfl,hcl c rfl⟩) W4 hQ hqa hS4 ?_ cd15 h15;intro cd16 h16 T5 W5 hT5 hS5;rw[hYd,←hYl]at hS5;refine Aq w F R xs bl can pa ha fu pp cc a b pr q0 q1 q2 q3 q4 qw qa cap (xs[a]?.getD 0) cb (bA wo) T5 hT5 Y u Rs hF (by omega) (by omega) hxa hca hha hfu W5 hG hQ hqa hS5 ?_ cd16 h16;intro cd23 h23 T6 W6 hT6 hS6;have hQq:w.heap.size≤q0∧q0<q1∧q1<q2∧q2<q3∧q3<q4∧q4<qw:=hQ;refine Ay w F R xs bl can pa ha fu pp cc ⟨a,b,pr⟩ q0 q1 q2 q3 q4 qw qa cap (xs[a]?.getD 0) cb wo T6 hT6 Y (!bl) _ _ _ _ u Rs hF hR hlen hYl hor hcc (by obtain⟨cur,h1,h2,h3,h4⟩:=hS6.y;exact h2) ((wo.map Cas.cr).getD 0) (by cases wo<;>rfl) (by
   cases wo with
   | none=>show 0<F*R;omega
   | some c=>rw[←hlen];exact(hcl c rfl).1) W6 hQ (by omega) ⟨hS6.b,hS6.p,hS6.m,hS6.e,hG.call hS6.b,hxs.call hS6.b⟩ hS6.w hS6.o hS6.y hS6.u C ?_ h90 ?_ ?_ cd23 h23
 ·rw[hCd,hQx]
 ·intro hc h7';refine h7 hc ?_;subst hQd;rw[hu]at h7';exact h7'
 ·intro hc h7' w' hb' hO';have h8:=hok hc (by
   subst hQd;rw[hu]at h7';exact h7') w' qa cap hb' (by omega) (by rw[hQx];exact hO')
  subst hQd;have hY2:(dU ⟨F,R,xs,bl,can,pa,ha,fu⟩ ⟨a,b,pr⟩ (if cb then wo else none)).xs=Y:=hQx;rw[hY2]at h8;rw[hu]at h8 ⊢;exact h8
end Go.Proofs.YtefmplccbkmalaaGreatDoor
