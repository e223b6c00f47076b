import Derived.Test.YtefmplccbkmalaaGreatDoorB14
import Derived.Test.YtefmplccbkmalaaGreatDoorB16
import Derived.Test.YtefmplccbkmalaaGreatDoorB20
set_option maxRecDepth 100000
set_option maxHeartbeats 12800000
namespace Go.Proofs.YtefmplccbkmalaaGreatDoor
open Go.RowKit Go.Sort Go.BigFrame

theorem jK(F R ca pa ha fu:Int)(bl:Bool)(g o c:Nat)(xs:List Int)(w:World)(hx:Arr .i8 w (some ⟨g,o,none⟩) xs)(h0:0<xs.length)(hl:xs.length≤1000):
  Clz 10 #[.agg (aa F R (some ⟨g,o,none⟩) xs.length c bl ca pa ha fu).toArray] w (wC F R ca pa ha fu bl xs w):=by
 obtain⟨i3,hi3,hz3,hs3,hy3⟩:=info_parts Tryz.info38;have hA:=(ac.new w (.cells (aa F R (some ⟨g,o,none⟩) xs.length c bl ca pa ha fu).toArray 26)).alloc (.cells (aa 0 0 none 0 0 false 0 0 0 0).toArray 26);have hZ:=ac.new' (w.alloc (.cells (aa F R (some ⟨g,o,none⟩) xs.length c bl ca pa ha fu).toArray 26)) (.cells (aa 0 0 none 0 0 false 0 0 0 0).toArray 26) (q:=w.heap.size+1) (by simp);have hB:=(ae w (.cells (aa F R (some ⟨g,o,none⟩) xs.length c bl ca pa ha fu).toArray 26)).alloc (by simp) (.cells (aa 0 0 none 0 0 false 0 0 0 0).toArray 26);have hx1:=hx.call hB;have⟨hc1,hl1⟩:=hA.cl;go_enter Tryz.func10,Tryz.ntmps10;go_upto_region 1 with fail;change Code.wp _ _ _ _ ((w.alloc (.cells (aa F R (some ⟨g,o,none⟩) xs.length c bl ca pa ha fu).toArray 26)).alloc (.cells (aa 0 0 none 0 0 false 0 0 0 0).toArray 26));generalize (w.alloc (.cells (aa F R (some ⟨g,o,none⟩) xs.length c bl ca pa ha fu).toArray 26)).alloc (.cells (aa 0 0 none 0 0 false 0 0 0 0).toArray 26)=w1 at *;have hown:w1.ownsRow w1.heap.size 38 1 (.slice none 0 0) 0 []:=⟨rfl,.inl ⟨rfl,rfl⟩⟩;go_wp2_with (refine wpList_append_own _ rfl (.const (.slice none 0 0)) (.tmp 4) 24 rfl w1.heap.size 38 i3 (.int .i8 0) 1 1 Tryz.underlying24 hi3 hz3 hs3 hy3 rfl (by decide) _ 0 [] rfl hown ⟨g,o,none⟩ xs.length c (xs.map (.int .i8)) rfl (by simp) (o6 hx1) (by intro u hu;obtain⟨y,_,rfl⟩:=List.mem_map.1 hu;rfl) (by unfold maxLen;omega) (by omega) (Nat.le_refl _) ?_);intro v' w2 ho hgr _;obtain⟨q,cap,rfl,hq,hO⟩:=aC.of ho h0;have hb2:Bw w1 w2:=(Below.refl _ _).grown hgr (Nat.le_refl _) (fun j e=>by simp[Value.ownBlock]at e);have hA2:=hA.call hb2;have hZ2:=hZ.call hb2;have hB2:=zbc hB hb2;clear hc1 hl1 hx1 hx hgr ho;have hl1:=hA2.lt;have hl2:=hZ2.lt;have hqa:q≠w.heap.size:=by have:=hA.lt;omega
 have hqz:q≠w.heap.size+1:=by have:=hZ.lt;omega
 have hqw:w.heap.size≤q:=by have:=hB.size;omega
 clear hA hZ;have hc1:=hA2.cells;have hf1:=hA2.frozen;have⟨hi,ho⟩:=zrw 26 (A:=(aa F R (some ⟨q,0,none⟩) xs.length cap bl ca pa ha fu).toArray) (by kernel_rfl) (by simp[Value.oneCell']);have hA3:ac (w2.setCell ⟨w.heap.size,2,none⟩ (.slice (some ⟨q,0,none⟩) xs.length cap)) w.heap.size (.cells (aa F R (some ⟨q,0,none⟩) xs.length cap bl ca pa ha fu).toArray 26 (0,0)):=hA2.set_ 2 (.slice (some ⟨q,0,none⟩) xs.length cap);have hZ3:=hZ2.far (p:=⟨w.heap.size,2,none⟩) (by simp) (.slice (some ⟨q,0,none⟩) xs.length cap);have hO3:=hO.far (p:=⟨w.heap.size,2,none⟩) hqa (.slice (some ⟨q,0,none⟩) xs.length cap);have hB3:Bw w (w2.setCell ⟨w.heap.size,2,none⟩ (.slice (some ⟨q,0,none⟩) xs.length cap)):=hB2.setCell (by simp) _;clear hO;go_wp2_with (first|(refine ba rfl 26 (.tmp 1) rfl w.heap.size _ 26 rfl hA3 (by kernel_rfl) ?_)|((refine ai rfl 26 (.tmp 2) (.tmp 7) rfl (w.heap.size+1) _ rfl rfl 26 _ hZ3 hi.out rfl ho.out ?_);rintro w3 rfl)|fail);refine bodyPost_ret (bg (fn:=Tryz.f10) Tryz.results10 rfl (ak (cells:=(aa F R (some ⟨q,0,none⟩) xs.length cap bl ca pa ha fu).toArray) hZ3) (by kernel_rfl)) rfl ⟨q,cap,rfl,aj hB3 (by omega) hB3.size,hqw,hO3.farR hqz _⟩
def afF(q0 q1 q4 q5:Nat)(own AT:Int)(X:Nat→Value):Array Value:=(litB (fun i=>match i with|2=>.pointer (some ⟨q0,0,none⟩)|3=>.pointer (some ⟨q1,0,none⟩)|4=>.pointer (some ⟨q4,0,none⟩)|5=>.pointer (some ⟨q5,0,none⟩)|6=>.int .i8 own|7=>.int .i64 AT|i=>X i) 0 199).toArray
def afT(T:Array Value)(q0 q1 q4 q5:Nat)(own AT:Int):Prop:=T.size=199∧ofA T 2=.pointer (some ⟨q0,0,none⟩)∧ofA T 3=.pointer (some ⟨q1,0,none⟩)∧ofA T 4=.pointer (some ⟨q4,0,none⟩)∧ofA T 5=.pointer (some ⟨q5,0,none⟩)∧ofA T 6=.int .i8 own∧ofA T 7=.int .i64 AT
theorem afT.fr{T:Array Value}{q0 q1 q4 q5:Nat}{own AT:Int}(h:afT T q0 q1 q4 q5 own AT):∃ X,T=afF q0 q1 q4 q5 own AT X:=by obtain⟨hs,h2,h3,h4,h5,h6,h7⟩:=h;refine⟨ofA T,(frB T hs).trans (congrArg (fun X=>(litB X 0 199).toArray) (funext fun i=>?_))⟩;split<;>first|assumption|rfl

def agF(q0 q1 q4 q5:Nat)(own AT:Int)(q13 q14:Nat)(X:Nat→Value):Array Value:=(litB (fun i=>match i with|2=>.pointer (some ⟨q0,0,none⟩)|3=>.pointer (some ⟨q1,0,none⟩)|4=>.pointer (some ⟨q4,0,none⟩)|5=>.pointer (some ⟨q5,0,none⟩)|6=>.int .i8 own|7=>.int .i64 AT|13=>.pointer (some ⟨q13,0,none⟩)|14=>.pointer (some ⟨q14,0,none⟩)|i=>X i) 0 199).toArray
def agT(T:Array Value)(q0 q1 q4 q5:Nat)(own AT:Int)(q13 q14:Nat):Prop:=T.size=199∧ofA T 2=.pointer (some ⟨q0,0,none⟩)∧ofA T 3=.pointer (some ⟨q1,0,none⟩)∧ofA T 4=.pointer (some ⟨q4,0,none⟩)∧ofA T 5=.pointer (some ⟨q5,0,none⟩)∧ofA T 6=.int .i8 own∧ofA T 7=.int .i64 AT∧ofA T 13=.pointer (some ⟨q13,0,none⟩)∧ofA T 14=.pointer (some ⟨q14,0,none⟩)
theorem agT.fr{T:Array Value}{q0 q1 q4 q5:Nat}{own AT:Int}{q13 q14:Nat}(h:agT T q0 q1 q4 q5 own AT q13 q14):∃ X,T=agF q0 q1 q4 q5 own AT q13 q14 X:=by obtain⟨hs,h2,h3,h4,h5,h6,h7,h13,h14⟩:=h;refine⟨ofA T,(frB T hs).trans (congrArg (fun X=>(litB X 0 199).toArray) (funext fun i=>?_))⟩;split<;>first|assumption|rfl

def AfQ(w:World)(q0 q1 q4 qa q5:Nat):Prop:=w.heap.size≤q0∧q0<q1∧q1<q4∧q4<qa∧qa<q5
structure AfS(w:World)(F R:Nat)(xs:List Int)(bl:Bool)(can:Nat)(pa ha fu:Int)(a b:Nat)(pr:Int)(pp:Option Addr)(cc q0 q1 q4 q5 qa cap:Nat)(ys:List Int)(row:List Value)(W:World):Prop where
 bw:Bw w W
 p:ac W q0 (.cells (aa F R pp xs.length cc bl can pa ha fu).toArray 26 (0,0))
 m:ac W q1 (.cells #[.int .i64 a,.int .i64 b,.int .i8 pr] 40 (0,0))
 o:ac W q4 (.cells af.toArray 26 (0,0))
 y:aC W qa cap ys
 t:ac W q5 (.cells row.toArray 26 (0,0))
section
variable {w:World} {F R:Nat} {xs:List Int} {bl:Bool} {can:Nat} {pa ha fu:Int} {a b:Nat} {pr:Int} {pp:Option Addr} {cc q0 q1 q4 q5 qa cap:Nat} {ys:List Int} {row:List Value} {W W':World}
theorem AfS.call(h:AfS w F R xs bl can pa ha fu a b pr pp cc q0 q1 q4 q5 qa cap ys (row) W)(hb:Bw W W'):AfS w F R xs bl can pa ha fu a b pr pp cc q0 q1 q4 q5 qa cap ys (row) W' :=
 ⟨aI h.bw h.bw.size hb,h.p.call hb,h.m.call hb,h.o.call hb,h.y.call hb,h.t.call hb⟩
theorem AfS.set5(hq:AfQ w q0 q1 q4 qa q5)(h:AfS w F R xs bl can pa ha fu a b pr pp cc q0 q1 q4 q5 qa cap ys (row) W)(i:Nat)(v:Value):AfS w F R xs bl can pa ha fu a b pr pp cc q0 q1 q4 q5 qa cap ys (row.set i v) (W.setCell ⟨q5,i,none⟩ v):=by unfold AfQ at hq;have ht:=h.t.set_ i v;rw[List.setIfInBounds_toArray]at ht;exact⟨h.bw.setCell (by show w.heap.size≤q5;omega) v,h.p.far (by show q0≠q5;omega) v,h.m.far (by show q1≠q5;omega) v,h.o.far (by show q4≠q5;omega) v,h.y.far (by show qa≠q5;omega) v,ht⟩
theorem AfS.setA(hq:AfQ w q0 q1 q4 qa q5)(h:AfS w F R xs bl can pa ha fu a b pr pp cc q0 q1 q4 q5 qa cap ys (row) W)(i:Nat)(v:Int):AfS w F R xs bl can pa ha fu a b pr pp cc q0 q1 q4 q5 qa cap (ys.set i v) (row) (W.setCell ⟨qa,i,none⟩ (.int .i8 v)):=by unfold AfQ at hq;exact⟨h.bw.setCell (by show w.heap.size≤qa;omega) _,h.p.far (by show q0≠qa;omega) _,h.m.far (by show q1≠qa;omega) _,h.o.far (by show q4≠qa;omega) _,h.y.set i v,h.t.far (by show q5≠qa;omega) _⟩
end
theorem Aw(w:World)(F R:Nat)(xs:List Int)(bl:Bool)(can:Nat)(pa ha fu:Int)(a b:Nat)(pr:Int)(pp:Option Addr)(cc q0 q1 q4 q5 qa cap:Nat)(own AT:Int)(T:Array Value)(hT:afT T q0 q1 q4 q5 own AT)(ys:List Int)(Rs:Ending→World→Prop)(CA PA HA:Int)(hfu:-10000≤fu∧fu≤10000)
  (W:World) (hQ:AfQ w q0 q1 q4 qa q5) (hS:AfS w F R xs bl can pa ha fu a b pr pp cc q0 q1 q4 q5 qa cap ys (aa F R (some ⟨qa,0,none⟩) xs.length cap bl CA PA HA fu) W)
  (hok:∀ w',Bw w w'→aC w' qa cap ys→Rs (.returned (.agg (aa F R (some ⟨qa,0,none⟩) xs.length cap (!bl) CA PA HA (if bl then fu+1 else fu)).toArray)) w')
  (cd:Code) (hcd:Tryz.f116.body.map (aq 15)=some cd):cd.wp Tryz.prog (bodyPost Tryz.prog Tryz.f116 Rs) {tmps:=T,defers:=[]} W:=by
 obtain rfl:=Option.some.inj ((show Tryz.f116.body.map (aq 15)=some _ from rfl).symm.trans hcd);clear hcd;simp only[aq];obtain⟨X,rfl⟩:=hT.fr;clear hT;dsimp only[afF,litB,Nat.reduceAdd];cases bl
 ·simp only[Bool.false_eq_true,if_false]at hok;have e3:=hS.p.cells 3;have hS9:AfS w F R xs false can pa ha fu a b pr pp cc q0 q1 q4 q5 qa cap ys (aa F R (some ⟨qa,0,none⟩) xs.length cap true CA PA HA fu) (W.setCell ⟨q5,3,none⟩ (.bool true)):=hS.set5 hQ 3 (.bool true);have p0:=hS.p.cells 3;have l0:=hS.p.lt;have o1:=hS.t.cells 3;have f1:=hS.t.frozen 3;have l1:=hS.t.lt;have hO:=hS9.t;have hZ:=hS9.o;have⟨hi,ho⟩:=zrw 26 (A:=(aa F R (some ⟨qa,0,none⟩) xs.length cap true CA PA HA fu).toArray) (by kernel_rfl) (by simp[Value.oneCell']);go_upto_region 32 with fail;go_wp2_with (first|(refine ba rfl 26 (.tmp 5) rfl q5 _ 26 rfl hO (by kernel_rfl) ?_)|((refine ai rfl 26 (.tmp 4) (.tmp 198) rfl q4 _ rfl rfl 26 _ hZ hi.out rfl ho.out ?_);rintro w3 rfl)|fail);refine bodyPost_ret (bg (fn:=Tryz.f116) Tryz.results116 rfl (ak (cells:=(aa F R (some ⟨qa,0,none⟩) xs.length cap true CA PA HA fu).toArray) hZ) (by kernel_rfl)) rfl (hok _ (aj hS9.bw (by unfold AfQ at hQ;omega) hS9.bw.size) (hS9.y.farR (by unfold AfQ at hQ;omega) _))
 ·simp only[if_true]at hok;have e3:=hS.p.cells 3;have e7:=hS.p.cells 7;have el:=hS.p.lt;have o7:=hS.t.cells 7;have f7:=hS.t.frozen 7;have lt:=hS.t.lt;go_upto_region 31 with fail;have hS2:AfS w F R xs true can pa ha fu a b pr pp cc q0 q1 q4 q5 qa cap ys (aa F R (some ⟨qa,0,none⟩) xs.length cap true CA PA HA (fu+1)) (W.setCell ⟨q5,7,none⟩ (.int .i64 (fu+1))):=hS.set5 hQ 7 (.int .i64 (fu+1));generalize W.setCell ⟨q5,7,none⟩ (.int .i64 (fu+1))=W2 at *;clear e3 e7 el o7 f7 lt hS;have e3:=hS2.p.cells 3;have hS9:AfS w F R xs true can pa ha fu a b pr pp cc q0 q1 q4 q5 qa cap ys (aa F R (some ⟨qa,0,none⟩) xs.length cap false CA PA HA (fu+1)) (W2.setCell ⟨q5,3,none⟩ (.bool false)):=hS2.set5 hQ 3 (.bool false);have p0:=hS2.p.cells 3;have l0:=hS2.p.lt;have o1:=hS2.t.cells 3;have f1:=hS2.t.frozen 3;have l1:=hS2.t.lt;have hO:=hS9.t;have hZ:=hS9.o;have⟨hi,ho⟩:=zrw 26 (A:=(aa F R (some ⟨qa,0,none⟩) xs.length cap false CA PA HA (fu+1)).toArray) (by kernel_rfl) (by simp[Value.oneCell']);go_upto_region 32 with fail;go_wp2_with (first|(refine ba rfl 26 (.tmp 5) rfl q5 _ 26 rfl hO (by kernel_rfl) ?_)|((refine ai rfl 26 (.tmp 4) (.tmp 198) rfl q4 _ rfl rfl 26 _ hZ hi.out rfl ho.out ?_);rintro w3 rfl)|fail);refine bodyPost_ret (bg (fn:=Tryz.f116) Tryz.results116 rfl (ak (cells:=(aa F R (some ⟨qa,0,none⟩) xs.length cap false CA PA HA (fu+1)).toArray) hZ) (by kernel_rfl)) rfl (hok _ (aj hS9.bw (by unfold AfQ at hQ;omega) hS9.bw.size) (hS9.y.farR (by unfold AfQ at hQ;omega) _))
theorem AZ(w:World)(F R:Nat)(xs:List Int)(bl:Bool)(can:Nat)(pa ha fu:Int)(a b:Nat)(pr:Int)(pp:Option Addr)(cc q0 q1 q4 q5 qa cap:Nat)(own AT:Int)(T:Array Value)(hT:afT T q0 q1 q4 q5 own AT)(ys:List Int)(Rs:Ending→World→Prop)(CA PA:Int)(hha:0≤ha∧ha≤10000)(hfu:-10000≤fu∧fu≤10000)(how:-6≤own∧own≤6)
  (W:World) (hQ:AfQ w q0 q1 q4 qa q5) (hS:AfS w F R xs bl can pa ha fu a b pr pp cc q0 q1 q4 q5 qa cap ys (aa F R (some ⟨qa,0,none⟩) xs.length cap bl CA PA ha fu) W)
  (hok:∀ w',Bw w w'→aC w' qa cap ys→Rs (.returned (.agg (aa F R (some ⟨qa,0,none⟩) xs.length cap (!bl) CA PA (if kindI own=1∨0≤AT then 0 else ha+1) (if bl then fu+1 else fu)).toArray)) w')
  (cd:Code) (hcd:Tryz.f116.body.map (aq 13)=some cd):cd.wp Tryz.prog (bodyPost Tryz.prog Tryz.f116 Rs) {tmps:=T,defers:=[]} W:=by
 obtain rfl:=Option.some.inj ((show Tryz.f116.body.map (aq 13)=some _ from rfl).symm.trans hcd);clear hcd;simp only[aq];obtain⟨X,rfl⟩:=hT.fr;clear hT;dsimp only[afF,litB,Nat.reduceAdd];have hkd:=fun W=>cL own ⟨by omega,by omega⟩ W
 generalize kindI own=ky at *;have e5:=hS.p.cells 6;have el:=hS.p.lt;have o5:=hS.t.cells 6;have f5:=hS.t.frozen 6;have lt:=hS.t.lt;go_upto_region 27 with fail;have hS2:AfS w F R xs bl can pa ha fu a b pr pp cc q0 q1 q4 q5 qa cap ys (aa F R (some ⟨qa,0,none⟩) xs.length cap bl CA PA (ha+1) fu) (W.setCell ⟨q5,6,none⟩ (.int .i64 (ha+1))):=hS.set5 hQ 6 (.int .i64 (ha+1));generalize W.setCell ⟨q5,6,none⟩ (.int .i64 (ha+1))=W2 at *;clear e5 el o5 f5 lt hS;rename_i k hk k2 hk2;replace hk:=zhd hk;have h15:∀(HA:Int),HA=(if ky=1∨0≤AT then 0 else ha+1)→∀(T':Array Value),afT T' q0 q1 q4 q5 own AT→∀ W',AfS w F R xs bl can pa ha fu a b pr pp cc q0 q1 q4 q5 qa cap ys (aa F R (some ⟨qa,0,none⟩) xs.length cap bl CA PA HA fu) W'→k {tmps:=T',defers:=[]} W':=fun HA hH T' hT' W' hS'=>by
  refine hk.out _ _ ?_;refine Aw w F R xs bl can pa ha fu a b pr pp cc q0 q1 q4 q5 qa cap own AT T' hT' ys Rs CA PA HA hfu W' hQ hS' (by rw[hH];exact hok) _ ?_;exact rfl
 go_wp2_with fail;refine(hkd W2).mono ?_;rintro e W3 ⟨rfl,rfl⟩;have o5:=hS2.t.cells 6;have f5:=hS2.t.frozen 6;have lt:=hS2.t.lt;have hS3:AfS w F R xs bl can pa ha fu a b pr pp cc q0 q1 q4 q5 qa cap ys (aa F R (some ⟨qa,0,none⟩) xs.length cap bl CA PA 0 fu) (W2.setCell ⟨q5,6,none⟩ (.int .i64 0)):=hS2.set5 hQ 6 (.int .i64 0);rcases z1:(ky==1)with _|_
 ·rcases z2:decide (0≤AT)with _|_
  ·have hn:¬(ky=1∨0≤AT):=by
    rintro(h|h)
    ·simp[h]at z1
    ·simp[h]at z2
   have h9:Hid (∀ T':Array Value,afT T' q0 q1 q4 q5 own AT→k {tmps:=T',defers:=[]} W2):=zhd (fun T' hT'=>h15 (ha+1) (by rw[if_neg hn]) T' hT' W2 hS2);clear h15 hn;go_wp2_with fail;refine h9.out _ ?_;exact⟨rfl,rfl,rfl,rfl,rfl,rfl,rfl⟩
  ·have h9:Hid (∀ T':Array Value,afT T' q0 q1 q4 q5 own AT→k {tmps:=T',defers:=[]} (W2.setCell ⟨q5,6,none⟩ (.int .i64 0))):=zhd (fun T' hT'=>h15 0 (by rw[if_pos (.inr (of_decide_eq_true z2))]) T' hT' _ hS3);clear h15;go_wp2_with fail;refine h9.out _ ?_;exact⟨rfl,rfl,rfl,rfl,rfl,rfl,rfl⟩
 ·have h9:Hid (∀ T':Array Value,afT T' q0 q1 q4 q5 own AT→k {tmps:=T',defers:=[]} (W2.setCell ⟨q5,6,none⟩ (.int .i64 0))):=zhd (fun T' hT'=>h15 0 (by rw[if_pos (.inl (by simpa using z1))]) T' hT' _ hS3);clear h15;go_wp2_with fail;refine h9.out _ ?_;exact⟨rfl,rfl,rfl,rfl,rfl,rfl,rfl⟩
def eL(F R:Nat)(own:Int)(fa ra rb:Nat):Int:=if kindI own=1∧((ra:Int)-rb=2∨(rb:Int)-ra=2)then numI F R fa (((ra+rb)/2:Nat):Int)else -1
theorem AV(w:World)(F R:Nat)(xs:List Int)(bl:Bool)(can:Nat)(pa ha fu:Int)(a b:Nat)(pr:Int)(pp:Option Addr)(cc q0 q1 q4 q5 qa cap:Nat)(own AT:Int)(q13 q14 fa ra fb rb:Nat)(T:Array Value)(hT:agT T q0 q1 q4 q5 own AT q13 q14)(ys:List Int)(Rs:Ending→World→Prop)(CA:Int)(hF:3≤F∧F≤8)(_:3≤R∧R≤8)(hfa:fa<8∧ra<8∧rb<8)(hha:0≤ha∧ha≤10000)(hfu:-10000≤fu∧fu≤10000)(how:-6≤own∧own≤6)
  (W:World) (hQ:AfQ w q0 q1 q4 qa q5) (hS:AfS w F R xs bl can pa ha fu a b pr pp cc q0 q1 q4 q5 qa cap ys (aa F R (some ⟨qa,0,none⟩) xs.length cap bl CA (-1) ha fu) W) (h13:ac W q13 (.cells #[.int .i64 fa,.int .i64 ra] 85 (0,0))) (h14:ac W q14 (.cells #[.int .i64 fb,.int .i64 rb] 85 (0,0)))
  (hok:∀ w',Bw w w'→aC w' qa cap ys→Rs (.returned (.agg (aa F R (some ⟨qa,0,none⟩) xs.length cap (!bl) CA (eL F R own fa ra rb) (if kindI own=1∨0≤AT then 0 else ha+1) (if bl then fu+1 else fu)).toArray)) w')
  (cd:Code) (hcd:Tryz.f116.body.map (aq 12)=some cd):cd.wp Tryz.prog (bodyPost Tryz.prog Tryz.f116 Rs) {tmps:=T,defers:=[]} W:=by
 obtain rfl:=Option.some.inj ((show Tryz.f116.body.map (aq 12)=some _ from rfl).symm.trans hcd);clear hcd;simp only[aq];obtain⟨X,rfl⟩:=hT.fr;clear hT;dsimp only[agF,litB,Nat.reduceAdd];have hkd:=fun W=>cL own ⟨by omega,by omega⟩ W
 obtain⟨md,hmd⟩:∃ n,n=(ra+rb)/2:=⟨_,rfl⟩;have hnm:=fun W=>cN F R fa (md:Int) W (by omega) (by omega) (by omega)
 have hPA:∀ PA,PA=eL F R own fa ra rb→∀ w',Bw w w'→aC w' qa cap ys→Rs (.returned (.agg (aa F R (some ⟨qa,0,none⟩) xs.length cap (!bl) CA PA (if kindI own=1∨0≤AT then 0 else ha+1) (if bl then fu+1 else fu)).toArray)) w':=fun PA h=>by rw[h];exact hok
 have hP:eL F R own fa ra rb=if kindI own=1∧((ra:Int)-rb=2∨(rb:Int)-ra=2)then numI F R fa (md:Int)else -1:=by rw[hmd];rfl
 rw[hP]at hPA;obtain⟨ky,hky⟩:∃ k,k=kindI own:=⟨_,rfl⟩;rw[←hky]at hkd;obtain⟨N,hN⟩:∃ n,n=numI F R fa (md:Int):=⟨_,rfl⟩;rw[←hN]at hPA hnm;obtain⟨d1,hd1⟩:∃ d:Int,d=(ra:Int)-rb:=⟨_,rfl⟩;obtain⟨d2,hd2⟩:∃ d:Int,d=(rb:Int)-ra:=⟨_,rfl⟩;have hPA:∀ PA,PA=(if ky=1∧(d1=2∨d2=2)then N else -1)→∀ w',Bw w w'→aC w' qa cap ys→Rs (.returned (.agg (aa F R (some ⟨qa,0,none⟩) xs.length cap (!bl) CA PA (if kindI own=1∨0≤AT then 0 else ha+1) (if bl then fu+1 else fu)).toArray)) w':=fun PA h=>hPA PA (by rw[h,hky,hd1,hd2])
 clear hok hP;have hw1:IntKind.i64.wrap ((ra:Int)-rb)=d1:=by rw[hd1];exact IntWalk.i64_in _ (by omega)
 have hw2:IntKind.i64.wrap ((rb:Int)-ra)=d2:=by rw[hd2];exact IntWalk.i64_in _ (by omega)
 obtain⟨sm,hsm⟩:∃ n,n=ra+rb:=⟨_,rfl⟩;have hw3:IntKind.i64.wrap ((ra:Int)+rb)=(sm:Int):=by rw[hsm,Int.natCast_add];exact IntWalk.i64_in _ (by omega)
 have hw4:(sm:Int).tdiv 2=(md:Int):=by rw[hmd,←hsm];rfl
 have hw5:IntKind.i64.wrap (md:Int)=md:=IntWalk.i64_in _ (by omega);clear hN hd1 hd2 hmd hky hsm;have p0:∀ j,W.cell? ⟨q0,j,none⟩=(aa F R pp xs.length cc bl can pa ha fu).toArray[j]?:=hS.p.cells;have l0:=hS.p.lt;have⟨c13,l13⟩:=h13.cl;have⟨c14,l14⟩:=h14.cl;have o5:=hS.t.cells 5;have f5:=hS.t.frozen 5;have lt:=hS.t.lt;go_upto_region 24 with fail;rename_i k hk k2 hk2;replace hk:=zhd hk;have h13':∀(PA:Int),PA=(if ky=1∧(d1=2∨d2=2)then N else -1)→∀(T':Array Value),afT T' q0 q1 q4 q5 own AT→∀ W',AfS w F R xs bl can pa ha fu a b pr pp cc q0 q1 q4 q5 qa cap ys (aa F R (some ⟨qa,0,none⟩) xs.length cap bl CA PA ha fu) W'→k {tmps:=T',defers:=[]} W':=fun PA hH T' hT' W' hS'=>by
  refine hk.out _ _ ?_;refine AZ w F R xs bl can pa ha fu a b pr pp cc q0 q1 q4 q5 qa cap own AT T' hT' ys Rs CA PA hha hfu how W' hQ hS' (hPA PA hH) _ ?_;exact rfl
 clear hPA;go_wp2_with fail;refine(hkd W).mono ?_;rintro e W3 ⟨rfl,rfl⟩;rcases z1:(ky==1)with _|_
 ·have h9:Hid (∀ T':Array Value,afT T' q0 q1 q4 q5 own AT→k {tmps:=T',defers:=[]} W):=zhd (fun T' hT'=>h13' (-1) (by rw[if_neg (fun h=>by simp[h.1]at z1)]) T' hT' W hS);clear h13' hw1 hw2 hw3 hw4 hw5 hnm;go_wp2_with fail;refine h9.out _ ?_;exact⟨rfl,rfl,rfl,rfl,rfl,rfl,rfl⟩
 ·by_cases z2:d1=2∨d2=2
  ·have h9:Hid (∀ T':Array Value,afT T' q0 q1 q4 q5 own AT→∀ W',AfS w F R xs bl can pa ha fu a b pr pp cc q0 q1 q4 q5 qa cap ys (aa F R (some ⟨qa,0,none⟩) xs.length cap bl CA N ha fu) W'→k {tmps:=T',defers:=[]} W'):=zhd (fun T' hT' W' h'=>h13' N (by rw[if_pos ⟨by simpa using z1,z2⟩]) T' hT' W' h');have z3:((d1==2)=true)∨((d1==2)=false∧(d2==2)=true):=by
    rcases z2 with h|h
    ·left;simpa using h
    ·rcases h1:(d1==2)with _|_
     ·right;exact⟨rfl,by simpa using h⟩
     ·left;rfl
   clear h13' z2;rcases z3 with z3|⟨z3,z4⟩
   all_goals
    go_wp2_with fail;refine(hnm W).mono ?_;rintro e W4 ⟨rfl,hb4⟩;have hS4:=hS.call hb4;have hS5:AfS w F R xs bl can pa ha fu a b pr pp cc q0 q1 q4 q5 qa cap ys (aa F R (some ⟨qa,0,none⟩) xs.length cap bl CA N ha fu) (W4.setCell ⟨q5,5,none⟩ (.int .i64 N)):=hS4.set5 hQ 5 (.int .i64 N);clear p0 l0 c13 l13 c14 l14 o5 f5 lt hw1 hw2 hw3 hw4 hw5;have o5:=hS4.t.cells 5;have f5:=hS4.t.frozen 5;have lt:=hS4.t.lt;go_wp2_with fail;refine h9.out _ ?_ _ hS5;exact⟨rfl,rfl,rfl,rfl,rfl,rfl,rfl⟩
  ·have h9:Hid (∀ T':Array Value,afT T' q0 q1 q4 q5 own AT→k {tmps:=T',defers:=[]} W):=zhd (fun T' hT'=>h13' (-1) (by rw[if_neg (fun h=>z2 h.2)]) T' hT' W hS);have z3:(d1==2)=false:=by simp only[beq_eq_false_iff_ne,ne_eq];exact fun h=>z2 (.inl h)
   have z4:(d2==2)=false:=by simp only[beq_eq_false_iff_ne,ne_eq];exact fun h=>z2 (.inr h)
   clear h13' z2 hw3 hw4 hw5 hnm;go_wp2_with fail;refine h9.out _ ?_;exact⟨rfl,rfl,rfl,rfl,rfl,rfl,rfl⟩
def bxV(n0:Nat)(cs zs:Array Value)(t:TypeId)(w:World):Bool→Bool→Value→Prop
 | _,true,u=>∃ q,u=.pointer (some ⟨q,0,none⟩)∧n0≤q∧ac w q (.cells cs t (0,0))
 | true,false,u=>∃ q,u=.pointer (some ⟨q,0,none⟩)∧n0≤q∧ac w q (.cells zs t (0,0))
 | false,false,_=>True
section
variable {n0:Nat} {cs zs:Array Value} {t:TypeId} {w w':World} {a b:Bool} {u:Value}
theorem bxV.call(h:bxV n0 cs zs t w a b u)(hb:Bw w w'):bxV n0 cs zs t w' a b u:=by
 rcases b with _|_
 ·rcases a with _|_
  ·trivial
  ·obtain⟨q,e1,e2,e3⟩:=h;exact⟨q,e1,e2,e3.call hb⟩
 ·obtain⟨q,e1,e2,e3⟩:=h;exact⟨q,e1,e2,e3.call hb⟩
theorem bxV.far{q:Nat}(h:bxV n0 cs zs t w a b u)(ds:Array Value)(hq:a=true→u≠.pointer (some ⟨q,0,none⟩))(hab:b=true→a=true):bxV n0 cs zs t (w.setRow q ds) a b u:=by
 rcases b with _|_
 ·rcases a with _|_
  ·trivial
  ·obtain⟨q',e1,e2,e3⟩:=h;exact⟨q',e1,e2,e3.setRow_far (fun e=>hq rfl (by rw[e1,e]))⟩
 ·obtain⟨q',e1,e2,e3⟩:=h;exact⟨q',e1,e2,e3.setRow_far (fun e=>hq (hab rfl) (by rw[e1,e]))⟩
theorem bxV.made(h:bxV n0 cs zs t w a b u)(hab:a=true∨b=true):∃ q,u=.pointer (some ⟨q,0,none⟩)∧q<w.heap.size:=by
 rcases b with _|_
 ·rcases a with _|_
  ·simp at hab
  ·obtain⟨q',e1,e2,e3⟩:=h;exact⟨q',e1,e3.lt⟩
 ·obtain⟨q',e1,e2,e3⟩:=h;exact⟨q',e1,e3.lt⟩
end
abbrev ptA(F a:Nat):Array Value:=#[.int .i64 (a%F:Nat),.int .i64 (a/F:Nat)]
abbrev ptZ:Array Value:=#[.int .i64 0,.int .i64 0]
theorem yD(W:World):(Instr.alloc 85 true (.tuple #[])).run Tryz.prog W=.ok (.pointer (some ⟨W.heap.size,0,none⟩)) (W.alloc (.cells ptZ 85)):=by kernel_rfl
def rR(q0 q1 F R a b:Nat):Nat→Value
 | 0=>.pointer (some ⟨q0,0,none⟩)|1=>.agg #[.int .i64 F,.int .i64 R] | 2=>.pointer (some ⟨q1,0,none⟩)|3=>.int .i64 a|4=>.agg (ptA F a)
 | 5=>.pointer (some ⟨q0,0,none⟩)|6=>.agg #[.int .i64 F,.int .i64 R] | 7=>.pointer (some ⟨q1,1,none⟩)|8=>.int .i64 b|9=>.agg (ptA F b)|_=>undef
def R23(W:World)(pv:Nat→Value)(x y:Array Value)(S:Nat→Bool)(f:Nat→Value)(w:World):Prop :=
 (∀ i,i<10→S i=true→f i=pv i)∧Bw W w∧bxV W.heap.size x ptZ 85 w (S 10) (S 12) (f 10)∧bxV W.heap.size y ptZ 85 w (S 11) (S 13) (f 11)∧(S 10=true→S 11=true→f 10≠f 11)
theorem zQ(W:World)(F R:Nat)(xs:List Int)(bl:Bool)(can:Nat)(pa ha fu:Int)(a b:Nat)(pr:Int)(pp:Option Addr)(cc q0 q1:Nat)(hF:3≤F∧F≤8)(hla:a<1000)(hlb:b<1000)(hP:ac W q0 (.cells (aa F R pp xs.length cc bl can pa ha fu).toArray 26 (0,0)))(hM:ac W q1 (.cells #[.int .i64 a,.int .i64 b,.int .i8 pr] 40 (0,0)))
  (A:Act) (Q:Exit→Act→World→Prop) (ha2:A.tmps.getD 2 undef=.pointer (some ⟨q0,0,none⟩)) (ha3:A.tmps.getD 3 undef=.pointer (some ⟨q1,0,none⟩)) (hsz:199≤A.tmps.size)
  (hok:∀ f w' k1 k2,f 10=.pointer (some ⟨k1,0,none⟩)→f 11=.pointer (some ⟨k2,0,none⟩)→ac w' k1 (.cells (ptA F a) 85 (0,0))→ac w' k2 (.cells (ptA F b) 85 (0,0))→Bw W w'→Q .normal (ao [some 135,some 136,some 137,some 138,some 139,some 140,some 141,some 142,some 143,some 144,some 13,some 14,none,none] f 0 A) w')
  (cd:Code) (hcd:Tryz.f116.body.bind (dh 23)=some cd):cd.wp Tryz.prog Q A W:=by
 obtain rfl:=Option.some.inj ((show Tryz.f116.body.bind (dh 23)=some _ from rfl).symm.trans hcd);clear hcd;refine bE (by kernel_rfl) (by kernel_rfl) [some 135,some 136,some 137,some 138,some 139,some 140,some 141,some 142,some 143,some 144,some 13,some 14,none,none] (by rfl) (by rfl) (R23 W (rR q0 q1 F R a b) (ptA F a) (ptA F b)) ?hcong ?h0 ?hstep ?hend
 case hcong =>
  rintro S S' f wv hSS ⟨h1,h2,h3,h4,h5⟩;refine⟨fun i hi h=>h1 i hi (by rw[hSS i (Nat.lt_of_lt_of_le hi (by decide))];exact h),h2,?_,?_,?_⟩
  ·rw[←hSS 10 (by decide),←hSS 12 (by decide)];exact h3
  ·rw[←hSS 11 (by decide),←hSS 13 (by decide)];exact h4
  ·rw[←hSS 10 (by decide),←hSS 11 (by decide)];exact h5
 case h0=>exact fun f=>⟨fun i _ h=>(by cases h),(Below.refl _ _).drew,trivial,trivial,fun h=>by cases h⟩
 case hstep =>
  rintro S i o f wv ho hi hSi hpre hcl ⟨hf,hB,hX,hY,hne⟩ K hK;have hi:i<14:=hi;have keep:∀ u w',i<10→u=rR q0 q1 F R a b i→Bw wv w'→R23 W (rR q0 q1 F R a b) (ptA F a) (ptA F b) (upd S i) (fun j=>if j=i then u else f j) w':=by
   intro u w' h9 hu hb;refine⟨fun j hj hSj=>?_,zbc hB hb,?_,?_,?_⟩
   ·by_cases e:j=i
    ·subst e;simpa using hu
    ·simp only[e,if_false];exact hf j hj (by simpa[upd,e]using hSj)
   ·simp only[upd,show ¬10=i by omega,show ¬12=i by omega,if_false];exact hX.call hb
   ·simp only[upd,show ¬11=i by omega,show ¬13=i by omega,if_false];exact hY.call hb
   ·simp only[upd,show ¬10=i by omega,show ¬11=i by omega,if_false];exact hne
  have hv:∀ j,o.after.toList.any (fun e=>Region.binds .any e&&(e.on==j))=true→j<10→f j=rR q0 q1 F R a b j:=fun j hj h9=>by
   rw[List.any_eq_true]at hj;obtain⟨e,he,h⟩:=hj;simp only[Bool.and_eq_true,beq_iff_eq]at h;have:=hpre e (by simpa using he) h.1;rw[h.2]at this;exact hf j h9 this
  have hR0:=Below.refl wv.heap.size wv;rcases(by omega:i=0∨i=1∨i=2∨i=3∨i=4∨i=5∨i=6∨i=7∨i=8∨i=9∨i=10∨i=11∨i=12∨i=13)with rfl|rfl|rfl|rfl|rfl|rfl|rfl|rfl|rfl|rfl|rfl|rfl|rfl|rfl
  ·exact au (og ho) 26 (.tmp 2) 0 (oo ho) (ah rfl ha2) (n:=0) (by kernel_rfl) (hK _ wv (keep _ _ (by decide) rfl hR0))
  ·exact ay (og ho) 23 (.tmp 135) (oo ho) (aB rfl 0 rfl (Nat.lt_of_lt_of_le (by decide) hsz) (hv 0 (ov ho) (by decide))) [.int .i64 (F:Int),.int .i64 (R:Int)] (by kernel_rfl) (fun j v hv=>by rw[Nat.zero_add,(hP.call hB).cells j];rcases(by have:=(List.getElem?_eq_some_iff.1 hv).1;simp at this;omega:j=0∨j=1)with rfl|rfl<;>exact hv) (hK _ wv (keep _ _ (by decide) rfl hR0))
  ·exact au (og ho) 40 (.tmp 3) 0 (oo ho) (ah rfl ha3) (n:=0) (by kernel_rfl) (hK _ wv (keep _ _ (by decide) rfl hR0))
  ·exact ap (og ho) 3 (.tmp 137) (oo ho) (aB rfl 2 rfl (Nat.lt_of_lt_of_le (by decide) hsz) (hv 2 (ov ho) (by decide))) (by kernel_rfl) ((hM.call hB).cells 0) (hK _ wv (keep _ _ (by decide) rfl hR0))
  ·exact aH (og ho) 40 (.tmp 136) (.tmp 138) #[23,3] (oo ho) (aB rfl 1 rfl (Nat.lt_of_lt_of_le (by decide) hsz) (hv 1 (ov ho) (by decide))) (aB rfl 3 rfl (Nat.lt_of_lt_of_le (by decide) hsz) (hv 3 (ov ho) (by decide))) (fun _ _=>rfl) (aO F R a hF hla wv) (by rintro u w9 ⟨h9,hb9⟩;injection h9 with h9;subst h9;exact hK _ w9 (keep _ _ (by decide) rfl hb9)) (by rintro ch w9 ⟨h9,_⟩;cases h9) (by rintro w9 ⟨h9,_⟩;cases h9)
  ·exact au (og ho) 26 (.tmp 2) 0 (oo ho) (ah rfl ha2) (n:=0) (by kernel_rfl) (hK _ wv (keep _ _ (by decide) rfl hR0))
  ·exact ay (og ho) 23 (.tmp 140) (oo ho) (aB rfl 5 rfl (Nat.lt_of_lt_of_le (by decide) hsz) (hv 5 (ov ho) (by decide))) [.int .i64 (F:Int),.int .i64 (R:Int)] (by kernel_rfl) (fun j v hv=>by rw[Nat.zero_add,(hP.call hB).cells j];rcases(by have:=(List.getElem?_eq_some_iff.1 hv).1;simp at this;omega:j=0∨j=1)with rfl|rfl<;>exact hv) (hK _ wv (keep _ _ (by decide) rfl hR0))
  ·exact au (og ho) 40 (.tmp 3) 1 (oo ho) (ah rfl ha3) (n:=1) (by kernel_rfl) (hK _ wv (keep _ _ (by decide) rfl hR0))
  ·exact ap (og ho) 3 (.tmp 142) (oo ho) (aB rfl 7 rfl (Nat.lt_of_lt_of_le (by decide) hsz) (hv 7 (ov ho) (by decide))) (by kernel_rfl) ((hM.call hB).cells 1) (hK _ wv (keep _ _ (by decide) rfl hR0))
  ·exact aH (og ho) 40 (.tmp 141) (.tmp 143) #[23,3] (oo ho) (aB rfl 6 rfl (Nat.lt_of_lt_of_le (by decide) hsz) (hv 6 (ov ho) (by decide))) (aB rfl 8 rfl (Nat.lt_of_lt_of_le (by decide) hsz) (hv 8 (ov ho) (by decide))) (fun _ _=>rfl) (aO F R b hF hlb wv) (by rintro u w9 ⟨h9,hb9⟩;injection h9 with h9;subst h9;exact hK _ w9 (keep _ _ (by decide) rfl hb9)) (by rintro ch w9 ⟨h9,_⟩;cases h9) (by rintro w9 ⟨h9,_⟩;cases h9)
  ·have hst:S 12=false:=by
    rcases hs:S 12 with _|_
    ·rfl
    ·have h4:=hcl 12 _ hs rfl ⟨10,.data⟩ (by simp) rfl;rw[hSi]at h4;cases h4
   have hlt:=hY.made;refine bV (og ho) 85 (oo ho) (yD wv) (hK _ _ ⟨fun j hj h3=>by show(if j=10 then _ else f j)=_;rw[if_neg (by omega)];exact hf j hj (by simpa[upd,show ¬j=10 by omega]using h3),hB.alloc hB.size _,?_,?_,?_⟩)
   ·rw[show upd S 10 10=true by simp[upd],show upd S 10 12=false by simp[upd,hst]];exact⟨_,rfl,hB.size,ac.new wv (.cells ptZ 85)⟩
   ·rw[show upd S 10 11=S 11 by simp[upd],show upd S 10 13=S 13 by simp[upd]];exact hY.call (ae wv _)
   ·intro _ h17;have h17:S 11=true:=by simpa[upd]using h17
    obtain⟨q,e1,e2⟩:=hlt (.inl h17);show Value.pointer (some ⟨wv.heap.size,0,none⟩)≠f 11;rw[e1];simp<;>omega
  ·have hst:S 13=false:=by
    rcases hs:S 13 with _|_
    ·rfl
    ·have h4:=hcl 13 _ hs rfl ⟨11,.data⟩ (by simp) rfl;rw[hSi]at h4;cases h4
   have hlt:=hX.made;refine bV (og ho) 85 (oo ho) (yD wv) (hK _ _ ⟨fun j hj h3=>by show(if j=11 then _ else f j)=_;rw[if_neg (by omega)];exact hf j hj (by simpa[upd,show ¬j=11 by omega]using h3),hB.alloc hB.size _,?_,?_,?_⟩)
   ·rw[show upd S 11 10=S 10 by simp[upd],show upd S 11 12=S 12 by simp[upd]];exact hX.call (ae wv _)
   ·rw[show upd S 11 11=true by simp[upd],show upd S 11 13=false by simp[upd,hst]];exact⟨_,rfl,hB.size,ac.new wv (.cells ptZ 85)⟩
   ·intro h17 _;have h17:S 10=true:=by simpa[upd]using h17
    obtain⟨q,e1,e2⟩:=hlt (.inl h17);show f 10≠Value.pointer (some ⟨wv.heap.size,0,none⟩);rw[e1];simp<;>omega
  ·have hm:S 10=true:=hpre ⟨10,.data⟩ (oa ho) rfl;have h':=hX;rw[hm,hSi]at h';obtain⟨q,e1,e2,e3⟩:=h';refine bI (og ho) 85 (.tmp 13) (.tmp 139) (oo ho) (aB rfl 10 rfl (Nat.lt_of_lt_of_le (by decide) hsz) e1) (ptA F a) ptZ 85 (aB rfl 4 rfl (Nat.lt_of_lt_of_le (by decide) hsz) (hv 4 (ov ho) (by decide))) e3 (by kernel_rfl) rfl (by simp[Value.oneCell']) (hK _ _ ⟨fun j hj h3=>by show(if j=12 then _ else f j)=_;rw[if_neg (by omega)];exact hf j hj (by simpa[upd,show ¬j=12 by omega]using h3),aj hB e2 hB.size,?_,?_,?_⟩)
   ·rw[show upd S 12 10=true by simp[upd,hm],show upd S 12 12=true by simp[upd]];exact⟨q,e1,e2,ak e3⟩
   ·rw[show upd S 12 11=S 11 by simp[upd],show upd S 12 13=S 13 by simp[upd]];exact hY.far _ (fun hh e=>(hne hm hh) (by rw[e1];exact e.symm)) (fun hh=>by
     have h4:=hcl 13 _ hh rfl ⟨11,.data⟩ (by simp) rfl;exact h4)
   ·intro h10 h11;show f 10≠f 11;exact hne (by simpa[upd]using h10) (by simpa[upd]using h11)
  ·have hm:S 11=true:=hpre ⟨11,.data⟩ (oa ho) rfl;have h':=hY;rw[hm,hSi]at h';obtain⟨q,e1,e2,e3⟩:=h';refine bI (og ho) 85 (.tmp 14) (.tmp 144) (oo ho) (aB rfl 11 rfl (Nat.lt_of_lt_of_le (by decide) hsz) e1) (ptA F b) ptZ 85 (aB rfl 9 rfl (Nat.lt_of_lt_of_le (by decide) hsz) (hv 9 (ov ho) (by decide))) e3 (by kernel_rfl) rfl (by simp[Value.oneCell']) (hK _ _ ⟨fun j hj h3=>by show(if j=13 then _ else f j)=_;rw[if_neg (by omega)];exact hf j hj (by simpa[upd,show ¬j=13 by omega]using h3),aj hB e2 hB.size,?_,?_,?_⟩)
   ·rw[show upd S 13 10=S 10 by simp[upd],show upd S 13 12=S 12 by simp[upd]];exact hX.far _ (fun hh e=>(hne hh hm) (by rw[e1];exact e)) (fun hh=>by
     have h4:=hcl 12 _ hh rfl ⟨10,.data⟩ (by simp) rfl;exact h4)
   ·rw[show upd S 13 11=true by simp[upd,hm],show upd S 13 13=true by simp[upd]];exact⟨q,e1,e2,ak e3⟩
   ·intro h10 h11;show f 10≠f 11;exact hne (by simpa[upd]using h10) (by simpa[upd]using h11)
 case hend=>rintro S f wv hSS ⟨hf,hB,hX,hY,hne⟩;rw[hSS 10 (by decide),hSS 12 (by decide)]at hX;rw[hSS 11 (by decide),hSS 13 (by decide)]at hY;obtain⟨k1,h1,h2,h3⟩:=hX;obtain⟨k2,g1,g2,g3⟩:=hY;exact hok f wv k1 k2 h1 g1 h3 g3 hB
theorem AX(w:World)(F R:Nat)(xs:List Int)(bl:Bool)(can:Nat)(pa ha fu:Int)(a b:Nat)(pr:Int)(pp:Option Addr)(cc q0 q1 q4 q5 qa cap:Nat)(own AT:Int)(T:Array Value)(hT:afT T q0 q1 q4 q5 own AT)(ys:List Int)(Rs:Ending→World→Prop)(CA:Int)(hF:3≤F∧F≤8)(hR:3≤R∧R≤8)(hal:a<F*R)(hbl:b<F*R)(hha:0≤ha∧ha≤10000)(hfu:-10000≤fu∧fu≤10000)(how:-6≤own∧own≤6)
  (W:World) (hQ:AfQ w q0 q1 q4 qa q5) (hS:AfS w F R xs bl can pa ha fu a b pr pp cc q0 q1 q4 q5 qa cap ys (aa F R (some ⟨qa,0,none⟩) xs.length cap bl CA pa ha fu) W)
  (hok:∀ w',Bw w w'→aC w' qa cap ys→Rs (.returned (.agg (aa F R (some ⟨qa,0,none⟩) xs.length cap (!bl) CA (eL F R own (a%F) (a/F) (b/F)) (if kindI own=1∨0≤AT then 0 else ha+1) (if bl then fu+1 else fu)).toArray)) w')
  (cd:Code) (hcd:Tryz.f116.body.map (aq 10)=some cd):cd.wp Tryz.prog (bodyPost Tryz.prog Tryz.f116 Rs) {tmps:=T,defers:=[]} W:=by
 obtain rfl:=Option.some.inj ((show Tryz.f116.body.map (aq 10)=some _ from rfl).symm.trans hcd);clear hcd;simp only[aq];obtain⟨X,rfl⟩:=hT.fr;clear hT;dsimp only[afF,litB,Nat.reduceAdd];obtain⟨ha64,ha0,ha1⟩:=bU hF hR hal;obtain⟨hb64,hb0,hb1⟩:=bU hF hR hbl;have o5:=hS.t.cells 5;have f5:=hS.t.frozen 5;have lt:=hS.t.lt;go_upto_region 23 with fail;rename_i k hk;replace hk:=zhd hk;have hS2:AfS w F R xs bl can pa ha fu a b pr pp cc q0 q1 q4 q5 qa cap ys (aa F R (some ⟨qa,0,none⟩) xs.length cap bl CA (-1) ha fu) (W.setCell ⟨q5,5,none⟩ (.int .i64 (-1))):=hS.set5 hQ 5 (.int .i64 (-1));generalize W.setCell ⟨q5,5,none⟩ (.int .i64 (-1))=W2 at *;clear o5 f5 lt hS;refine zQ W2 F R xs bl can pa ha fu a b pr pp cc q0 q1 hF (by omega) (by omega) hS2.p hS2.m _ _ rfl rfl (by simp) ?_ _ rfl;intro f w3 k1 k2 e10 e11 h13 h14 hb3;have hS3:=hS2.call hb3;simp only[ao,e10,e11];go_simp;refine hk.out _ _ ?_;refine AV w F R xs bl can pa ha fu a b pr pp cc q0 q1 q4 q5 qa cap own AT k1 k2 (a%F) (a/F) (b%F) (b/F) _ ?_ ys Rs CA hF hR ⟨by omega,by omega,by omega⟩ hha hfu how w3 hQ hS3 h13 h14 hok _ ?_
 ·exact⟨rfl,rfl,rfl,rfl,rfl,rfl,rfl,rfl,rfl⟩
 ·exact rfl
section ops
variable {P:Program} {o:Oper} {a:Act} {w:World} {K:Act→World→Prop} {Q:Exit→Act→World→Prop} {t:Nat→Option Bool} {X:Prop}
theorem eY(hg:o.guard=none)(ty:TypeId)(x y:Operand)(ho:o.op=.buildSlice ty 2 #[(0,x),(1,y)]){v1 v2 u:Value}{w':World}(h1:a.eval x=v1)(h2:a.eval y=v2)(hr:(Instr.buildSlice ty 2 #[(0,v1),(1,v2)]).run P w=.ok u w')(h:K (a.put o.dst u) w'):if Region.wanted o t=true then o.wp P a w K Q else X:=by refine bm hg ?_;unfold Oper.wp execOp;simp only[ho,List.map_toArray,List.map_cons,List.map_nil,h1,h2,Sem.run_bind,hr,Result.andThen_ok,Sem.run_pure];exact h
end ops
theorem rf(x y:Int)(W:World):(Instr.buildSlice 136 2 #[(0,.int .i64 x),(1,.int .i64 y)]).run Tryz.prog W=.ok (.slice (some ⟨W.heap.size,0,none⟩) 2 2) (W.alloc (.cells #[.int .i64 x,.int .i64 y] 3)):=by kernel_rfl
theorem z8(x y:Int)(W:World):bP [x,y] (.slice (some ⟨W.heap.size,0,none⟩) 2 2) (W.alloc (.cells #[.int .i64 x,.int .i64 y] 3)):=by
 refine⟨_,_,rfl,.inr ⟨_,_,rfl,by simp,fun j hj=>?_⟩⟩;rw[Nat.zero_add,(ac.new W (.cells #[.int .i64 x,.int .i64 y] 3)).cells j];match j,hj with
 | 0,_=>rfl
 | 1,_=>rfl
 | j+2,hj=>exact absurd hj (by simp)
def caK(can a b:Nat):Nat→Nat
 | 0=>can
 | k+1=>match az[k]? with
  | some c=>if((caK can a b k/c.bit%2==1)&&(elI [(c.fr:Int),c.co] a||elI [(c.fr:Int),c.co] b))=true then caK can a b k-c.bit else caK can a b k
  | none=>caK can a b k
theorem zj(can a b:Nat):∀ k,caK can a b k≤can:=by
 intro k;induction k with
 | zero=>exact Nat.le_refl _
 | succ k ih =>
  simp only[caK];split
  ·split<;>omega
  ·exact ih
theorem af9(w:World)(F R:Nat)(xs:List Int)(bl:Bool)(can:Nat)(pa ha fu:Int)(a b:Nat)(pr:Int)(pp:Option Addr)(cc q0 q1 q4 q5 qa cap:Nat)(own AT:Int)(T:Array Value)(hT:afT T q0 q1 q4 q5 own AT)(ys:List Int)(Rs:Ending→World→Prop)(hF:3≤F∧F≤8)(hR:3≤R∧R≤8)(hal:a<F*R)(hbl:b<F*R)(hca:can<256)(hha:0≤ha∧ha≤10000)(hfu:-10000≤fu∧fu≤10000)(how:-6≤own∧own≤6)
  (W:World) (hQ:AfQ w q0 q1 q4 qa q5) (hS:AfS w F R xs bl can pa ha fu a b pr pp cc q0 q1 q4 q5 qa cap ys (aa F R (some ⟨qa,0,none⟩) xs.length cap bl can pa ha fu) W)
  (hok:∀ w',Bw w w'→aC w' qa cap ys→Rs (.returned (.agg (aa F R (some ⟨qa,0,none⟩) xs.length cap (!bl) (caK can a b 4:Nat) (eL F R own (a%F) (a/F) (b/F)) (if kindI own=1∨0≤AT then 0 else ha+1) (if bl then fu+1 else fu)).toArray)) w')
  (cd:Code) (hcd:Tryz.f116.body.map (aq 9)=some cd):cd.wp Tryz.prog (bodyPost Tryz.prog Tryz.f116 Rs) {tmps:=T,defers:=[]} W:=by
 obtain rfl:=Option.some.inj ((show Tryz.f116.body.map (aq 9)=some _ from rfl).symm.trans hcd);clear hcd;simp only[aq];obtain⟨X,rfl⟩:=hT.fr;clear hT;dsimp only[afF,litB,Nat.reduceAdd];have hN:=ac.new W (.cells #[.int .u8 1,.int .u8 2,.int .u8 4,.int .u8 8] 5);have hb2:=ae W (.cells #[.int .u8 1,.int .u8 2,.int .u8 4,.int .u8 8] 5);have hS2:=hS.call hb2;have hS2q:=hS.t.lt;obtain⟨qn,hqn⟩:∃ q,q=W.heap.size:=⟨_,rfl⟩;rw[←hqn]at hS2q;go_upto_region 15 with fail;rename_i k hk k2 hk2;replace hk:=zhd hk;have hcle:=zj can a b;have hcs:∀ k,caK can a b (k+1)=match az[k]? with
  | some c=>if((caK can a b k/c.bit%2==1)&&(elI [(c.fr:Int),c.co] a||elI [(c.fr:Int),c.co] b))=true then caK can a b k-c.bit else caK can a b k
  | none=>caK can a b k:=fun _=>rfl
 have hk10:∀(T':Array Value),afT T' q0 q1 q4 q5 own AT→∀ W',AfS w F R xs bl can pa ha fu a b pr pp cc q0 q1 q4 q5 qa cap ys (aa F R (some ⟨qa,0,none⟩) xs.length cap bl (caK can a b 4:Nat) pa ha fu) W'→k {tmps:=T',defers:=[]} W':=fun T' hT' W' hS'=>by
  refine hk.out _ _ ?_;refine AX w F R xs bl can pa ha fu a b pr pp cc q0 q1 q4 q5 qa cap own AT T' hT' ys Rs _ hF hR hal hbl hha hfu how W' hQ hS' hok _ ?_;exact rfl
 replace hk10:=zhd hk10;have hca0:caK can a b 0=can:=rfl;generalize hG:caK can a b=G at *;clear hG hok;go_wp2_with fail;change Code.wp _ _ _ _ (W.alloc (.cells #[.int .u8 1,.int .u8 2,.int .u8 4,.int .u8 8] 5));generalize W.alloc (.cells #[.int .u8 1,.int .u8 2,.int .u8 4,.int .u8 8] 5)=W2 at *;rw[←hqn]at hN ⊢;replace hqn:=zhd hqn;clear hS;have hqn5:qn≠q5:=by have:=hqn.out;have:=hS2q;omega
 clear hqn;go_loopg [88] 5 (fun q iv wr=>∃ i:Nat,q+i=5∧i≤4∧iv=.int .i64 i∧Bw W2 W2∧ac wr qn (.cells #[.int .u8 1,.int .u8 2,.int .u8 4,.int .u8 8] 5 (0,0))∧AfS w F R xs bl can pa ha fu a b pr pp cc q0 q1 q4 q5 qa cap ys (aa F R (some ⟨qa,0,none⟩) xs.length cap bl (G i:Nat) pa ha fu) wr)
 case atStart=>exact⟨0,rfl,Nat.zero_le _,rfl,Below.refl _ _,hN,by rw[hca0];exact hS2⟩
 case round =>
  obtain⟨i,hq,hi,rfl,_,hNr,hSr⟩:=hrel;by_cases hlt:i<4
  rotate_left
  ·obtain rfl:i=4:=by omega
   have hn4:¬((4:Nat):Int)<4:=by omega
   go_wp2_with fail;refine hk10.out _ ?_ _ hSr;exact⟨rfl,rfl,rfl,rfl,rfl,rfl,rfl⟩
  ·have hii:(i:Int)<4:=by omega
   have hcl:i<az.length:=hlt;obtain⟨c,hc⟩:∃ c,c=az[i]:=⟨_,rfl⟩;have hcm:c∈az:=by rw[hc];exact List.getElem_mem _
   have hnx:=hcs i;rw[List.getElem?_eq_getElem hcl,←hc]at hnx;simp only at hnx;have hbit:wr.cell? ⟨qn,i,none⟩=some (.int .u8 c.bit):=by rw[hNr.cells i,hc];exact td i hcl
   have hcv:=hcle i;obtain⟨hb1,hb8,_,hf64,_,hk64,_,_,_⟩:=gt hcm;have hrow:=fun W=>fE c hcm W
   generalize hcvE:G i=cv at *;obtain⟨nq,hnq⟩:∃ n,n=cv/c.bit:=⟨_,rfl⟩;obtain⟨nr,hnr⟩:∃ n,n=nq%2:=⟨_,rfl⟩;have hnq2:nq≤cv:=by rw[hnq];exact Nat.div_le_self _ _
   rw[←hnq,←hnr]at hnx;have hge:nr=1→c.bit≤cv:=fun h=>by
    rcases Nat.lt_or_ge cv c.bit with h2|h2
    ·rw[Nat.div_eq_of_lt h2]at hnq;omega
    ·exact h2
   have htd:(cv:Int).tdiv (c.bit:Int)=(nq:Int):=by rw[hnq];rfl
   have htm:(nq:Int).tmod 2=(nr:Int):=by rw[hnr];rfl
   have hw1:IntKind.u8.wrap (nq:Int)=nq:=by unfold IntKind.wrap;simp only[IntKind.signed,IntKind.bits];simp;omega
   have hbz:¬(c.bit:Int)=0:=by omega
   have hnqE:=zhd hnq.symm;have hnrE:=zhd hnr.symm;have hzz:((nr==1):Bool)=((nr:Int)==1):=by
    by_cases h:nr=1
    ·subst h;rfl
    ·have h2:(nr:Int)≠1:=by omega
     rw[beq_eq_false_iff_ne.2 h,beq_eq_false_iff_ne.2 h2]
   rw[hzz]at hnx;clear hnq hnr hc hcs hcle hcvE hzz hS2 hN;obtain⟨L,hL⟩:∃ L:List Int,L=[(c.fr:Int),c.co]:=⟨_,rfl⟩;rw[←hL]at hnx;have hhA:=fun q d W h=>fh q d L (a:Int) W h (by rw[hL];simp)
   have hhB:=fun q d W h=>fh q d L (b:Int) W h (by rw[hL];simp)
   have hmk:=fun W=>z8 (c.fr:Int) (c.co:Int) W
   rw[←hL]at hmk;have hLl:L.length=2:=by rw[hL];rfl
   generalize elI L (a:Int)=B1 at *;generalize elI L (b:Int)=B2 at *;clear hL;go_wp2_with fail;refine(hrow wr).mono ?_;rintro e w3 ⟨gs,rfl,hb3,hG3⟩;have hS3:=hSr.call hb3;have hN3:=hNr.call hb3;clear hSr hNr hbit hrow;go_upto_region 19 with fail;rcases z0:((nr:Int)==1)with _|_
   ·have hnx2:G (i+1)=cv:=by rw[hnx,z0];rfl
    have m1:=am hS3.t;refine ag (by kernel_rfl) (by kernel_rfl) ?_;repeat(go_big_quiet_step (fail))
    refine wpQuiet_nil ?_;intro w5 hb5;clear m1;have hS5:=hS3.call hb5;have hN5:=hN3.call hb5;replace hnx2:=zhd hnx2;clear hnx hge hS3;go_wp2_with fail;go_roundg (gk-1)
    case measure=>omega
    case rel=>exact⟨i+1,by omega,by omega,by go_num,Below.refl _ _,hN5,by rw[hnx2.out];exact hS5⟩
   ·cases B1
    ·refine cB (by kernel_rfl) (by kernel_rfl) [some 94,some 95,some 96,some 97,some 98,some 99,some 100,some 101,some 102,some 103,some 104,some 105,some 106,some 107,some 108,some 109,some 110,some 111,some 112,some 113,some 114,some 115,some 116,some 117,some 118,some 119,some 120,some 121,some 122,some 123,some 124,some 125,some 126,some 127] (by rfl) (by rfl) (fun i8=>match i8 with|0=>.pointer (some ⟨q5,4,none⟩)|1=>.int .u8 cv|2=>.int .u8 c.bit|3=>.int .u8 nq|4=>.int .u8 nr|5=>.bool true|6=>.bool true|7=>.slice (some ⟨gs,0,none⟩) 4 4|8=>.pointer (some ⟨gs,0,none⟩)|9=>.string (str (nmL c.fr))|10=>.int .i64 c.fr|11=>.slice (some ⟨gs,0,none⟩) 4 4|12=>.pointer (some ⟨gs,2,none⟩)|13=>.string (str (nmL c.co))|14=>.int .i64 c.co|16=>.pointer (some ⟨q1,0,none⟩)|17=>.int .i64 a|18=>.bool false|19=>.bool false|20=>.slice (some ⟨gs,0,none⟩) 4 4|21=>.pointer (some ⟨gs,0,none⟩)|22=>.string (str (nmL c.fr))|23=>.int .i64 c.fr|24=>.slice (some ⟨gs,0,none⟩) 4 4|25=>.pointer (some ⟨gs,2,none⟩)|26=>.string (str (nmL c.co))|27=>.int .i64 c.co|29=>.pointer (some ⟨q1,1,none⟩)|30=>.int .i64 b|31=>.bool B2|32=>.bool B2|33=>.bool B2|_=>undef) (fun i8=>match i8 with|15=>some (bP L)|28=>some (bP L)|_=>none) ?hst ?hstep ?hend
     case hst =>
      intro i φ h v W W2 hb h2;split at h
      ·injection h with h;subst h;exact bP.call hb h2
      ·injection h with h;subst h;exact bP.call hb h2
      ·cases h
     case hstep =>
      intro i9 o9 f9 W ho hi hC hf K hK;have hi:i9<34:=hi;rcases i9 with _|_|_|_|_|_|_|_|_|_|_|_|_|_|_|_|_|_|_|_|_|_|_|_|_|_|_|_|_|_|_|_|_|_|i9
      ·exact au (og ho) 26 (.tmp 5) 3 (oo ho) (ah rfl rfl) (n:=4) (by kernel_rfl) (kk hK)
      ·exact ap (og ho) 5 (.tmp 94) (oo ho) (ri 0 (da ho hf 0)) (by kernel_rfl) ((hS3.t.call hC).cells 4) (kk hK)
      ·exact al (og ho) (.tmp 11) (oo ho) (ah rfl rfl) (kk hK)
      ·exact aK (og ho) .quo 5 5 (.tmp 95) (.tmp 96) (oo ho) (ri 1 (da ho hf 1)) (ri 2 (da ho hf 2)) (bM _ _ _ _ _ _ _ _) (lN cv c.bit nq hb1 (by omega) hnqE.out W) (kk hK)
      ·exact aK (og ho) .rem 5 5 (.tmp 97) (.const (.int .u8 2)) (oo ho) (ri 3 (da ho hf 3)) rfl (bM _ _ _ _ _ _ _ _) (lE nq 2 nr (by decide) hnrE.out W) (kk hK)
      ·exact aK (og ho) .eql 5 5 (.tmp 98) (.const (.int .u8 1)) (oo ho) (ri 4 (da ho hf 4)) rfl (bM _ _ _ _ _ _ _ _) (eq5 z0 W) (kk hK)
      ·exact al (og ho) (.tmp 99) (oo ho) (ri 5 (da ho hf 5)) (kk hK)
      ·exact gd (wo ho (dg ho hf 6)) (al rfl (.tmp 12) (oo ho) (ah rfl rfl) (kk hK))
      ·exact gd (wo ho (dg ho hf 6)) (aT rfl 158 (.tmp 101) (.const (.int .i64 0)) (oo ho) (ri 7 (da ho hf 7)) rfl (eD W gs 0 (by decide)) (kk hK))
      ·exact gd (wo ho (dg ho hf 6)) (ap rfl 9 (.tmp 102) (oo ho) (ri 8 (da ho hf 8)) (by kernel_rfl) ((hC.cell (p:=⟨gs,0,none⟩) hG3.1).trans (hG3.2 0 c.fr rfl)) (kk hK))
      ·exact gd (wo ho (dg ho hf 6)) (aQ rfl 166 (.tmp 103) #[9] (oo ho) (ri 9 (da ho hf 9)) (fun _ _=>rfl) (aP c.fr hf64 W) (by rintro u w9 ⟨h9,hb9⟩;injection h9 with h9;subst h9;exact hK _ _ hb9 rfl) (fun _ _ h=>nomatch h.1) (fun _ h=>nomatch h.1))
      ·exact gd (wo ho (dg ho hf 6)) (al rfl (.tmp 12) (oo ho) (ah rfl rfl) (kk hK))
      ·exact gd (wo ho (dg ho hf 6)) (aT rfl 158 (.tmp 105) (.const (.int .i64 2)) (oo ho) (ri 11 (da ho hf 11)) rfl (eD W gs 2 (by decide)) (kk hK))
      ·exact gd (wo ho (dg ho hf 6)) (ap rfl 9 (.tmp 106) (oo ho) (ri 12 (da ho hf 12)) (by kernel_rfl) ((hC.cell (p:=⟨gs,2,none⟩) hG3.1).trans (hG3.2 2 c.co rfl)) (kk hK))
      ·exact gd (wo ho (dg ho hf 6)) (aQ rfl 166 (.tmp 107) #[9] (oo ho) (ri 13 (da ho hf 13)) (fun _ _=>rfl) (aP c.co hk64 W) (by rintro u w9 ⟨h9,hb9⟩;injection h9 with h9;subst h9;exact hK _ _ hb9 rfl) (fun _ _ h=>nomatch h.1) (fun _ h=>nomatch h.1))
      ·exact gd (wo ho (dg ho hf 6)) (eY rfl 136 (.tmp 104) (.tmp 108) (oo ho) (ri 10 (da ho hf 10)) (ri 14 (da ho hf 14)) (rf _ _ W) (hK _ _ (ae W _) (hmk W)))
      ·exact gd (wo ho (dg ho hf 6)) (au rfl 40 (.tmp 3) 0 (oo ho) (ah rfl rfl) (n:=0) (by kernel_rfl) (kk hK))
      ·exact gd (wo ho (dg ho hf 6)) (ap rfl 3 (.tmp 110) (oo ho) (ri 16 (da ho hf 16)) (by kernel_rfl) ((hS3.m.call hC).cells 0) (kk hK))
      ·obtain⟨p7,c7,e7,h7⟩:bP L (f9 15) W:=hf ⟨15,.data⟩ (oa ho) rfl;exact gd (wo ho (dg ho hf 6)) (aH rfl 169 (.tmp 109) (.tmp 111) #[136,3] (oo ho) (ri 15 e7) (ri 17 (da ho hf 17)) (fun _ _=>rfl) (hhA p7 c7 W h7) (by rintro u w9 ⟨h9,hb9⟩;injection h9 with h9;subst h9;exact hK _ _ hb9 rfl) (fun _ _ h=>nomatch h.1) (fun _ h=>nomatch h.1))
      ·exact gd (wo ho (dg ho hf 6)) (al rfl (.tmp 112) (oo ho) (ri 18 (da ho hf 18)) (kk hK))
      ·exact gd (wo ho (dg ho hf 19)) (al rfl (.tmp 12) (oo ho) (ah rfl rfl) (kk hK))
      ·exact gd (wo ho (dg ho hf 19)) (aT rfl 158 (.tmp 114) (.const (.int .i64 0)) (oo ho) (ri 20 (da ho hf 20)) rfl (eD W gs 0 (by decide)) (kk hK))
      ·exact gd (wo ho (dg ho hf 19)) (ap rfl 9 (.tmp 115) (oo ho) (ri 21 (da ho hf 21)) (by kernel_rfl) ((hC.cell (p:=⟨gs,0,none⟩) hG3.1).trans (hG3.2 0 c.fr rfl)) (kk hK))
      ·exact gd (wo ho (dg ho hf 19)) (aQ rfl 166 (.tmp 116) #[9] (oo ho) (ri 22 (da ho hf 22)) (fun _ _=>rfl) (aP c.fr hf64 W) (by rintro u w9 ⟨h9,hb9⟩;injection h9 with h9;subst h9;exact hK _ _ hb9 rfl) (fun _ _ h=>nomatch h.1) (fun _ h=>nomatch h.1))
      ·exact gd (wo ho (dg ho hf 19)) (al rfl (.tmp 12) (oo ho) (ah rfl rfl) (kk hK))
      ·exact gd (wo ho (dg ho hf 19)) (aT rfl 158 (.tmp 118) (.const (.int .i64 2)) (oo ho) (ri 24 (da ho hf 24)) rfl (eD W gs 2 (by decide)) (kk hK))
      ·exact gd (wo ho (dg ho hf 19)) (ap rfl 9 (.tmp 119) (oo ho) (ri 25 (da ho hf 25)) (by kernel_rfl) ((hC.cell (p:=⟨gs,2,none⟩) hG3.1).trans (hG3.2 2 c.co rfl)) (kk hK))
      ·exact gd (wo ho (dg ho hf 19)) (aQ rfl 166 (.tmp 120) #[9] (oo ho) (ri 26 (da ho hf 26)) (fun _ _=>rfl) (aP c.co hk64 W) (by rintro u w9 ⟨h9,hb9⟩;injection h9 with h9;subst h9;exact hK _ _ hb9 rfl) (fun _ _ h=>nomatch h.1) (fun _ h=>nomatch h.1))
      ·exact gd (wo ho (dg ho hf 19)) (eY rfl 136 (.tmp 117) (.tmp 121) (oo ho) (ri 23 (da ho hf 23)) (ri 27 (da ho hf 27)) (rf _ _ W) (hK _ _ (ae W _) (hmk W)))
      ·exact gd (wo ho (dg ho hf 19)) (au rfl 40 (.tmp 3) 1 (oo ho) (ah rfl rfl) (n:=1) (by kernel_rfl) (kk hK))
      ·exact gd (wo ho (dg ho hf 19)) (ap rfl 3 (.tmp 123) (oo ho) (ri 29 (da ho hf 29)) (by kernel_rfl) ((hS3.m.call hC).cells 1) (kk hK))
      ·obtain⟨p7,c7,e7,h7⟩:bP L (f9 28) W:=hf ⟨28,.data⟩ (oa ho) rfl;exact gd (wo ho (dg ho hf 19)) (aH rfl 169 (.tmp 122) (.tmp 124) #[136,3] (oo ho) (ri 28 e7) (ri 30 (da ho hf 30)) (fun _ _=>rfl) (hhB p7 c7 W h7) (by rintro u w9 ⟨h9,hb9⟩;injection h9 with h9;subst h9;exact hK _ _ hb9 rfl) (fun _ _ h=>nomatch h.1) (fun _ h=>nomatch h.1))
      ·exact gd (wo ho (dg ho hf 6)) (fN rfl (.tmp 113) (.const (.bool true)) (.tmp 125) (oo ho) (ri 19 (da ho hf 19)) (ri 31 (da ho hf 31)) (kk hK))
      ·exact cx (og ho) (.tmp 100) (.tmp 126) (.const (.bool false)) (oo ho) (ri 6 (da ho hf 6)) (ri 32 (da ho hf 32)) (kk hK)
      ·omega
     case hend =>
      intro f9 w5 hC hf;have hv:f9 33=.bool B2:=hf 33 (by decide);have hS5:=hS3.call hC;have hN5:=hN3.call hC;clear hf hC hS3 hhA hhB hmk;simp only[ao,Act.put,List.setIfInBounds_toArray,List.set_cons_succ,List.set_cons_zero];rw[hv];clear hv;generalize f9 0=u0,f9 1=u1,f9 2=u2,f9 3=u3,f9 4=u4,f9 5=u5,f9 6=u6,f9 7=u7,f9 8=u8,f9 9=u9,f9 10=u10,f9 11=u11,f9 12=u12,f9 13=u13,f9 14=u14,f9 15=u15,f9 16=u16,f9 17=u17,f9 18=u18,f9 19=u19,f9 20=u20,f9 21=u21,f9 22=u22,f9 23=u23,f9 24=u24,f9 25=u25,f9 26=u26,f9 27=u27,f9 28=u28,f9 29=u29,f9 30=u30,f9 31=u31,f9 32=u32;cases B2
      ·have hnx2:G (i+1)=cv:=by rw[hnx,z0];rfl
       replace hnx2:=zhd hnx2;clear hnx hge;go_wp2_with fail;go_roundg (gk-1)
       case measure=>omega
       case rel=>exact⟨i+1,by omega,by omega,by go_num,Below.refl _ _,hN5,by rw[hnx2.out];exact hS5⟩
      ·have hge1:=hge (by have:=eq_of_beq z0;omega);have hnx2:G (i+1)=cv-c.bit:=by rw[hnx,z0];simp
       have hws:IntKind.u8.wrap ((cv:Int)-(c.bit:Int))=((cv-c.bit:Nat):Int):=by rw[Int.natCast_sub hge1];unfold IntKind.wrap;simp only[IntKind.signed,IntKind.bits];simp;omega
       obtain⟨nv,hnv⟩:∃ n,n=cv-c.bit:=⟨_,rfl⟩;rw[←hnv]at hnx2 hws;replace hnx2:=zhd hnx2;clear hnx hge hge1 hnv;have o4:=hS5.t.cells 4;have f4:=hS5.t.frozen 4;have lt:=hS5.t.lt;have hS6:AfS w F R xs bl can pa ha fu a b pr pp cc q0 q1 q4 q5 qa cap ys (aa F R (some ⟨qa,0,none⟩) xs.length cap bl (nv:Nat) pa ha fu) (w5.setCell ⟨q5,4,none⟩ (.int .u8 (nv:Nat))):=hS5.set5 hQ 4 (.int .u8 (nv:Nat));have hN6:=hN5.far (p:=⟨q5,4,none⟩) (by exact hqn5) (.int .u8 (nv:Nat));clear hS5;go_wp2_with fail;go_roundg (gk-1)
       case measure=>omega
       case rel=>exact⟨i+1,by omega,by omega,by go_num,Below.refl _ _,hN6,by rw[hnx2.out];exact hS6⟩
    ·refine cB (by kernel_rfl) (by kernel_rfl) [some 94,some 95,some 96,some 97,some 98,some 99,some 100,some 101,some 102,some 103,some 104,some 105,some 106,some 107,some 108,some 109,some 110,some 111,some 112,some 113,some 114,some 115,some 116,some 117,some 118,some 119,some 120,some 121,some 122,some 123,some 124,some 125,some 126,some 127] (by rfl) (by rfl) (fun i8=>match i8 with|0=>.pointer (some ⟨q5,4,none⟩)|1=>.int .u8 cv|2=>.int .u8 c.bit|3=>.int .u8 nq|4=>.int .u8 nr|5=>.bool true|6=>.bool true|7=>.slice (some ⟨gs,0,none⟩) 4 4|8=>.pointer (some ⟨gs,0,none⟩)|9=>.string (str (nmL c.fr))|10=>.int .i64 c.fr|11=>.slice (some ⟨gs,0,none⟩) 4 4|12=>.pointer (some ⟨gs,2,none⟩)|13=>.string (str (nmL c.co))|14=>.int .i64 c.co|16=>.pointer (some ⟨q1,0,none⟩)|17=>.int .i64 a|18=>.bool true|19=>.bool true|32=>.bool true|33=>.bool true|_=>undef) (fun i8=>match i8 with|15=>some (bP L)|_=>none) ?hst ?hstep ?hend
     case hst =>
      intro i φ h v W W2 hb h2;split at h
      ·injection h with h;subst h;exact bP.call hb h2
      ·cases h
     case hstep =>
      intro i9 o9 f9 W ho hi hC hf K hK;have hi:i9<34:=hi;rcases i9 with _|_|_|_|_|_|_|_|_|_|_|_|_|_|_|_|_|_|_|_|_|_|_|_|_|_|_|_|_|_|_|_|_|_|i9
      ·exact au (og ho) 26 (.tmp 5) 3 (oo ho) (ah rfl rfl) (n:=4) (by kernel_rfl) (kk hK)
      ·exact ap (og ho) 5 (.tmp 94) (oo ho) (ri 0 (da ho hf 0)) (by kernel_rfl) ((hS3.t.call hC).cells 4) (kk hK)
      ·exact al (og ho) (.tmp 11) (oo ho) (ah rfl rfl) (kk hK)
      ·exact aK (og ho) .quo 5 5 (.tmp 95) (.tmp 96) (oo ho) (ri 1 (da ho hf 1)) (ri 2 (da ho hf 2)) (bM _ _ _ _ _ _ _ _) (lN cv c.bit nq hb1 (by omega) hnqE.out W) (kk hK)
      ·exact aK (og ho) .rem 5 5 (.tmp 97) (.const (.int .u8 2)) (oo ho) (ri 3 (da ho hf 3)) rfl (bM _ _ _ _ _ _ _ _) (lE nq 2 nr (by decide) hnrE.out W) (kk hK)
      ·exact aK (og ho) .eql 5 5 (.tmp 98) (.const (.int .u8 1)) (oo ho) (ri 4 (da ho hf 4)) rfl (bM _ _ _ _ _ _ _ _) (eq5 z0 W) (kk hK)
      ·exact al (og ho) (.tmp 99) (oo ho) (ri 5 (da ho hf 5)) (kk hK)
      ·exact gd (wo ho (dg ho hf 6)) (al rfl (.tmp 12) (oo ho) (ah rfl rfl) (kk hK))
      ·exact gd (wo ho (dg ho hf 6)) (aT rfl 158 (.tmp 101) (.const (.int .i64 0)) (oo ho) (ri 7 (da ho hf 7)) rfl (eD W gs 0 (by decide)) (kk hK))
      ·exact gd (wo ho (dg ho hf 6)) (ap rfl 9 (.tmp 102) (oo ho) (ri 8 (da ho hf 8)) (by kernel_rfl) ((hC.cell (p:=⟨gs,0,none⟩) hG3.1).trans (hG3.2 0 c.fr rfl)) (kk hK))
      ·exact gd (wo ho (dg ho hf 6)) (aQ rfl 166 (.tmp 103) #[9] (oo ho) (ri 9 (da ho hf 9)) (fun _ _=>rfl) (aP c.fr hf64 W) (by rintro u w9 ⟨h9,hb9⟩;injection h9 with h9;subst h9;exact hK _ _ hb9 rfl) (fun _ _ h=>nomatch h.1) (fun _ h=>nomatch h.1))
      ·exact gd (wo ho (dg ho hf 6)) (al rfl (.tmp 12) (oo ho) (ah rfl rfl) (kk hK))
      ·exact gd (wo ho (dg ho hf 6)) (aT rfl 158 (.tmp 105) (.const (.int .i64 2)) (oo ho) (ri 11 (da ho hf 11)) rfl (eD W gs 2 (by decide)) (kk hK))
      ·exact gd (wo ho (dg ho hf 6)) (ap rfl 9 (.tmp 106) (oo ho) (ri 12 (da ho hf 12)) (by kernel_rfl) ((hC.cell (p:=⟨gs,2,none⟩) hG3.1).trans (hG3.2 2 c.co rfl)) (kk hK))
      ·exact gd (wo ho (dg ho hf 6)) (aQ rfl 166 (.tmp 107) #[9] (oo ho) (ri 13 (da ho hf 13)) (fun _ _=>rfl) (aP c.co hk64 W) (by rintro u w9 ⟨h9,hb9⟩;injection h9 with h9;subst h9;exact hK _ _ hb9 rfl) (fun _ _ h=>nomatch h.1) (fun _ h=>nomatch h.1))
      ·exact gd (wo ho (dg ho hf 6)) (eY rfl 136 (.tmp 104) (.tmp 108) (oo ho) (ri 10 (da ho hf 10)) (ri 14 (da ho hf 14)) (rf _ _ W) (hK _ _ (ae W _) (hmk W)))
      ·exact gd (wo ho (dg ho hf 6)) (au rfl 40 (.tmp 3) 0 (oo ho) (ah rfl rfl) (n:=0) (by kernel_rfl) (kk hK))
      ·exact gd (wo ho (dg ho hf 6)) (ap rfl 3 (.tmp 110) (oo ho) (ri 16 (da ho hf 16)) (by kernel_rfl) ((hS3.m.call hC).cells 0) (kk hK))
      ·obtain⟨p7,c7,e7,h7⟩:bP L (f9 15) W:=hf ⟨15,.data⟩ (oa ho) rfl;exact gd (wo ho (dg ho hf 6)) (aH rfl 169 (.tmp 109) (.tmp 111) #[136,3] (oo ho) (ri 15 e7) (ri 17 (da ho hf 17)) (fun _ _=>rfl) (hhA p7 c7 W h7) (by rintro u w9 ⟨h9,hb9⟩;injection h9 with h9;subst h9;exact hK _ _ hb9 rfl) (fun _ _ h=>nomatch h.1) (fun _ h=>nomatch h.1))
      ·exact gd (wo ho (dg ho hf 6)) (al rfl (.tmp 112) (oo ho) (ri 18 (da ho hf 18)) (kk hK))
      iterate 12 exact bt (uw ho (dg ho hf 19)) (kk hK)
      ·exact gd (wo ho (dg ho hf 6)) (cx rfl (.tmp 113) (.const (.bool true)) (.tmp 125) (oo ho) (ri 19 (da ho hf 19)) rfl (kk hK))
      ·exact cx (og ho) (.tmp 100) (.tmp 126) (.const (.bool false)) (oo ho) (ri 6 (da ho hf 6)) (ri 32 (da ho hf 32)) (kk hK)
      ·omega
     case hend =>
      intro f9 w5 hC hf;have hv:f9 33=.bool true:=hf 33 (by decide);have hS5:=hS3.call hC;have hN5:=hN3.call hC;clear hf hC hS3 hhA hhB hmk;simp only[ao,Act.put,List.setIfInBounds_toArray,List.set_cons_succ,List.set_cons_zero];rw[hv];clear hv;generalize f9 0=u0,f9 1=u1,f9 2=u2,f9 3=u3,f9 4=u4,f9 5=u5,f9 6=u6,f9 7=u7,f9 8=u8,f9 9=u9,f9 10=u10,f9 11=u11,f9 12=u12,f9 13=u13,f9 14=u14,f9 15=u15,f9 16=u16,f9 17=u17,f9 18=u18,f9 19=u19,f9 20=u20,f9 21=u21,f9 22=u22,f9 23=u23,f9 24=u24,f9 25=u25,f9 26=u26,f9 27=u27,f9 28=u28,f9 29=u29,f9 30=u30,f9 31=u31,f9 32=u32;have hge1:=hge (by have:=eq_of_beq z0;omega);have hnx2:G (i+1)=cv-c.bit:=by rw[hnx,z0];simp
      have hws:IntKind.u8.wrap ((cv:Int)-(c.bit:Int))=((cv-c.bit:Nat):Int):=by rw[Int.natCast_sub hge1];unfold IntKind.wrap;simp only[IntKind.signed,IntKind.bits];simp;omega
      obtain⟨nv,hnv⟩:∃ n,n=cv-c.bit:=⟨_,rfl⟩;rw[←hnv]at hnx2 hws;replace hnx2:=zhd hnx2;clear hnx hge hge1 hnv;have o4:=hS5.t.cells 4;have f4:=hS5.t.frozen 4;have lt:=hS5.t.lt;have hS6:AfS w F R xs bl can pa ha fu a b pr pp cc q0 q1 q4 q5 qa cap ys (aa F R (some ⟨qa,0,none⟩) xs.length cap bl (nv:Nat) pa ha fu) (w5.setCell ⟨q5,4,none⟩ (.int .u8 (nv:Nat))):=hS5.set5 hQ 4 (.int .u8 (nv:Nat));have hN6:=hN5.far (p:=⟨q5,4,none⟩) (by exact hqn5) (.int .u8 (nv:Nat));clear hS5;go_wp2_with fail;go_roundg (gk-1)
      case measure=>omega
      case rel=>exact⟨i+1,by omega,by omega,by go_num,Below.refl _ _,hN6,by rw[hnx2.out];exact hS6⟩
end Go.Proofs.YtefmplccbkmalaaGreatDoor
