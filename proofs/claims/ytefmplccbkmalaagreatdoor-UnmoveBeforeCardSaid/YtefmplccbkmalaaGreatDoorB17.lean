import Derived.Test.YtefmplccbkmalaaGreatDoorB15
import Derived.Test.YtefmplccbkmalaaGreatDoorB16
set_option maxRecDepth 100000
set_option maxHeartbeats 12800000
namespace Go.Proofs.YtefmplccbkmalaaGreatDoor
open Go.RowKit Go.Sort Go.BigFrame

def ig(n:Nat):Code→Option Code
 | .block i b=>if i=n then some (.block i b)else ig n b
 | .seq a b=>(ig n a).or (ig n b)
 | .cond _ a b=>(ig n a).or (ig n b)
 | .loop b=>ig n b
 | .scope b=>ig n b
 | _=>none
theorem cg.below{B:Nat}{w w':World}{g o:Nat}{st:List (Int×Int)}(h:cg w g o st)(hb:RowKit.Below B w w')(hg:g<B):cg w' g o st :=
 ⟨Nat.lt_of_lt_of_le h.1 hb.size,fun j hj=>⟨(hb.cell (p:=⟨g,o+j*2,none⟩) hg).trans (h.2 j hj).1,(hb.cell (p:=⟨g,o+j*2+1,none⟩) hg).trans (h.2 j hj).2⟩⟩
structure Sta(base:Nat)(pp:Option Addr)(xs:List Int)(w:World):Prop where
 g:aM w
 t:bO w
 x:Arr .i8 w pp xs
 b8:8≤base
 b:base≤w.heap.size
 p:∀ q,pp=some q→q.block<base
theorem Sta.below{base:Nat}{pp:Option Addr}{xs:List Int}{w w':World}(h:Sta base pp xs w)(hb:RowKit.Below base w w'):Sta base pp xs w':=by
 obtain⟨⟨⟨g1,g2,g3,g4,g5⟩,g6,g7,g8,g9⟩,t,x,b8,b,p⟩:=h;have hk:∀ {q j:Nat} {v:Value},q<8→w.cell? ⟨q,j,none⟩=some v→w'.cell? ⟨q,j,none⟩=some v:=fun {q j v} h8 h=>by
  rw[hb.cell (p:=⟨q,j,none⟩) (by show q<base;omega)];exact h
 refine⟨⟨⟨g1.below hb (by omega),g2.below hb (by omega),g3.below hb (by omega),hk (by decide) g4,hk (by decide) g5⟩,fun j v e=>hk (by decide) (g6 j v e),fun j v e=>hk (by decide) (g7 j v e),hk (by decide) g8,hk (by decide) g9⟩,fun j hj=>hk (by decide) (t j hj),?_,b8,Nat.le_trans b hb.size,p⟩;rcases x with x|⟨b0,o0,e,hl,hc⟩
 ·exact .inl x
 ·exact .inr ⟨b0,o0,e,Nat.lt_of_lt_of_le hl hb.size,fun j hj=>(hb.cell (p:=⟨b0,o0+j,none⟩) (p ⟨b0,o0,none⟩ e)).trans (hc j hj)⟩
structure Sea(base qs:Nat)(F R:Nat)(xs:List Int)(bl:Bool)(can:Nat)(pa ha fu:Int)(pp:Option Addr)(cc occ:Nat)(v:Value)(L:List Ret)(w:World):Prop where
 st:Sta base pp xs w
 s:ac w qs (.cells (ez F R pp xs.length cc bl can pa ha fu occ v).toArray 71 (0,0))
 o:w.ownsRow base 42 7 v L.length (L.flatMap Ret.cs)
 q:base≤qs
structure fA(F R:Nat)(xs:List Int)(can:Nat)(ha fu:Int):Prop where
 hF:3≤F∧F≤8
 hR:3≤R∧R≤8
 len:xs.length=F*R
 h6:∀ x∈xs,-6≤x∧x≤6
 ca:can<256
 ha:0≤ha∧ha≤10000
 fu:-10000≤fu∧fu≤10000
theorem Nib.setNew{qs q i:Nat}{w w':World}{v v' u:Value}(h:Nib qs w w' v v')(hq:w.heap.size≤q):Nib qs w (w'.setCell ⟨q,i,none⟩ u) v v':=by obtain⟨h1,h2,h3,h4,h5,h6⟩:=h;have hs:Alt q (q+1) w' (w'.setCell ⟨q,i,none⟩ u):=Alt.setCell ⟨Nat.le_refl _,Nat.lt_succ_self _⟩;exact⟨hs.os.trans h1,hs.tape.trans h2,hs.output.trans h3,Nat.le_trans h4 hs.size,fun k hk e1 e2=>(hs.block k (Nat.lt_of_lt_of_le hk h4) (by omega)).trans (h5 k hk e1 e2),h6⟩
section
variable {base qs:Nat} {F R:Nat} {xs:List Int} {bl:Bool} {can:Nat} {pa ha fu:Int} {pp:Option Addr} {cc occ:Nat} {v v':Value} {L L':List Ret} {w w':World}
theorem Sea.call(h:Sea base qs F R xs bl can pa ha fu pp cc occ v L w)(hb:Bw w w'):Sea base qs F R xs bl can pa ha fu pp cc occ v L w':=by have hB:RowKit.Below base w w':=⟨hb.os,hb.tape,hb.output,hb.size,fun k hk=>hb.block k (Nat.lt_of_lt_of_le hk h.st.b)⟩;exact⟨h.st.below hB,h.s.call hb,aA h.o hb,h.q⟩
theorem Sea.nib(h:Sea base qs F R xs bl can pa ha fu pp cc occ v L w)(hn:Nib qs w w' v v')(hs:ac w' qs (.cells (ez F R pp xs.length cc bl can pa ha fu occ v').toArray 71 (0,0)))(ho:w'.ownsRow base 42 7 v' L'.length (L'.flatMap Ret.cs)):
  Sea base qs F R xs bl can pa ha fu pp cc occ v' L' w':=⟨h.st.below (hn.below h.q (fun k e=>(h.o.lt k e).1) h.st.b),hs,ho,h.q⟩
theorem Sea.setNew(h:Sea base qs F R xs bl can pa ha fu pp cc occ v L w){q i:Nat}{u:Value}(hq:base≤q)(hs:q≠qs)(hv:v.ownBlock≠some q):Sea base qs F R xs bl can pa ha fu pp cc occ v L (w.setCell ⟨q,i,none⟩ u):=by refine⟨h.st.below ((Below.refl _ _).setCell (by exact hq) _),h.s.far (fun e=>hs e.symm) _,?_,h.q⟩;refine h.o.kept (row:=some q) ⟨rfl,rfl,rfl,by simp[World.setCell],fun k hk hkq=>?_⟩ (.inr hv);rw[Below.heap_setCell _ _ _ _ (fun e=>hkq (by rw[e]))]
structure TrJ(base qs:Nat)(F R:Nat)(xs:List Int)(bl:Bool)(can:Nat)(pa ha fu:Int)(pp:Option Addr)(cc occ:Nat)(v0:Value)(w:World)(q8:Nat)(r:Ret)(v:Value)(L:List Ret)(wr:World):Prop where
 s:Sea base qs F R xs bl can pa ha fu pp cc occ v L wr
 n:Nib qs w wr v0 v
 e:v.ownBlock≠some q8
 b:ac wr q8 (.cells r.cs.toArray 42 (0,0))
 q:w.heap.size≤q8
 qb:base≤q8
 qs:q8≠qs
variable {v0:Value} {q8:Nat} {r:Ret} {wr:World}
theorem TrJ.call(h:TrJ base qs F R xs bl can pa ha fu pp cc occ v0 w q8 r v L wr)(hb:Bw wr w'):TrJ base qs F R xs bl can pa ha fu pp cc occ v0 w q8 r v L w' :=
 ⟨h.s.call hb,h.n.trans (Nib.of_below qs hb v),h.e,h.b.call hb,h.q,h.qb,h.qs⟩
theorem TrJ.set5(h:TrJ base qs F R xs bl can pa ha fu pp cc occ v0 w q8 r v L wr)(c:Int):TrJ base qs F R xs bl can pa ha fu pp cc occ v0 w q8 {r with ca:=c} v L (wr.setCell ⟨q8,5,none⟩ (.int .u8 c)):=by have hb:=h.b.set_ 5 (.int .u8 c);rw[List.setIfInBounds_toArray]at hb;exact⟨h.s.setNew h.qb h.qs h.e,h.n.setNew h.q,h.e,hb,h.q,h.qb,h.qs⟩
theorem TrJ.set6(h:TrJ base qs F R xs bl can pa ha fu pp cc occ v0 w q8 r v L wr)(c:Int):TrJ base qs F R xs bl can pa ha fu pp cc occ v0 w q8 {r with pa:=c} v L (wr.setCell ⟨q8,6,none⟩ (.int .i64 c)):=by have hb:=h.b.set_ 6 (.int .i64 c);rw[List.setIfInBounds_toArray]at hb;exact⟨h.s.setNew h.qb h.qs h.e,h.n.setNew h.q,h.e,hb,h.q,h.qb,h.qs⟩
theorem TrJ.nib(h:TrJ base qs F R xs bl can pa ha fu pp cc occ v0 w q8 r v L wr)(hn:Nib qs wr w' v v')(hs:ac w' qs (.cells (ez F R pp xs.length cc bl can pa ha fu occ v').toArray 71 (0,0)))(ho:w'.ownsRow base 42 7 v' L'.length (L'.flatMap Ret.cs))(hb:ac w' q8 (.cells r.cs.toArray 42 (0,0))):
  TrJ base qs F R xs bl can pa ha fu pp cc occ v0 w q8 r v' L' w':=by
 refine⟨h.s.nib hn hs ho,h.n.trans hn,fun e=>?_,hb,h.q,h.qb,h.qs⟩;rcases hn.near _ e with e2|e2
 ·exact h.e e2
 ·have:=h.b.lt;omega
end
theorem uo{w:World}{base n:Nat}{e:TypeId}{v:Value}{xs:List Value}(h:w.ownsRow base e 1 v n xs)(hn:n=xs.length)(h0:0<n):∃ g cap cur,v=.slice (some ⟨g,0,none⟩) n cap∧ac w g (.cells cur e (0,0))∧∀ j,j<n→cur[j]? = xs[j]?:=by
 rcases h.2 with⟨rfl,h1⟩|⟨g,cap,cur,rfl,hb,hh,h1,h2,h3,h4⟩
 ·omega
 ·refine⟨g,cap,cur,rfl,hh,fun j hj=>?_⟩;rw[←h4,Nat.mul_one,List.getElem?_take_of_lt hj];simp
def tnF(q0:Nat)(q8:Nat)(gn:Nat)(k:Nat)(vB:Value)(nB:Nat)(X:Nat→Value):Array Value:=(litB (fun i=>match i with|0=>.pointer (some ⟨q0,0,none⟩)|8=>.pointer (some ⟨q8,0,none⟩)|9=>.int .u8 gn|26=>.int .u8 k|59=>vB|60=>.int .i64 nB|61=>.int .i64 0|i=>X i) 0 88).toArray
def tnT(T:Array Value)(q0:Nat)(q8:Nat)(gn:Nat)(k:Nat)(vB:Value)(nB:Nat):Prop:=T.size=88∧ofA T 0=.pointer (some ⟨q0,0,none⟩)∧ofA T 8=.pointer (some ⟨q8,0,none⟩)∧ofA T 9=.int .u8 gn∧ofA T 26=.int .u8 k∧ofA T 59=vB∧ofA T 60=.int .i64 nB∧ofA T 61=.int .i64 0
theorem tnT.fr{T:Array Value}{q0:Nat}{q8:Nat}{gn:Nat}{k:Nat}{vB:Value}{nB:Nat}(h:tnT T q0 q8 gn k vB nB):∃ X,T=tnF q0 q8 gn k vB nB X:=by obtain⟨hs,h0,h8,h9,h26,h59,h60,h61⟩:=h;refine⟨ofA T,(frB T hs).trans (congrArg (fun X=>(litB X 0 88).toArray) (funext fun i=>?_))⟩;split<;>first|assumption|rfl

def toF(q0:Nat)(q8:Nat)(gn:Nat)(k:Nat)(X:Nat→Value):Array Value:=(litB (fun i=>match i with|0=>.pointer (some ⟨q0,0,none⟩)|8=>.pointer (some ⟨q8,0,none⟩)|9=>.int .u8 gn|26=>.int .u8 k|i=>X i) 0 88).toArray
def toT(T:Array Value)(q0:Nat)(q8:Nat)(gn:Nat)(k:Nat):Prop:=T.size=88∧ofA T 0=.pointer (some ⟨q0,0,none⟩)∧ofA T 8=.pointer (some ⟨q8,0,none⟩)∧ofA T 9=.int .u8 gn∧ofA T 26=.int .u8 k
theorem toT.fr{T:Array Value}{q0:Nat}{q8:Nat}{gn:Nat}{k:Nat}(h:toT T q0 q8 gn k):∃ X,T=toF q0 q8 gn k X:=by obtain⟨hs,h0,h8,h9,h26⟩:=h;refine⟨ofA T,(frB T hs).trans (congrArg (fun X=>(litB X 0 88).toArray) (funext fun i=>?_))⟩;split<;>first|assumption|rfl

def tinL(P:Pos)(r:Ret)(BL:List Int):Nat→List Ret
 | 0=>[]
 | j+1=>if mayW P {r with pa:=BL[j]?.getD 0}then tinL P r BL j++[{r with pa:=BL[j]?.getD 0}]else tinL P r BL j
theorem uG(P:Pos)(r:Ret)(BL:List Int):∀ j,(tinL P r BL j).length≤j:=by
 intro j;induction j with
 | zero=>simp[tinL]
 | succ j ih =>
  simp only[tinL];split
  ·simp;omega
  ·omega
theorem zV(F R:Nat)(xs:List Int)(bl:Bool)(can:Nat)(pa ha fu:Int)(pp:Option Addr)(cc occ:Nat)(hH:fA F R xs can ha fu)(base qs q8 gn k:Nat)(v0:Value)(w:World)(r:Ret)(a b:Nat)(hra:r.mv.fr=a)(hrb:r.mv.tg=b)(hla:a<xs.length)(hlb:b<xs.length)(hrc:0≤r.ca∧r.ca<256)
  (BL:List Int) (hBL:BL.length≤9) (hB0:0<BL.length) (vB:Value) (T:Array Value) (hT:tnT T qs q8 gn k vB BL.length) (v:Value) (L:List Ret) (hl:L.length≤900001000) (W:World) (n0:Nat) (hvB:W.ownsRow n0 3 1 vB BL.length (BL.map (.int .i64)))
  (hJ:TrJ base qs F R xs bl can pa ha fu pp cc occ v0 w q8 r v L W) (Q:Exit→Act→World→Prop)
  (hok:∀ T' p v' w',toT T' qs q8 gn k→(∀ i,(1≤i∧i≤7)∨(13≤i∧i≤25)→ofA T' i=ofA T i)→TrJ base qs F R xs bl can pa ha fu pp cc occ v0 w q8 {r with pa:=p} v' (L++tinL ⟨F,R,xs,bl,can,pa,ha,fu⟩ r BL BL.length) w'→Q .normal {tmps:=T',defers:=[]} w')
  (cd:Code) (hcd:Tryz.f90.body.bind (ig 2)=some cd):cd.wp Tryz.prog Q {tmps:=T,defers:=[]} W:=by
 obtain rfl:=Option.some.inj ((show Tryz.f90.body.bind (ig 2)=some _ from rfl).symm.trans hcd);clear hcd;obtain⟨X,rfl⟩:=hT.fr;clear hT;dsimp only[tnF,litB,Nat.reduceAdd];obtain⟨g,cap,cur,rfl,hB,hcur⟩:=uo hvB (by simp) hB0;have hcu:∀ j,j<BL.length→cur[j]? = some (.int .i64 (BL[j]?.getD 0)):=fun j hj=>by
  rw[hcur j hj,List.getElem?_map,List.getElem?_eq_getElem hj];rfl
 clear hcur hvB;have hnx0:∀ j,tinL ⟨F,R,xs,bl,can,pa,ha,fu⟩ r BL (j+1)=if mayW ⟨F,R,xs,bl,can,pa,ha,fu⟩ {r with pa:=BL[j]?.getD 0}then tinL ⟨F,R,xs,bl,can,pa,ha,fu⟩ r BL j++[{r with pa:=BL[j]?.getD 0}]else tinL ⟨F,R,xs,bl,can,pa,ha,fu⟩ r BL j:=fun _=>rfl
 have hz0:tinL ⟨F,R,xs,bl,can,pa,ha,fu⟩ r BL 0=[]:=rfl;have hll:=uG ⟨F,R,xs,bl,can,pa,ha,fu⟩ r BL;generalize tinL ⟨F,R,xs,bl,can,pa,ha,fu⟩ r BL=TL at *;go_wp2_with fail;go_loopg [61] 11 (fun q iv wr=>∃(j:Nat) (p:Int) (v':Value),q+j=11∧j≤BL.length∧iv=.int .i64 j∧TrJ base qs F R xs bl can pa ha fu pp cc occ v0 w q8 {r with pa:=p} v' (L++TL j) wr∧ac wr g (.cells cur 3 (0,0)))
 case atStart=>exact⟨0,r.pa,v,by omega,Nat.zero_le _,rfl,by rw[hz0,List.append_nil];exact hJ,hB⟩
 case round =>
  obtain⟨j,p,v',hq,hj,rfl,hJr,hBr⟩:=hrel;by_cases hlt:j<BL.length
  ·have cj:wr.cell? ⟨g,j,none⟩=some (.int .i64 (BL[j]?.getD 0)):=by rw[hBr.cells j,hcu j hlt]
   have hnx:=hnx0 j;have hlj:=hll j;generalize BL[j]?.getD 0=y at *;have c6:=hJr.b.cells 6;have f6:=hJr.b.frozen 6;have l8:=hJr.b.lt;have lB:=hBr.lt;have hji:(j:Int)<BL.length:=by omega
   have hgq:g≠q8:=fun e=>by
    subst e;have:=Option.some.inj (hBr.symm.trans hJr.b);simp at this
   have hgs:g≠qs:=fun e=>by
    subst e;have:=Option.some.inj (hBr.symm.trans hJr.s.s);simp at this
   clear hcu hnx0 hll hJ hB;replace hnx:=zhd hnx;replace hra:=zhd hra;replace hrb:=zhd hrb;go_upto_region 13 with fail;have hJ2:=hJr.set6 y;have hB2:=hBr.far (p:=⟨q8,6,none⟩) hgq (.int .i64 y);generalize wr.setCell ⟨q8,6,none⟩ (.int .i64 y)=w2 at *;clear cj c6 f6 l8 lB hJr hBr;refine Ab (r:={ r with pa:=y}) a b hra.out hrb.out hla hlb hH.hF hH.hR hH.len hH.h6 hH.ha hH.fu hrc w2 hJ2.s.st.g hJ2.s.st.x hJ2.s.s hJ2.b _ _ rfl rfl (by simp) ?_ _ rfl;intro f w3 hb3 h11;have hJ3:=hJ2.call hb3;have hB3:=hB2.call hb3;simp only[ao,h11];go_simp;rcases zm:mayW ⟨F,R,xs,bl,can,pa,ha,fu⟩ {r with pa:=y}with _|_
   ·have hLn:Hid (TL (j+1)=TL j):=zhd (by rw[hnx.out,zm];rfl);clear h11;go_wp2_with fail;go_roundg (gk-1)
    case measure=>omega
    case rel=>exact⟨j+1,y,v',by omega,by omega,by go_num,by rw[hLn.out];exact hJ3,hB3⟩
   ·have hLn:Hid (TL (j+1)=TL j++[{r with pa:=y}]):=zhd (by rw[hnx.out,zm];rfl);clear h11;go_upto_region 15 with fail;refine zR base qs q8 v' {r with pa:=y} (L++TL j) (ez F R pp xs.length cc bl can pa ha fu occ v') w3 _ _ rfl rfl rfl hJ3.s.s hJ3.b hJ3.s.o hJ3.e hJ3.qs (by simp) (by rw[List.length_append];omega) hJ3.s.st.b ?_ _ rfl;intro f4 w4 v4 ho4 hs4 hn4 hb4;have hB4:=hn4.hasO hB3 hgs (aY hJ3.s.o hB3 (by simp));have hJ4:=hJ3.nib hn4 hs4 ho4 hb4;clear ho4 hs4 hn4;simp only[ao];go_simp;go_wp2_with fail;go_roundg (gk-1)
    case measure=>omega
    case rel=>exact⟨j+1,y,v4,by omega,by omega,by go_num,by rw[hLn.out,←List.append_assoc];exact hJ4,hB4⟩
  ·obtain rfl:j=BL.length:=by omega
   go_wp2_with fail;refine hok _ p v' wr ⟨rfl,rfl,rfl,rfl,rfl⟩ (fun i hi=>?_) hJr;rcases(by omega:i=1∨i=2∨i=3∨i=4∨i=5∨i=6∨i=7∨i=13∨i=14∨i=15∨i=16∨i=17∨i=18∨i=19∨i=20∨i=21∨i=22∨i=23∨i=24∨i=25)with rfl|rfl|rfl|rfl|rfl|rfl|rfl|rfl|rfl|rfl|rfl|rfl|rfl|rfl|rfl|rfl|rfl|rfl|rfl|rfl<;>rfl
def tpF(q0:Nat)(q8:Nat)(gn:Nat)(X:Nat→Value):Array Value:=(litB (fun i=>match i with|0=>.pointer (some ⟨q0,0,none⟩)|8=>.pointer (some ⟨q8,0,none⟩)|9=>.int .u8 gn|i=>X i) 0 88).toArray
def tpT(T:Array Value)(q0:Nat)(q8:Nat)(gn:Nat):Prop:=T.size=88∧ofA T 0=.pointer (some ⟨q0,0,none⟩)∧ofA T 8=.pointer (some ⟨q8,0,none⟩)∧ofA T 9=.int .u8 gn
theorem tpT.fr{T:Array Value}{q0:Nat}{q8:Nat}{gn:Nat}(h:tpT T q0 q8 gn):∃ X,T=tpF q0 q8 gn X:=by obtain⟨hs,h0,h8,h9⟩:=h;refine⟨ofA T,(frB T hs).trans (congrArg (fun X=>(litB X 0 88).toArray) (funext fun i=>?_))⟩;split<;>first|assumption|rfl

theorem xb(P:Pos)(r:Ret)(BL:List Int):∀ j,j≤BL.length→tinL P r BL j=((BL.take j).map (fun pa=>({r with pa:=pa}:Ret))).filter (mayW P):=by
 intro j;induction j with
 | zero=>intro _;simp[tinL]
 | succ j ih =>
  intro hj;have hj2:j<BL.length:=by omega
  rw[List.take_succ_eq_append_getElem hj2,List.map_append,List.filter_append,←ih (by omega)];simp only[tinL,List.map_cons,List.map_nil,List.filter_cons,List.filter_nil,List.getElem?_eq_getElem hj2,Option.getD_some];split
  ·rfl
  ·simp
theorem yl(P:Pos)(m:Mv)(cp at_:Int)(k:Nat)(r:Ret)(hr:r.mv=m∧r.cp=cp∧r.at_=at_∧r.ca=k)(BL:List Int)(hBL:BL=behL P.F P.R (befW P r).xs (!P.bl) (befW P r).ha)(z1:clrN k (eB P m)=clrN P.ca.toNat (eB P m))(z2:clrN P.ca.toNat k=0):
  jQ P m cp at_ k=tinL P r BL BL.length:=by
 obtain⟨mv,c1,a1,k1,p1⟩:=r;obtain⟨h1,h2,h3,h4⟩:=hr;simp only at h1 h2 h3 h4;subst h1 h2 h3 h4;rw[xb _ _ _ _ (Nat.le_refl _),List.take_length,hBL];unfold jQ;rw[if_neg (by rw[z1,z2];simp)];rfl
theorem xp(P:Pos)(m:Mv)(cp at_:Int)(k:Nat)(h:clrN k (eB P m)≠clrN P.ca.toNat (eB P m)∨clrN P.ca.toNat k≠0):jQ P m cp at_ k=[]:=if_pos h
theorem vZ(F R:Nat)(xs:List Int)(bl:Bool)(ha:Int)(hF:F≤8):(behL F R xs bl ha).length≤9∧0<(behL F R xs bl ha).length:=by
 have hp:∀(K:Nat) (u:Int) (k:Nat),0<(bhL F K u xs bl k).length:=by
  intro K u k;induction k with
  | zero=>simp[bhL]
  | succ k ih =>
   simp only[bhL];split
   ·simp
   ·exact ih
 unfold behL;split
 ·simp
 ·exact⟨Nat.le_trans (ma _ _ _ _ _ _) (by omega),hp _ _ _⟩
theorem pn(P:Pos)(m:Mv):eB P m<256:=by
 unfold eB;split
 ·exact iG _ _
 ·decide
theorem zA(F R:Nat)(xs:List Int)(bl:Bool)(can:Nat)(pa ha fu:Int)(pp:Option Addr)(cc occ:Nat)(hH:fA F R xs can ha fu)(base qs q8 gn:Nat)(v0:Value)(w:World)(m:Mv)(cp at_:Int)(a b:Nat)(hra:m.fr=a)(hrb:m.tg=b)(hla:a<xs.length)(hlb:b<xs.length)(hgn:gn=eB ⟨F,R,xs,bl,can,pa,ha,fu⟩ m)
  (T:Array Value) (hT:tpT T qs q8 gn) (v:Value) (L:List Ret) (hl:L.length≤900000000) (W:World)
  (hJ:TrJ base qs F R xs bl can pa ha fu pp cc occ v0 w q8 ⟨m,cp,at_,0,0⟩ v L W) (Rs:Ending→World→Prop)
  (hok:∀ r v' w',TrJ base qs F R xs bl can pa ha fu pp cc occ v0 w q8 r v' (L++db ⟨F,R,xs,bl,can,pa,ha,fu⟩ m cp at_) w'→Rs (.returned (.tuple #[])) w')
  (cd:Code) (hcd:Tryz.f90.body.map (aq 4)=some cd):cd.wp Tryz.prog (bodyPost Tryz.prog Tryz.f90 Rs) {tmps:=T,defers:=[]} W:=by
 obtain rfl:=Option.some.inj ((show Tryz.f90.body.map (aq 4)=some _ from rfl).symm.trans hcd);clear hcd;simp only[aq];obtain⟨X,rfl⟩:=hT.fr;clear hT;dsimp only[tpF,litB,Nat.reduceAdd];obtain⟨TL,hTL⟩:∃ TL,TL=lZ ⟨F,R,xs,bl,can,pa,ha,fu⟩ m cp at_:=⟨_,rfl⟩;have hz0:TL 0=[]:=by rw[hTL];rfl
 have hz16:TL 16=db ⟨F,R,xs,bl,can,pa,ha,fu⟩ m cp at_:=by rw[hTL];rfl
 have hnx0:∀ k,TL (k+1)=TL k++jQ ⟨F,R,xs,bl,can,pa,ha,fu⟩ m cp at_ k:=fun k=>by rw[hTL];rfl
 have hll:∀ k,(TL k).length≤9*k:=fun k=>by rw[hTL];exact nh _ _ _ _ hH.hF.2 k
 rw[←hz16]at hok;clear hz16;replace hTL:=True.intro;have hgl:gn<256:=by rw[hgn];exact pn _ _
 replace hgn:=zhd hgn;go_wp2_with fail;go_loopg [26] 17 (fun q iv wr=>∃(k:Nat) (r:Ret) (v':Value),q+k=17∧k≤16∧iv=.int .u8 k∧(r.mv=m∧r.cp=cp∧r.at_=at_)∧TrJ base qs F R xs bl can pa ha fu pp cc occ v0 w q8 r v' (L++TL k) wr)
 case atStart=>exact⟨0,⟨m,cp,at_,0,0⟩,v,by omega,Nat.zero_le _,rfl,⟨rfl,rfl,rfl⟩,by rw[hz0,List.append_nil];exact hJ⟩
 case round =>
  obtain⟨k,r,v',hq,hk16,rfl,hr,hJr⟩:=hrel;by_cases hlt:k<16
  ·have hnx:=hnx0 k;have hlk:=hll k;have e1:=u8_andNot_nat k gn (by omega) (by omega);have e2:=u8_andNot_nat can gn hH.ca (by omega);have e3:=u8_andNot_nat can k hH.ca (by omega);have hno:=xp ⟨F,R,xs,bl,can,pa,ha,fu⟩ m cp at_ k;have hye:=fun BL z1 z2 h=>yl ⟨F,R,xs,bl,can,pa,ha,fu⟩ m cp at_ k {r with ca:=k} ⟨hr.1,hr.2.1,hr.2.2,rfl⟩ BL h z1 z2
   rw[←hgn.out]at hno hye;have ec:(⟨F,R,xs,bl,can,pa,ha,fu⟩:Pos).ca.toNat=can:=Int.toNat_natCast can;rw[ec]at hno hye;change bits .andNot .u8 (k:Int) (gn:Int)=((clrN k gn:Nat):Int)at e1;change bits .andNot .u8 (can:Int) (gn:Int)=((clrN can gn:Nat):Int)at e2;change bits .andNot .u8 (can:Int) (k:Int)=((clrN can k:Nat):Int)at e3;generalize clrN k gn=A1 at *;generalize clrN can gn=A2 at *;generalize clrN can k=A3 at *;have p0:∀ j,wr.cell? ⟨qs,j,none⟩=(#[.int .i64 F,.int .i64 R,.slice pp xs.length cc,.bool bl,.int .u8 can,.int .i64 pa,.int .i64 ha,.int .i64 fu,.int .u64 occ,v']:Array Value)[j]?:=hJr.s.s.cells;have l0:=hJr.s.s.lt;have c5:=hJr.b.cells 5;have f5:=hJr.b.frozen 5;have l8:=hJr.b.lt;clear hnx0 hll hJ;replace hnx:=zhd hnx;replace hra:=zhd hra;replace hrb:=zhd hrb;replace hr:=zhd hr;rcases z1:((A1:Int) != A2)with _|_
   ·rcases z2:((A3:Int) != 0)with _|_
    ·have hye:=fun BL h=>hye BL (by simp at z1;omega) (by simp at z2;omega) h
     clear hno;go_upto_region 10 with fail;rename_i k1 hk1 k0 hk0;replace hk0:=zhd hk0;have hJ2:=hJr.set5 (k:Int);generalize wr.setCell ⟨q8,5,none⟩ (.int .u8 (k:Int))=w2 at *;clear p0 l0 c5 f5 l8 e1 e2 e3 hJr;have hra2:({r with ca:=(k:Int)}:Ret).mv.fr=a:=(congrArg Mv.fr hr.out.1).trans hra.out;have hrb2:({r with ca:=(k:Int)}:Ret).mv.tg=b:=(congrArg Mv.tg hr.out.1).trans hrb.out;refine zU (r:={ r with ca:=(k:Int)}) a b hra2 hrb2 hla hlb hH.hF hH.hR hH.len hH.h6 hH.ha hH.fu w2 hJ2.s.st.g hJ2.s.st.x hJ2.s.s hJ2.b _ _ rfl rfl (by simp) ?_ _ rfl;intro f w3 BL hBLe hb3 hown3 h8 h9;have hJ3:=hJ2.call hb3;have hte:=hye BL hBLe;obtain⟨hb9,hb0⟩:=vZ F R (befW ⟨F,R,xs,bl,can,pa,ha,fu⟩ {r with ca:=(k:Int)}).xs (!bl) (befW ⟨F,R,xs,bl,can,pa,ha,fu⟩ {r with ca:=(k:Int)}).ha hH.hF.2;rw[←hBLe]at hb9 hb0;replace hBLe:=True.intro;have hLn:Hid (TL (k+1)=TL k++tinL ⟨F,R,xs,bl,can,pa,ha,fu⟩ {r with ca:=(k:Int)} BL BL.length):=zhd (by rw[hnx.out,hte]);clear hye hte;simp only[ao,h8,h9];go_simp;refine hk0.out _ _ ?_;refine zV F R xs bl can pa ha fu pp cc occ hH base qs q8 gn k v0 w {r with ca:=(k:Int)} a b hra2 hrb2 hla hlb ⟨by show(0:Int)≤(k:Int);omega,by show(k:Int)<256;omega⟩ BL hb9 hb0 (f 7) _ ?_ v' (L++TL k) (by rw[List.length_append];omega) w3 _ hown3 hJ3 _ ?_ _ rfl
     ·exact⟨rfl,rfl,rfl,rfl,rfl,rfl,rfl,rfl⟩
     ·intro T' p v4 w4 hT4 hX4 hJ4;obtain⟨X4,rfl⟩:=hT4.fr;have x1:X4 1=X 1:=hX4 1 (by omega);have x2:X4 2=X 2:=hX4 2 (by omega);have x3:X4 3=X 3:=hX4 3 (by omega);have x4:X4 4=X 4:=hX4 4 (by omega);have x5:X4 5=X 5:=hX4 5 (by omega);have x6:X4 6=X 6:=hX4 6 (by omega);have x7:X4 7=X 7:=hX4 7 (by omega);have x13:X4 13=X 13:=hX4 13 (by omega);have x14:X4 14=X 14:=hX4 14 (by omega);have x15:X4 15=X 15:=hX4 15 (by omega);have x16:X4 16=X 16:=hX4 16 (by omega);have x17:X4 17=X 17:=hX4 17 (by omega);have x18:X4 18=X 18:=hX4 18 (by omega);have x19:X4 19=X 19:=hX4 19 (by omega);have x20:X4 20=X 20:=hX4 20 (by omega);have x21:X4 21=X 21:=hX4 21 (by omega);have x22:X4 22=X 22:=hX4 22 (by omega);have x23:X4 23=X 23:=hX4 23 (by omega);have x24:X4 24=X 24:=hX4 24 (by omega);have x25:X4 25=X 25:=hX4 25 (by omega);clear hk0 hown3 h8 h9;dsimp only[toF,litB,Nat.reduceAdd];simp only[x1,x2,x3,x4,x5,x6,x7,x13,x14,x15,x16,x17,x18,x19,x20,x21,x22,x23,x24,x25];clear x1 x2 x3 x4 x5 x6 x7 x13 x14 x15 x16 x17 x18 x19 x20 x21 x22 x23 x24 x25;go_simp;go_wp2_with fail;go_roundg (gk-1)
      case measure=>omega
      case rel=>exact⟨k+1,{r with ca:=(k:Int),pa:=p},v4,by omega,by omega,by go_num,hr.out,by rw[hLn.out,←List.append_assoc];exact hJ4⟩
    ·have hLn:Hid (TL (k+1)=TL k):=zhd (by rw[hnx.out,hno (.inr (by simp at z2;omega)),List.append_nil]);clear hno hye;go_wp2_with fail;go_roundg (gk-1)
     case measure=>omega
     case rel=>exact⟨k+1,r,v',by omega,by omega,by go_num,hr.out,by rw[hLn.out];exact hJr⟩
   ·have hLn:Hid (TL (k+1)=TL k):=zhd (by rw[hnx.out,hno (.inl (by simp at z1;omega)),List.append_nil]);clear hno hye;go_wp2_with fail;go_roundg (gk-1)
    case measure=>omega
    case rel=>exact⟨k+1,r,v',by omega,by omega,by go_num,hr.out,by rw[hLn.out];exact hJr⟩
  ·obtain rfl:k=16:=by omega
   go_wp2_with fail;go_end0
   exact hok r v' wr hJr
theorem ua(F R:Nat)(w:World):(binOp .neq 23 (.agg #[.int .i64 F,.int .i64 R]) (.agg #[.int .i64 8,.int .i64 8])).run Tryz.prog w=.ok (.bool (!(((F:Int)==8)&&((R:Int)==8)))) w:=by simp[go_sem];by_cases h1:(F:Int)=8<;>by_cases h2:(R:Int)=8<;>simp[h1,h2]
theorem gQ(F R:Nat)(xs:List Int)(bl:Bool)(can:Nat)(pa ha fu:Int)(pp:Option Addr)(cc occ:Nat)(hH:fA F R xs can ha fu)(base qs:Nat)(v:Value)(L:List Ret)(hl:L.length≤900000000)(m:Mv)(cp at_:Int)(a b:Nat)(hra:m.fr=a)(hrb:m.tg=b)(hla:a<xs.length)(hlb:b<xs.length)(w:World)(hS:Sea base qs F R xs bl can pa ha fu pp cc occ v L w):
  Clz 90 #[.pointer (some ⟨qs,0,none⟩),.agg m.cs.toArray,.int .i8 cp,.int .i64 at_] w fun e w'=>e=.returned (.tuple #[])∧∃ v',Sea base qs F R xs bl can pa ha fu pp cc occ v' (L++db ⟨F,R,xs,bl,can,pa,ha,fu⟩ m cp at_) w'∧Nib qs w w' v v':=by
 obtain⟨W1,hW1⟩:∃ W1,W1=(w.alloc (.cells m.cs.toArray 40)).alloc (.cells (⟨m,cp,at_,0,0⟩:Ret).cs.toArray 42):=⟨_,rfl⟩;have hB:Bw w W1:=by subst hW1;exact(ae w _).alloc (by simp) _
 have hM:ac W1 w.heap.size (.cells m.cs.toArray 40 (0,0)):=by subst hW1;exact(ac.new w _).alloc _
 have hR8:ac W1 (w.heap.size+1) (.cells (⟨m,cp,at_,0,0⟩:Ret).cs.toArray 42 (0,0)):=by subst hW1;exact ac.new' _ _ (by simp)
 have hqs:=hS.s.lt;have hJ:TrJ base qs F R xs bl can pa ha fu pp cc occ v w (w.heap.size+1) ⟨m,cp,at_,0,0⟩ v L W1:=⟨hS.call hB,Nib.of_below qs hB v,fun e=>by have:=(hS.o.lt _ e).2;omega,hR8,by omega,Nat.le_trans hS.st.b (by omega),by omega⟩;have hlo:=fun W h=>pZ m W h
 have hgn:eB ⟨F,R,xs,bl,can,pa,ha,fu⟩ m=if F=8∧R=8 then lostM m else 0:=rfl
 have hlt:=pn ⟨F,R,xs,bl,can,pa,ha,fu⟩ m;obtain⟨gn,hg⟩:∃ gn,gn=eB ⟨F,R,xs,bl,can,pa,ha,fu⟩ m:=⟨_,rfl⟩;rw[←hg]at hgn hlt;replace hg:=zhd hg;generalize lostM m=LM at *;replace hra:=zhd hra;replace hrb:=zhd hrb;replace hW1:=zhd hW1;replace hgn:=zhd hgn;go_enter Tryz.func90,Tryz.ntmps90;go_upto_region 2 with fail;change Code.wp _ _ _ _ ((w.alloc (.cells m.cs.toArray 40)).alloc (.cells (⟨m,cp,at_,0,0⟩:Ret).cs.toArray 42));rw[←hW1.out];have⟨c0,l0⟩:=hM.cl;go_wp2_with fail;refine(hlo W1 hJ.s.st.g).mono ?_;rintro e W2 ⟨rfl,hb2⟩;have hJ2:=hJ.call hb2;clear hJ c0 l0 hM hlo;go_upto_region 3 with fail;rename_i k0 hk0 k1 hk1;have g0:=cell_regrown hJ2.s.st.g.2.2.2.1;have g1:=cell_regrown hJ2.s.st.g.2.2.2.2;have h8:=ua F R;obtain⟨B8,hB8⟩:∃ B8,B8=(!(((F:Int)==8)&&((R:Int)==8))):=⟨_,rfl⟩;rw[←hB8]at h8;replace hB8:=zhd hB8;have p0:∀ d os j,(grow (redrawn W2 d) os).cell? ⟨qs,j,none⟩=(#[.int .i64 F,.int .i64 R,.slice pp xs.length cc,.bool bl,.int .u8 can,.int .i64 pa,.int .i64 ha,.int .i64 fu,.int .u64 occ,v]:Array Value)[j]?:=am hJ2.s.s;refine ag (by kernel_rfl) (by kernel_rfl) ?_;repeat(go_big_quiet_step (fail))
 refine wpQuiet_nil ?_;intro W3 hb3;have hJ3:=hJ2.call hb3;clear g0 g1 p0 h8;have hfin:∀ T,tpT T qs (w.heap.size+1) gn→∀ cd,Tryz.f90.body.map (aq 4)=some cd→cd.wp Tryz.prog (bodyPost Tryz.prog Tryz.f90 fun e w'=>e=.returned (.tuple #[])∧∃ v',Sea base qs F R xs bl can pa ha fu pp cc occ v' (L++db ⟨F,R,xs,bl,can,pa,ha,fu⟩ m cp at_) w'∧Nib qs w w' v v') {tmps:=T,defers:=[]} W3:=fun T hT cd hcd=>zA F R xs bl can pa ha fu pp cc occ hH base qs (w.heap.size+1) gn v w m cp at_ a b hra.out hrb.out hla hlb hg.out T hT v L hl W3 hJ3 _ (fun r v' w' h=>⟨rfl,v',h.s,h.n⟩) cd hcd
 cases B8
 ·have e:gn=LM:=by
   have h1:=hB8.out;have h2:=hgn.out;simp at h1;rw[if_pos (by omega)]at h2;exact h2
  subst e;replace hk0:=zhd hk0;go_wp2_with fail;refine hk0.out _ _ ?_;refine hfin _ ⟨rfl,rfl,rfl,rfl⟩ _ rfl
 ·have e:gn=0:=by
   have h1:=hB8.out;have h2:=hgn.out;simp at h1;rw[if_neg (by omega)]at h2;exact h2
  subst e;replace hk0:=zhd hk0;go_wp2_with fail;refine hk0.out _ _ ?_;refine hfin _ ⟨rfl,rfl,rfl,rfl⟩ _ rfl
def lV(base qs:Nat)(F R:Nat)(xs:List Int)(bl:Bool)(can:Nat)(pa ha fu:Int)(pp:Option Addr)(cc occ:Nat)(v:Value)(L:List Ret)(w:World)(e:Ending)(w':World):Prop:=e=.returned (.tuple #[])∧∃ v',Sea base qs F R xs bl can pa ha fu pp cc occ v' L w'∧Nib qs w w' v v'
theorem iN(F R:Nat)(xs:List Int)(bl:Bool)(can:Nat)(pa ha fu:Int)(pp:Option Addr)(cc occ:Nat)(hH:fA F R xs can ha fu)(base qs:Nat)(v:Value)(L:List Ret)(hl:L.length≤899999000)(m:Mv)(a b:Nat)(hra:m.fr=a)(hrb:m.tg=b)(hla:a<xs.length)(hlb:b<xs.length)(w:World)(hS:Sea base qs F R xs bl can pa ha fu pp cc occ v L w):
  Clz 91 #[.pointer (some ⟨qs,0,none⟩),.agg m.cs.toArray] w (lV base qs F R xs bl can pa ha fu pp cc occ v (L++eC ⟨F,R,xs,bl,can,pa,ha,fu⟩ m 5) w):=by
 unfold lV;have hB:=ae w (.cells m.cs.toArray 40);have hM:=ac.new w (.cells m.cs.toArray 40);have hqs:=hS.s.lt;have hS1:=hS.call hB;have hN1:Nib qs w (w.alloc (.cells m.cs.toArray 40)) v v:=Nib.of_below qs hB v;have hl1:(w.alloc (.cells m.cs.toArray 40)).heap.size=w.heap.size+1:=by simp
 obtain⟨CL,hCL⟩:∃ CL,CL=eC ⟨F,R,xs,bl,can,pa,ha,fu⟩ m:=⟨_,rfl⟩;have hz0:CL 0=[]:=by rw[hCL];rfl
 have hnx0:∀ k,CL (k+1)=CL k++db ⟨F,R,xs,bl,can,pa,ha,fu⟩ m (pcI ((k+1:Nat):Int) bl) m.tg:=fun k=>by rw[hCL];rfl
 have hll:∀ k,(CL k).length≤144*k:=fun k=>by rw[hCL];exact iA _ _ hH.hF.2 k
 rw[←hCL];replace hCL:=True.intro;replace hra:=zhd hra;replace hrb:=zhd hrb;go_enter Tryz.func91,Tryz.ntmps91;go_upto_region 1 with fail;change Code.wp _ _ _ _ (w.alloc (.cells m.cs.toArray 40));generalize w.alloc (.cells m.cs.toArray 40)=W1 at *;go_wp2_with fail;go_loopg [4] 6 (fun q iv wr=>∃(k:Nat) (v':Value),q+k=6∧k≤5∧iv=.int .i8 ((k+1:Nat):Int)∧Sea base qs F R xs bl can pa ha fu pp cc occ v' (L++CL k) wr∧Nib qs w wr v v'∧ac wr w.heap.size (.cells m.cs.toArray 40 (0,0)))
 case atStart=>exact⟨0,v,by omega,Nat.zero_le _,rfl,by rw[hz0,List.append_nil];exact hS1,hN1,hM⟩
 case round =>
  clear hS1 hM hB;obtain⟨k,v',hq,hk5,rfl,hSr,hNr,hMr⟩:=hrel;by_cases hlt:k<5
  ·have hnx:=hnx0 k;have hlk:=hll k;have hki:((k+1:Nat):Int)≤5:=by omega
   have hk2:((k+1:Nat):Int)+1=((k+1+1:Nat):Int):=by omega
   obtain⟨kk,hkk⟩:∃ kk:Int,kk=((k+1:Nat):Int):=⟨_,rfl⟩;rw[←hkk]at hnx hki hk2 ⊢;have hkb:-128<kk∧kk≤127:=by omega
   have htr:=fun W h=>gQ F R xs bl can pa ha fu pp cc occ hH base qs v' (L++CL k) (by rw[List.length_append];omega) m (pcI kk bl) m.tg a b hra.out hrb.out hla hlb W h
   replace hkk:=zhd hkk;replace hk2:=zhd hk2;replace hnx:=zhd hnx;go_upto_region 4 with fail;have p0:∀ d os j,(grow (redrawn wr d) os).cell? ⟨qs,j,none⟩=(#[.int .i64 F,.int .i64 R,.slice pp xs.length cc,.bool bl,.int .u8 can,.int .i64 pa,.int .i64 ha,.int .i64 fu,.int .u64 occ,v']:Array Value)[j]?:=am hSr.s;have p1:∀ d os j,(grow (redrawn wr d) os).cell? ⟨w.heap.size,j,none⟩=(#[.int .i64 m.fr,.int .i64 m.tg,.int .i8 m.pr]:Array Value)[j]?:=am hMr;have t1:=aJ (w:=wr) (fun W=>fS kk bl hkb W);refine aN 11 (by kernel_rfl) (by kernel_rfl) ?_;simp only[List.take_succ_cons,List.take_zero,List.drop_succ_cons,List.drop_zero];repeat(go_big_quiet_step (first|with_reducible exact t1 _ _|fail))
   refine wpQuiet_nil ?_;intro w2 hb2;clear p0 p1 t1;go_wp2_with fail;refine(htr w2 (hSr.call hb2)).mono ?_;rintro e w3 ⟨rfl,v3,hS3,hN3⟩;have hMo:=hMr.call hb2;have hM3:=hN3.hasO hMo (by omega) (aY (hSr.call hb2).o hMo (by simp));have hN:=(hNr.trans (Nib.of_below qs hb2 v')).trans hN3;clear htr hSr hNr hMr hMo;go_wp2_with fail;go_roundg (gk-1)
   case measure=>omega
   case rel=>exact⟨k+1,v3,by omega,by omega,by rw[hk2.out],by rw[hnx.out,←List.append_assoc];exact hS3,hN,hM3⟩
  ·obtain rfl:k=5:=by omega
   go_wp2_with fail;go_end0
   exact⟨rfl,v',hSr,hNr⟩
def paF(q0:Nat)(tg:Nat)(pr:Int)(f0:Nat)(r0:Nat)(d:Int)(X:Nat→Value):Array Value:=(litB (fun i=>match i with|0=>.pointer (some ⟨q0,0,none⟩)|1=>.int .i64 tg|2=>.int .i8 pr|7=>.int .i64 f0|8=>.int .i64 r0|10=>.int .i64 d|i=>X i) 0 125).toArray
def paT(T:Array Value)(q0:Nat)(tg:Nat)(pr:Int)(f0:Nat)(r0:Nat)(d:Int):Prop:=T.size=125∧ofA T 0=.pointer (some ⟨q0,0,none⟩)∧ofA T 1=.int .i64 tg∧ofA T 2=.int .i8 pr∧ofA T 7=.int .i64 f0∧ofA T 8=.int .i64 r0∧ofA T 10=.int .i64 d
theorem paT.fr{T:Array Value}{q0:Nat}{tg:Nat}{pr:Int}{f0:Nat}{r0:Nat}{d:Int}(h:paT T q0 tg pr f0 r0 d):∃ X,T=paF q0 tg pr f0 r0 d X:=by obtain⟨hs,h0,h1,h2,h7,h8,h10⟩:=h;refine⟨ofA T,(frB T hs).trans (congrArg (fun X=>(litB X 0 125).toArray) (funext fun i=>?_))⟩;split<;>first|assumption|rfl

theorem oq{oc x:Nat}(ho:oc<2^64):(bits .and .u64 ((oc:Int)/2^x) 1==0)=!oc.testBit x:=by
 have h1:oc/2^x≤oc:=Nat.div_le_self _ _;rw[gA,show(1:Int)=((1:Nat):Int)from rfl,u64_and_nat _ _ (by omega) (by decide),nat_mask1,Nat.testBit_eq_decide_div_mod_eq];by_cases h:oc/2^x%2=1
 ·rw[h];rfl
 ·have:oc/2^x%2=0:=by omega
  rw[this];rfl
theorem uO(sd:Bool):∀ j,j<4→(-1≤((fW sd)[j]?.getD (0,0)).1∧((fW sd)[j]?.getD (0,0)).1≤1)∧(-2≤((fW sd)[j]?.getD (0,0)).2∧((fW sd)[j]?.getD (0,0)).2≤2)∧(((fW sd)[j]?.getD (0,0)).1≠0→((fW sd)[j]?.getD (0,0)).2=if sd then 1 else -1):=by intro j hj;rcases(by omega:j=0∨j=1∨j=2∨j=3)with rfl|rfl|rfl|rfl<;>cases sd<;>decide
section
variable {P:Pos} {tg:Nat} {pr:Int} {x:Int×Int} {fr:Nat}
theorem vP(h:onB P.F P.R ((tg%P.F:Nat)+x.1) ((tg/P.F:Nat)+x.2)=false):fq P tg pr x=[]:=by unfold fq;simp only;rw[if_pos h]
theorem ux(h:onB P.F P.R ((tg%P.F:Nat)+x.1) ((tg/P.F:Nat)+x.2)=true)(hn:((tg%P.F:Nat)+x.1:Int)+((tg/P.F:Nat)+x.2)*P.F=fr)(ho:P.occ.testBit fr=true):fq P tg pr x=[]:=by unfold fq;simp only;rw[if_neg (by rw[h];decide),hn,Int.toNat_natCast,if_pos ho]
theorem uJ(h:onB P.F P.R ((tg%P.F:Nat)+x.1) ((tg/P.F:Nat)+x.2)=true)(hn:((tg%P.F:Nat)+x.1:Int)+((tg/P.F:Nat)+x.2)*P.F=fr)(ho:P.occ.testBit fr=false)(hx:x.1=0):fq P tg pr x=db P ⟨fr,tg,pr⟩ 0 (-1):=by unfold fq;simp only;rw[if_neg (by rw[h];decide),hn,Int.toNat_natCast,if_neg (by simp[ho]),if_pos hx]
theorem vS(h:onB P.F P.R ((tg%P.F:Nat)+x.1) ((tg/P.F:Nat)+x.2)=true)(hn:((tg%P.F:Nat)+x.1:Int)+((tg/P.F:Nat)+x.2)*P.F=fr)(ho:P.occ.testBit fr=false)(hx:x.1≠0){be:Nat}(hb:((tg%P.F:Nat):Int)+((tg/P.F:Nat)+x.2)*P.F=be):
  fq P tg pr x=eC P ⟨fr,tg,pr⟩ 5++(if P.occ.testBit be then []else db P ⟨fr,tg,pr⟩ (pcI 1 P.bl) be):=by
 unfold fq;simp only;rw[if_neg (by rw[h];decide),hn,Int.toNat_natCast,if_neg (by simp[ho]),if_neg hx,hb,Int.toNat_natCast]
end
theorem xO(F R:Nat)(xs:List Int)(bl:Bool)(can:Nat)(pa ha fu:Int)(pp:Option Addr)(cc occ:Nat)(hH:fA F R xs can ha fu)(hocc:occ=(⟨F,R,xs,bl,can,pa,ha,fu⟩:Pos).occ)(ho64:occ<2^64)(base qs:Nat)(v0:Value)(w:World)(tg:Nat)(pr d:Int)(htg:tg<xs.length)(hd:d=if !bl then 1 else -1)(hqw:qs<w.heap.size)
  (T:Array Value) (hT:paT T qs tg pr (tg%F) (tg/F) d) (v:Value) (L:List Ret) (hl:L.length≤899990000) (W:World) (hS:Sea base qs F R xs bl can pa ha fu pp cc occ v L W) (hN:Nib qs w W v0 v) (Rs:Ending→World→Prop)
  (hok:∀ v' w',Sea base qs F R xs bl can pa ha fu pp cc occ v' (L++eH ⟨F,R,xs,bl,can,pa,ha,fu⟩ tg pr 4) w'→Nib qs w w' v0 v'→Rs (.returned (.tuple #[])) w')
  (cd:Code) (hcd:Tryz.f31.body.map (aq 4)=some cd):cd.wp Tryz.prog (bodyPost Tryz.prog Tryz.f31 Rs) {tmps:=T,defers:=[]} W:=by
 obtain rfl:=Option.some.inj ((show Tryz.f31.body.map (aq 4)=some _ from rfl).symm.trans hcd);clear hcd;simp only[aq];obtain⟨X,rfl⟩:=hT.fr;clear hT;dsimp only[paF,litB,Nat.reduceAdd];obtain⟨PK,hPK⟩:∃ PK,PK=eH ⟨F,R,xs,bl,can,pa,ha,fu⟩ tg pr:=⟨_,rfl⟩;have hz0:PK 0=[]:=by rw[hPK];rfl
 have hnx0:∀ k,PK (k+1)=PK k++fq ⟨F,R,xs,bl,can,pa,ha,fu⟩ tg pr ((fW (!bl))[k]?.getD (0,0)):=fun k=>by rw[hPK];rfl
 have hll:∀ k,(PK k).length≤864*k:=fun k=>by rw[hPK];exact iw _ _ _ hH.hF.2 k
 rw[←hPK]at hok;replace hPK:=True.intro;have h64:F*R≤64:=Nat.mul_le_mul hH.hF.2 hH.hR.2;have hlen:=hH.len;obtain⟨ha64,ha0,ha1⟩:=bU hH.hF hH.hR (by rw[←hlen];exact htg);have hr0n:(0:Int)≤((tg/F:Nat):Int):=Int.natCast_nonneg _;have hr0b:((tg/F:Nat):Int)<8:=by have:=hH.hR;omega
 have hf0b:((tg%F:Nat):Int)<8:=by have:=hH.hF;omega
 have hf0n:(0:Int)≤((tg%F:Nat):Int):=Int.natCast_nonneg _;have hdb:-1≤d∧d≤1:=by rw[hd];split<;>omega
 have hst:∀ W g,ac W g (.cells #[.int .i64 0,.int .i64 d,.int .i64 0,.int .i64 (2*d),.int .i64 (-1),.int .i64 d,.int .i64 1,.int .i64 d] 122 (0,0))→cg W g 0 (fW (!bl)):=fun W g h=>⟨h.lt,fun j hj=>by
  have hj4:j<4:=hj;have e:d=(if !bl then 1 else -1):=hd;rcases(by omega:j=0∨j=1∨j=2∨j=3)with rfl|rfl|rfl|rfl
  ·exact⟨h.cells 0,(h.cells 1).trans (by rw[e];rfl)⟩
  ·exact⟨h.cells 2,(h.cells 3).trans (by rw[e];rfl)⟩
  ·exact⟨h.cells 4,(h.cells 5).trans (by rw[e];rfl)⟩
  ·exact⟨h.cells 6,(h.cells 7).trans (by rw[e];rfl)⟩⟩
 have hpf:=uO (!bl);rw[←hd]at hpf;have hon:onB F R (tg%F:Nat) (tg/F:Nat)=true:=by have h1:tg%F<F:=Nat.mod_lt _ (by have:=hH.hF;omega);have h2:tg/F<R:=Nat.div_lt_of_lt_mul (by rw[←hlen];exact htg);unfold onB;simp;omega
 have hoff:=fun x h=>vP (P:=⟨F,R,xs,bl,can,pa,ha,fu⟩) (tg:=tg) (pr:=pr) (x:=x) h
 have hoc:=fun x fr h hn ho=>ux (P:=⟨F,R,xs,bl,can,pa,ha,fu⟩) (tg:=tg) (pr:=pr) (x:=x) (fr:=fr) h hn ho
 have hfw:=fun x fr h hn ho hx=>uJ (P:=⟨F,R,xs,bl,can,pa,ha,fu⟩) (tg:=tg) (pr:=pr) (x:=x) (fr:=fr) h hn ho hx
 have hcp:=fun x fr h hn ho hx be hb=>vS (P:=⟨F,R,xs,bl,can,pa,ha,fu⟩) (tg:=tg) (pr:=pr) (x:=x) (fr:=fr) h hn ho hx (be:=be) hb
 rw[←hocc]at hoc hfw hcp;replace hocc:=zhd hocc;replace hlen:=zhd hlen;replace hd:=zhd hd;generalize hf0:tg%F=f0 at *;generalize hr0:tg/F=r0 at *;replace hf0:=zhd hf0;replace hr0:=zhd hr0;have hS1:=hS.call (ae W (.cells #[.int .i64 0,.int .i64 d,.int .i64 0,.int .i64 (2*d),.int .i64 (-1),.int .i64 d,.int .i64 1,.int .i64 d] 122));have hN1:=hN.trans (Nib.of_below qs (ae W (.cells #[.int .i64 0,.int .i64 d,.int .i64 0,.int .i64 (2*d),.int .i64 (-1),.int .i64 d,.int .i64 1,.int .i64 d] 122)) v);have hA1:=ac.new W (.cells #[.int .i64 0,.int .i64 d,.int .i64 0,.int .i64 (2*d),.int .i64 (-1),.int .i64 d,.int .i64 1,.int .i64 d] 122);have hqW:=Nat.lt_of_lt_of_le hqw hN.size;go_wp2_with fail;generalize W.alloc (.cells #[.int .i64 0,.int .i64 d,.int .i64 0,.int .i64 (2*d),.int .i64 (-1),.int .i64 d,.int .i64 1,.int .i64 d] 122)=W1 at *;go_loopg [47] 5 (fun q iv wr=>∃(j:Nat) (v':Value),q+j=5∧j≤4∧iv=.int .i64 j∧Sea base qs F R xs bl can pa ha fu pp cc occ v' (L++PK j) wr∧Nib qs w wr v0 v'∧ac wr W.heap.size (.cells #[.int .i64 0,.int .i64 d,.int .i64 0,.int .i64 (2*d),.int .i64 (-1),.int .i64 d,.int .i64 1,.int .i64 d] 122 (0,0)))
 case atStart=>exact⟨0,v,by omega,Nat.zero_le _,rfl,by rw[hz0,List.append_nil];exact hS1,hN1,hA1⟩
 case round =>
  clear hS hN hS1;obtain⟨j,v',hq,hj4,rfl,hSr,hNr,hAr⟩:=hrel;by_cases hlt:j<4
  ·have hnx:=hnx0 j;have hlj:=hll j;have hji:(j:Int)<4:=by omega
   obtain⟨hc1,hc2⟩:=(hst wr _ hAr).2 j hlt;rw[Nat.zero_add]at hc1 hc2;obtain⟨hx1,hx2,hx3⟩:=hpf j hlt;have hlA:=hAr.lt;generalize (fW (!bl))[j]?.getD (0,0)=x at *;obtain⟨dx,dy⟩:=x;have hoff:=hoff (dx,dy);have hoc:=hoc (dx,dy);have hfw:=hfw (dx,dy);have hcp:=hcp (dx,dy);simp only at hc1 hc2 hx1 hx2 hx3 hoff hoc hfw hcp;have hat:=fun W=>ij F R (f0+dx) (r0+dy) hH.hF hH.hR W
   replace hnx:=zhd hnx;clear hnx0 hll hpf;go_upto_region 8 with fail;have hS2:=hSr.call (ae wr (.cells #[.int .i64 dx,.int .i64 dy] 122));have hN2:=hNr.trans (Nib.of_below qs (ae wr (.cells #[.int .i64 dx,.int .i64 dy] 122)) v');have hD2:=ac.new wr (.cells #[.int .i64 dx,.int .i64 dy] 122);have hA2:=hAr.alloc (.cells #[.int .i64 dx,.int .i64 dy] 122);change Code.wp _ _ _ _ (wr.alloc (.cells #[.int .i64 dx,.int .i64 dy] 122));generalize wr.alloc (.cells #[.int .i64 dx,.int .i64 dy] 122)=w2 at *;have hqg:qs<wr.heap.size:=hSr.s.lt;generalize wr.heap.size=g12 at *;clear hSr hNr hAr hc1 hc2 hlA;have p0:∀ d os j,(grow (redrawn w2 d) os).cell? ⟨qs,j,none⟩=(#[.int .i64 F,.int .i64 R,.slice pp xs.length cc,.bool bl,.int .u8 can,.int .i64 pa,.int .i64 ha,.int .i64 fu,.int .u64 occ,v']:Array Value)[j]?:=am hS2.s;have p1:∀ d os j,(grow (redrawn w2 d) os).cell? ⟨g12,j,none⟩=(#[.int .i64 dx,.int .i64 dy]:Array Value)[j]?:=am hD2;rcases hv:onB F R ((f0:Int)+dx) ((r0:Int)+dy)with _|_
   ·have hLn:Hid (PK (j+1)=PK j):=zhd (by rw[hnx.out,hoff hv,List.append_nil]);have hat0:∀ W,Clz 89 #[.agg #[.int .i64 F,.int .i64 R],.int .i64 ((f0:Int)+dx),.int .i64 ((r0:Int)+dy)] W fun e w'=>e=.returned (.tuple #[.int .i64 0,.int .i64 3])∧Bw W w':=fun W=>by
     have:=hat W;unfold atV at this;rw[hv]at this;exact this
    have t1:=ax (w:=w2) (fun W _=>hat0 W);clear hoff hoc hfw hcp hat;refine ag (by kernel_rfl) (by kernel_rfl) ?_;repeat(go_big_quiet_step (first|with_reducible exact t1 _ _|fail))
    refine wpQuiet_nil ?_;intro w3 hb3;clear p0 p1 t1;go_wp2_with fail;go_roundg (gk-1)
    case measure=>omega
    case rel=>exact⟨j+1,v',by omega,by omega,by go_num,by rw[hLn.out];exact hS2.call hb3,hN2.trans (Nib.of_below qs hb3 v'),hA2.call hb3⟩
   ·obtain⟨fr,hn,hnl⟩:=jv hv;have hoc:=hoc fr hv hn;have hfw:=hfw fr hv hn;have hcp:=hcp fr hv hn;have hat0:∀ W,Clz 89 #[.agg #[.int .i64 F,.int .i64 R],.int .i64 ((f0:Int)+dx),.int .i64 ((r0:Int)+dy)] W fun e w'=>e=.returned (.tuple #[.int .i64 fr,.int .i64 0])∧Bw W w':=fun W=>by
     have:=hat W;unfold atV at this;rw[hv,hn]at this;exact this
    have t1:=ax (w:=w2) (fun W _=>hat0 W);have hfrl:fr<xs.length:=by rw[hlen.out];exact hnl
    have hfr64:(fr:Int)≤64:=by omega
    have c8:=dK (x:=fr) ho64;replace hn:=zhd hn;clear hat;refine ag (by kernel_rfl) (by kernel_rfl) ?_;repeat(go_big_quiet_step (first|with_reducible exact t1 _ _|fail))
    refine wpQuiet_nil ?_;intro w3 hb3;clear p0 p1 t1;have hS3:=hS2.call hb3;have hN3:=hN2.trans (Nib.of_below qs hb3 v');have hA3:=hA2.call hb3;have hD3:=hD2.call hb3;clear hS2 hD2;have q0:∀ j,w3.cell? ⟨qs,j,none⟩=(#[.int .i64 F,.int .i64 R,.slice pp xs.length cc,.bool bl,.int .u8 can,.int .i64 pa,.int .i64 ha,.int .i64 fu,.int .u64 occ,v']:Array Value)[j]?:=hS3.s.cells;have l0:=hS3.s.lt;rcases z2:occ.testBit fr with _|_
    ·rw[z2]at c8;have hfw:=hfw z2;have hcp:=hcp z2;clear hoc;have d0:=hD3.cells 0;have ld:=hD3.lt;rcases z3:(dx==0)with _|_
     ·have hdy:d=dy:=(hx3 (by simpa using z3)).symm;subst hdy;have hcp:=hcp (by simpa using z3);go_upto_region 13 with fail;rename_i k1 hk1;have hS4:=hS3.call (ae w3 (.cells #[.int .i64 fr,.int .i64 tg,.int .i8 pr] 40));have hN4:=hN3.trans (Nib.of_below qs (ae w3 (.cells #[.int .i64 fr,.int .i64 tg,.int .i8 pr] 40)) v');have hA4:=hA3.alloc (.cells #[.int .i64 fr,.int .i64 tg,.int .i8 pr] 40);have hM4:=ac.new w3 (.cells #[.int .i64 fr,.int .i64 tg,.int .i8 pr] 40);change Code.wp _ _ _ _ (w3.alloc (.cells #[.int .i64 fr,.int .i64 tg,.int .i8 pr] 40));generalize w3.alloc (.cells #[.int .i64 fr,.int .i64 tg,.int .i8 pr] 40)=w4 at *;generalize w3.heap.size=g15 at *;clear hS3 hD3 q0 d0 c8;have hA4l:=hA4.lt;have hqA:W.heap.size≠qs:=by omega
      have hqM:g15≠qs:=by omega
      have⟨m0,lm⟩:=hM4.cl;have hca:=iN F R xs bl can pa ha fu pp cc occ hH base qs v' (L++PK j) (by rw[List.length_append];omega) ⟨fr,tg,pr⟩ fr tg rfl rfl hfrl htg w4 hS4;have hneA:=aY hS4.o hA4 (by simp);have hneM:=aY hS4.o hM4 (by simp);have hcl:=iA ⟨F,R,xs,bl,can,pa,ha,fu⟩ ⟨fr,tg,pr⟩ hH.hF.2 5;have hvb:onB F R (f0:Int) ((r0:Int)+d)=true:=by have h1:=fX hv;unfold onB;simp;omega
      obtain⟨be,hb,hbl⟩:=jv hvb;have hcp:=hcp be hb;have hat2:∀ W,Clz 89 #[.agg #[.int .i64 F,.int .i64 R],.int .i64 (f0:Int),.int .i64 ((r0:Int)+d)] W fun e w'=>e=.returned (.tuple #[.int .i64 be,.int .i64 0])∧Bw W w':=fun W=>by
       have:=ij F R f0 (r0+d) hH.hF hH.hR W;unfold atV at this;rw[hvb,hb]at this;exact this
      have hbe64:(be:Int)≤64:=by omega
      have c9:=oq (x:=be) ho64;replace hb:=zhd hb;go_wp2_with fail;refine hca.mono ?_;rintro e w5 ⟨rfl,v5,hS5,hN5⟩;have hA5:=hN5.hasO hA4 hqA hneA;have hM5:=hN5.hasO hM4 hqM hneM;have hN6:=hN4.trans hN5;clear hca hS4 m0 lm;have q5:∀ j,w5.cell? ⟨qs,j,none⟩=(#[.int .i64 F,.int .i64 R,.slice pp xs.length cc,.bool bl,.int .u8 can,.int .i64 pa,.int .i64 ha,.int .i64 fu,.int .u64 occ,v5]:Array Value)[j]?:=hS5.s.cells;have l5:=hS5.s.lt;go_wp2_with fail;refine(hat2 w5).mono ?_;rintro e w6 ⟨rfl,hb6⟩;have hS6:=hS5.call hb6;have hN7:=hN6.trans (Nib.of_below qs hb6 v5);have hA6:=hA5.call hb6;have hM6:=hM5.call hb6;clear hat2 hS5 q5 l5;have q5:∀ j,w6.cell? ⟨qs,j,none⟩=(#[.int .i64 F,.int .i64 R,.slice pp xs.length cc,.bool bl,.int .u8 can,.int .i64 pa,.int .i64 ha,.int .i64 fu,.int .u64 occ,v5]:Array Value)[j]?:=hS6.s.cells;have l5:=hS6.s.lt;rcases z4:occ.testBit be with _|_
      ·rw[z4]at c9 hcp;simp only[Bool.not_false]at c9;go_upto_region 16 with fail;have p0:∀ d os j,(grow (redrawn w6 d) os).cell? ⟨qs,j,none⟩=(#[.int .i64 F,.int .i64 R,.slice pp xs.length cc,.bool bl,.int .u8 can,.int .i64 pa,.int .i64 ha,.int .i64 fu,.int .u64 occ,v5]:Array Value)[j]?:=am hS6.s;have p1:∀ d os j,(grow (redrawn w6 d) os).cell? ⟨g15,j,none⟩=(#[.int .i64 fr,.int .i64 tg,.int .i8 pr]:Array Value)[j]?:=am hM6;have t1:=aJ (w:=w6) (fun W=>fS 1 bl (by decide) W);have htr:=fun W h=>gQ F R xs bl can pa ha fu pp cc occ hH base qs v5 (L++PK j++eC ⟨F,R,xs,bl,can,pa,ha,fu⟩ ⟨fr,tg,pr⟩ 5) (by rw[List.length_append,List.length_append];omega) ⟨fr,tg,pr⟩ (pcI 1 bl) be fr tg rfl rfl hfrl htg W h
       have hLn:Hid (PK (j+1)=PK j++(eC ⟨F,R,xs,bl,can,pa,ha,fu⟩ ⟨fr,tg,pr⟩ 5++db ⟨F,R,xs,bl,can,pa,ha,fu⟩ ⟨fr,tg,pr⟩ (pcI 1 bl) be)):=zhd (by rw[hnx.out,hcp];rfl);have hneA:=aY hS6.o hA6 (by simp);clear hcp c9 hcl q5;refine aN 9 (by kernel_rfl) (by kernel_rfl) ?_;simp only[List.take_succ_cons,List.take_zero,List.drop_succ_cons,List.drop_zero];repeat(go_big_quiet_step (first|with_reducible exact t1 _ _|fail))
       refine wpQuiet_nil ?_;intro w7 hb7;clear p0 p1 t1;go_wp2_with fail;refine(htr w7 (hS6.call hb7)).mono ?_;rintro e w8 ⟨rfl,v8,hS8,hN8⟩;have hA8:=hN8.hasO (hA6.call hb7) hqA hneA;have hN9:=(hN7.trans (Nib.of_below qs hb7 v5)).trans hN8;clear htr hS6;go_wp2_with fail;go_roundg (gk-1)
       case measure=>omega
       case rel=>exact⟨j+1,v8,by omega,by omega,by go_num,by rw[hLn.out,←List.append_assoc,←List.append_assoc];exact hS8,hN9,hA8⟩
      ·rw[z4]at c9 hcp;simp only[Bool.not_true]at c9;have hLn:Hid (PK (j+1)=PK j++eC ⟨F,R,xs,bl,can,pa,ha,fu⟩ ⟨fr,tg,pr⟩ 5):=zhd (by rw[hnx.out,hcp,if_pos rfl,List.append_nil]);clear hcp hcl;go_wp2_with fail;go_roundg (gk-1)
       case measure=>omega
       case rel=>exact⟨j+1,v5,by omega,by omega,by go_num,by rw[hLn.out,←List.append_assoc];exact hS6,hN7,hA6⟩
     ·have hfw:=hfw (by simpa using z3);clear hcp;go_upto_region 12 with fail;have hS4:=hS3.call (ae w3 (.cells #[.int .i64 fr,.int .i64 tg,.int .i8 pr] 40));have hN4:=hN3.trans (Nib.of_below qs (ae w3 (.cells #[.int .i64 fr,.int .i64 tg,.int .i8 pr] 40)) v');have hA4:=hA3.alloc (.cells #[.int .i64 fr,.int .i64 tg,.int .i8 pr] 40);have hM4:=ac.new w3 (.cells #[.int .i64 fr,.int .i64 tg,.int .i8 pr] 40);change Code.wp _ _ _ _ (w3.alloc (.cells #[.int .i64 fr,.int .i64 tg,.int .i8 pr] 40));generalize w3.alloc (.cells #[.int .i64 fr,.int .i64 tg,.int .i8 pr] 40)=w4 at *;generalize w3.heap.size=g15 at *;clear hS3 hD3 q0 d0 c8;have hA4l:=hA4.lt;have hqA:W.heap.size≠qs:=by omega
      have⟨m0,lm⟩:=hM4.cl;have htr:=gQ F R xs bl can pa ha fu pp cc occ hH base qs v' (L++PK j) (by rw[List.length_append];omega) ⟨fr,tg,pr⟩ 0 (-1) fr tg rfl rfl hfrl htg w4 hS4;have hneA:=aY hS4.o hA4 (by simp);have hLn:Hid (PK (j+1)=PK j++db ⟨F,R,xs,bl,can,pa,ha,fu⟩ ⟨fr,tg,pr⟩ 0 (-1)):=zhd (by rw[hnx.out,hfw]);clear hfw;go_wp2_with fail;refine htr.mono ?_;rintro e w5 ⟨rfl,v5,hS5,hN5⟩;have hA5:=hN5.hasO hA4 hqA hneA;have hN6:=hN4.trans hN5;clear htr hS4 m0 lm;go_wp2_with fail;go_roundg (gk-1)
      case measure=>omega
      case rel=>exact⟨j+1,v5,by omega,by omega,by go_num,by rw[hLn.out,←List.append_assoc];exact hS5,hN6,hA5⟩
    ·rw[z2]at c8;have hLn:Hid (PK (j+1)=PK j):=zhd (by rw[hnx.out,hoc z2,List.append_nil]);clear hoc hfw hcp;go_wp2_with fail;go_roundg (gk-1)
     case measure=>omega
     case rel=>exact⟨j+1,v',by omega,by omega,by go_num,by rw[hLn.out];exact hS3,hN3,hA3⟩
  ·obtain rfl:j=4:=by omega
   go_wp2_with fail;go_end0
   exact hok v' wr hSr hNr
theorem mF(F R:Nat)(xs:List Int)(bl:Bool)(can:Nat)(pa ha fu:Int)(pp:Option Addr)(cc occ:Nat)(hH:fA F R xs can ha fu)(hocc:occ=(⟨F,R,xs,bl,can,pa,ha,fu⟩:Pos).occ)(ho64:occ<2^64)(base qs:Nat)(v:Value)(L:List Ret)(hl:L.length≤899990000)(tg:Nat)(pr:Int)(htg:tg<xs.length)(w:World)(hS:Sea base qs F R xs bl can pa ha fu pp cc occ v L w):
  Clz 31 #[.pointer (some ⟨qs,0,none⟩),.int .i64 tg,.int .i8 pr] w (lV base qs F R xs bl can pa ha fu pp cc occ v (L++eH ⟨F,R,xs,bl,can,pa,ha,fu⟩ tg pr 4) w):=by
 have hpl:=fun W=>dB F R tg hH.hF hH.hR (by rw[←hH.len];exact htg) W
 have q0:∀ j,w.cell? ⟨qs,j,none⟩=(#[.int .i64 F,.int .i64 R,.slice pp xs.length cc,.bool bl,.int .u8 can,.int .i64 pa,.int .i64 ha,.int .i64 fu,.int .u64 occ,v]:Array Value)[j]?:=hS.s.cells;have l0:=hS.s.lt;obtain⟨Rs,hRs⟩:∃ Rs,Rs=lV base qs F R xs bl can pa ha fu pp cc occ v (L++eH ⟨F,R,xs,bl,can,pa,ha,fu⟩ tg pr 4) w:=⟨_,rfl⟩;rw[←hRs];replace hRs:=zhd hRs;replace hocc:=zhd hocc;obtain⟨f0,hf0⟩:∃ f0,f0=tg%F:=⟨_,rfl⟩;obtain⟨r0,hr0⟩:∃ r0,r0=tg/F:=⟨_,rfl⟩;rw[←hf0,←hr0]at hpl;replace hf0:=zhd hf0;replace hr0:=zhd hr0;go_enter Tryz.func31,Tryz.ntmps31;go_wp2_with fail;refine(hpl w).mono ?_;rintro e w2 ⟨rfl,hb2⟩;have hS2:=hS.call hb2;have hN2:Nib qs w w2 v v:=Nib.of_below qs hb2 v;clear hpl q0;have hfin:∀ d:Int,d=(if !bl then 1 else -1)→∀ T,paT T qs tg pr f0 r0 d→∀ cd,Tryz.f31.body.map (aq 4)=some cd→cd.wp Tryz.prog (bodyPost Tryz.prog Tryz.f31 Rs) {tmps:=T,defers:=[]} w2:=fun d hd T hT cd hcd=>xO F R xs bl can pa ha fu pp cc occ hH hocc.out ho64 base qs v w tg pr d htg hd l0 T (by rw[←hf0.out,←hr0.out];exact hT) v L hl w2 hS2 hN2 Rs (fun v' w' h1 h2=>by rw[hRs.out];exact⟨rfl,v',h1,h2⟩) cd hcd
 go_upto_region 3 with fail;rename_i k0 hk0 k1 hk1;replace hk0:=zhd hk0;clear hS hS2 l0;cases bl
 ·go_wp2_with fail;refine hk0.out _ _ ?_;exact hfin 1 rfl _ ⟨rfl,rfl,rfl,rfl,rfl,rfl,rfl⟩ _ rfl
 ·go_wp2_with fail;refine hk0.out _ _ ?_;exact hfin (-1) rfl _ ⟨rfl,rfl,rfl,rfl,rfl,rfl,rfl⟩ _ rfl
end Go.Proofs.YtefmplccbkmalaaGreatDoor
namespace Go.Proofs.YtefmplccbkmalaaGreatDoor
open Go.RowKit Go.Sort Go.BigFrame
attribute [local go_sem] Oper.semAt_some

def bS:Code→Option (Code×Code)
 | .rangeFunc _ _ a b=>some (a,b)
 | .loop c=>bS c
 | .seq a b=>match bS a with|some c=>some c|none=>bS b
 | .block _ c=>bS c
 | .cond _ a b=>match bS a with|some c=>some c|none=>bS b
 | .scope c=>bS c
 | _=>none
theorem jP{w w':World}{base:Nat}{e:TypeId}{size n:Nat}{v:Value}{xs:List Value}(h:w.ownsRow base e size v n xs)(hk:∀ k o,v.ownBlock=some k→ac w k o→ac w' k o):w'.ownsRow base e size v n xs:=by
 refine⟨h.1,?_⟩;rcases h.2 with h2|⟨g,cap,cur,rfl,hb,hh,r⟩
 ·exact .inl h2
 ·exact .inr ⟨g,cap,cur,rfl,hb,hk g _ rfl hh,r⟩
def dV(base qs:Nat)(F R:Nat)(xs:List Int)(bl:Bool)(can:Nat)(pa ha fu:Int)(pp:Option Addr)(cc occ:Nat)(v0:Value)(w:World)(Bs:List (Nat×Obj))(D c:Nat)(L':List Ret)(W:World):Prop :=
 ∃ v',Sea base qs F R xs bl can pa ha fu pp cc occ v' L' W∧Nib qs w W v0 v'∧(∀ k,v'.ownBlock=some k→k<D∨c≤k)∧(∀ x∈Bs,ac W x.1 x.2)∧c≤W.heap.size
section
variable {base qs:Nat} {F R:Nat} {xs:List Int} {bl:Bool} {can:Nat} {pa ha fu:Int} {pp:Option Addr} {cc occ:Nat} {v0:Value} {w:World} {Bs:List (Nat×Obj)} {D c:Nat} {L':List Ret} {W W':World}
theorem dV.alt(h:dV base qs F R xs bl can pa ha fu pp cc occ v0 w Bs D c L' W){lo hi:Nat}(ha2:Alt lo hi W W')(h1:D≤lo)(h2:hi≤c)(hbd:base≤D)(hq:qs<D)(hB:∀ x∈Bs,x.1<D)(hw:w.heap.size≤D):dV base qs F R xs bl can pa ha fu pp cc occ v0 w Bs D c L' W':=by obtain⟨v',hS,hN,hA,hBs,hc⟩:=h;refine⟨v',⟨hS.st.below (ha2.below (Below.refl _ _) (by omega) hS.st.b),ha2.hasO hS.s (by omega),jP hS.o (fun k o e ho=>ha2.hasO ho (by have:=hA k e;omega)),hS.q⟩,?_,hA,fun x hx=>ha2.hasO (hBs x hx) (by have:=hB x hx;omega),Nat.le_trans hc ha2.size⟩;exact⟨ha2.os.trans hN.os,ha2.tape.trans hN.tape,ha2.output.trans hN.output,Nat.le_trans hN.size ha2.size,fun k hk e1 e2=>(ha2.block k (Nat.lt_of_lt_of_le hk hN.size) (.inl (by omega))).trans (hN.block k hk e1 e2),hN.near⟩
theorem dV.call(h:dV base qs F R xs bl can pa ha fu pp cc occ v0 w Bs D c L' W)(hb:Bw W W'):dV base qs F R xs bl can pa ha fu pp cc occ v0 w Bs D c L' W':=by obtain⟨v',hS,hN,hA,hBs,hc⟩:=h;exact⟨v',hS.call hb,hN.trans (Nib.of_below qs hb v'),hA,fun x hx=>(hBs x hx).call hb,Nat.le_trans hc hb.size⟩
end
def pbF(q2:Nat)(q3:Nat)(x:Nat)(X:Nat→Value):Array Value:=(litB (fun i=>match i with|2=>.pointer (some ⟨q2,0,none⟩)|3=>.pointer (some ⟨q3,0,none⟩)|42=>.int .i64 x|i=>X i) 0 108).toArray
def pbT(T:Array Value)(q2:Nat)(q3:Nat)(x:Nat):Prop:=T.size=108∧ofA T 2=.pointer (some ⟨q2,0,none⟩)∧ofA T 3=.pointer (some ⟨q3,0,none⟩)∧ofA T 42=.int .i64 x
theorem pbT.fr{T:Array Value}{q2:Nat}{q3:Nat}{x:Nat}(h:pbT T q2 q3 x):∃ X,T=pbF q2 q3 x X:=by obtain⟨hs,h2,h3,h42⟩:=h;refine⟨ofA T,(frB T hs).trans (congrArg (fun X=>(litB X 0 108).toArray) (funext fun i=>?_))⟩;split<;>first|assumption|rfl
theorem wY(F R:Nat)(xs:List Int)(bl:Bool)(can:Nat)(pa ha fu:Int)(pp:Option Addr)(cc occ:Nat)(hH:fA F R xs can ha fu)(base qs q2 q3:Nat)(v0:Value)(w:World)(Bs:List (Nat×Obj))(tg:Nat)(htg:tg<xs.length)(D c k x:Nat)(hx:x<xs.length)(LK:Nat→List Ret)(hnx:LK (k+1)=LK k++lT ⟨F,R,xs,bl,can,pa,ha,fu⟩ tg x)(hl:(LK k).length≤899900000)
  (m2:(q2,Obj.cells #[.pointer (some ⟨qs,0,none⟩)] 69 (0,0))∈Bs) (m3:(q3,Obj.cells #[.int .i64 tg] 3 (0,0))∈Bs) (hbd:base≤D) (hq:qs<D) (hB:∀ x∈Bs,x.1<D) (hw:w.heap.size≤D) (hc:D+2≤c) (hBq:∀ x∈Bs,x.1≠qs) (hBt:∀ x∈Bs,∀ cs,x.2≠.cells cs 42 (0,0))
  (T:Array Value) (hT:pbT T q2 q3 x) (W:World) (hI:dV base qs F R xs bl can pa ha fu pp cc occ v0 w Bs D c (LK k) W)
  (ab:Code×Code) (hab:Tryz.f32.body.bind bS=some ab) :
  ab.1.wpIn (Fence.wide.inRound (D+1)) 3 Tryz.prog (Exit.then (fun a₁ W₁=>(∀ q o,(D≤q∧q<c)→ac W q o→ac W₁ q o) ∧
     ∀ W₂,Alt (D+1) (D+2) W₁ W₂→W₂.heap.size=W₁.heap.size→(∃ r,ac W₂ (D+1) (.loop r)) →
      ab.2.wpIn (Fence.wide.inRound (D+1)) 3 Tryz.prog (nf (D+1) D (fun i=>dV base qs F R xs bl can pa ha fu pp cc occ v0 w Bs D c (LK i)) (fun _ _=>False) k (fun D q=>D+2≤q∧q<c) W₂) a₁ W₂) (fun _ _ _=>False))
    {tmps:=T,defers:=[]} W:=by
 obtain rfl:=Option.some.inj ((show Tryz.f32.body.bind bS=some _ from rfl).symm.trans hab);clear hab;obtain⟨X,rfl⟩:=hT.fr;clear hT;dsimp only[pbF,litB,Nat.reduceAdd];have hpc:lT ⟨F,R,xs,bl,can,pa,ha,fu⟩ tg x=if 0<ha then db ⟨F,R,xs,bl,can,pa,ha,fu⟩ ⟨x,tg,0⟩ 0 (-1)else eC ⟨F,R,xs,bl,can,pa,ha,fu⟩ ⟨x,tg,0⟩ 5:=rfl
 rw[hpc]at hnx;clear hpc;replace hnx:=zhd hnx;gi_wp2_with fail;refine⟨fun q o _ h=>h,fun W2 ha2 hz hrec=>?_⟩;have hI2:=hI.alt ha2 (by omega) hc hbd hq hB hw;clear hI ha2 hz hrec;have hb3:=ae W2 (.cells #[.int .i64 x,.int .i64 tg,.int .i8 0] 40);obtain⟨v2,hS2,hN2,hA2,hBs2,hc2⟩:=hI2;have b2:ac W2 q2 (.cells #[.pointer (some ⟨qs,0,none⟩)] 69 (0,0)):=hBs2 _ m2;have b3:ac W2 q3 (.cells #[.int .i64 tg] 3 (0,0)):=hBs2 _ m3;have c2:=b2.cells 0;have l2:=b2.lt;have c3:=b3.cells 0;have l3:=b3.lt;have q0:∀ j,W2.cell? ⟨qs,j,none⟩=(#[.int .i64 F,.int .i64 R,.slice pp xs.length cc,.bool bl,.int .u8 can,.int .i64 pa,.int .i64 ha,.int .i64 fu,.int .u64 occ,v2]:Array Value)[j]?:=hS2.s.cells;have l0:=hS2.s.lt;have hS3:=hS2.call hb3;have hN3:=hN2.trans (Nib.of_below qs hb3 v2);have hc3:c≤(W2.alloc (.cells #[.int .i64 x,.int .i64 tg,.int .i8 0] 40)).heap.size:=Nat.le_trans hc2 hb3.size;clear b2 b3;by_cases h0:ha>0
 ·have hca:=gQ F R xs bl can pa ha fu pp cc occ hH base qs v2 (LK k) (by omega) ⟨x,tg,0⟩ 0 (-1) x tg rfl rfl hx htg (W2.alloc (.cells #[.int .i64 x,.int .i64 tg,.int .i8 0] 40)) hS3;have hLn:Hid (LK (k+1)=LK k++db ⟨F,R,xs,bl,can,pa,ha,fu⟩ ⟨x,tg,0⟩ 0 (-1)):=zhd (by rw[hnx.out,if_pos h0]);gi_wp2_with fail;refine⟨trivial,(CallsIn.inRound _ (callsIn_wide.2 hca)).mono ?_⟩;rintro e W4 ⟨rfl,v4,hS4,hN4⟩;have hA4:∀ j,v4.ownBlock=some j→j<D∨c≤j:=fun j e=>by
   rcases hN4.near j e with h|h
   ·exact hA2 j h
   ·right;omega
  have hKp:∀ q o,(q=D+1∨q=D∨(D+2≤q∧q<c))→ac W2 q o→ac W4 q o:=fun q o h1 ho=>hN4.hasO (ho.call hb3) (by omega) (fun e=>by have:=hA2 q e;omega)
  have hB4:∀ x∈Bs,ac W4 x.1 x.2:=fun x hx=>hN4.hasO ((hBs2 x hx).call hb3) (hBq x hx) (aY hS3.o ((hBs2 x hx).call hb3) (hBt x hx))
  have hc4:=Nat.le_trans hc3 hN4.size;have hN5:=hN3.trans hN4;clear hca c2 c3 l2 l3 q0 l0 hS3;gi_wp2_with fail;exact⟨hKp,v4,by rw[hLn.out];first|exact hS4|(rw[←List.append_assoc];exact hS4),hN5,hA4,hB4,hc4⟩
 ·have hca:=iN F R xs bl can pa ha fu pp cc occ hH base qs v2 (LK k) (by omega) ⟨x,tg,0⟩ x tg rfl rfl hx htg (W2.alloc (.cells #[.int .i64 x,.int .i64 tg,.int .i8 0] 40)) hS3;have hLn:Hid (LK (k+1)=LK k++eC ⟨F,R,xs,bl,can,pa,ha,fu⟩ ⟨x,tg,0⟩ 5):=zhd (by rw[hnx.out,if_neg h0]);gi_wp2_with fail;refine⟨trivial,(CallsIn.inRound _ (callsIn_wide.2 hca)).mono ?_⟩;rintro e W4 ⟨rfl,v4,hS4,hN4⟩;have hA4:∀ j,v4.ownBlock=some j→j<D∨c≤j:=fun j e=>by
   rcases hN4.near j e with h|h
   ·exact hA2 j h
   ·right;omega
  have hKp:∀ q o,(q=D+1∨q=D∨(D+2≤q∧q<c))→ac W2 q o→ac W4 q o:=fun q o h1 ho=>hN4.hasO (ho.call hb3) (by omega) (fun e=>by have:=hA2 q e;omega)
  have hB4:∀ x∈Bs,ac W4 x.1 x.2:=fun x hx=>hN4.hasO ((hBs2 x hx).call hb3) (hBq x hx) (aY hS3.o ((hBs2 x hx).call hb3) (hBt x hx))
  have hc4:=Nat.le_trans hc3 hN4.size;have hN5:=hN3.trans hN4;clear hca c2 c3 l2 l3 q0 l0 hS3;gi_wp2_with fail;exact⟨hKp,v4,by rw[hLn.out];first|exact hS4|(rw[←List.append_assoc];exact hS4),hN5,hA4,hB4,hc4⟩
end Go.Proofs.YtefmplccbkmalaaGreatDoor
