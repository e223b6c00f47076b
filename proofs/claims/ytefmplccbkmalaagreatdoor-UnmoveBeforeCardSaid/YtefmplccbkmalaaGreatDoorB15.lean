import Derived.Test.YtefmplccbkmalaaGreatDoorB01
import Derived.Test.YtefmplccbkmalaaGreatDoorB03
import Derived.Test.YtefmplccbkmalaaGreatDoorB09
import Derived.Test.YtefmplccbkmalaaGreatDoorB14
import Derived.Maps.AppendAt
import Derived.Lib.TrailingZeros
import Derived.Shelf.SlGeneric
import Derived.Ground.SlsfProg
import Derived.Shelf.SlSortCmp.WholeK
import Derived.Shelf.Spec.TrailingZeros
import Derived.Ground.Names7Prog
import Derived.Test.YtefmplccbkmalaaGreatDoorProg
import Derived.OrdersIn
import Derived.TacticsIn
import Derived.Sort.Statements
import Derived.Lib.QuietBelow
set_option maxRecDepth 100000
set_option maxHeartbeats 12800000
namespace Go.Proofs.YtefmplccbkmalaaGreatDoor
open Go.RowKit

theorem rK{F R a b oc:Nat}(hF:3≤F∧F≤8)(hR:3≤R∧R≤8)(st:List (Int×Int)):∀ n,(slideW F R a oc st n).testBit b=true↔∃ j,j<n∧elI (rayL F R a (st[j]?.getD (0,0)).1 (st[j]?.getD (0,0)).2 8 1) b=true∧dt (btwL (rayL F R a (st[j]?.getD (0,0)).1 (st[j]?.getD (0,0)).2 8 1) b) oc=true:=by
 have hFR:F*R≤64:=Nat.mul_le_mul hF.2 hR.2;intro n;induction n with
 | zero=>simp[slideW]
 | succ n ih =>
  have hL:∀ x∈rayL F R a (st[n]?.getD (0,0)).1 (st[n]?.getD (0,0)).2 8 1,0≤x∧x<64:=by intro x hx;have:=gV x hx;rw[←Int.natCast_mul]at this;omega
  simp only[slideW];rw[so _ _ (fun x hx=>(hL x hx).1),uF _ hL,ih];constructor
  ·rintro(⟨j,hj,h⟩|h)
   ·exact⟨j,by omega,h⟩
   ·exact⟨n,by omega,h⟩
  ·rintro⟨j,hj,h⟩;rcases(by omega:j<n∨j=n)with h1|rfl
   ·exact .inl ⟨j,h1,h⟩
   ·exact .inr h
def kI(x:Int):Prop:=x=-1∨x=0∨x=1
theorem kZ{F R a b oc:Nat}(hF:3≤F∧F≤8)(hR:3≤R∧R≤8)(ha:a<F*R)(hb:b<F*R)(st:List (Int×Int))(hst:∀ s∈st,kI s.1∧kI s.2∧¬(s.1=0∧s.2=0)):
  (slideW F R a oc st st.length).testBit b=(bf a b (dF F a b) (dR F a b)&&(st.any (fun s=>sgnI (dF F a b)==s.1&&sgnI (dR F a b)==s.2)&&dt (btwS F R a b) oc)):=by
 rw[Bool.eq_iff_iff,rK hF hR];simp only[Bool.and_eq_true,List.any_eq_true,beq_iff_eq];constructor
 ·rintro⟨j,hj,h1,h2⟩;rw[List.getElem?_eq_getElem hj,Option.getD_some]at h1 h2;obtain⟨c1,c2,c3⟩:=hst _ (List.getElem_mem hj);rw[oM hF hR ha hb c1 c2 c3]at h1;simp only[Bool.and_eq_true,beq_iff_eq]at h1;refine⟨h1.1,⟨st[j],List.getElem_mem hj,h1.2⟩,?_⟩;unfold btwS;rw[h1.2.1,h1.2.2];exact h2
 ·rintro⟨h1,⟨s,hs,h2,h3⟩,h4⟩;obtain⟨j,hj,rfl⟩:=List.getElem_of_mem hs;obtain⟨c1,c2,c3⟩:=hst _ hs;refine⟨j,hj,?_⟩;rw[List.getElem?_eq_getElem hj,Option.getD_some,oM hF hR ha hb c1 c2 c3];refine⟨by rw[h1,h2,h3];simp,?_⟩;unfold btwS at h4;rw[h2,h3]at h4;exact h4
theorem xc{a b:Nat}(x y:Int)(hx:-8<x∧x<8)(hy:-8<y∧y<8)(h:bf a b x y=true)(hn:¬(x=0∧y=0)):strL.any (fun s=>sgnI x==s.1&&sgnI y==s.2)=strB x y∧diagL.any (fun s=>sgnI x==s.1&&sgnI y==s.2)=!strB x y:=by
 have h1:(decide (x=0)||(decide (y=0)||(decide (x=y)||decide (x+y=0))))=true:=by unfold bf at h;simp only[Bool.and_eq_true]at h;exact h.2
 clear h;exact kB (p:=fun x y=>(decide (x=0)||(decide (y=0)||(decide (x=y)||decide (x+y=0))))=true→¬(x=0∧y=0)→(strL.any (fun s=>sgnI x==s.1&&sgnI y==s.2)=strB x y∧diagL.any (fun s=>sgnI x==s.1&&sgnI y==s.2)=!strB x y)) (by decide +kernel) x y hx hy h1 hn
theorem zJ{F a b:Nat}(h1:dF F a b=0)(h2:dR F a b=0):a=b:=by
 have e1:=Nat.mod_add_div a F;have e2:=Nat.mod_add_div b F;unfold dF at h1;unfold dR at h2;have h3:a%F=b%F:=by omega
 have h4:a/F=b/F:=by omega
 rw[←e1,←e2,h3,h4]
theorem yC(F a:Nat):dF F a a=0∧dR F a a=0:=by unfold dF dR;omega
theorem se{F R a oc:Nat}{k:Int}:reachB F R k a a oc=false:=by
 obtain⟨h1,h2⟩:=yC F a;unfold reachB distI bf;rw[h1,h2];split
 ·rfl
 ·split
  ·rfl
  ·simp
theorem jZ{F R a b oc:Nat}{k:Int}(hF:3≤F∧F≤8)(hR:3≤R∧R≤8)(ha:a<F*R)(hb:b<F*R)(hk:2≤k∧k≤6):(reachW F R a oc k).testBit b=reachB F R k a b oc:=by
 have hx:=jR (F:=F) (a:=a) (b:=b) hF;have hy:=jT hR ha hb;have hl:=cW (a:=a) leapsL hF hb;have hd:=cW (a:=a) diagL hF hb;have hs:=cW (a:=a) strL hF hb;have hsd:=kZ (oc:=oc) hF hR ha hb diagL (by unfold kI;decide);have hss:=kZ (oc:=oc) hF hR ha hb strL (by unfold kI;decide);rw[show leapsL.length=8 from rfl]at hl;rw[show diagL.length=4 from rfl]at hd hsd;rw[show strL.length=4 from rfl]at hs hss;have hline:bf a b (dF F a b) (dR F a b)=true→strL.any (fun s=>sgnI (dF F a b)==s.1&&sgnI (dR F a b)==s.2)=strB (dF F a b) (dR F a b)∧diagL.any (fun s=>sgnI (dF F a b)==s.1&&sgnI (dR F a b)==s.2)=!strB (dF F a b) (dR F a b):=by intro h;refine xc _ _ hx hy h ?_;rintro⟨h1,h2⟩;have:=zJ h1 h2;subst this;simp[bf]at h
 unfold reachW reachB;rcases(by omega:k=2∨k=3∨k=4∨k=5∨k=6)with rfl|rfl|rfl|rfl|rfl
 ·simp only[if_true];rw[hl];exact rd _ _ hx hy
 ·simp only[show ¬((3:Int)=2) by decide,show ¬((3:Int)=6) by decide,if_false,if_true];rw[hsd];rcases h:bf a b (dF F a b) (dR F a b)with _|_
  ·rfl
  ·rw[(hline h).2];cases strB (dF F a b) (dR F a b)<;>simp
 ·simp only[show ¬((4:Int)=2) by decide,show ¬((4:Int)=3) by decide,show ¬((4:Int)=6) by decide,if_false,if_true];rw[hss];rcases h:bf a b (dF F a b) (dR F a b)with _|_
  ·rfl
  ·rw[(hline h).1];cases strB (dF F a b) (dR F a b)<;>simp
 ·simp only[show ¬((5:Int)=2) by decide,show ¬((5:Int)=3) by decide,show ¬((5:Int)=4) by decide,show ¬((5:Int)=6) by decide,if_false,if_true];rw[Nat.testBit_or,hsd,hss];rcases h:bf a b (dF F a b) (dR F a b)with _|_
  ·rfl
  ·rw[(hline h).1,(hline h).2];cases strB (dF F a b) (dR F a b)<;>simp
 ·simp only[show ¬((6:Int)=2) by decide,show ¬((6:Int)=3) by decide,show ¬((6:Int)=4) by decide,show ¬((6:Int)=5) by decide,if_false,if_true];rw[Nat.testBit_or,hd,hs];exact uP _ _ hx hy
theorem yH{F R a b oc:Nat}{xs:List Int}(hF:3≤F∧F≤8)(hR:3≤R∧R≤8)(ha:a<F*R)(hb:b<F*R)(hk:xs[a]?.getD 0≠0∧-6≤xs[a]?.getD 0∧xs[a]?.getD 0≤6):(atW F R oc (xs[a]?.getD 0) a).testBit b=attB F R xs a b oc:=by
 unfold atW attB;generalize xs[a]?.getD 0=x at *;have hkk:1≤kindI x∧kindI x≤6:=by unfold kindI;split<;>omega
 split
 ·have hl:=cW (a:=a) (pwnL (decide (x<0))) hF hb;rw[show(pwnL (decide (x<0))).length=2 from rfl]at hl;rw[hl,mO _ hb,uk _ _ _ (jR hF) (jT hR ha hb)];rfl
 ·rw[jZ hF hR ha hb (by omega)];by_cases h:a=b
  ·subst h;rw[se];simp
  ·simp[h]
theorem sL{F R oc:Nat}{xs:List Int}{a:Nat}{bl:Bool}:∀ n,atrW F R oc xs a bl n=0↔∀ k,k<n→(decide (sgnI (xs[k]?.getD 0)=sdI bl)&&(atW F R oc (xs[k]?.getD 0) k).testBit a)=false:=by
 intro n;induction n with
 | zero=>simp[atrW]
 | succ n ih =>
  simp only[atrW];split
  ·rename_i h;constructor
   ·intro h1;have h2:(atrW F R oc xs a bl n|||2^n).testBit n=true:=by rw[Nat.testBit_or,Nat.testBit_two_pow];simp
    rw[h1]at h2;simp at h2
   ·intro h1;have:=h1 n (by omega);rw[h]at this;cases this
  ·rename_i h;rw[ih];constructor
   ·intro h1 k hk;rcases(by omega:k<n∨k=n)with h2|rfl
    ·exact h1 k h2
    ·simpa using h
   ·intro h1 k hk;exact h1 k (by omega)
theorem uD{F R:Nat}{xs:List Int}{oc at_:Nat}{own:List Int}:∀ n,(cZ F R xs oc at_ own n).length=0↔∀ k,k<n→attB F R xs (own[k]?.getD 0).toNat at_ oc=false:=by
 intro n;induction n with
 | zero=>simp[cZ]
 | succ n ih =>
  simp only[cZ];split
  ·rename_i h;constructor
   ·intro h1;simp at h1
   ·intro h1;have:=h1 n (by omega);rw[h]at this;cases this
  ·rename_i h;rw[ih];constructor
   ·intro h1 k hk;rcases(by omega:k<n∨k=n)with h2|rfl
    ·exact h1 k h2
    ·simpa using h
   ·intro h1 k hk;exact h1 k (by omega)
theorem oy{F R:Nat}{xs:List Int}{k:Nat}{bl:Bool}(hF:3≤F∧F≤8)(hR:3≤R∧R≤8)(hlen:xs.length=F*R)(h6:∀ x∈xs,-6≤x∧x≤6)(hk:k<F*R):atrW F R (setW gNon xs xs.length) xs k (!bl) xs.length=0↔(attrL F R xs k (!bl)).length=0:=by
 unfold attrL;rw[sL,uD];have hsg:∀ j,j<xs.length→decide (sgnI (xs[j]?.getD 0)=sdI (!bl))=true→(atW F R (setW gNon xs xs.length) (xs[j]?.getD 0) j).testBit k=attB F R xs j k (setW gNon xs xs.length):=by
  intro j hj hs;refine yH hF hR (by omega) hk ⟨?_,?_⟩
  ·intro h0;rw[h0]at hs;simp only[decide_eq_true_eq]at hs;unfold sgnI sdI at hs;cases bl<;>simp at hs
  ·have:=h6 xs[j] (List.getElem_mem hj);rw[List.getElem?_eq_getElem hj,Option.getD_some];exact this
 constructor
 ·intro h m hm;have hmem:=List.getElem_mem hm;rw[List.getElem?_eq_getElem hm,Option.getD_some];unfold sideL_ at hmem;rw[idxs_mem]at hmem;obtain⟨j,hj,hs,he⟩:=hmem;have he2:(sideL_ xs !bl)[m]=(j:Int):=he;rw[he2,Int.toNat_natCast];have hs2:decide (sgnI (xs[j]?.getD 0)=sdI (!bl))=true:=by simpa using hs
  have:=h j hj;rw[hs2,Bool.true_and,hsg j hj hs2]at this;exact this
 ·intro h j hj;rcases hs:decide (sgnI (xs[j]?.getD 0)=sdI (!bl))with _|_
  ·rfl
  ·rw[Bool.true_and,hsg j hj hs];have hmem:(j:Int)∈sideL_ xs (!bl):=by unfold sideL_;rw[idxs_mem];exact⟨j,hj,by simpa using hs,rfl⟩
   obtain⟨m,hm,he⟩:=List.getElem_of_mem hmem;have:=h m hm;rw[List.getElem?_eq_getElem hm,Option.getD_some,he,Int.toNat_natCast]at this;exact this
theorem tY{F R:Nat}{xs:List Int}{k:Nat}{bl:Bool}(hF:3≤F∧F≤8)(hR:3≤R∧R≤8)(hlen:xs.length=F*R)(h6:∀ x∈xs,-6≤x∧x≤6)(hk:k<F*R)(hkk:kgI xs bl=k):chkB F R xs k bl=!decide (chkW F R xs bl=0):=by
 have e1:(chkW F R xs bl=0)↔(attrL F R xs k (!bl)).length=0:=by unfold chkW;rw[hkk,Int.toNat_natCast];exact oy hF hR hlen h6 hk
 unfold chkB;by_cases h:chkW F R xs bl=0
 ·have h2:=e1.1 h;rw[h2];simp[h]
 ·have h2:¬(attrL F R xs k (!bl)).length=0:=fun h3=>h (e1.2 h3)
  simp[h];omega
theorem tt{F R:Nat}{xs:List Int}:∀ n,du F R xs n=true↔∀ k,k<n→((kindI (xs[k]?.getD 0)==1)&&(((k/F:Nat):Int)==lastI R (decide (xs[k]?.getD 0<0))))=false:=by
 intro n;induction n with
 | zero=>simp[du]
 | succ n ih =>
  simp only[du,Bool.and_eq_true,Bool.not_eq_true'];rw[ih];constructor
  ·rintro⟨h1,h2⟩ k hk;rcases(by omega:k<n∨k=n)with h3|rfl
   ·exact h1 k h3
   ·exact h2
  ·intro h;exact⟨fun k hk=>h k (by omega),h n (by omega)⟩
theorem xE{F R:Nat}{xs:List Int}(hF:3≤F∧F≤8)(hR:3≤R∧R≤8)(hlen:xs.length=F*R):du F R xs xs.length=dw F xs:=by
 have hFl:F≤xs.length:=by rw[hlen];exact Nat.le_mul_of_pos_right F (by omega)
 have hdiv:∀ k,k<xs.length→(k/F=R-1↔xs.length-F≤k):=by
  intro k hk;rw[hlen]at hk;have h1:k/F<R:=Nat.div_lt_of_lt_mul hk;have h2:=Nat.le_div_iff_mul_le (x:=R-1) (y:=k) (show 0<F by omega);have h3:(R-1)*F=xs.length-F:=by rw[hlen,Nat.sub_mul,Nat.one_mul,Nat.mul_comm]
  rw[h3]at h2;omega
 have hdz:∀ k,(k/F=0↔k<F):=fun k=>by rw[Nat.div_eq_zero_iff];omega
 rw[Bool.eq_iff_iff,tt];unfold dw;simp only[Bool.and_eq_true,Bool.not_eq_true',List.any_eq_false,beq_iff_eq];constructor
 ·intro h;constructor
  ·intro x hx hx1;rw[List.mem_drop_iff_getElem]at hx;obtain⟨j,hj,rfl⟩:=hx;have:=h (j+(xs.length-F)) (by omega);have hjl:j+(xs.length-F)<xs.length:=by omega
   rw[List.getElem?_eq_getElem hjl,Option.getD_some]at this;have e1:xs[j+(xs.length-F)]=1:=by rw[←hx1];congr 1;omega
   have e2:=(hdiv (j+(xs.length-F)) hjl).2 (by omega);rw[e1,e2]at this;simp[kindI,lastI]at this;omega
  ·intro x hx hx1;rw[List.mem_take_iff_getElem]at hx;obtain⟨j,hj,rfl⟩:=hx;have hjl:j<xs.length:=by omega
   have:=h j hjl;rw[List.getElem?_eq_getElem hjl,Option.getD_some,hx1,(hdz j).2 (by omega)]at this;simp[kindI,lastI]at this
 ·rintro⟨h1,h2⟩ k hk;rw[List.getElem?_eq_getElem hk,Option.getD_some];by_cases c1:xs[k]=1
  ·rw[c1];have:¬xs.length-F≤k:=by
    intro hkf;refine h1 xs[k] ?_ c1;rw[List.mem_drop_iff_getElem];exact⟨k-(xs.length-F),by omega,by congr 1;omega⟩
   rw[←hdiv k hk]at this;simp[kindI,lastI];omega
  ·by_cases c2:xs[k]=-1
   ·rw[c2];have:¬k<F:=by
     intro hkf;refine h2 xs[k] ?_ c2;rw[List.mem_take_iff_getElem];exact⟨k,by omega,rfl⟩
    rw[←hdz k]at this;simp[kindI,lastI];exact fun h=>this (by omega)
   ·have:(kindI xs[k]==1)=false:=by
     unfold kindI;split<;>simp<;>omega
    rw[this];rfl
theorem fB(f r:Int)(xs:List Int)(bl:Bool)(ca pa ha fu:Int):pvW f r xs bl ca pa ha fu=pvB f r xs bl ca pa ha fu:=by
 have hW:pvW f r xs bl ca pa ha fu=((((((true&&aL f r xs)&&cJ f r xs bl)&&dw f.toNat xs)&&cstB f r xs ca)&&passB f.toNat r.toNat xs bl pa ha)&&gJ ha fu):=rfl;rw[hW];rcases ho:aF f r xs with _|_
 ·have h1:cJ f r xs bl=false:=by unfold cJ;rw[ho];rfl
  unfold pvB;rw[h1,ho];simp
 ·have hor:=ho;obtain⟨F,R,rfl,rfl,hF,hR,hlen,hok,h6⟩:=dJ ho;have hbo:aL F R xs=true:=by unfold aF at ho;simp only[Bool.and_eq_true]at ho;exact ho.1
  unfold pvB cJ;rw[ho,hbo];simp only[Int.toNat_natCast,Bool.true_and];unfold pvN;rw[xE hF hR hlen];unfold gJ;have hchk:∀ b,(!decide (kgI xs b<0))=true→chkB F R xs (kgI xs b).toNat b=!decide (chkW F R xs b=0):=by
   intro b hb;rcases nJ xs b with h|⟨k,h,hk⟩
   ·rw[h]at hb;simp at hb
   ·rw[h,Int.toNat_natCast];exact tY hF hR hlen h6 (by omega) h
  cases bl
  ·simp only[Bool.not_false];rcases c1:(!decide (kgI xs true<0))with _|_
   ·simp
   ·rw[hchk true c1];simp only[Bool.not_not,Bool.true_and,Bool.and_assoc]
  ·simp only[Bool.not_true];rcases c1:(!decide (kgI xs false<0))with _|_
   ·simp
   ·rw[hchk false c1];simp only[Bool.not_not,Bool.true_and,Bool.and_assoc]
def cI(a b:Int):Int:=if a<b then -1 else if b<a then 1 else 0
theorem qk(a b:Int)(w:World):Clz 52 #[.int .i64 a,.int .i64 b] w fun e w'=>e=.returned (.int .i64 (cI a b))∧w'=w:=by
 obtain⟨r,hr⟩:∃ r,r=cI a b:=⟨_,rfl⟩;rw[←hr];replace hr:=zhd hr;have h1:=Tryz.cmp_isNaN_int a w;have h2:=Tryz.cmp_isNaN_int b w;go_enter Tryz.func52,Tryz.ntmps52;go_wp2_with fail;refine h1.mono ?_;rintro e w2 ⟨rfl,rfl⟩;go_wp2_with fail;refine h2.mono ?_;rintro e w2 ⟨rfl,rfl⟩;by_cases hab:a<b
 ·go_wp2_with fail;go_ret;exact⟨by rw[show r=-1 from by rw[hr.out];unfold cI;split<;>(try split)<;>omega];rfl,rfl⟩
 ·by_cases hba:b<a
  ·go_wp2_with fail;go_ret;exact⟨by rw[show r=1 from by rw[hr.out];unfold cI;split<;>(try split)<;>omega];rfl,rfl⟩
  ·go_wp2_with fail;go_ret;exact⟨by rw[show r=0 from by rw[hr.out];unfold cI;split<;>(try split)<;>omega];rfl,rfl⟩
section ops
variable {P:Program} {o:Oper} {a:Act} {w:World} {K:Act→World→Prop} {Q:Exit→Act→World→Prop} {t:Nat→Option Bool} {X:Prop}
end ops
def uC(base:Nat)(L:List Value)(v:Value)(W:World):Prop:=∃ g,v=.slice (some ⟨g,0,none⟩) L.length L.length∧base≤g∧g<W.heap.size∧∀ j,j<L.length→W.cell? ⟨g,j,none⟩=L[j]?
theorem uC.call{base:Nat}{L:List Value}{v:Value}{W W':World}(h:uC base L v W)(hb:Below W.heap.size W W'):uC base L v W':=by obtain⟨g,e,h1,h2,h3⟩:=h;exact⟨g,e,h1,Nat.lt_of_lt_of_le h2 hb.size,fun j hj=>(hb.cell (p:=⟨g,j,none⟩) h2).trans (h3 j hj)⟩
end Go.Proofs.YtefmplccbkmalaaGreatDoor
namespace Go.Proofs.YtefmplccbkmalaaGreatDoor
open Go.RowKit Go.Sort Go.BigFrame

theorem kn(x:Int)(w:World):Clz 106 #[.int .i8 x] w fun e w'=>e=.returned (.bool false)∧w=w':=by
 have h0:(x != x)=false:=by simp
 go_enter Tryz.func106,Tryz.ntmps106;go_wp2_with fail;go_ret;exact⟨rfl,rfl⟩
theorem kN(x:Int)(w:World):Clz 108 #[.int .u8 x] w fun e w'=>e=.returned (.bool false)∧w=w':=by
 have h0:(x != x)=false:=by simp
 go_enter Tryz.func108,Tryz.ntmps108;go_wp2_with fail;go_ret;exact⟨rfl,rfl⟩
theorem mA(a b:Int)(w:World):Clz 51 #[.int .i8 a,.int .i8 b] w fun e w'=>e=.returned (.int .i64 (cI a b))∧w=w':=by
 obtain⟨r,hr⟩:∃ r,r=cI a b:=⟨_,rfl⟩;rw[←hr];replace hr:=zhd hr;go_enter Tryz.func51,Tryz.ntmps51;go_wp2_with fail;refine(kn a w).mono ?_;rintro e w2 ⟨rfl,rfl⟩;go_wp2_with fail;refine(kn b w).mono ?_;rintro e w2 ⟨rfl,rfl⟩;by_cases hab:a<b
 ·go_wp2_with fail;go_ret;exact⟨by rw[show r=-1 from by rw[hr.out];unfold cI;split<;>(try split)<;>omega];rfl,rfl⟩
 ·by_cases hba:b<a
  ·go_wp2_with fail;go_ret;exact⟨by rw[show r=1 from by rw[hr.out];unfold cI;split<;>(try split)<;>omega];rfl,rfl⟩
  ·go_wp2_with fail;go_ret;exact⟨by rw[show r=0 from by rw[hr.out];unfold cI;split<;>(try split)<;>omega];rfl,rfl⟩
theorem tO(a b:Int)(w:World):Clz 53 #[.int .u8 a,.int .u8 b] w fun e w'=>e=.returned (.int .i64 (cI a b))∧w=w':=by
 obtain⟨r,hr⟩:∃ r,r=cI a b:=⟨_,rfl⟩;rw[←hr];replace hr:=zhd hr;go_enter Tryz.func53,Tryz.ntmps53;go_wp2_with fail;refine(kN a w).mono ?_;rintro e w2 ⟨rfl,rfl⟩;go_wp2_with fail;refine(kN b w).mono ?_;rintro e w2 ⟨rfl,rfl⟩;by_cases hab:a<b
 ·go_wp2_with fail;go_ret;exact⟨by rw[show r=-1 from by rw[hr.out];unfold cI;split<;>(try split)<;>omega];rfl,rfl⟩
 ·by_cases hba:b<a
  ·go_wp2_with fail;go_ret;exact⟨by rw[show r=1 from by rw[hr.out];unfold cI;split<;>(try split)<;>omega];rfl,rfl⟩
  ·go_wp2_with fail;go_ret;exact⟨by rw[show r=0 from by rw[hr.out];unfold cI;split<;>(try split)<;>omega];rfl,rfl⟩
theorem gl(a b:Int)(w:World):Clz 52 #[.int .i64 a,.int .i64 b] w fun e w'=>e=.returned (.int .i64 (cI a b))∧w=w':=(qk a b w).mono (fun _ _ h=>⟨h.1,h.2.symm⟩)
def orL:List Int→Int
 | []=>0
 | x::l=>if x=0 then orL l else x
theorem qF(g:Nat)(l:List Int)(hl:l.length≤100)(w:World)(hc:∀ j,j<l.length→w.cell? ⟨g,j,none⟩=some (.int .i64 (l[j]?.getD 0))):
  Clz 49 #[.slice (some ⟨g,0,none⟩) l.length l.length] w fun e w'=>e=.returned (.int .i64 (orL l))∧Bw w w':=by
 obtain⟨r,hr⟩:∃ r,r=orL l:=⟨_,rfl⟩;rw[←hr];have hnx:∀ k,k<l.length→orL (l.drop k)=if l[k]?.getD 0=0 then orL (l.drop (k+1))else l[k]?.getD 0:=fun k hk=>by
  rw[List.drop_eq_getElem_cons hk,List.getElem?_eq_getElem hk];rfl
 have hn0:orL (l.drop l.length)=0:=by rw[List.drop_length];rfl
 have hr0:orL (l.drop 0)=r:=hr.symm;clear hr;generalize orL=OR at *;go_enter Tryz.func49,Tryz.ntmps49;go_wp2_with fail;go_loopg [5,8] 101 (fun q xv iv wr=>∃ k:Nat,q+k=101∧k≤l.length∧iv=.int .i64 (k:Nat)∧wr=w∧Hid (OR (l.drop k)=r))
 case atStart=>exact⟨0,rfl,Nat.zero_le _,rfl,rfl,zhd hr0⟩
 case round =>
  obtain⟨k,hq,hkl,rfl,rfl,hcv⟩:=hrel;by_cases hk:k<l.length
  ·have hki:(k:Int)<l.length:=by omega
   have hx:=hc k hk;have hn:=hnx k hk;rw[hcv.out]at hn;generalize l[k]?.getD 0=x at *;rcases z:(x != 0)with _|_
   ·have hcv2:Hid (OR (l.drop (k+1))=r):=zhd (by rw[hn,if_pos (by simpa using z)]);clear hn hnx hn0 hr0 hc;go_wp2_with fail;go_roundg (gk-1)
    case measure=>omega
    case rel=>exact⟨k+1,by omega,by omega,by go_num,rfl,hcv2⟩
   ·have hrx:Hid (r=x):=zhd (by rw[hn,if_neg (by simpa using z)]);clear hn hnx hn0 hr0 hc;go_wp2_with fail;go_ret;exact⟨by rw[hrx.out];rfl,Below.refl _ _⟩
  ·obtain rfl:k=l.length:=by omega
   have hrx:Hid (r=0):=zhd (by rw[←hcv.out,hn0]);clear hnx hn0 hr0;go_wp2_with fail;go_ret;exact⟨by rw[hrx.out];rfl,Below.refl _ _⟩
theorem sN(a b:Mv)(w:World):Clz 50 #[.agg a.cs.toArray,.agg b.cs.toArray] w fun e w'=>e=.returned (.int .i64 (orL [cI a.fr b.fr,cI a.tg b.tg,cI a.pr b.pr]))∧Bw w w':=by
 obtain⟨W1,hW1⟩:∃ W1,W1=(w.alloc (.cells a.cs.toArray 40)).alloc (.cells b.cs.toArray 40):=⟨_,rfl⟩;have hB:Bw w W1:=by subst hW1;exact(ae w _).alloc (by simp) _
 have hP:ac W1 w.heap.size (.cells a.cs.toArray 40 (0,0)):=by subst hW1;exact(ac.new w _).alloc _
 have hM:ac W1 (w.heap.size+1) (.cells b.cs.toArray 40 (0,0)):=by subst hW1;exact ac.new' _ _ (by simp)
 have ht1:=fun(W:World)=>gl a.fr b.fr W
 have ht2:=fun(W:World)=>gl a.tg b.tg W
 have ht3:=fun W=>mA a.pr b.pr W
 generalize cI a.fr b.fr=x1 at *;generalize cI a.tg b.tg=x2 at *;generalize cI a.pr b.pr=x3 at *;replace hW1:=zhd hW1;go_enter Tryz.func50,Tryz.ntmps50;go_upto_region 1 with fail;change Code.wp _ _ _ _ ((w.alloc (.cells a.cs.toArray 40)).alloc (.cells b.cs.toArray 40));rw[←hW1.out];have p0:∀ d os j,(grow (redrawn W1 d) os).cell? ⟨w.heap.size,j,none⟩=(#[.int .i64 a.fr,.int .i64 a.tg,.int .i8 a.pr]:Array Value)[j]?:=am hP;have p1:∀ d os j,(grow (redrawn W1 d) os).cell? ⟨w.heap.size+1,j,none⟩=(#[.int .i64 b.fr,.int .i64 b.tg,.int .i8 b.pr]:Array Value)[j]?:=am hM;have t1:=aJ (w:=W1) ht1;have t2:=aJ (w:=W1) ht2;have t3:=aJ (w:=W1) ht3;refine aN 15 (by kernel_rfl) (by kernel_rfl) ?_;simp only[List.take_succ_cons,List.take_zero,List.drop_succ_cons,List.drop_zero];repeat(go_big_quiet_step (first|with_reducible exact t1 _ _|with_reducible exact t2 _ _|with_reducible exact t3 _ _|fail))
 refine wpQuiet_nil ?_;intro W2 hb2;have hB2:=zbc hB hb2;clear p0 p1 t1 t2 t3;have ho:=qF W2.heap.size [x1,x2,x3] (by simp) (W2.alloc (.cells #[.int .i64 x1,.int .i64 x2,.int .i64 x3] 3)) (fun j hj=>by
  rcases(by simp at hj;omega:j=0∨j=1∨j=2)with rfl|rfl|rfl<;>exact(ac.new W2 (.cells #[.int .i64 x1,.int .i64 x2,.int .i64 x3] 3)).cells _)
 have hB3:=hB2.alloc (by have:=hb2.size;have:=hB.size;omega) (.cells #[.int .i64 x1,.int .i64 x2,.int .i64 x3] 3);go_wp2_with fail;refine ho.mono ?_;rintro e W4 ⟨rfl,hb4⟩;go_wp2_with fail;go_ret;exact⟨rfl,zbc hB3 hb4⟩
theorem sn(a b:Ret)(w:World):Clz 18 #[.agg a.cs.toArray,.agg b.cs.toArray] w fun e w'=>e=.returned (.int .i64 (orL [orL [cI a.mv.fr b.mv.fr,cI a.mv.tg b.mv.tg,cI a.mv.pr b.mv.pr],cI a.cp b.cp,cI a.at_ b.at_,cI a.ca b.ca,cI a.pa b.pa]))∧Bw w w':=by
 obtain⟨W1,hW1⟩:∃ W1,W1=(w.alloc (.cells a.cs.toArray 42)).alloc (.cells b.cs.toArray 42):=⟨_,rfl⟩;have hB:Bw w W1:=by subst hW1;exact(ae w _).alloc (by simp) _
 have hP:ac W1 w.heap.size (.cells a.cs.toArray 42 (0,0)):=by subst hW1;exact(ac.new w _).alloc _
 have hM:ac W1 (w.heap.size+1) (.cells b.cs.toArray 42 (0,0)):=by subst hW1;exact ac.new' _ _ (by simp)
 have ht0:=fun(W:World) (_:Bw W1 W)=>sN a.mv b.mv W
 have ht1:=fun W=>mA a.cp b.cp W
 have ht2:=fun(W:World)=>gl a.at_ b.at_ W
 have ht3:=fun W=>tO a.ca b.ca W
 have ht4:=fun(W:World)=>gl a.pa b.pa W
 generalize orL [cI a.mv.fr b.mv.fr,cI a.mv.tg b.mv.tg,cI a.mv.pr b.mv.pr]=x0 at *;generalize cI a.cp b.cp=x1 at *;generalize cI a.at_ b.at_=x2 at *;generalize cI a.ca b.ca=x3 at *;generalize cI a.pa b.pa=x4 at *;replace hW1:=zhd hW1;go_enter Tryz.func18,Tryz.ntmps18;go_upto_region 1 with fail;change Code.wp _ _ _ _ ((w.alloc (.cells a.cs.toArray 42)).alloc (.cells b.cs.toArray 42));rw[←hW1.out];have p0:∀ d os j,(grow (redrawn W1 d) os).cell? ⟨w.heap.size,j,none⟩=(#[.int .i64 a.mv.fr,.int .i64 a.mv.tg,.int .i8 a.mv.pr,.int .i8 a.cp,.int .i64 a.at_,.int .u8 a.ca,.int .i64 a.pa]:Array Value)[j]?:=am hP;have p1:∀ d os j,(grow (redrawn W1 d) os).cell? ⟨w.heap.size+1,j,none⟩=(#[.int .i64 b.mv.fr,.int .i64 b.mv.tg,.int .i8 b.mv.pr,.int .i8 b.cp,.int .i64 b.at_,.int .u8 b.ca,.int .i64 b.pa]:Array Value)[j]?:=am hM;have t0:=ax (w:=W1) ht0;have t1:=aJ (w:=W1) ht1;have t2:=aJ (w:=W1) ht2;have t3:=aJ (w:=W1) ht3;have t4:=aJ (w:=W1) ht4;refine aN 25 (by kernel_rfl) (by kernel_rfl) ?_;simp only[List.take_succ_cons,List.take_zero,List.drop_succ_cons,List.drop_zero];repeat(go_big_quiet_step (first|with_reducible exact t0 _ _|with_reducible exact t1 _ _|with_reducible exact t2 _ _|with_reducible exact t3 _ _|with_reducible exact t4 _ _|fail))
 refine wpQuiet_nil ?_;intro W2 hb2;have hB2:=zbc hB hb2;clear p0 p1 t0 t1 t2 t3 t4;have ho:=qF W2.heap.size [x0,x1,x2,x3,x4] (by simp) (W2.alloc (.cells #[.int .i64 x0,.int .i64 x1,.int .i64 x2,.int .i64 x3,.int .i64 x4] 3)) (fun j hj=>by
  rcases(by simp at hj;omega:j=0∨j=1∨j=2∨j=3∨j=4)with rfl|rfl|rfl|rfl|rfl<;>exact(ac.new W2 (.cells #[.int .i64 x0,.int .i64 x1,.int .i64 x2,.int .i64 x3,.int .i64 x4] 3)).cells _)
 have hB3:=hB2.alloc (by have:=hb2.size;have:=hB.size;omega) (.cells #[.int .i64 x0,.int .i64 x1,.int .i64 x2,.int .i64 x3,.int .i64 x4] 3);go_wp2_with fail;refine ho.mono ?_;rintro e W4 ⟨rfl,hb4⟩;go_wp2_with fail;go_ret;exact⟨rfl,zbc hB3 hb4⟩
end Go.Proofs.YtefmplccbkmalaaGreatDoor
namespace Go.Proofs.YtefmplccbkmalaaGreatDoor
open Go.RowKit Go.Sort Go.BigFrame

def bitsL(S:Nat):List Nat:=(List.range 64).filter S.testBit
theorem pg{p p':Nat→Bool}{k:Nat}(h1:∀ i,i<k→p i=false)(h2:p k=true)(h3:∀ i,i≤k→p' i=false)(h4:∀ i,k<i→p' i=p i)(d:Nat):(List.range (k+1+d)).filter p=k::(List.range (k+1+d)).filter p':=by
 induction d with
 | zero =>
  have e1:(List.range k).filter p=[]:=by rw[List.filter_eq_nil_iff];intro a ha;rw[h1 a (List.mem_range.1 ha)];decide
  have e2:(List.range k).filter p'=[]:=by rw[List.filter_eq_nil_iff];intro a ha;rw[h3 a (Nat.le_of_lt (List.mem_range.1 ha))];decide
  rw[Nat.add_zero,List.range_succ,List.filter_append,List.filter_append,e1,e2];simp[h2,h3 k (Nat.le_refl _)]
 | succ d ih =>
  rw[←Nat.add_assoc,List.range_succ,List.filter_append,List.filter_append,ih,List.cons_append];have e:[k+1+d].filter p'=[k+1+d].filter p:=by simp only[List.filter_cons,List.filter_nil,h4 (k+1+d) (by omega)]
  rw[e]
theorem ud{S:Nat}(h0:S≠0)(h:S<18446744073709551616):∃ k,Lib.ctz 64 S=k∧k<64∧bitsL S=k::bitsL (S&&&(S-1))∧S&&&(S-1)<18446744073709551616:=by
 have hp:S<2^64:=h;obtain⟨m,hm,hk⟩:=Lib.ctzFrom_spec 64 S (by omega) hp;have hc:Lib.ctz 64 S=Lib.ctzFrom 64 S:=by unfold Lib.ctz;rw[if_neg h0]
 rw[hc];generalize Lib.ctzFrom 64 S=k at *;have hS:∀ i,S.testBit i=(decide (k≤i)&&(2*m+1).testBit (i-k)):=fun i=>by rw[hm,Nat.testBit_two_pow_mul]
 have hpos:0<2^k:=Nat.two_pow_pos k;have hS1:S-1=2^k*(2*m)+(2^k-1):=by rw[hm,Nat.mul_add,Nat.mul_one];omega
 have hT:∀ i,(S-1).testBit i=if i<k then(2^k-1).testBit i else(2*m).testBit (i-k):=fun i=>by
  rw[hS1,Nat.testBit_two_pow_mul_add _ (by omega)]
 have ho:∀ j,0<j→(2*m+1).testBit j=(2*m).testBit j:=fun j hj=>by
  obtain⟨j,rfl⟩:∃ i,j=i+1:=⟨j-1,by omega⟩;rw[Nat.testBit_succ,Nat.testBit_succ];congr 1;omega
 have hA:∀ i,(S&&&(S-1)).testBit i=(decide (k<i)&&S.testBit i):=fun i=>by
  rw[Nat.testBit_and,hT];by_cases h1:i<k
  ·have:S.testBit i=false:=by rw[hS];simp;omega
   rw[this];simp
  ·rw[if_neg h1];by_cases h2:i=k
   ·subst h2;rw[Nat.sub_self];have:(2*m).testBit 0=false:=by simp
    rw[this];simp
   ·rw[hS,ho (i-k) (by omega)];simp[show k≤i by omega,show k<i by omega]
 refine⟨k,rfl,hk,?_,Nat.lt_of_le_of_lt Nat.and_le_left h⟩;unfold bitsL;have h64:64=k+1+(63-k):=by omega
 rw[h64];refine pg (fun i hi=>?_) ?_ (fun i hi=>?_) (fun i hi=>?_) _
 ·rw[hS];simp;omega
 ·rw[hS];simp
 ·rw[hA];simp;omega
 ·rw[hA];simp[hi]
theorem ti:bitsL 0=[]:=by decide
theorem oD{S a:Nat}:a∈bitsL S↔a<64∧S.testBit a=true:=by unfold bitsL;simp
end Go.Proofs.YtefmplccbkmalaaGreatDoor
/-
 DERIVED: THE SHELF's CONTRACTS AT THIS DUMP,IN PLAIN WORDS (tools/lay-plain.mjs out of 'TryzSortU.lean',which tools/lay-shelf.mjs wrote): THE SAME DECLARATIONS UNDER THE SAME NAMES: 'import','namespace','open','def','theorem' AND NOTHING ELSE: no command of the shelf's: FOR A HAND-IN. Each laying: the table of numbers ('.._ren') and one theorem,a field a fact of the dump's own or the kernel's comparison;each contract: ONE APPLICATION.
-/
namespace Go.Proofs
open Go.Shelf
def Tryz.srt_ren:Go.Shelf.Ren:=⟨fun|6=>33|15=>95|14=>94|28=>155|29=>156|20=>147|21=>148|22=>149|23=>150|24=>151|25=>152|26=>153|27=>154|46=>184|47=>185|48=>186|49=>187|50=>188|57=>203|n=>n,fun|22=>30|24=>42|25=>43|3=>3|39=>135|0=>0|53=>194|55=>63|4=>4|46=>187|45=>186|50=>191|5=>5|9=>9|66=>212|70=>216|76=>229|77=>230|n=>n,fun|n=>n⟩
theorem Tryz.srt:Go.Proofs.SlLaysF0.n6 Tryz.prog Tryz.srt_ren:={
 mixed:=by kernel_rfl
 f6:=⟨Tryz.f33.name,by decide,Tryz.func33.trans (congrArg some (by kernel_rfl))⟩
 f14:=⟨Tryz.f94.name,by decide,Tryz.func94.trans (congrArg some (by kernel_rfl))⟩
 f15:=Tryz.func95.trans (congrArg some (by kernel_rfl))
 f20:=⟨Tryz.f147.name,by decide,Tryz.func147.trans (congrArg some (by kernel_rfl))⟩
 f21:=⟨Tryz.f148.name,by decide,Tryz.func148.trans (congrArg some (by kernel_rfl))⟩
 f22:=⟨Tryz.f149.name,by decide,Tryz.func149.trans (congrArg some (by kernel_rfl))⟩
 f23:=⟨Tryz.f150.name,by decide,Tryz.func150.trans (congrArg some (by kernel_rfl))⟩
 f24:=⟨Tryz.f151.name,by decide,Tryz.func151.trans (congrArg some (by kernel_rfl))⟩
 f25:=⟨Tryz.f152.name,by decide,Tryz.func152.trans (congrArg some (by kernel_rfl))⟩
 f26:=⟨Tryz.f153.name,by decide,Tryz.func153.trans (congrArg some (by kernel_rfl))⟩
 f27:=⟨Tryz.f154.name,by decide,Tryz.func154.trans (congrArg some (by kernel_rfl))⟩
 f28:=Tryz.func155.trans (congrArg some (by kernel_rfl))
 f29:=Tryz.func156.trans (congrArg some (by kernel_rfl))
 f46:=⟨Tryz.f184.name,by decide,Tryz.func184.trans (congrArg some (by kernel_rfl))⟩
 f47:=Tryz.func185.trans (congrArg some (by kernel_rfl))
 f48:=Tryz.func186.trans (congrArg some (by kernel_rfl))
 f49:=⟨Tryz.f187.name,by decide,Tryz.func187.trans (congrArg some (by kernel_rfl))⟩
 f50:=⟨Tryz.f188.name,by decide,Tryz.func188.trans (congrArg some (by kernel_rfl))⟩
 f57:=⟨Tryz.f203.name,by decide,Tryz.func203.trans (congrArg some (by kernel_rfl))⟩
 t0:=Tryz.underlying0
 a0:=Tryz.isAgg0
 z0:=Tryz.sizeOf0
 v0:=Tryz.zeroValue0
 t3:=Tryz.underlying3
 a3:=Tryz.isAgg3
 z3:=Tryz.sizeOf3
 v3:=Tryz.zeroValue3
 t4:=Tryz.underlying4
 a4:=Tryz.isAgg4
 z4:=Tryz.sizeOf4
 v4:=Tryz.zeroValue4
 t5:=Tryz.underlying5
 a5:=Tryz.isAgg5
 z5:=Tryz.sizeOf5
 v5:=Tryz.zeroValue5
 t9:=Tryz.underlying9
 a9:=Tryz.isAgg9
 z9:=Tryz.sizeOf9
 v9:=Tryz.zeroValue9
 t22:=Tryz.underlying30
 a22:=Tryz.isAgg30
 z22:=Tryz.sizeOf30
 v22:=Tryz.zeroValue30
 t25:=Tryz.underlying43
 a25:=Tryz.isAgg43
 z25:=Tryz.sizeOf43
 v25:=Tryz.zeroValue43
 t39:=Tryz.underlying135
 a39:=Tryz.isAgg135
 z39:=Tryz.sizeOf135
 v39:=Tryz.zeroValue135
 t45:=Tryz.underlying186
 a45:=Tryz.isAgg186
 z45:=Tryz.sizeOf186
 v45:=Tryz.zeroValue186
 t46:=Tryz.underlying187
 a46:=Tryz.isAgg187
 z46:=Tryz.sizeOf187
 v46:=Tryz.zeroValue187
 t50:=Tryz.underlying191
 a50:=Tryz.isAgg191
 z50:=Tryz.sizeOf191
 v50:=Tryz.zeroValue191
 t53:=Tryz.underlying194
 a53:=Tryz.isAgg194
 z53:=Tryz.sizeOf194
 v53:=Tryz.zeroValue194
 t55:=Tryz.underlying63
 a55:=Tryz.isAgg63
 z55:=Tryz.sizeOf63
 v55:=Tryz.zeroValue63
 t66:=Tryz.underlying212
 a66:=Tryz.isAgg212
 z66:=Tryz.sizeOf212
 v66:=Tryz.zeroValue212
 t70:=Tryz.underlying216
 a70:=Tryz.isAgg216
 z70:=Tryz.sizeOf216
 v70:=Tryz.zeroValue216
 t76:=Tryz.underlying229
 a76:=Tryz.isAgg229
 z76:=Tryz.sizeOf229
 v76:=Tryz.zeroValue229
 t77:=Tryz.underlying230
 a77:=Tryz.isAgg230
 z77:=Tryz.sizeOf230
 v77:=Tryz.zeroValue230}
def Tryz.tz64_ren:Go.Shelf.Ren:=⟨fun|29=>87|n=>n,fun|22=>63|3=>3|4=>4|25=>135|54=>173|0=>0|5=>5|n=>n,fun|1=>4|n=>n⟩
theorem Tryz.tz64:Go.Proofs.Lays7.n29 Tryz.prog Tryz.tz64_ren:={
 mixed:=by kernel_rfl
 f29:=Tryz.func87.trans (congrArg some (by kernel_rfl))
 t0:=Tryz.underlying0
 a0:=Tryz.isAgg0
 z0:=Tryz.sizeOf0
 v0:=Tryz.zeroValue0
 i0:=by kernel_rfl
 t3:=Tryz.underlying3
 a3:=Tryz.isAgg3
 z3:=Tryz.sizeOf3
 v3:=Tryz.zeroValue3
 i3:=by kernel_rfl
 t4:=Tryz.underlying4
 a4:=Tryz.isAgg4
 z4:=Tryz.sizeOf4
 v4:=Tryz.zeroValue4
 i4:=by kernel_rfl
 t5:=Tryz.underlying5
 a5:=Tryz.isAgg5
 z5:=Tryz.sizeOf5
 v5:=Tryz.zeroValue5
 i5:=by kernel_rfl
 t22:=Tryz.underlying63
 a22:=Tryz.isAgg63
 z22:=Tryz.sizeOf63
 v22:=Tryz.zeroValue63
 i22:=by kernel_rfl
 t25:=Tryz.underlying135
 a25:=Tryz.isAgg135
 z25:=Tryz.sizeOf135
 v25:=Tryz.zeroValue135
 i25:=by kernel_rfl
 t54:=Tryz.underlying173
 a54:=Tryz.isAgg173
 z54:=Tryz.sizeOf173
 g1:=by kernel_rfl}
end Go.Proofs
namespace Go.Proofs.YtefmplccbkmalaaGreatDoor
open Go.RowKit

end Go.Proofs.YtefmplccbkmalaaGreatDoor
namespace Go.Proofs.YtefmplccbkmalaaGreatDoor
open Go.RowKit

section
variable {F:Fence} {n:Nat} {P:Program} {o:Oper} {a:Act} {w:World} {K:Act→World→Prop} {Q:Exit→Act→World→Prop}
end
end Go.Proofs.YtefmplccbkmalaaGreatDoor
namespace Go.Proofs.YtefmplccbkmalaaGreatDoor
open Go.RowKit Go.Sort Go.BigFrame
attribute [local go_sem] Oper.semAt_some

def bO(w:World):Prop:=∀ j,j<64→w.cell? ⟨4,j,none⟩=some (.int .u8 (Lib.deBruijn64tab.getD j 0))
theorem bO.call{w w':World}(h:bO w)(hb:Bw w w'):bO w':=fun j hj=>by
 have h1:=h j hj;rw[(iB hb).1 4 j (block_lt_of_cell h1)];exact h1
theorem zg(S:Nat)(h:S<18446744073709551616)(w:World)(hT:bO w):Clz 87 #[.int .u64 S] w fun e w'=>e=.returned (.int .i64 (Lib.ctz 64 S))∧w=w' :=
 (Any7.bits_TrailingZeros64 Tryz.tz64 S h w (fun _=>fun j hj=>hT j hj)).mono (fun _ _ h=>⟨h.1,h.2.symm⟩)
def AF(q S:Nat)(W:World):Prop:=ac W q (.cells #[.int .u64 S] 64 (0,0))∧bO W
theorem nF(S:Nat)(w:World):Clz 29 #[.int .u64 S] w fun e w' =>
  e=.returned (.func (.func 86) #[] #[.pointer (some ⟨w.heap.size,0,none⟩)])∧ac w' w.heap.size (.cells #[.int .u64 S] 64 (0,0))∧Bw w w'∧w'.heap.size=w.heap.size+1:=by
 go_enter Tryz.func29,Tryz.ntmps29;go_wp2_with fail;go_ret;exact⟨rfl,ac.new w (.cells #[.int .u64 S] 64),ae w _,by simp⟩
theorem oR(q S:Nat)(hS:S<18446744073709551616):
  rI Tryz.prog 86 #[.pointer (some ⟨q,0,none⟩)] (bitsL S).length (fun k=>#[.int .i64 ((bitsL S)[k]?.getD 0:Nat)]) (AF q S) (fun _ _=>False) (fun _=>False):=by
 intro n l J Jx W0 hst hstx hRd hsz hszx h0 hy;have hJ0:=h0 W0.heap.size W0 (Below.refl _ _) (Nat.le_refl _) rfl;obtain⟨hr1,hr2⟩:=hRd _ _ _ hJ0;obtain⟨L,hL⟩:∃ L,L=bitsL S:=⟨_,rfl⟩;rw[←hL]at hy ⊢;have hd0:L.drop 0=bitsL S:=by rw[hL];rfl
 have c1:=hr1.cells 0;have l1:=hr1.lt;have hbs:=fun S h0 h=>ud (S:=S) h0 h
 have hb0:=ti;generalize bitsL=BL at *;replace hL:=zhd hL;clear hr2;refine callsIn_of_wp Tryz.func86 rfl trivial ?_ rfl;simp only[Tryz.ntmps86,List.size_toArray,List.length_cons,List.length_nil,Nat.reduceAdd,Nat.reduceSub,Array.replicate_succ,Array.replicate_zero,List.push_toArray,List.append_toArray,List.nil_append,List.cons_append];gi_wp2_with fail;gi_loopw [3] (fun sv wr=>∃(k S':Nat),k≤L.length∧sv=.int .u64 S'∧S'<18446744073709551616∧Hid (L.drop k=BL S')∧J W0.heap.size k wr) (fun sv _=>(intOf sv).toNat)
 case atStart=>exact⟨0,S,Nat.zero_le _,rfl,hS,zhd hd0,hJ0⟩
 case round =>
  obtain⟨k,S',hk,rfl,hS',hd,hJ⟩:=hrel;clear hr1 c1 l1 h0 hd0;obtain⟨_,hr2⟩:=hRd _ _ _ hJ;rcases z:((S':Int) != 0)with _|_
  ·have hz:S'=0:=by simp at z;omega
   have hk2:k=L.length:=by have h1:=hd.out;rw[hz,hb0,List.drop_eq_nil_iff]at h1;omega
   clear hbs;replace hz:=zhd hz;gi_wp2_with fail;rw[hk2]at hJ;first
    | (go_end0;exact⟨W0.heap.size,Nat.le_refl _,.inl ⟨⟨_,rfl⟩,.inl hJ⟩⟩)
    | (refine bodyPost_ret (results_none rfl _ _ _) rfl ?_;exact⟨W0.heap.size,Nat.le_refl _,.inl ⟨⟨_,rfl⟩,.inl hJ⟩⟩)
  ·have hnz:S'≠0:=by simp at z;omega
   obtain⟨b,hb1,hb2,hb3,hb4⟩:=hbs S' hnz hS';rw[←hd.out]at hb3;have hkl:k<L.length:=by
    rcases Nat.lt_or_ge k L.length with h|h
    ·exact h
    ·rw[List.drop_eq_nil_of_le h]at hb3;cases hb3
   rw[List.drop_eq_getElem_cons hkl]at hb3;injection hb3 with h5 h6;have hget:L[k]?.getD 0=b:=by rw[List.getElem?_eq_getElem hkl];exact h5
   have htz:=zg S' hS' wr hr2;rw[hb1]at htz;have hyk:=hy W0.heap.size k wr (Nat.le_refl _) hkl hJ (fun q h1 h2=>by omega);change YieldAt _ _ _ _ #[.int .i64 (L[k]?.getD 0:Nat)] _ _ at hyk;rw[hget]at hyk;obtain⟨fn,tmps,assign,body,hy1,hR⟩:=hyk;have hlt:S'&&&(S'-1)<S':=Nat.lt_of_le_of_lt Nat.and_le_right (by omega);have hw:(S':Int)-1=((S'-1:Nat):Int):=by omega
   have ev:=u64_and_nat S' (S'-1) hS' (by omega);rw[←hw]at ev;replace ev:=zhd ev;clear hbs hw hget h5 hy hd;replace h6:=zhd h6;gi_wp2_with fail;refine⟨trivial,fun h=>by simp[Fence.wide]at h,(callsIn_wide.2 htz).mono ?_⟩;rintro e W' ⟨rfl,rfl⟩;clear htz;gi_wp2_with fail;refine⟨fun h=>by simp[Fence.wide]at h,(jD hR).mono ?_⟩;rintro e W' (⟨rfl,hJ',_⟩|⟨rfl,hJx⟩)
   ·gi_wp2_with fail;go_roundw
    case measure=>rw[ev.out];simp only[intOf];omega
    case rel=>exact⟨k+1,S'&&&(S'-1),by omega,by rw[ev.out],hb4,h6,hJ'⟩
   ·gi_wp2_with fail;refine bodyPost_ret (results_none rfl _ _ _) rfl ?_;exact⟨W0.heap.size,Nat.le_refl _,.inl ⟨⟨_,rfl⟩,.inr ⟨k,hkl,hJx⟩⟩⟩
end Go.Proofs.YtefmplccbkmalaaGreatDoor
namespace Go.Proofs.YtefmplccbkmalaaGreatDoor
open Go.RowKit Go.Sort Go.BigFrame

structure Nib(qs:Nat)(w w':World)(v v':Value):Prop where
 os:w'.os=w.os
 tape:w'.tape=w.tape
 output:w'.output=w.output
 size:w.heap.size≤w'.heap.size
 block:∀ k,k<w.heap.size→k≠qs→some k≠v.ownBlock→w'.heap[k]? = w.heap[k]?
 near:et w v v'
section
variable {qs:Nat} {w w' w2:World} {v v' v2:Value}
theorem Nib.refl(qs:Nat)(w:World)(v:Value):Nib qs w w v v:=⟨rfl,rfl,rfl,Nat.le_refl _,fun _ _ _ _=>rfl,et.refl _ _⟩
theorem Nib.trans(h:Nib qs w w' v v')(k:Nib qs w' w2 v' v2):Nib qs w w2 v v2:=by
 refine⟨k.os.trans h.os,k.tape.trans h.tape,k.output.trans h.output,Nat.le_trans h.size k.size,fun i hi h1 h2=>?_,h.near.trans k.near h.size⟩;rw[k.block i (Nat.lt_of_lt_of_le hi h.size) h1 ?_,h.block i hi h1 h2];intro e;rcases h.near i e.symm with h3|h3
 ·exact h2 h3.symm
 ·omega
theorem Nib.of_below(qs:Nat)(h:Bw w w')(v:Value):Nib qs w w' v v:=⟨h.os,h.tape,h.output,h.size,fun i hi _ _=>h.block i hi,et.refl _ _⟩
theorem Nib.hasO(h:Nib qs w w' v v'){q:Nat}{o:Obj}(ho:ac w q o)(h1:q≠qs)(h2:v.ownBlock≠some q):ac w' q o:=(h.block q ho.lt h1 (fun e=>h2 e.symm)).trans ho
theorem Nib.below(h:Nib qs w w' v v'){B:Nat}(h1:B≤qs)(h2:∀ k,v.ownBlock=some k→B≤k)(hB:B≤w.heap.size):RowKit.Below B w w' :=
 ⟨h.os,h.tape,h.output,h.size,fun k hk=>h.block k (Nat.lt_of_lt_of_le hk hB) (by omega) (fun e=>by have:=h2 k e.symm;omega)⟩
theorem Nib.set(h:Nib qs w w' v v')(i:Nat)(u:Value):Nib qs w (w'.setCell ⟨qs,i,none⟩ u) v v':=by obtain⟨h1,h2,h3,h4,h5,h6⟩:=h;have hs:Alt qs (qs+1) w' (w'.setCell ⟨qs,i,none⟩ u):=Alt.setCell ⟨Nat.le_refl _,Nat.lt_succ_self _⟩;exact⟨hs.os.trans h1,hs.tape.trans h2,hs.output.trans h3,Nat.le_trans h4 hs.size,fun k hk e1 e2=>(hs.block k (Nat.lt_of_lt_of_le hk h4) (by omega)).trans (h5 k hk e1 e2),h6⟩
end
abbrev ez(F R:Nat)(pp:Option Addr)(n cc:Nat)(bl:Bool)(ca pa ha fu:Int)(occ:Nat)(v:Value):List Value:=aa F R pp n cc bl ca pa ha fu++[.int .u64 occ,v]
def eB(P:Pos)(m:Mv):Nat:=if P.F=8∧P.R=8 then lostM m else 0
def jQ(P:Pos)(m:Mv)(cp at_:Int)(k:Nat):List Ret :=
 if clrN k (eB P m)≠clrN P.ca.toNat (eB P m)∨clrN P.ca.toNat k≠0 then []
 else((behL P.F P.R (befW P ⟨m,cp,at_,k,0⟩).xs (!P.bl) (befW P ⟨m,cp,at_,k,0⟩).ha).map (fun pa=>(⟨m,cp,at_,k,pa⟩:Ret))).filter (mayW P)
def lZ(P:Pos)(m:Mv)(cp at_:Int):Nat→List Ret
 | 0=>[]
 | k+1=>lZ P m cp at_ k++jQ P m cp at_ k
def db(P:Pos)(m:Mv)(cp at_:Int):List Ret:=lZ P m cp at_ 16
end Go.Proofs.YtefmplccbkmalaaGreatDoor
namespace Go.Proofs.YtefmplccbkmalaaGreatDoor
open Go.RowKit

def eC(P:Pos)(m:Mv):Nat→List Ret
 | 0=>[]
 | k+1=>eC P m k++db P m (pcI ((k+1:Nat):Int) P.bl) m.tg
def fW(sd:Bool):List (Int×Int):=let d:Int:=if sd then 1 else -1;[(0,d),(0,2*d),(-1,d),(1,d)]
def fq(P:Pos)(tg:Nat)(pr:Int)(x:Int×Int):List Ret :=
 let a:Int:=(tg%P.F:Nat)+x.1
 let b:Int:=(tg/P.F:Nat)+x.2
 if onB P.F P.R a b=false then []else
 if P.occ.testBit (a+b*P.F).toNat then []else
 if x.1=0 then db P ⟨a+b*P.F,tg,pr⟩ 0 (-1)else
 eC P ⟨a+b*P.F,tg,pr⟩ 5++(if P.occ.testBit ((tg%P.F:Nat)+b*P.F).toNat then []else db P ⟨a+b*P.F,tg,pr⟩ (pcI 1 P.bl) ((tg%P.F:Nat)+b*P.F))
def eH(P:Pos)(tg:Nat)(pr:Int):Nat→List Ret
 | 0=>[]
 | k+1=>eH P tg pr k++fq P tg pr ((fW (!P.bl))[k]?.getD (0,0))
def pieS(P:Pos)(tg:Nat):Nat:=reachW P.F P.R tg P.occ (kindI (P.at_ tg))&&&(2^64-1-P.occ)
def lT(P:Pos)(tg fr:Nat):List Ret:=if 0<P.ha then db P ⟨fr,tg,0⟩ 0 (-1)else eC P ⟨fr,tg,0⟩ 5
def dT(P:Pos)(tg:Nat):Nat→List Ret
 | 0=>[]
 | k+1=>dT P tg k++lT P tg ((bitsL (pieS P tg))[k]?.getD 0)
def jW(P:Pos)(tg:Nat)(c:Cas):Bool:=(decide (P.F=8)&&decide (P.R=8))&&(decide (kindI (P.at_ tg)=6)&&(decide (tg=c.tg)&&(decide (c.bl=!P.bl)&&!P.occ.testBit c.fr)))
def iF(P:Pos)(tg:Nat)(c:Cas):List Ret:=if jW P tg c then db P ⟨c.fr,tg,0⟩ 0 (-1)else []
def gE(P:Pos)(tg:Nat):Nat→List Ret
 | 0=>[]
 | k+1=>gE P tg k++iF P tg (az[k]?.getD ⟨0,false,0,0,0,0⟩)
def ft(P:Pos)(tg:Nat):List Ret:=dT P tg (bitsL (pieS P tg)).length++gE P tg 4
def skC(P:Pos)(tg:Nat):List Ret :=
 if kindI (P.at_ tg)=1 then eH P tg 0 4 else
 ft P tg++(if kindI (P.at_ tg)≠6∧tg/P.F=(if P.bl then P.R-1 else 0)then eH P tg (kindI (P.at_ tg)) 4 else [])
def eA(P:Pos):Nat:=setW (if P.bl then gPos else gNeg) P.xs P.xs.length
def skK(P:Pos):Nat→List Ret
 | 0=>[]
 | k+1=>skK P k++skC P ((bitsL (eA P))[k]?.getD 0)
def skL(P:Pos):List Ret:=skK P (bitsL (eA P)).length

theorem vF(P:Pos)(m:Mv)(cp a:Int)(k:Nat)(hF:P.F≤8):(jQ P m cp a k).length≤9:=by
 unfold jQ;split
 ·simp
 ·refine Nat.le_trans (List.length_filter_le _ _) ?_;rw[List.length_map];unfold behL;split
  ·simp
  ·exact Nat.le_trans (ma _ _ _ _ _ _) (by omega)
theorem nh(P:Pos)(m:Mv)(cp a:Int)(hF:P.F≤8):∀ k,(lZ P m cp a k).length≤9*k:=by
 intro k;induction k with
 | zero=>simp[lZ]
 | succ k ih=>have:=vF P m cp a k hF;simp only[lZ,List.length_append];omega
theorem fZ(P:Pos)(m:Mv)(cp a:Int)(hF:P.F≤8):(db P m cp a).length≤144:=nh P m cp a hF 16
theorem iA(P:Pos)(m:Mv)(hF:P.F≤8):∀ k,(eC P m k).length≤144*k:=by
 intro k;induction k with
 | zero=>simp[eC]
 | succ k ih=>have:=fZ P m (pcI ((k+1:Nat):Int) P.bl) m.tg hF;simp only[eC,List.length_append];omega
theorem um(P:Pos)(tg:Nat)(pr:Int)(x:Int×Int)(hF:P.F≤8):(fq P tg pr x).length≤864:=by
 unfold fq;simp only;split
 ·simp
 split
 ·simp
 split
 ·exact Nat.le_trans (fZ _ _ _ _ hF) (by omega)
 ·rw[List.length_append];refine Nat.le_trans (Nat.add_le_add (d:=144) (iA _ _ hF 5) ?_) (by omega);split
  ·simp
  ·exact fZ _ _ _ _ hF
theorem iw(P:Pos)(tg:Nat)(pr:Int)(hF:P.F≤8):∀ k,(eH P tg pr k).length≤864*k:=by
 intro k;induction k with
 | zero=>simp[eH]
 | succ k ih=>have:=um P tg pr ((fW (!P.bl))[k]?.getD (0,0)) hF;simp only[eH,List.length_append];omega
theorem vQ(P:Pos)(tg fr:Nat)(hF:P.F≤8):(lT P tg fr).length≤720:=by
 unfold lT;split
 ·exact Nat.le_trans (fZ _ _ _ _ hF) (by omega)
 ·exact iA _ _ hF 5
theorem nE(P:Pos)(tg:Nat)(hF:P.F≤8):∀ k,(dT P tg k).length≤720*k:=by
 intro k;induction k with
 | zero=>simp[dT]
 | succ k ih=>have:=vQ P tg ((bitsL (pieS P tg))[k]?.getD 0) hF;simp only[dT,List.length_append];omega
theorem pb(P:Pos)(tg:Nat)(hF:P.F≤8):∀ k,(gE P tg k).length≤144*k:=by
 intro k;induction k with
 | zero=>simp[gE]
 | succ k ih =>
  have:(iF P tg (az[k]?.getD ⟨0,false,0,0,0,0⟩)).length≤144:=by
   unfold iF;split
   ·exact fZ _ _ _ _ hF
   ·simp
  simp only[gE,List.length_append];omega
theorem fk(S:Nat):(bitsL S).length≤64:=Nat.le_trans (List.length_filter_le _ _) (by simp)
theorem oV(P:Pos)(tg:Nat)(hF:P.F≤8):(ft P tg).length≤46656:=by have h1:=nE P tg hF (bitsL (pieS P tg)).length;have h2:=fk (pieS P tg);have h3:=pb P tg hF 4;unfold ft;rw[List.length_append];omega
theorem vl(c:Prop)[Decidable c](l:List Ret)(n:Nat)(h:l.length≤n):(if c then l else []).length≤n:=by
 split
 ·exact h
 ·simp
theorem xP(P:Pos)(tg:Nat)(hF:P.F≤8):(skC P tg).length≤51000:=by
 have h0:=iw P tg 0 hF 4;have h1:=oV P tg hF;have h2:=iw P tg (kindI (P.at_ tg)) hF 4;unfold skC;by_cases h:kindI (P.at_ tg)=1
 ·rw[if_pos h];exact Nat.le_trans h0 (by omega)
 ·rw[if_neg h,List.length_append];exact Nat.le_trans (Nat.add_le_add h1 (vl _ _ _ h2)) (by omega)
theorem lL(P:Pos)(hF:P.F≤8):∀ k,(skK P k).length≤51000*k:=by
 intro k;induction k with
 | zero=>simp[skK]
 | succ k ih=>have:=xP P ((bitsL (eA P))[k]?.getD 0) hF;simp only[skK,List.length_append];omega
theorem qQ(P:Pos)(hF:P.F≤8):(skL P).length≤3264000:=by have h1:=lL P hF (bitsL (eA P)).length;have h2:=fk (eA P);unfold skL;omega
end Go.Proofs.YtefmplccbkmalaaGreatDoor
namespace Go.Proofs.YtefmplccbkmalaaGreatDoor
open Go.RowKit Go.Sort Go.BigFrame

abbrev aD(l:List Ret):List Value:=l.flatMap Ret.cs
abbrev zeroRet:Ret:=⟨⟨0,0,0⟩,0,0,0,0⟩
instance:Inhabited Ret:=⟨zeroRet⟩
theorem retsV_cons(m:Ret)(L:List Ret):aD (m::L)=m.cs++aD L:=by simp[aD]
theorem retsV_app(L M:List Ret):aD (L++M)=aD L++aD M:=by simp[aD]
theorem cG(l:List Ret):(aD l).length=l.length*7:=by
 induction l with
 | nil=>rfl
 | cons m l ih=>rw[retsV_cons,List.length_append,ih,show m.cs.length=7 from rfl,show(m::l).length=l.length+1 from rfl];omega
theorem lC(m:Ret):∀ u∈m.cs,u.oneCell'=true:=by intro u hu;simp at hu;rcases hu with rfl|rfl|rfl|rfl|rfl|rfl|rfl<;>rfl
theorem gh:∀(L:List Ret) (j i:Nat) (v:Value),j<L.length→(L[j]?.getD zeroRet).cs[i]? = some v→(aD L)[j*7+i]? = some v:=by
 intro L;induction L with
 | nil=>intro j i v h;simp at h
 | cons m L ih =>
  intro j i v hj hv;have h:aD (m::L)=m.cs++aD L:=by simp[aD]
  rw[h];rcases j with _|j
  ·simp only[List.getElem?_cons_zero,Option.getD_some]at hv;have:i<m.cs.length:=(List.getElem?_eq_some_iff.1 hv).1;rw[Nat.zero_mul,Nat.zero_add,List.getElem?_append_left this];exact hv
  ·simp only[List.getElem?_cons_succ]at hv;rw[List.getElem?_append_right (by show 7≤_;omega),show(j+1)*7+i-m.cs.length=j*7+i by show _-7=_;omega];exact ih j i v (by simpa using hj) hv
theorem sJ(L:List Ret):∀ u∈aD L,u.oneCell'=true:=by intro u hu;obtain⟨m,_,hm⟩:=List.mem_flatMap.1 hu;exact lC m u hm
theorem retsV_take:∀(L:List Ret) (j:Nat),aD (L.take j)=(aD L).take (j*7):=by
 intro L;induction L with
 | nil=>intro j;simp[aD]
 | cons m L ih =>
  intro j;rcases j with _|j
  ·simp[aD]
  ·rw[List.take_succ_cons,retsV_cons,retsV_cons,ih,List.take_append,List.take_of_length_le (l:=m.cs) (by show 7≤_;omega),show(j+1)*7-m.cs.length=j*7 by show _-7=_;omega]
theorem retsV_drop:∀(L:List Ret) (j:Nat),aD (L.drop j)=(aD L).drop (j*7):=by
 intro L;induction L with
 | nil=>intro j;simp[aD]
 | cons m L ih =>
  intro j;rcases j with _|j
  ·simp
  ·rw[List.drop_succ_cons,retsV_cons,ih,List.drop_append,List.drop_of_length_le (l:=m.cs) (by show 7≤_;omega),show(j+1)*7-m.cs.length=j*7 by show _-7=_;omega,List.nil_append]
theorem tI(L:List Ret){j:Nat}(hj:j<L.length)(x:Ret):aD (L.set j x)=(aD L).take (j*7)++x.cs++(aD L).drop (j*7+7):=by rw[List.set_eq_take_append_cons_drop,if_pos hj,retsV_app,retsV_cons,retsV_take,retsV_drop,show(j+1)*7=j*7+7 by omega];exact(List.append_assoc _ _ _).symm
structure fe{α:Type}(cf:α→α→Int):Prop where
 anti:∀ x y,cf y x=-cf x y
 trans:∀ x y z,cf x y≤0→cf y z≤0→cf x z≤0
theorem fe.strict{α:Type}{cf:α→α→Int}(h:fe cf){x y z:α}(h1:cf x y≤0)(h2:cf y z≤0)(h0:cf x z=0):cf x y=0∧cf y z=0:=by have a1:=h.anti x z;have a2:=h.anti y z;have a3:=h.anti x y;have t1:=h.trans z x y (by omega) h1;have t2:=h.trans y z x h2 (by omega);omega
theorem fe.swo{α:Type}{cf:α→α→Int}(h:fe cf):SWO (fun x y=>decide (cf x y<0)):=by
 refine⟨fun x=>?_,fun x y z h1 h2=>?_,fun x y z h1 h2=>?_⟩
 ·have:=h.anti x x;simp;omega
 ·simp only[decide_eq_true_eq]at h1 h2 ⊢;have h3:=h.trans x y z (by omega) (by omega);rcases(by omega:cf x z=0∨cf x z<0)with h0|h0
  ·have:=h.strict (by omega:cf x y≤0) (by omega:cf y z≤0) h0;omega
  ·exact h0
 ·simp only[decide_eq_false_iff_not]at h1 h2 ⊢;have a1:=h.anti x z;have a2:=h.anti y z;have a3:=h.anti x y;have h3:=h.trans z y x (by omega) (by omega);omega
theorem fK:fe cI:=by
 refine⟨fun x y=>?_,fun x y z=>?_⟩<;>unfold cI
 ·repeat' split
  all_goals omega
 ·intro h1 h2;repeat' split at h1
  all_goals repeat' split at h2
  all_goals repeat' split
  all_goals omega
theorem eq{α β:Type}{cf:β→β→Int}(h:fe cf)(f:α→β):fe (fun x y=>cf (f x) (f y)):=⟨fun _ _=>h.anti _ _,fun _ _ _=>h.trans _ _ _⟩
def or2(a b:Int):Int:=if a≠0 then a else b
theorem fo{α:Type}{c1 c2:α→α→Int}(h1:fe c1)(h2:fe c2):fe (fun x y=>or2 (c1 x y) (c2 x y)):=by
 refine⟨fun x y=>?_,fun x y z=>?_⟩
 ·have a1:=h1.anti x y;have a2:=h2.anti x y;unfold or2;repeat' split
  all_goals omega
 ·intro e1 e2;have k1:c1 x y≤0:=by unfold or2 at e1;split at e1<;>omega
  have k2:c1 y z≤0:=by unfold or2 at e2;split at e2<;>omega
  have k3:=h1.trans x y z k1 k2;show or2 (c1 x z) (c2 x z)≤0;unfold or2;by_cases h0:c1 x z=0
  ·obtain⟨z1,z2⟩:=h1.strict k1 k2 h0;unfold or2 at e1 e2;rw[if_neg (by omega)]at e1 e2;rw[if_neg (by omega)];exact h2.trans x y z e1 e2
  ·rw[if_pos h0];exact k3
theorem nk{α:Type}:fe (fun _ _:α=>(0:Int)):=⟨fun _ _=>rfl,fun _ _ _ _ _=>Int.le_refl _⟩
theorem orL_cons(x:Int)(l:List Int):orL (x::l)=or2 x (orL l):=by unfold or2;by_cases h:x=0<;>simp[orL,h]
def o8(a b:Mv):Int:=orL [cI a.fr b.fr,cI a.tg b.tg,cI a.pr b.pr]
def eU(a b:Ret):Int:=orL [orL [cI a.mv.fr b.mv.fr,cI a.mv.tg b.mv.tg,cI a.mv.pr b.mv.pr],cI a.cp b.cp,cI a.at_ b.at_,cI a.ca b.ca,cI a.pa b.pa]
theorem va:fe o8:=by
 have h:o8=fun a b=>or2 (cI a.fr b.fr) (or2 (cI a.tg b.tg) (or2 (cI a.pr b.pr) 0)):=by
  funext a b
  unfold o8;rw[orL_cons,orL_cons,orL_cons];rfl
 rw[h];exact fo (eq fK Mv.fr) (fo (eq fK Mv.tg) (fo (eq fK Mv.pr) nk))
theorem fO:fe eU:=by
 have h:eU=fun a b=>or2 (o8 a.mv b.mv) (or2 (cI a.cp b.cp) (or2 (cI a.at_ b.at_) (or2 (cI a.ca b.ca) (or2 (cI a.pa b.pa) 0)))):=by
  funext a b
  show orL [o8 a.mv b.mv,cI a.cp b.cp,cI a.at_ b.at_,cI a.ca b.ca,cI a.pa b.pa]=_;rw[orL_cons,orL_cons,orL_cons,orL_cons,orL_cons];rfl
 rw[h];exact fo (eq va Ret.mv) (fo (eq fK Ret.cp) (fo (eq fK Ret.at_) (fo (eq fK Ret.ca) (fo (eq fK Ret.pa) nk))))
theorem dE{a b:Int}(h:or2 a b=0):a=0∧b=0:=by
 unfold or2 at h;split at h
 ·contradiction
 ·rename_i h2;exact⟨by omega,h⟩
theorem eO{a b:Int}(h:cI a b=0):a=b:=by
 unfold cI at h;split at h
 ·cases h
 ·split at h
  ·cases h
  ·omega
theorem xd{a b:Ret}(h:eU a b=0):a=b:=by unfold eU at h;simp only[orL_cons]at h;obtain⟨h1,h⟩:=dE h;obtain⟨h2,h⟩:=dE h;obtain⟨h3,h⟩:=dE h;obtain⟨h4,h⟩:=dE h;obtain⟨h5,_⟩:=dE h;obtain⟨k1,h1⟩:=dE h1;obtain⟨k2,h1⟩:=dE h1;obtain⟨k3,_⟩:=dE h1;obtain⟨⟨a1,a2,a3⟩,a4,a5,a6,a7⟩:=a;obtain⟨⟨b1,b2,b3⟩,b4,b5,b6,b7⟩:=b;simp only[Ret.mk.injEq,Mv.mk.injEq];exact⟨⟨eO k1,eO k2,eO k3⟩,eO h2,eO h3,eO h4,eO h5⟩
theorem ox(d:Array Ret)(t:Nat):(flatK Ret.cs 7 d).toList[t]? = (aD d.toList)[t]?:=by
 by_cases ht:t<d.size*7
 ·have hj:t/7<d.size:=by omega
  have hi:t%7<7:=Nat.mod_lt _ (by omega);have h1:=get_flatK Ret.cs 7 d t ht;have hx:d.toList[t/7]?.getD zeroRet=d[t/7]!:=by rw[Array.getElem?_toList,Array.getElem?_eq_getElem hj];simp[getElem!_pos d (t/7) hj]
  have h2:(d[t/7]!.cs)[t%7]? = some ((Ret.cs d[t/7]!)[t%7]!):=by have hl:(Ret.cs d[t/7]!).length=7:=rfl;rw[List.getElem?_eq_getElem (by rw[hl];exact hi)];simp[hi]
  have h3:=gh d.toList (t/7) (t%7) _ (by simpa using hj) (by rw[hx];exact h2);rw[show t/7*7+t%7=t by omega]at h3;rw[h3,←h1,Array.getElem?_toList,Array.getElem?_eq_getElem (by simpa using ht)];simp[ht]
 ·rw[List.getElem?_eq_none (by simp;omega),List.getElem?_eq_none (by rw[cG];simp;omega)]
theorem ue(d:Array Ret):(flatK Ret.cs 7 d).toList=aD d.toList:=List.ext_getElem? (ox d)
theorem vf(F cur:Array Value)(h:F.size≤cur.size):(putCells id 0 F cur).toList.take F.size=F.toList:=by
 apply List.ext_getElem?
 intro t;by_cases ht:t<F.size
 ·rw[List.getElem?_take_of_lt ht,Array.getElem?_toList,Array.getElem?_toList];unfold putCells;rw[Array.getElem?_mapIdx,Array.getElem?_eq_getElem (show t<cur.size by omega),Array.getElem?_eq_getElem ht];simp[ht]
 ·rw[List.getElem?_eq_none (by simp;omega),List.getElem?_eq_none (by simpa using ht)]
theorem nS{P:Program}{f:FuncId}{args:Array Value}{w:World}{v:Value}(h:Calls P f args w fun e w'=>e=.returned v∧Below w.heap.size w w'):
  Calls P f args w fun e w'=>e=.returned v∧∃ q os,w'=grow (w.drewN q) os:=by
 refine(pL h).mono ?_;rintro e w' ⟨⟨rfl,hb⟩,hd⟩;obtain⟨p,hp⟩:=regrown_of_below hb;have hd:=hd v rfl;have hdr:w'.drawn=p.d:=by rw[hp];rfl
 refine⟨rfl,p.d-w.drawn,p.os,?_⟩;rw[hp];congr 1;show redrawn w p.d=w.drewN (p.d-w.drawn);unfold redrawn World.drewN;congr 1;omega
theorem zW(w:World):(isAgg 42).run Tryz.prog w=.ok true w:=by kernel_rfl
theorem yL(w:World):(Go.sizeOf 42).run Tryz.prog w=.ok 7 w:=by kernel_rfl
theorem vn(x y:Ret)(W:World):Clz 18 #[.agg x.cs.toArray,.agg y.cs.toArray] W fun e w'=>e=.returned (.int .i64 (eU x y))∧Bw W w':=sn x y W
theorem pz(base g n cap:Nat)(L:List Ret)(hn:n=L.length)(w:World)
  (hown:w.ownsRow base 42 7 (.slice (some ⟨g,0,none⟩) n cap) n (aD L)) (hn2:n<100000000) :
  Clz 33 #[.slice (some ⟨g,0,none⟩) n cap,.func (.func 18) #[] #[]] w fun e w'=>e=.returned (.tuple #[])∧∃ L',L'.Perm L∧L'.Pairwise (fun x y=>¬eU y x<0)∧w'.ownsRow base 42 7 (.slice (some ⟨g,0,none⟩) n cap) n (aD L')∧w.grownBy w' (some g):=by
 obtain⟨d,hd⟩:∃ d:Array Ret,d.toList=L:=⟨L.toArray,by simp⟩;have hsz:d.size=n:=by rw[hn,←hd];simp
 rcases hown.2 with⟨h1,_⟩|⟨g',cap',cur,hv,hbase,hheap,hncap,hcap,hcs,htake⟩
 ·cases h1
 injection hv with hv1 _ hv2;injection hv1 with hv1;injection hv1 with hv1;subst hv1 hv2;have hblk:g<w.heap.size:=(Array.getElem?_eq_some_iff.1 hheap).1;have hH:HoldsK Ret.cs 7 w g 0 d:=by
  intro t ht;have ht':t<n*7:=by rw[←hsz];simpa using ht
  have h1:cur[t]? = some ((flatK Ret.cs 7 d)[t]!):=by have h2:=ox d t;rw[hd,←htake,List.getElem?_take_of_lt ht',Array.getElem?_toList,Array.getElem?_toList,Array.getElem?_eq_getElem ht]at h2;rw[←h2,getElem!_pos _ t ht]
  refine⟨?_,?_⟩
  ·simp[World.cell?,hheap,h1]
  ·simp[World.frozen?,hheap]
 have hcmp:CmpLays Tryz.prog 18 #[] Ret.cs 7 eU g 0 d.size w:=fun m os dk _ x y=>nS (vn x y _)
 have h:=AnyQ.slices_SortFunc (P:=Tryz.prog) (ρ:=Tryz.srt_ren) Tryz.srt 7 zW yL Ret.cs (fun _=>rfl) lC eU fO.swo 18 #[] g 0 cap d w (enters_of Tryz.func18 (by kernel_rfl) rfl) hcmp hH hblk (by omega);rw[hsz]at h;refine h.mono ?_;rintro e w' ⟨he,d',k,os,hp,hs,rfl⟩;have hsz':d'.size=n:=by have:=hp.1;omega
 refine⟨he,d'.toList,?_,?_,?_,?_⟩
 ·rw[←hd];have h3:=hp.2.2;rw[←hsz,Array.extract_size]at h3;rw[hsz,←hsz',Array.extract_size]at h3;exact h3
 ·rw[List.pairwise_iff_getElem];intro i j hi hj hij;have hi':i<d'.size:=by simpa using hi
  have hj':j<d'.size:=by simpa using hj
  have h4:=hs i j (Nat.zero_le _) hij (by omega);rw[getElem!_pos d' i hi',getElem!_pos d' j hj']at h4;simpa using of_decide_eq_false h4
 ·have hF:(flatK Ret.cs 7 d').size=n*7:=by rw[size_flatK,hsz']
  refine⟨by rw[cG];simp[hsz'],.inr ⟨g,cap,putCells id 0 (flatK Ret.cs 7 d') cur,rfl,hbase,?_,hncap,hcap,by simp[putCells,hcs],?_⟩⟩
  ·show((w.heap.modify g (onCells (putCells id 0 (flatK Ret.cs 7 d'))))++os)[g]? = _;rw[Array.getElem?_append_left (by simpa using hblk),Array.getElem?_modify,if_pos rfl,hheap];rfl
  ·rw[←hF,vf _ _ (by rw[hF,hcs];exact Nat.mul_le_mul_right 7 hncap),ue]
 ·refine⟨rfl,rfl,rfl,?_,?_⟩
  ·show w.heap.size≤((w.heap.modify g (onCells (putCells id 0 (flatK Ret.cs 7 d'))))++os).size;simp
  ·intro j hj hne;show((w.heap.modify g (onCells (putCells id 0 (flatK Ret.cs 7 d'))))++os)[j]? = _;rw[Array.getElem?_append_left (by simpa using hj),Array.getElem?_modify,if_neg (fun e=>hne (by rw[e]))]
theorem pB(w:World):Clz 147 #[.slice none 0 0,.int .i64 0,.int .i64 0,.func (.func 18) #[] #[]] w fun e w'=>e=.returned (.tuple #[])∧w=w':=by
 go_enter Tryz.func147,Tryz.ntmps147;go_wp2_with fail;go_loopg [8] 1 (fun q iv wr=>q=1∧iv=.int .i64 1∧w=wr)
 case atStart=>exact⟨rfl,rfl,rfl⟩
 case round =>
  obtain⟨_,rfl,rfl⟩:=hrel;go_wp2_with fail;go_end0
  exact⟨rfl,rfl⟩
theorem vp(w:World):Clz 33 #[.slice none 0 0,.func (.func 18) #[] #[]] w fun e w'=>e=.returned (.tuple #[])∧w=w':=by
 have hpd:∀ lim W,Clz 94 #[.slice none 0 0,.int .i64 0,.int .i64 0,.int .i64 lim,.func (.func 18) #[] #[]] W fun e w'=>e=.returned (.tuple #[])∧W=w':=by
  intro lim W;have hins:=pB W;go_enter Tryz.func94,Tryz.ntmps94;go_wp2_with fail;go_loopg [1,2,3,10,11] 1 (fun q a1 a2 a3 b1 b2 wr=>q=1∧a1=.int .i64 0∧a2=.int .i64 0∧W=wr)
  case atStart=>exact⟨rfl,rfl,rfl,rfl⟩
  case round=>obtain⟨_,rfl,rfl,rfl⟩:=hrel;go_wp2_with fail;refine hins.mono ?_;rintro e w2 ⟨rfl,rfl⟩;go_wp2_with fail;exact bodyPost_ret (results_none rfl _ _ _) rfl ⟨rfl,rfl⟩
 have hbl:=Tryz.bits_Len 0 w (by omega) (by omega);go_enter Tryz.func33,Tryz.ntmps33;go_wp2_with fail;refine hbl.mono ?_;rintro e w2 ⟨rfl,rfl⟩;go_wp2_with fail;refine(hpd _ _).mono ?_;rintro e w2 ⟨rfl,rfl⟩;go_wp2_with fail;go_end0
 exact⟨rfl,rfl⟩
theorem sQ(base n:Nat)(v:Value)(L:List Ret)(hn:n=L.length)(w:World)(hown:w.ownsRow base 42 7 v n (aD L))(hn2:n<100000000):
  Clz 33 #[v,.func (.func 18) #[] #[]] w fun e w'=>e=.returned (.tuple #[])∧∃ L',L'.Perm L∧L'.Pairwise (fun x y=>¬eU y x<0)∧w'.ownsRow base 42 7 v n (aD L')∧w.grownBy w' v.ownBlock:=by
 rcases hown.2 with⟨rfl,rfl⟩|⟨g,cap,cur,rfl,_⟩
 ·refine(vp w).mono ?_;rintro e w' ⟨rfl,rfl⟩;obtain rfl:L=[]:=List.length_eq_zero_iff.1 hn.symm;exact⟨rfl,[],List.Perm.refl _,List.Pairwise.nil,hown,⟨rfl,rfl,rfl,Nat.le_refl _,fun _ _ _=>rfl⟩⟩
 ·exact pz base g n cap L hn w hown hn2
end Go.Proofs.YtefmplccbkmalaaGreatDoor
