import Derived.Test.YtefmplccbkmalaaGreatDoorB18
set_option maxRecDepth 100000
set_option maxHeartbeats 12800000
namespace Go.Proofs.YtefmplccbkmalaaGreatDoor
open Go.RowKit

theorem iW(P:Pos)(a b:Nat)(pr:Int):bL P ⟨a,b,pr⟩=(if gx P.xs (cz P.F (gx P.xs a) P.pa a b)=0 then -1 else(cz P.F (gx P.xs a) P.pa a b:Int),gx P.xs (cz P.F (gx P.xs a) P.pa a b)):=tw P.F P.R P.xs P.bl 0 P.pa P.ha P.fu a b pr
theorem gu{F R:Nat}{xs:List Int}{bl:Bool}{pa ha:Int}{b:Nat}(h:passB F R xs bl pa ha=true)(hb:(b:Int)=pa):6≤R∧ha=0∧2*((b/F:Nat):Int)=rankI R (!bl) 2+rankI R (!bl) 4∧gx xs b=0∧gx xs (sqN F (b%F) (rankI R (!bl) 2))=0∧gx xs (sqN F (b%F) (rankI R (!bl) 4))=pcI 1 (!bl):=by
 subst hb;unfold passB psB at h;simp only[Bool.or_eq_true,Bool.and_eq_true,Bool.not_eq_true',beq_iff_eq,decide_eq_false_iff_not,Int.toNat_natCast]at h;rcases h with h|h
 ·omega
 ·exact⟨by omega,h.2.1,h.2.2.2.1,h.2.2.2.2.1,h.2.2.2.2.2.1,h.2.2.2.2.2.2⟩
inductive ip(P:Pos)(a b:Nat):Int→Int→Prop
 | none (hb:gx P.xs b=0) (hp:kindI (gx P.xs a)=1→(b:Int)≠P.pa):ip P a b (-1) 0
 | take (hb:gx P.xs b≠0):ip P a b b (gx P.xs b)
 | pass (e:Nat) (he:e<P.F*P.R) (hx:gx P.xs e=pcI 1 (!P.bl)) (hb:gx P.xs b=0) (ha:gx P.xs a=pcI 1 P.bl) (hee:e=a/P.F*P.F+b%P.F) (hp:(b:Int)=P.pa) (hd:dF P.F a b=1∨dF P.F a b=-1):ip P a b e (pcI 1 (!P.bl))
theorem jy(b:Bool):pcI 1 b≠pcI 1 (!b)∧pcI 1 b≠0:=by cases b<;>decide
theorem rs{F a b:Nat}(h:dF F a b=0):a%F=b%F:=by unfold dF at h;omega
theorem tW{P:Pos}(hpas:passB P.F P.R P.xs P.bl P.pa P.ha=true){a b:Nat}{pr:Int}(hlen:P.xs.length=P.F*P.R)(h:GoS P a b pr):ip P a b (bL P ⟨a,b,pr⟩).1 (bL P ⟨a,b,pr⟩).2:=by
 have hno:(kindI (gx P.xs a)=1→(b:Int)≠P.pa)→ip P a b (bL P ⟨a,b,pr⟩).1 (bL P ⟨a,b,pr⟩).2:=by
  intro hq;have e:cz P.F (gx P.xs a) P.pa a b=b:=by unfold cz;rw[if_neg (fun h=>hq h.1 h.2)]
  rw[iW,e];by_cases e0:gx P.xs b=0
  ·rw[if_pos e0];simp only[e0];exact .none e0 hq
  ·rw[if_neg e0];exact .take e0
 have hk1:kindI (pcI 1 P.bl)=1:=by cases P.bl<;>decide
 obtain⟨n1,n2⟩:=jy P.bl;rcases h with⟨hk,_,_⟩|⟨hk,hb,hd,hr,_⟩|⟨hk,hb,hd,hr,h6,hs,c,⟨_,c1,c2,c3⟩,_⟩|⟨hk,hd,hr,hc,_⟩
 ·exact hno (fun h=>absurd h hk)
 ·refine hno fun _ hp=>?_
  obtain⟨p1,_,p3,_,_,p6⟩:=gu hpas hp;rw[wu (rs hd) (a:=a),hk]at p6
  ·exact n1 p6
  ·unfold dR at hr;unfold rankI at p3 ⊢;unfold sdI at hr;revert hr p3;cases P.bl<;>simp<;>omega
 ·refine hno fun _ hp=>?_
  obtain⟨p1,_,p3,_,_,p6⟩:=gu hpas hp;rw[wu (a:=c) ((rs c1).symm.trans (rs hd)),c3]at p6
  ·exact(jy (!P.bl)).2 p6.symm
  ·unfold dR at hr c2;unfold rankI at p3 ⊢;unfold sdI at hr c2;revert hr p3 c2 hs;cases P.bl<;>simp<;>omega
 ·by_cases hp:(b:Int)=P.pa
  ·obtain⟨p1,_,p3,p4,_,p6⟩:=gu hpas hp;have e:cz P.F (gx P.xs a) P.pa a b=a/P.F*P.F+b%P.F:=by unfold cz;rw[if_pos ⟨by rw[hk];exact hk1,hp⟩]
   have e2:sqN P.F (b%P.F) (rankI P.R (!P.bl) 4)=a/P.F*P.F+b%P.F:=by
    unfold sqN;have:(rankI P.R (!P.bl) 4).toNat=a/P.F:=by unfold dR at hr;unfold rankI at p3 ⊢;unfold sdI at hr;revert hr p3;cases P.bl<;>simp<;>omega
    rw[this]
   rw[e2]at p6;rw[iW,e,p6,if_neg (jy (!P.bl)).2];exact .pass _ (by rw[←hlen];exact il (by rw[p6];exact(jy (!P.bl)).2)) p6 p4 hk rfl hp hd
  ·exact hno fun _=>hp
theorem nA{P:Pos}{m:Mv}:∀ {l:List Cas} {c:Cas},casW P m l=(some c,true)→c∈l∧c.bl=P.bl∧P.ca.toNat&&&c.bit≠0∧(c.fr:Int)=m.fr∧(c.tg:Int)=m.tg∧btwW P.F P.R c.fr c.co&&&P.occ=0
 | [],c,h=>by cases h
 | d::l,c,h=>by
  unfold casW at h;split at h
  ·have:=nA h;exact⟨List.mem_cons_of_mem _ this.1,this.2⟩
  ·rename_i hc;injection h with h1 h2;injection h1 with h1;subst h1;simp only[not_or,ne_eq,Decidable.not_not]at hc;exact⟨List.mem_cons_self,hc.1,hc.2.1,hc.2.2.1,hc.2.2.2,of_decide_eq_true h2⟩
theorem gz{P:Pos}{m:Mv}{c:Cas}(h:castW P m=(some c,true)):kindI (P.at_ m.fr)=6∧c∈az∧c.bl=P.bl∧P.ca.toNat&&&c.bit≠0∧(c.fr:Int)=m.fr∧(c.tg:Int)=m.tg∧btwW P.F P.R c.fr c.co&&&P.occ=0:=by
 unfold castW at h;split at h
 ·cases h
 ·rename_i hk;exact⟨by omega,nA h⟩
theorem gX{F R:Nat}{xs:List Int}{can:Nat}:cstB F R xs can=true↔can≤15∧∀ c∈az,can&&&c.bit≠0→F=8∧R=8∧gx xs c.fr=pcI 6 c.bl∧gx xs c.co=pcI 4 c.bl:=by
 by_cases h:can≤15
 ·have h1:∀ n,n<16→((n:Nat):Int)/1%2=1∨n&&&1=0:=by decide
  have hb:∀ n,n<16→∀ k,k<4→((((n:Nat):Int)/bitI k%2==1)=decide (n&&&2^k≠0)):=by decide
  have b0:=hb can (by omega) 0 (by decide);have b1:=hb can (by omega) 1 (by decide);have b2:=hb can (by omega) 2 (by decide);have b3:=hb can (by omega) 3 (by decide);have hh:∀ k,bB F R xs k=true↔F=8∧R=8∧homeV xs k=true:=by intro k;unfold bB;simp only[Bool.and_eq_true,beq_iff_eq];constructor<;>rintro⟨h1,h2,h3⟩<;>exact⟨by omega,by omega,h3⟩
  unfold cstB;simp only[bJ,b0,b1,b2,b3,Bool.and_eq_true,Bool.or_eq_true,Bool.not_eq_true',decide_eq_false_iff_not,ne_eq,Decidable.not_not,hh];simp only[az,List.mem_cons,List.not_mem_nil,or_false,forall_eq_or_imp,forall_eq,homeV,bitI,gx,pcI];simp;have h2:(can%2=1)=¬can%2=0:=by rw[eq_iff_iff];omega
  have hz:(can:Int)≤15:=by omega
  simp only[Decidable.or_iff_not_imp_left,h2,and_assoc,h,hz,true_and]
 ·have:cstB F R xs can=false:=by unfold cstB;simp;omega
  rw[this];simp[h]
def gH(P:Pos)(a:Nat)(pr:Int):Int:=if pr≠0 then pcI pr P.bl else gx P.xs a
theorem ip.cases{P:Pos}{a b:Nat}{t cp:Int}(h:ip P a b t cp):t=-1∨∃ e:Nat,t=e∧gx P.xs e≠0:=by
 cases h with
 | none h=>exact .inl rfl
 | take h=>exact .inr ⟨b,rfl,h⟩
 | pass e he hx=>exact .inr ⟨e,rfl,by rw[hx];exact(jy _).2⟩
theorem vY{P:Pos}{a b:Nat}{pr t cp:Int}(hc:bL P ⟨a,b,pr⟩=(t,cp))(h:ip P a b t cp)(ha:a<P.xs.length)(hb:b<P.xs.length):
  (brdW P ⟨a,b,pr⟩ none).length=P.xs.length∧∀ k,gx (brdW P ⟨a,b,pr⟩ none) k=if b=k then gH P a pr else if a=k then 0 else if(k:Int)=t then 0 else gx P.xs k:=by
 have hx:∀ x1:List Int,x1.length=P.xs.length→(∀ k,gx x1 k=if(k:Int)=t then 0 else gx P.xs k)→∀ Y:List Int,Y=(if pr≠0 then((x1.set a 0).set b (gx P.xs a)).set b (if P.bl then -pr else pr)else(x1.set a 0).set b (gx P.xs a))→Y.length=P.xs.length∧∀ k,gx Y k=if b=k then gH P a pr else if a=k then 0 else if(k:Int)=t then 0 else gx P.xs k:=by
  rintro x1 hl hg Y rfl;unfold gH pcI;by_cases hp:pr≠0
  ·rw[if_pos hp,if_pos hp];refine⟨by simp[hl],fun k=>?_⟩;rw[dm _ (by simp[hl];exact hb),dm _ (by simp[hl];exact hb),dm _ (by rw[hl];exact ha),hg];split
   ·rfl
   ·rfl
  ·rw[if_neg hp,if_neg hp];refine⟨by simp[hl],fun k=>?_⟩;rw[dm _ (by simp[hl];exact hb),dm _ (by rw[hl];exact ha),hg]
 refine hx (if 0≤t then P.xs.set t.toNat 0 else P.xs) ?_ ?_ _ ?_
 ·split<;>simp
 ·intro k;rcases h.cases with rfl|⟨e,rfl,he⟩
  ·rw[if_neg (by decide),if_neg (by omega)]
  ·rw[if_pos (by omega),Int.toNat_natCast,dm _ (il he)];by_cases e1:e=k
   ·subst e1;simp
   ·rw[if_neg e1,if_neg (by omega)]
 ·unfold brdW;rw[hc];rfl
theorem lF{α β:Type}{f:α→β→α}:∀ {l:List β} {x:α},(∀ c∈l,∀ x,f x c=x)→l.foldl f x=x
 | [],_,_=>rfl
 | d::l,x,h=>by
  rw[List.foldl_cons,h d List.mem_cons_self];exact lF fun c hc=>h c (List.mem_cons_of_mem _ hc)
theorem vw{F R:Nat}{own:Int}{sd:Bool}{c:Cas}(hc:c∈az)(h8:F=8∧R=8)(ho:own=pcI 6 sd)(hs:c.bl=sd)(x:List Int):az.foldl (fun x d=>if F=8∧R=8∧own=pcI 6 sd∧d.bl=sd∧(d.fr:Int)=(c.fr:Int)∧(d.tg:Int)=(c.tg:Int)then(x.set d.co (x[d.cr]?.getD 0)).set d.cr 0 else x) x=(x.set c.co (x[c.cr]?.getD 0)).set c.cr 0:=by obtain⟨rfl,rfl⟩:=h8;subst ho hs;simp only[az,List.mem_cons,List.not_mem_nil,or_false]at hc;rcases hc with rfl|rfl|rfl|rfl<;>simp[az]
theorem vi(b:Bool):pcI 1 b≠pcI 6 b:=by cases b<;>decide
theorem zx{P:Pos}{a b:Nat}{pr:Int}(h:GoS P a b pr){c:Cas}(hc:c∈az)(h8:P.F=8∧P.R=8)(hk:gx P.xs a=pcI 6 P.bl)(ha:c.fr=a)(hb:c.tg=b):False:=by
 cases h with
 | piece h1 _ h3 =>
  subst ha hb;have h6:kindI (gx P.xs c.fr)=6:=by rw[hk];cases P.bl<;>decide
  rw[h6,h8.1,h8.2]at h3;have:∀ c∈az,(distI 8 c.fr c.tg==1)=false:=by decide
  have h4:reachB 8 8 6 c.fr c.tg P.occ=(distI 8 c.fr c.tg==1):=rfl;rw[h4,this c hc]at h3;cases h3
 | step h=>rw[hk]at h;exact vi _ h.symm
 | two h=>rw[hk]at h;exact vi _ h.symm
 | diag h=>rw[hk]at h;exact vi _ h.symm
theorem GoS.pr{P:Pos}{a b:Nat}{pr:Int}(h:GoS P a b pr)(hp:pr≠0):gx P.xs a=pcI 1 P.bl:=by
 cases h with
 | piece _ h=>exact absurd h hp
 | step h=>exact h
 | two h=>exact h
 | diag h=>exact h
structure lQ(P:Pos)(c:Cas):Prop where
 mem:c∈az
 bl:c.bl=P.bl
 h8:P.F=8∧P.R=8
 king:gx P.xs c.fr=pcI 6 P.bl
 rook:gx P.xs c.co=pcI 4 P.bl
 tg:gx P.xs c.tg=0
 cr:gx P.xs c.cr=0
theorem yr:∀ c∈az,(btwW 8 8 c.fr c.co).testBit c.tg=true∧(btwW 8 8 c.fr c.co).testBit c.cr=true:=by decide +kernel
theorem tj:∀ c∈az,(c.fr≠c.tg∧c.fr≠c.co∧c.fr≠c.cr∧c.tg≠c.co∧c.tg≠c.cr∧c.co≠c.cr)∧c.fr<64∧c.tg<64∧c.co<64∧c.cr<64:=by decide
theorem wP{P:Pos}{m:Mv}{c:Cas}(hcst:cstB P.F P.R P.xs P.ca=true)(h0:0≤P.ca)(h:castW P m=(some c,true)):lQ P c∧(c.fr:Int)=m.fr∧(c.tg:Int)=m.tg:=by
 obtain⟨_,h1,h2,h3,h4,h5,h6⟩:=gz h;obtain⟨can,hcan⟩:∃ can:Nat,P.ca=can:=⟨P.ca.toNat,by omega⟩;rw[hcan]at hcst h3;obtain⟨e1,e2,e3,e4⟩:=(gX.1 hcst).2 c h1 h3;rw[e1,e2]at h6;have hz:∀ i,(btwW 8 8 c.fr c.co).testBit i=true→gx P.xs i=0:=by intro i hi;have:=congrArg (·.testBit i) h6;simp only[Nat.testBit_and,hi,Bool.true_and,Nat.zero_testBit,occ_bit]at this;simpa using this
 obtain⟨b1,b2⟩:=yr c h1;exact⟨⟨h1,h2,⟨e1,e2⟩,by rw[e3,h2],by rw[e4,h2],hz _ b1,hz _ b2⟩,h4,h5⟩
theorem lQ.cap{P:Pos}{c:Cas}(h:lQ P c):bL P ⟨c.fr,c.tg,0⟩=(-1,0):=by
 rw[iW];have:cz P.F (gx P.xs c.fr) P.pa c.fr c.tg=c.tg:=by unfold cz;rw[if_neg];rw[h.king];rintro⟨h1,_⟩;revert h1;cases P.bl<;>decide
 rw[this,h.tg];rfl
theorem wO{P:Pos}{c:Cas}(h:lQ P c)(hlen:P.xs.length=64):(brdW P ⟨c.fr,c.tg,0⟩ (some c)).length=64∧∀ k,gx (brdW P ⟨c.fr,c.tg,0⟩ (some c)) k=if c.co=k then 0 else if c.cr=k then gx P.xs c.co else if c.tg=k then gx P.xs c.fr else if c.fr=k then 0 else gx P.xs k:=by
 obtain⟨⟨n1,n2,n3,n4,n5,n6⟩,l1,l2,l3,l4⟩:=tj c h.mem;have e:brdW P ⟨c.fr,c.tg,0⟩ (some c)=(((P.xs.set c.fr 0).set c.tg (gx P.xs c.fr)).set c.cr (gx ((P.xs.set c.fr 0).set c.tg (gx P.xs c.fr)) c.co)).set c.co 0:=by unfold brdW;rw[h.cap];rfl
 rw[e];refine⟨by simp[hlen],fun k=>?_⟩;rw[dm _ (by simp[hlen];omega),dm _ (by simp[hlen];omega),dm _ (by simp[hlen];omega),dm _ (by omega),dm _ (by simp[hlen];omega),dm _ (by omega),if_neg n4,if_neg n2]
inductive iq(P:Pos)(a b:Nat)(pr:Int):Option Cas→Prop
 | go (h:GoS P a b pr) (hc:ip P a b (bL P ⟨a,b,pr⟩).1 (bL P ⟨a,b,pr⟩).2):iq P a b pr none
 | cas (c:Cas) (h:lQ P c) (ha:c.fr=a) (hb:c.tg=b) (hp:pr=0):iq P a b pr (some c)
theorem kM{F R:Nat}{m:Mv}(h:mvB F R m=true):∃(a b:Nat) (pr:Int),m=⟨a,b,pr⟩∧a<F*R∧b<F*R∧a≠b∧(pr=0∨(2≤pr∧pr≤5)):=by obtain⟨x,y,pr⟩:=m;unfold mvB sqB at h;simp only[Bool.and_eq_true,Bool.or_eq_true,decide_eq_true_eq]at h;obtain⟨⟨_,h1,h2⟩,⟨_,h3,h4⟩,h5,h6⟩:=h;rw[←Int.natCast_mul]at h2 h4;exact⟨x.toNat,y.toNat,pr,by rw[Int.toNat_of_nonneg h1,Int.toNat_of_nonneg h3],by omega,by omega,by omega,h6⟩
theorem Ac{P:Pos}{a b:Nat}{pr:Int}(h0:0≤P.ca)(h1:(P.ok&&mvB P.F P.R ⟨a,b,pr⟩)=true)(h2:isW (P.at_ a) P.bl=true)(h3:(isW (P.at_ b) P.bl||(!goesW P ⟨a,b,pr⟩&&(!(castW P ⟨a,b,pr⟩).2||decide (pr≠0))))=false):iq P a b pr (gL P ⟨a,b,pr⟩):=by
 rw[Bool.and_eq_true]at h1;obtain⟨ho,k1,k2,k3,k4,k5,k6,k7⟩:=oG.1 h1.1;obtain⟨F,R,eF,eR,hF,hR,hlen,_⟩:=dJ ho;obtain rfl:F=P.F:=by omega
 obtain rfl:R=P.R:=by omega
 have hm:=h1.2;unfold mvB sqB at hm;simp only[Bool.and_eq_true,decide_eq_true_eq]at hm;have ha:a<P.F*P.R:=by have:=hm.1.2.2;rw[←Int.natCast_mul]at this;omega
 have hb:b<P.F*P.R:=by have:=hm.2.1.2.2;rw[←Int.natCast_mul]at this;omega
 simp only[Bool.or_eq_false_iff]at h3;unfold gL;rcases hg:goesW P ⟨a,b,pr⟩with _|_
 ·rw[hg]at h3;have hc2:(castW P ⟨a,b,pr⟩).2=true:=by
   rcases e:(castW P ⟨a,b,pr⟩).2 with _|_
   ·rw[e]at h3;simp at h3
   ·rfl
  obtain⟨c,hc⟩:=en hc2;rw[hc2,hc];obtain⟨f1,f2,f3⟩:=wP k5 h0 (Prod.ext hc hc2);rw[hc2]at h3;have f2:(c.fr:Int)=a:=f2;have f3:(c.tg:Int)=b:=f3;exact .cas c f1 (by omega) (by omega) (by simpa using h3.2)
 ·rw[Bool.not_true,Bool.and_false];have hs:=lh ho hF hR hlen ha hb h2 hg;exact .go hs (tW k6 hlen hs)
theorem wn{P:Pos}{c:Cas}(h:lQ P c)(hlen:P.xs.length=P.F*P.R):P.xs.length=64:=by rw[hlen,h.h8.1,h.h8.2]
end Go.Proofs.YtefmplccbkmalaaGreatDoor
namespace Go.Proofs.YtefmplccbkmalaaGreatDoor
open Go.RowKit Go.Sort Go.BigFrame

theorem kW(x:Int)(b:Bool)(w:World):Clz 113 #[.int .i8 x,.bool b] w fun e w'=>e=.returned (.bool (isW x b))∧w=w':=by
 have hV:isW x b=((x != 0)&&(decide (x<0)==b)):=by
  unfold isW;rcases(by omega:x<0∨x=0∨0<x)with h|h|h
  ·have h2:x≠0:=by omega
   have h3:¬0<x:=by omega
   cases b<;>simp[h,h2,h3]
  ·subst h;cases b<;>rfl
  ·have h2:x≠0:=by omega
   have h3:¬x<0:=by omega
   cases b<;>simp[h,h2,h3]
 generalize isW x b=V at *;replace hV:=zhd hV;rcases z:(x != 0)with _|_
 ·go_enter Tryz.func113,Tryz.ntmps113;go_wp2_with fail;go_ret;exact⟨by rw[hV.out,z];rfl,rfl⟩
 ·rcases z2:decide (x<0)with _|_
  ·go_enter Tryz.func113,Tryz.ntmps113;go_wp2_with fail;go_ret;exact⟨aV (by rw[hV.out,z,z2];cases b<;>rfl),rfl⟩
  ·go_enter Tryz.func113,Tryz.ntmps113;go_wp2_with fail;go_ret;exact⟨aV (by rw[hV.out,z,z2];cases b<;>rfl),rfl⟩
theorem fh(p:Option Addr)(c:Nat)(xs:List Int)(x:Int)(w:World)(hx:Arr .i64 w p xs)(hl:xs.length≤1000):
  Clz 169 #[.slice p xs.length c,.int .i64 x] w fun e w'=>e=.returned (.bool (elI xs x))∧Below w.heap.size w w':=by
 go_enter Tryz.func169,Tryz.ntmps169;go_wp2_with fail;go_loopg [5] 1001 (fun q iv wr=>∃ i:Nat,q+i=1001∧i≤xs.length∧iv=.int .i64 i∧Below w.heap.size w wr∧elI (xs.take i) x=false)
 case atStart=>exact⟨0,rfl,Nat.zero_le _,rfl,Below.refl _ _,rfl⟩
 case round =>
  obtain⟨i,hq,hi,rfl,hb,ha⟩:=hrel;replace ha:=zhd ha;by_cases hlt:i<xs.length
  ·have hii:(i:Int)<xs.length:=by omega
   obtain⟨b,o,rfl,hbl,hc⟩:=(hx.call hb).at hlt;have hci:=hc i hlt;have hget:xs[i]?.getD 0=xs[i]:=by simp[hlt]
   obtain⟨y,hxv⟩:∃ y,y=xs[i]?.getD 0:=⟨_,rfl⟩;rw[←hxv]at hci hget;replace hget:=zhd hget;clear hc hxv;by_cases hyx:y=x
   ·have e1:Hid (elI xs x=true):=zhd (by unfold elI;rw[List.any_eq_true];exact⟨xs[i],List.getElem_mem hlt,by rw[←hget.out];simp[hyx]⟩);have hyx2:(y==x)=true:=by simp[hyx]
    go_wp2_with fail;go_ret;exact⟨by rw[e1.out];rfl,hb⟩
   ·have hyx2:(y==x)=false:=by simp[hyx]
    go_wp2_with fail;go_roundg (gk-1)
    case measure=>omega
    case rel=>exact⟨i+1,by omega,by omega,by go_num,hb,by have ha:=ha.out;unfold elI at ha ⊢;rw[List.take_succ_eq_append_getElem hlt,List.any_append,ha];simp[←hget.out];exact hyx⟩
  ·have hii:¬(i:Int)<xs.length:=by omega
   have e1:Hid (elI xs x=false):=zhd (by have ha:=ha.out;rwa[List.take_of_length_le (by omega)]at ha);go_wp2_with fail;go_ret;exact⟨by rw[e1.out];rfl,hb⟩
def nL(c:Cas):List Nat:=[c.fr,c.tg,c.co,c.cr]
def gC(W:World)(g:Nat)(L:List Nat):Prop:=g<W.heap.size∧∀ j k,L[j]? = some k→W.cell? ⟨g,j,none⟩=some (.string (str (nmL k)))
theorem gC.call{W W':World}{g:Nat}{L:List Nat}(h:gC W g L)(hb:Bw W W'):gC W' g L:=⟨Nat.lt_of_lt_of_le h.1 hb.size,fun j k hj=>(hb.cell (p:=⟨g,j,none⟩) h.1).trans (h.2 j k hj)⟩
theorem fE(c:Cas)(hc:c∈az)(w:World):Clz 167 #[.int .u8 c.bit] w fun e w'=>∃ g,e=.returned (.slice (some ⟨g,0,none⟩) 4 4)∧Bw w w'∧gC w' g (nL c):=by
 have key:∀ a b c d:Nat,gC (w.alloc (.cells #[.string (str (nmL a)),.string (str (nmL b)),.string (str (nmL c)),.string (str (nmL d))] 9)) w.heap.size [a,b,c,d]:=by
  intro a b c d;refine⟨by simp,fun j k hj=>?_⟩;rw[(ac.new w (.cells #[.string (str (nmL a)),.string (str (nmL b)),.string (str (nmL c)),.string (str (nmL d))] 9)).cells j];match j,hj with
  | 0,hj=>injection hj with hj;rw[←hj];rfl
  | 1,hj=>injection hj with hj;rw[←hj];rfl
  | 2,hj=>injection hj with hj;rw[←hj];rfl
  | 3,hj=>injection hj with hj;rw[←hj];rfl
  | j+4,hj=>simp at hj
 have hbw:=fun o=>ae w o
 simp only[az,List.mem_cons,List.not_mem_nil,or_false]at hc;rcases hc with rfl|rfl|rfl|rfl
 ·have k:=key 4 6 7 5;go_enter Tryz.func167,Tryz.ntmps167;go_wp2_with fail;go_ret;exact⟨_,rfl,hbw _,k⟩
 ·have k:=key 4 2 0 3;go_enter Tryz.func167,Tryz.ntmps167;go_wp2_with fail;go_ret;exact⟨_,rfl,hbw _,k⟩
 ·have k:=key 60 62 63 61;go_enter Tryz.func167,Tryz.ntmps167;go_wp2_with fail;go_ret;exact⟨_,rfl,hbw _,k⟩
 ·have k:=key 60 58 56 59;go_enter Tryz.func167,Tryz.ntmps167;go_wp2_with fail;go_ret;exact⟨_,rfl,hbw _,k⟩
theorem aP(k:Nat)(hk:k<64)(w:World):Clz 166 #[.string (str (nmL k))] w fun e w'=>e=.returned (.int .i64 k)∧Bw w w':=by
 have h:=fun W=>aG k hk W
 go_enter Tryz.func166,Tryz.ntmps166;go_wp2_with fail;refine(h _).mono ?_;rintro e w2 ⟨rfl,hb2⟩;go_wp2_with fail;go_ret;exact⟨rfl,hb2⟩
def d6(xs:List Int)(L:List Int):Bool:=L.all fun k=>xs[k.toNat]?.getD 0==0
theorem ns(f r ca pa ha fu:Int)(bl:Bool)(p:Option Addr)(c:Nat)(xs:List Int)(q:Option Addr)(d:Nat)(L:List Int)(hL:∀ x∈L,0≤x∧x<xs.length)(hl:L.length≤900)(w:World)(hx:Arr .i8 w p xs)(hq:Arr .i64 w q L):
  Clz 194 #[.agg (aa f r p xs.length c bl ca pa ha fu).toArray,.slice q L.length d] w fun e w'=>e=.returned (.bool (d6 xs L))∧Bw w w':=by
 have hA:=ac.new w (.cells (aa f r p xs.length c bl ca pa ha fu).toArray 26);have hB:=ae w (.cells (aa f r p xs.length c bl ca pa ha fu).toArray 26);obtain⟨V,hV⟩:∃ V,V=d6 xs L:=⟨_,rfl⟩;rw[←hV];replace hV:=zhd hV;have hx1:=hx.call hB;have hq1:=hq.call hB;go_enter Tryz.func194,Tryz.ntmps194;go_upto_region 1 with fail;change Code.wp _ _ _ _ (w.alloc (.cells (aa f r p xs.length c bl ca pa ha fu).toArray 26));generalize w.alloc (.cells (aa f r p xs.length c bl ca pa ha fu).toArray 26)=w1 at *;go_wp2_with fail;go_loopg [5] 1001 (fun g iv wr=>∃ i:Nat,g+i=1001∧i≤L.length∧iv=.int .i64 i∧Hid (d6 xs (L.take i)=true)∧Bw w1 wr)
 case atStart=>exact⟨0,rfl,Nat.zero_le _,rfl,zhd rfl,Below.refl _ _⟩
 case round =>
  obtain⟨i,hg,hi,rfl,ht,hbr⟩:=hrel;by_cases hlt:i<L.length
  ·have hii:(i:Int)<L.length:=by omega
   have hAr:=hA.call hbr;obtain⟨g2,o2,rfl,hg2,hc2⟩:=(hq1.call hbr).at hlt;have hci:=hc2 i hlt;have hmem:L[i]?.getD 0∈L:=by rw[List.getElem?_eq_getElem hlt];exact List.getElem_mem _
   obtain⟨h0,h1⟩:=hL _ hmem;have hnx:d6 xs (L.take (i+1))=(d6 xs (L.take i)&&(xs[(L[i]?.getD 0).toNat]?.getD 0==0)):=by rw[List.take_succ_eq_append_getElem hlt,List.getElem?_eq_getElem hlt];unfold d6;rw[List.all_append];simp
   have hno:(xs[(L[i]?.getD 0).toNat]?.getD 0==0)=false→Hid (V=false):=fun h=>zhd (by
    rw[hV.out];unfold d6;rw[List.all_eq_false];exact⟨_,hmem,by simpa using h⟩)
   obtain⟨k,hk⟩:∃ k:Nat,L[i]?.getD 0=k:=⟨(L[i]?.getD 0).toNat,by omega⟩;rw[hk]at hci hnx hno h1;rw[Int.toNat_natCast]at hnx hno;have h1':k<xs.length:=by omega
   obtain⟨g1,o1,rfl,hg1,hc1⟩:=(hx1.call hbr).at h1';have hck:=hc1 k h1';rw[ht.out,Bool.true_and]at hnx;generalize xs[k]?.getD 0=y at *;have m1:=cell_regrown hci;have m2:=cell_regrown hck;have m3:=am hAr;clear hk hmem h0 hL;rcases z:(y==0)with _|_
   ·have hV2:=hno z;have z':(y != 0)=true:=by simpa using z
    clear hnx hno;go_wp2_with fail;refine ag (by kernel_rfl) (by kernel_rfl) ?_;repeat(go_big_quiet_step (fail))
    refine wpQuiet_nil ?_;intro w5 hb5;clear m1 m2 m3;go_wp2_with fail;go_ret;exact⟨by rw[hV2.out];rfl,zbc hB (zbc hbr hb5)⟩
   ·have z':(y != 0)=false:=by simpa using z
    rw[z]at hnx;replace hnx:=zhd hnx;clear hno;go_wp2_with fail;refine ag (by kernel_rfl) (by kernel_rfl) ?_;repeat(go_big_quiet_step (fail))
    refine wpQuiet_nil ?_;intro w5 hb5;clear m1 m2 m3;go_wp2_with fail;go_roundg (gk-1)
    case measure=>omega
    case rel=>exact⟨i+1,by omega,by omega,by go_num,hnx,zbc hbr hb5⟩
  ·obtain rfl:i=L.length:=by omega
   have hV2:Hid (V=true):=zhd (by rw[hV.out];have:=ht.out;rwa[List.take_length]at this);go_wp2_with fail;go_ret;exact⟨by rw[hV2.out];rfl,zbc hB hbr⟩
def oT(vals:Nat→Value)(ol:Nat→Option (Value→World→Prop))(i:Nat)(v:Value)(W:World):Prop :=
 match ol i with
 | some φ=>φ v W
 | none=>v=vals i
theorem cB{P:Program}{id:Nat}{ops:Array Oper}{Q:Exit→Act→World→Prop}{a:Act}{w:World}(hm:P.follows .mixedOrders=true)(hb:aW .any ops=true)
  (ds:List (Option Tmp)) (hds:ops.toList.map (·.dst)=ds) (hok:bn ds=true) (vals:Nat→Value) (ol:Nat→Option (Value→World→Prop)) (hst:∀ i φ,ol i=some φ→∀ v W W',Bw W W'→φ v W→φ v W')
  (hstep:∀ i o f W,ops[i]? = some o→i<ops.size→Bw w W→(∀ e∈o.after,Region.binds .any e=true→oT vals ol e.on (f e.on) W)→∀ K:Act→World→Prop,(∀ u W',Bw W W'→oT vals ol i u W'→K ((ao ds f 0 a).put o.dst u) W') →
   if Region.wanted o (yielded ops (ao ds f 0 a).tmps)=true then o.wp P (ao ds f 0 a) W K Q else K ((ao ds f 0 a).put o.dst undef) W)
  (hend:∀ f W,Bw w W→(∀ i,i<ops.size→oT vals ol i (f i) W)→Q .normal (ao ds f 0 a) W):(Code.region id ops true).wp P Q a w:=by
 refine dl hm hb ds hds hok (fun W=>Bw w W) (fun W W'=>Bw W W') (oT vals ol) (fun i v W W' _ h h2=>?_) (Below.refl _ _).drew ?_ hend
 ·unfold oT at h2 ⊢;cases e:ol i with
  | none=>rw[e]at h2;exact h2
  | some φ=>rw[e]at h2;exact hst i φ e v W W' h h2
 ·intro i o f W ho hi hC hf K hK;exact hstep i o f W ho hi hC hf K (fun u W' h1 h2=>hK u W' (zbc hC h1) h1 h2)
def bP(L:List Int)(v:Value)(W:World):Prop:=∃ p c,v=.slice p L.length c∧Arr .i64 W p L
theorem bP.call{L:List Int}{v:Value}{W W':World}(hb:Bw W W')(h:bP L v W):bP L v W':=by obtain⟨p,c,e,h⟩:=h;exact⟨p,c,e,h.call hb⟩
def ik(P:Pos)(m:Mv)(c:Cas):Bool:=(P.ca/c.bit%2==1)&&((c.bl==P.bl)&&((m.fr==c.fr)&&((m.tg==c.tg)&&d6 P.xs (btwS P.F P.R c.fr c.co))))
def casR(P:Pos)(m:Mv):Option Cas:=if kindI (P.at_ m.fr)≠6∨m.pr≠0 then none else az.find? (ik P m)
def bitO(o:Option Cas):Nat:=(o.map Cas.bit).getD 0
theorem tf{p:Cas→Bool}{l:List Cas}{i:Nat}(hi:i<l.length)(h:(l.take i).find? p=none):(p l[i]=true→l.find? p=some l[i])∧(p l[i]=false→(l.take (i+1)).find? p=none):=by
 have e:l.take i++l[i]::l.drop (i+1)=l:=by rw[←List.drop_eq_getElem_cons hi,List.take_append_drop]
 constructor
 ·intro hp;have e2:l.find? p=(l.take i++l[i]::l.drop (i+1)).find? p:=by rw[e]
  rw[e2,List.find?_append,h,List.find?_cons_of_pos hp];rfl
 ·intro hp;rw[List.take_succ_eq_append_getElem hi,List.find?_append,h];simp[hp]
theorem eq5{x y:Int}{d:Bool}(h:(x==y)=d)(W:World):(binOp .eql 5 (.int .u8 x) (.int .u8 y)).run Tryz.prog W=.ok (.bool d) W:=by rw[←h];simp[go_sem]
theorem gt5{x y:Int}{d:Bool}(h:decide (y<x)=d)(W:World):(binOp .gtr 5 (.int .u8 x) (.int .u8 y)).run Tryz.prog W=.ok (.bool d) W:=by rw[←h];simp[go_sem]
theorem eq4{x y d:Bool}(h:(x==y)=d)(W:World):(binOp .eql 4 (.bool x) (.bool y)).run Tryz.prog W=.ok (.bool d) W:=by rw[←h];cases x<;>cases y<;>kernel_rfl
theorem eD(W:World)(g k:Nat)(h:k<4):(Instr.indexAt 158 (.slice (some ⟨g,0,none⟩) 4 4) (.int .i64 (k:Nat))).run Tryz.prog W=.ok (.pointer (some ⟨g,k,none⟩)) W:=by rcases(by omega:k=0∨k=1∨k=2∨k=3)with rfl|rfl|rfl|rfl<;>kernel_rfl
theorem yV(n b:Nat)(hb:1≤b)(hn:n<256)(W:World):(binOp .quo 5 (.int .u8 (n:Nat)) (.int .u8 (b:Nat))).run Tryz.prog W=.ok (.int .u8 ((n/b:Nat):Int)) W:=by
 have h2:n/b≤n:=Nat.div_le_self _ _;have h1:IntKind.u8.wrap ((n/b:Nat):Int)=((n/b:Nat):Int):=by generalize n/b=d at *;unfold IntKind.wrap;simp only[IntKind.signed,IntKind.bits];simp;omega
 have h3:(n:Int).tdiv (b:Int)=((n/b:Nat):Int):=rfl;have h4:¬b=0:=by omega
 simp only[go_sem,h3,h1];simp[h4]
theorem zh(n b:Nat)(hb:1≤b)(W:World):(binOp .rem 5 (.int .u8 (n:Nat)) (.int .u8 (b:Nat))).run Tryz.prog W=.ok (.int .u8 ((n%b:Nat):Int)) W:=by
 have h3:(n:Int).tmod (b:Int)=((n%b:Nat):Int):=rfl;have h4:¬b=0:=by omega
 simp only[go_sem,h3];simp[h4]
theorem td(i:Nat)(h:i<az.length):(#[.int .u8 1,.int .u8 2,.int .u8 4,.int .u8 8]:Array Value)[i]? = some (.int .u8 (az[i]).bit):=by have h4:i<4:=h;rcases(by omega:i=0∨i=1∨i=2∨i=3)with rfl|rfl|rfl|rfl<;>rfl
theorem lN(n b q:Nat)(hb:1≤b)(hn:n<256)(hq:n/b=q)(W:World):(binOp .quo 5 (.int .u8 (n:Nat)) (.int .u8 (b:Nat))).run Tryz.prog W=.ok (.int .u8 (q:Nat)) W:=by rw[←hq];exact yV n b hb hn W
theorem lE(n b q:Nat)(hb:1≤b)(hq:n%b=q)(W:World):(binOp .rem 5 (.int .u8 (n:Nat)) (.int .u8 (b:Nat))).run Tryz.prog W=.ok (.int .u8 (q:Nat)) W:=by rw[←hq];exact zh n b hb W
theorem Aj(op:BinOp)(t:TypeId)(x y:Operand)(u v:Bool)(W:World)(P:Program):(eqGuard op t x y (.bool u) (.bool v)).run P W=.ok () W:=by simp[eqGuard,go_sem]
theorem gt{c:Cas}(hc:c∈az):1≤c.bit∧c.bit≤8∧(decide ((2:Int)<c.bit)=c.bl)∧c.fr<64∧c.tg<64∧c.co<64∧c.cr<64∧bf c.fr c.co (dF 8 c.fr c.co) (dR 8 c.fr c.co)=true∧∀ x∈btwS 8 8 c.fr c.co,0≤x∧x<64:=by
 have h:∀ c∈az,1≤c.bit∧c.bit≤8∧(decide ((2:Int)<c.bit)=c.bl)∧c.fr<64∧c.tg<64∧c.co<64∧c.cr<64∧bf c.fr c.co (dF 8 c.fr c.co) (dR 8 c.fr c.co)=true∧∀ x∈btwS 8 8 c.fr c.co,0≤x∧x<64:=by decide +kernel
 exact h c hc
theorem er(F R:Nat)(xs:List Int)(bl:Bool)(can:Nat)(pa ha fu:Int)(a b:Nat)(pr:Int)(p:Option Addr)(cc:Nat)(hlen:xs.length=F*R)(hal:a<F*R)(hca:can<256)(h88:∀ c∈az,can/c.bit%2=1→F=8∧R=8)(h6:∀ x∈xs,-6≤x∧x≤6)(w:World)(hx:Arr .i8 w p xs):
  Clz 164 #[.agg (aa F R p xs.length cc bl can pa ha fu).toArray,.agg #[.int .i64 a,.int .i64 b,.int .i8 pr]] w fun e w'=>e=.returned (.int .u8 (bitO (casR ⟨F,R,xs,bl,can,pa,ha,fu⟩ ⟨a,b,pr⟩)))∧Bw w w':=by
 obtain⟨W1,hW1⟩:∃ W1,W1=(w.alloc (.cells (aa F R p xs.length cc bl can pa ha fu).toArray 26)).alloc (.cells #[.int .i64 a,.int .i64 b,.int .i8 pr] 40):=⟨_,rfl⟩;have hB:Bw w W1:=by subst hW1;exact(ae w _).alloc (by simp) _
 have hA:ac W1 w.heap.size (.cells (aa F R p xs.length cc bl can pa ha fu).toArray 26 (0,0)):=by subst hW1;exact(ac.new w _).alloc _
 have hM:ac W1 (w.heap.size+1) (.cells #[.int .i64 a,.int .i64 b,.int .i8 pr] 40 (0,0)):=by subst hW1;exact ac.new' _ _ (by simp)
 have hal':a<xs.length:=by rw[hlen];exact hal
 obtain⟨g,o,rfl,hgl,hcc⟩:=(hx.call hB).at hal';have hca':=hcc a hal';have hy6:=h6 (xs[a]?.getD 0) (by rw[List.getElem?_eq_getElem hal'];exact List.getElem_mem _);have hV:casR ⟨F,R,xs,bl,can,pa,ha,fu⟩ ⟨a,b,pr⟩=if kindI (xs[a]?.getD 0)≠6∨pr≠0 then none else az.find? (ik ⟨F,R,xs,bl,can,pa,ha,fu⟩ ⟨a,b,pr⟩):=by unfold casR Pos.at_;rw[Int.toNat_natCast]
 obtain⟨V,hVe⟩:∃ V,V=bitO (casR ⟨F,R,xs,bl,can,pa,ha,fu⟩ ⟨a,b,pr⟩):=⟨_,rfl⟩;rw[←hVe];rw[hV]at hVe;have hkd:=fun W=>cL (xs[a]?.getD 0) ⟨by omega,by omega⟩ W
 obtain⟨ky,hky⟩:∃ k,k=kindI (xs[a]?.getD 0):=⟨_,rfl⟩;rw[←hky]at hVe hkd;obtain⟨y,hy⟩:∃ y,y=xs[a]?.getD 0:=⟨_,rfl⟩;rw[←hy]at hca' hkd;obtain⟨T,hT⟩:∃ T,T=ik ⟨F,R,xs,bl,can,pa,ha,fu⟩ ⟨a,b,pr⟩:=⟨_,rfl⟩;rw[←hT]at hVe;clear hV hy6 hky hy hcc;have⟨c0,l0⟩:=hA.cl;have⟨c1,l1⟩:=hM.cl;replace hVe:=zhd hVe;replace hT:=zhd hT;replace hlen:=zhd hlen;replace hW1:=zhd hW1;have hali:(a:Int)<xs.length:=by omega
 go_enter Tryz.func164,Tryz.ntmps164;go_upto_region 1 with fail;change Code.wp _ _ _ _ ((w.alloc (.cells (aa F R (some ⟨g,o,none⟩) xs.length cc bl can pa ha fu).toArray 26)).alloc (.cells #[.int .i64 a,.int .i64 b,.int .i8 pr] 40));rw[←hW1.out];go_wp2_with fail;refine(hkd W1).mono ?_;rintro e W2 ⟨rfl,rfl⟩;by_cases hk6:ky=6
 rotate_left
 ·have z:(ky != 6)=true:=by simpa using hk6
  replace hVe:=zhd (hVe.out.trans (by rw[if_pos (.inl hk6)];rfl):V=0);replace hk6:=True.intro;go_wp2_with fail;go_ret;exact⟨by rw[hVe.out];rfl,hB⟩
 by_cases hp0:pr=0
 rotate_left
 ·have z:(ky != 6)=false:=by simpa using hk6
  have z2:(pr != 0)=true:=by simpa using hp0
  replace hVe:=zhd (hVe.out.trans (by rw[if_pos (.inr hp0)];rfl):V=0);replace hp0:=True.intro;replace hk6:=zhd hk6;go_wp2_with fail;go_ret;exact⟨by rw[hVe.out];rfl,hB⟩
 have z:(ky != 6)=false:=by simpa using hk6
 have z2:(pr != 0)=false:=by simpa using hp0
 replace hVe:=zhd (hVe.out.trans (by rw[if_neg (by simp[hk6,hp0])]):V=bitO (az.find? T));replace hk6:=zhd hk6;replace hp0:=zhd hp0;go_wp2_with fail;have hN:=ac.new W1 (.cells #[.int .u8 1,.int .u8 2,.int .u8 4,.int .u8 8] 5);have hb2:=ae W1 (.cells #[.int .u8 1,.int .u8 2,.int .u8 4,.int .u8 8] 5);have hB2:=zbc hB hb2;have hA2:=hA.call hb2;have hM2:=hM.call hb2;have hx2:=(hx.call hB).call hb2;change Code.wp _ _ _ _ (W1.alloc (.cells #[.int .u8 1,.int .u8 2,.int .u8 4,.int .u8 8] 5));generalize W1.alloc (.cells #[.int .u8 1,.int .u8 2,.int .u8 4,.int .u8 8] 5)=W2 at *;clear hA hM hB hgl hx c0 l0 c1 l1 hca' hkd;obtain⟨qn,hqn⟩:∃ q,q=W1.heap.size:=⟨_,rfl⟩;rw[←hqn]at hN ⊢;replace hqn:=zhd hqn;go_loopg [23] 5 (fun q iv wr=>∃ i:Nat,q+i=5∧i≤4∧iv=.int .i64 i∧Hid ((az.take i).find? T=none)∧Bw W2 wr)
 case atStart=>exact⟨0,rfl,Nat.zero_le _,rfl,zhd rfl,Below.refl _ _⟩
 case round =>
  obtain⟨i,hq,hi,rfl,hno,hbr⟩:=hrel;by_cases hlt:i<4
  rotate_left
  ·obtain rfl:i=4:=by omega
   replace hVe:=zhd (hVe.out.trans (by rw[show az.find? T=none from hno.out];rfl):V=0);have hn4:¬((4:Nat):Int)<4:=by omega
   go_wp2_with fail;go_ret;exact⟨by rw[hVe.out];rfl,zbc hB2 hbr⟩
  ·have hii:(i:Int)<4:=by omega
   have hcl:i<az.length:=hlt;obtain⟨c,hc⟩:∃ c,c=az[i]:=⟨_,rfl⟩;have hcm:c∈az:=by rw[hc];exact List.getElem_mem _
   obtain⟨hnf,hnn⟩:=tf hcl hno.out;rw[←hc]at hnf hnn;have hbit:wr.cell? ⟨qn,i,none⟩=some (.int .u8 c.bit):=by rw[(hN.call hbr).cells i,hc];exact td i hcl
   obtain⟨hb1,hb8,hbl2,hf64,ht64,hk64,_,hln,hbs⟩:=gt hcm;have hrow:=fun W=>fE c hcm W
   have hbn:=h88 c hcm;obtain⟨nq,hnq⟩:∃ n,n=can/c.bit:=⟨_,rfl⟩;obtain⟨nr,hnr⟩:∃ n,n=nq%2:=⟨_,rfl⟩;have hnq2:nq≤can:=by rw[hnq];exact Nat.div_le_self _ _
   have hTc:T c=(((nr:Int)==1)&&((c.bl==bl)&&(((a:Int)==c.fr)&&(((b:Int)==c.tg)&&d6 xs (btwS F R c.fr c.co))))):=by rw[hT.out,hnr,hnq];rfl
   have htd:(can:Int).tdiv (c.bit:Int)=(nq:Int):=by rw[hnq];rfl
   have htm:(nq:Int).tmod 2=(nr:Int):=by rw[hnr];rfl
   have hw1:IntKind.u8.wrap (nq:Int)=nq:=by unfold IntKind.wrap;simp only[IntKind.signed,IntKind.bits];simp;omega
   have hbz:¬(c.bit:Int)=0:=by omega
   rw[←hnq,←hnr]at hbn;have hxr:=hx2.call hbr;have hnqE:=zhd hnq.symm;have hnrE:=zhd hnr.symm;clear hN hnq hnr hc hno hx2;have hAr:=hA2.call hbr;have hMr:=hM2.call hbr;have hBr:=zbc hB2 hbr;generalize c.bl=cl at *;go_wp2_with fail;refine(hrow wr).mono ?_;rintro e w3 ⟨gs,rfl,hb3,hS⟩;have hA3:=hAr.call hb3;have hM3:=hMr.call hb3;have hB3:=zbc hBr hb3;have hC3:=zbc hbr hb3;have hx3:=hxr.call hb3;clear hAr hMr hBr hxr hbit hrow;have m1:=am hA3;have m2:=am hM3;have m3:=cell_regrown (hS.2 0 c.fr rfl);have m4:=cell_regrown (hS.2 1 c.tg rfl);have m5:=cell_regrown (hS.2 2 c.co rfl);have t1:=ax (w:=w3) (fun W _=>aP c.fr hf64 W);have t2:=ax (w:=w3) (fun W _=>aP c.tg ht64 W);go_upto_region 7 with fail;rcases z1:((nr:Int)==1)with _|_
   ·have hnn2:=zhd (hnn (by rw[hTc,z1];rfl));clear hnf hnn hbn hTc;refine ag (by kernel_rfl) (by kernel_rfl) ?_;repeat(go_big_quiet_step (fail))
    refine wpQuiet_nil ?_;intro w5 hb5;clear m1 m2 m3 m4 m5 t1 t2;go_wp2_with fail;go_roundg (gk-1)
    case measure=>omega
    case rel=>exact⟨i+1,by omega,by omega,by go_num,hnn2,zbc hC3 hb5⟩
   ·rcases z3:(cl==bl)with _|_
    ·have hnn2:=zhd (hnn (by rw[hTc,z1,z3];rfl));clear hnf hnn hbn hTc;refine ag (by kernel_rfl) (by kernel_rfl) ?_;repeat(go_big_quiet_step (fail))
     refine wpQuiet_nil ?_;intro w5 hb5;clear m1 m2 m3 m4 m5 t1 t2;go_wp2_with fail;go_roundg (gk-1)
     case measure=>omega
     case rel=>exact⟨i+1,by omega,by omega,by go_num,hnn2,zbc hC3 hb5⟩
    ·rcases z4:((a:Int)==c.fr)with _|_
     ·have hnn2:=zhd (hnn (by rw[hTc,z1,z3,z4];rfl));clear hnf hnn hbn hTc;refine ag (by kernel_rfl) (by kernel_rfl) ?_;repeat(go_big_quiet_step (first|with_reducible exact t1 _ _|fail))
      refine wpQuiet_nil ?_;intro w5 hb5;clear m1 m2 m3 m4 m5 t1 t2;go_wp2_with fail;go_roundg (gk-1)
      case measure=>omega
      case rel=>exact⟨i+1,by omega,by omega,by go_num,hnn2,zbc hC3 hb5⟩
     ·rcases z5:((b:Int)==c.tg)with _|_
      ·have hnn2:=zhd (hnn (by rw[hTc,z1,z3,z4,z5];rfl));clear hnf hnn hbn hTc;refine ag (by kernel_rfl) (by kernel_rfl) ?_;repeat(go_big_quiet_step (first|with_reducible exact t1 _ _|with_reducible exact t2 _ _|fail))
       refine wpQuiet_nil ?_;intro w5 hb5;clear m1 m2 m3 m4 m5 t1 t2;go_wp2_with fail;go_roundg (gk-1)
       case measure=>omega
       case rel=>exact⟨i+1,by omega,by omega,by go_num,hnn2,zbc hC3 hb5⟩
      ·clear m1 m2 m3 m4 m5 t1 t2;obtain⟨hF8,hR8⟩:=hbn (by have:=eq_of_beq z1;omega);have hbt:∀ W,Clz 195 #[.agg #[.int .i64 F,.int .i64 R],.int .i64 c.fr,.int .i64 c.co] W (zu W .i64 (btwS F R c.fr c.co)):=fun W=>by subst hF8 hR8;exact gP 8 8 c.fr c.co (by decide) (by decide) hf64 hk64 hln W
       have hbs2:∀ x∈btwS F R c.fr c.co,0≤x∧x<xs.length:=by rw[hlen.out];subst hF8 hR8;exact hbs
       have hbl9:(btwS F R c.fr c.co).length≤900:=by unfold btwS;exact Nat.le_trans (nW _ _) (Nat.le_trans (ix _ _ _ _ _ _ _) (by decide))
       generalize btwS F R c.fr c.co=BL at *;obtain⟨E,hE⟩:∃ E,E=d6 xs BL:=⟨_,rfl⟩;have hem:=fun q d W h1 h2=>ns F R can pa ha fu bl (some ⟨g,o,none⟩) cc xs q d BL hbs2 hbl9 W h1 h2
       rw[←hE]at hem hTc;rw[z1,z3,z4,z5]at hTc;simp only[Bool.true_and]at hTc;refine cB (by kernel_rfl) (by kernel_rfl) [some 29,some 30,some 31,some 32,some 33,some 34,some 35,some 36,some 37,some 38,some 39,some 40,some 41,some 42,some 43,some 44,some 45,some 46,some 47,some 48,some 49,some 50,some 51,some 52,some 53,some 54,some 55,some 56,some 57,some 58,some 59,some 60,some 61,some 62,some 63,some 64,some 65,some 66,some 67,some 68,some 69,some 70,some 71,some 72,some 73,some 74] (by rfl) (by rfl) (fun i8=>match i8 with|0=>.pointer (some ⟨w.heap.size,4,none⟩)|1=>.int .u8 can|2=>.int .u8 c.bit|3=>.int .u8 nq|4=>.int .u8 nr|5=>.bool true|6=>.bool true|7=>.int .u8 c.bit|8=>.bool cl|9=>.pointer (some ⟨w.heap.size,3,none⟩)|10=>.bool bl|11=>.bool true|12=>.bool true|13=>.bool true|14=>.pointer (some ⟨(w.heap.size+1),0,none⟩)|15=>.int .i64 a|16=>.slice (some ⟨gs,0,none⟩) 4 4|17=>.pointer (some ⟨gs,0,none⟩)|18=>.string (str (nmL c.fr))|19=>.int .i64 c.fr|20=>.bool true|21=>.bool true|22=>.bool true|23=>.pointer (some ⟨(w.heap.size+1),1,none⟩)|24=>.int .i64 b|25=>.slice (some ⟨gs,0,none⟩) 4 4|26=>.pointer (some ⟨gs,1,none⟩)|27=>.string (str (nmL c.tg))|28=>.int .i64 c.tg|29=>.bool true|30=>.bool true|31=>.bool true|32=>.agg (aa F R (some ⟨g,o,none⟩) xs.length cc bl can pa ha fu).toArray|33=>.pointer (some ⟨w.heap.size,0,none⟩)|34=>.agg #[.int .i64 F,.int .i64 R] | 35=>.slice (some ⟨gs,0,none⟩) 4 4|36=>.pointer (some ⟨gs,0,none⟩)|37=>.string (str (nmL c.fr))|38=>.int .i64 c.fr|39=>.slice (some ⟨gs,0,none⟩) 4 4|40=>.pointer (some ⟨gs,2,none⟩)|41=>.string (str (nmL c.co))|42=>.int .i64 c.co|44=>.bool E|45=>.bool E|_=>undef) (fun i8=>match i8 with|43=>some (bP BL)|_=>none) ?hst ?hstep ?hend
       case hst =>
        intro i φ h v W W2 hb h2;split at h
        ·injection h with h;subst h;exact h2.call hb
        ·cases h
       case hstep =>
        intro i9 o9 f9 W ho hi hC hf K hK;have hi:i9<46:=hi;rcases i9 with _|_|_|_|_|_|_|_|_|_|_|_|_|_|_|_|_|_|_|_|_|_|_|_|_|_|_|_|_|_|_|_|_|_|_|_|_|_|_|_|_|_|_|_|_|_|i9
        ·exact au (og ho) 26 (.tmp 2) 3 (oo ho) (ah rfl rfl) (n:=4) (by kernel_rfl) (kk hK)
        ·exact ap (og ho) 5 (.tmp 29) (oo ho) (ri 0 (da ho hf 0)) (by kernel_rfl) ((hA3.call hC).cells 4) (kk hK)
        ·exact al (og ho) (.tmp 6) (oo ho) (ah rfl rfl) (kk hK)
        ·exact aK (og ho) .quo 5 5 (.tmp 30) (.tmp 31) (oo ho) (ri 1 (da ho hf 1)) (ri 2 (da ho hf 2)) (bM _ _ _ _ _ _ _ _) (lN can c.bit nq hb1 hca hnqE.out W) (kk hK)
        ·exact aK (og ho) .rem 5 5 (.tmp 32) (.const (.int .u8 2)) (oo ho) (ri 3 (da ho hf 3)) rfl (bM _ _ _ _ _ _ _ _) (lE nq 2 nr (by decide) hnrE.out W) (kk hK)
        ·exact aK (og ho) .eql 5 5 (.tmp 33) (.const (.int .u8 1)) (oo ho) (ri 4 (da ho hf 4)) rfl (bM _ _ _ _ _ _ _ _) (eq5 z1 W) (kk hK)
        ·exact al (og ho) (.tmp 34) (oo ho) (ri 5 (da ho hf 5)) (kk hK)
        ·exact gd (wo ho (dg ho hf 6)) (al rfl (.tmp 6) (oo ho) (ah rfl rfl) (kk hK))
        ·exact gd (wo ho (dg ho hf 6)) (aK rfl .gtr 5 5 (.tmp 36) (.const (.int .u8 2)) (oo ho) (ri 7 (da ho hf 7)) rfl (bM _ _ _ _ _ _ _ _) (gt5 hbl2 W) (kk hK))
        ·exact gd (wo ho (dg ho hf 6)) (au rfl 26 (.tmp 2) 2 (oo ho) (ah rfl rfl) (n:=3) (by kernel_rfl) (kk hK))
        ·exact gd (wo ho (dg ho hf 6)) (ap rfl 4 (.tmp 38) (oo ho) (ri 9 (da ho hf 9)) (by kernel_rfl) ((hA3.call hC).cells 3) (kk hK))
        ·exact gd (wo ho (dg ho hf 6)) (aK rfl .eql 4 4 (.tmp 37) (.tmp 39) (oo ho) (ri 8 (da ho hf 8)) (ri 10 (da ho hf 10)) (Aj _ _ _ _ _ _ _ _) (eq4 z3 W) (kk hK))
        ·exact cx (og ho) (.tmp 35) (.tmp 40) (.const (.bool false)) (oo ho) (ri 6 (da ho hf 6)) (ri 11 (da ho hf 11)) (kk hK)
        ·exact al (og ho) (.tmp 41) (oo ho) (ri 12 (da ho hf 12)) (kk hK)
        ·exact gd (wo ho (dg ho hf 13)) (au rfl 40 (.tmp 3) 0 (oo ho) (ah rfl rfl) (n:=0) (by kernel_rfl) (kk hK))
        ·exact gd (wo ho (dg ho hf 13)) (ap rfl 3 (.tmp 43) (oo ho) (ri 14 (da ho hf 14)) (by kernel_rfl) ((hM3.call hC).cells 0) (kk hK))
        ·exact gd (wo ho (dg ho hf 13)) (al rfl (.tmp 7) (oo ho) (ah rfl rfl) (kk hK))
        ·exact gd (wo ho (dg ho hf 13)) (aT rfl 158 (.tmp 45) (.const (.int .i64 0)) (oo ho) (ri 16 (da ho hf 16)) rfl (eD W gs 0 (by decide)) (kk hK))
        ·exact gd (wo ho (dg ho hf 13)) (ap rfl 9 (.tmp 46) (oo ho) (ri 17 (da ho hf 17)) (by kernel_rfl) ((hC.cell (p:=⟨gs,0,none⟩) hS.1).trans (hS.2 0 c.fr rfl)) (kk hK))
        ·exact gd (wo ho (dg ho hf 13)) (aQ rfl 166 (.tmp 47) #[9] (oo ho) (ri 18 (da ho hf 18)) (fun _ _=>rfl) (aP c.fr hf64 W) (by rintro u w9 ⟨h9,hb9⟩;injection h9 with h9;subst h9;exact hK _ _ hb9 rfl) (fun _ _ h=>nomatch h.1) (fun _ h=>nomatch h.1))
        ·exact gd (wo ho (dg ho hf 13)) (aK rfl .eql 3 3 (.tmp 44) (.tmp 48) (oo ho) (ri 15 (da ho hf 15)) (ri 19 (da ho hf 19)) (bM _ _ _ _ _ _ _ _) (iD z4) (kk hK))
        ·exact cx (og ho) (.tmp 42) (.tmp 49) (.const (.bool false)) (oo ho) (ri 13 (da ho hf 13)) (ri 20 (da ho hf 20)) (kk hK)
        ·exact al (og ho) (.tmp 50) (oo ho) (ri 21 (da ho hf 21)) (kk hK)
        ·exact gd (wo ho (dg ho hf 22)) (au rfl 40 (.tmp 3) 1 (oo ho) (ah rfl rfl) (n:=1) (by kernel_rfl) (kk hK))
        ·exact gd (wo ho (dg ho hf 22)) (ap rfl 3 (.tmp 52) (oo ho) (ri 23 (da ho hf 23)) (by kernel_rfl) ((hM3.call hC).cells 1) (kk hK))
        ·exact gd (wo ho (dg ho hf 22)) (al rfl (.tmp 7) (oo ho) (ah rfl rfl) (kk hK))
        ·exact gd (wo ho (dg ho hf 22)) (aT rfl 158 (.tmp 54) (.const (.int .i64 1)) (oo ho) (ri 25 (da ho hf 25)) rfl (eD W gs 1 (by decide)) (kk hK))
        ·exact gd (wo ho (dg ho hf 22)) (ap rfl 9 (.tmp 55) (oo ho) (ri 26 (da ho hf 26)) (by kernel_rfl) ((hC.cell (p:=⟨gs,1,none⟩) hS.1).trans (hS.2 1 c.tg rfl)) (kk hK))
        ·exact gd (wo ho (dg ho hf 22)) (aQ rfl 166 (.tmp 56) #[9] (oo ho) (ri 27 (da ho hf 27)) (fun _ _=>rfl) (aP c.tg ht64 W) (by rintro u w9 ⟨h9,hb9⟩;injection h9 with h9;subst h9;exact hK _ _ hb9 rfl) (fun _ _ h=>nomatch h.1) (fun _ h=>nomatch h.1))
        ·exact gd (wo ho (dg ho hf 22)) (aK rfl .eql 3 3 (.tmp 53) (.tmp 57) (oo ho) (ri 24 (da ho hf 24)) (ri 28 (da ho hf 28)) (bM _ _ _ _ _ _ _ _) (iD z5) (kk hK))
        ·exact cx (og ho) (.tmp 51) (.tmp 58) (.const (.bool false)) (oo ho) (ri 22 (da ho hf 22)) (ri 29 (da ho hf 29)) (kk hK)
        ·exact al (og ho) (.tmp 59) (oo ho) (ri 30 (da ho hf 30)) (kk hK)
        ·exact gd (wo ho (dg ho hf 31)) (ay rfl 26 (.tmp 2) (oo ho) (ah rfl rfl) (aa F R (some ⟨g,o,none⟩) xs.length cc bl can pa ha fu) (by kernel_rfl) (fun j v hv=>by rw[Nat.zero_add,(hA3.call hC).cells j];simpa using hv) (kk hK))
        ·exact gd (wo ho (dg ho hf 31)) (au rfl 26 (.tmp 2) 0 (oo ho) (ah rfl rfl) (n:=0) (by kernel_rfl) (kk hK))
        ·exact gd (wo ho (dg ho hf 31)) (ay rfl 23 (.tmp 62) (oo ho) (ri 33 (da ho hf 33)) [.int .i64 (F:Int),.int .i64 (R:Int)] (by kernel_rfl) (fun j v hv=>by rw[Nat.zero_add,(hA3.call hC).cells j];rcases(by have:=(List.getElem?_eq_some_iff.1 hv).1;simp at this;omega:j=0∨j=1)with rfl|rfl<;>exact hv) (kk hK))
        ·exact gd (wo ho (dg ho hf 31)) (al rfl (.tmp 7) (oo ho) (ah rfl rfl) (kk hK))
        ·exact gd (wo ho (dg ho hf 31)) (aT rfl 158 (.tmp 64) (.const (.int .i64 0)) (oo ho) (ri 35 (da ho hf 35)) rfl (eD W gs 0 (by decide)) (kk hK))
        ·exact gd (wo ho (dg ho hf 31)) (ap rfl 9 (.tmp 65) (oo ho) (ri 36 (da ho hf 36)) (by kernel_rfl) ((hC.cell (p:=⟨gs,0,none⟩) hS.1).trans (hS.2 0 c.fr rfl)) (kk hK))
        ·exact gd (wo ho (dg ho hf 31)) (aQ rfl 166 (.tmp 66) #[9] (oo ho) (ri 37 (da ho hf 37)) (fun _ _=>rfl) (aP c.fr hf64 W) (by rintro u w9 ⟨h9,hb9⟩;injection h9 with h9;subst h9;exact hK _ _ hb9 rfl) (fun _ _ h=>nomatch h.1) (fun _ h=>nomatch h.1))
        ·exact gd (wo ho (dg ho hf 31)) (al rfl (.tmp 7) (oo ho) (ah rfl rfl) (kk hK))
        ·exact gd (wo ho (dg ho hf 31)) (aT rfl 158 (.tmp 68) (.const (.int .i64 2)) (oo ho) (ri 39 (da ho hf 39)) rfl (eD W gs 2 (by decide)) (kk hK))
        ·exact gd (wo ho (dg ho hf 31)) (ap rfl 9 (.tmp 69) (oo ho) (ri 40 (da ho hf 40)) (by kernel_rfl) ((hC.cell (p:=⟨gs,2,none⟩) hS.1).trans (hS.2 2 c.co rfl)) (kk hK))
        ·exact gd (wo ho (dg ho hf 31)) (aQ rfl 166 (.tmp 70) #[9] (oo ho) (ri 41 (da ho hf 41)) (fun _ _=>rfl) (aP c.co hk64 W) (by rintro u w9 ⟨h9,hb9⟩;injection h9 with h9;subst h9;exact hK _ _ hb9 rfl) (fun _ _ h=>nomatch h.1) (fun _ h=>nomatch h.1))
        ·exact gd (wo ho (dg ho hf 31)) (ee rfl 195 (.tmp 63) (.tmp 67) (.tmp 71) #[23,3,3] (oo ho) (ri 34 (da ho hf 34)) (ri 38 (da ho hf 38)) (ri 42 (da ho hf 42)) (fun _ _=>rfl) (hbt W) (by rintro u w9 ⟨⟨p9,c9,h9,h10⟩,hb9⟩;injection h9 with h9;subst h9;exact hK _ _ hb9 ⟨_,_,rfl,h10⟩) (by rintro ch w9 h9;revert h9;rintro⟨⟨_,_,h9,_⟩,_⟩;cases h9) (by rintro w9 h9;revert h9;rintro⟨⟨_,_,h9,_⟩,_⟩;cases h9))
        ·obtain⟨p7,c7,e7,h7⟩:bP BL (f9 43) W:=hf ⟨43,.data⟩ (oa ho) rfl;exact gd (wo ho (dg ho hf 31)) (aH rfl 194 (.tmp 61) (.tmp 72) #[26,136] (oo ho) (ri 32 (da ho hf 32)) (ri 43 e7) (fun _ _=>rfl) (hem p7 c7 W (hx3.call hC) h7) (by rintro u w9 ⟨h9,hb9⟩;injection h9 with h9;subst h9;exact hK _ _ hb9 rfl) (fun _ _ h=>nomatch h.1) (fun _ h=>nomatch h.1))
        ·exact cx (og ho) (.tmp 60) (.tmp 73) (.const (.bool false)) (oo ho) (ri 31 (da ho hf 31)) (ri 44 (da ho hf 44)) (kk hK)
        ·omega
       case hend =>
        intro f9 W hC hf;have hv:f9 45=.bool E:=hf 45 (by decide);have hC5:=zbc hC3 hC;have hB5:=zbc hB3 hC;clear hf;simp only[ao,Act.put,List.setIfInBounds_toArray,List.set_cons_succ,List.set_cons_zero];rw[hv];generalize f9 0=u0,f9 1=u1,f9 2=u2,f9 3=u3,f9 4=u4,f9 5=u5,f9 6=u6,f9 7=u7,f9 8=u8,f9 9=u9,f9 10=u10,f9 11=u11,f9 12=u12,f9 13=u13,f9 14=u14,f9 15=u15,f9 16=u16,f9 17=u17,f9 18=u18,f9 19=u19,f9 20=u20,f9 21=u21,f9 22=u22,f9 23=u23,f9 24=u24,f9 25=u25,f9 26=u26,f9 27=u27,f9 28=u28,f9 29=u29,f9 30=u30,f9 31=u31,f9 32=u32,f9 33=u33,f9 34=u34,f9 35=u35,f9 36=u36,f9 37=u37,f9 38=u38,f9 39=u39,f9 40=u40,f9 41=u41,f9 42=u42,f9 43=u43,f9 44=u44;cases E
        ·have hnn2:=zhd (hnn hTc);clear hnf hnn hTc hE hem;go_wp2_with fail;go_roundg (gk-1)
         case measure=>omega
         case rel=>exact⟨i+1,by omega,by omega,by go_num,hnn2,hC5⟩
        ·replace hVe:=zhd (hVe.out.trans (by rw[hnf hTc];rfl):V=c.bit);clear hnf hnn hTc hE hem;go_wp2_with fail;go_ret;exact⟨by rw[hVe.out];rfl,hB5⟩
end Go.Proofs.YtefmplccbkmalaaGreatDoor
