import Derived.Test.YtefmplccbkmalaaGreatDoorB20
import Derived.Test.YtefmplccbkmalaaGreatDoorB23
import Derived.Test.YtefmplccbkmalaaGreatDoorB24
set_option maxRecDepth 100000
set_option maxHeartbeats 12800000
namespace Go.Proofs.YtefmplccbkmalaaGreatDoor
open Go.RowKit Go.Sort Go.BigFrame

theorem yX:∀ n,n<16→∀ a0 a1 a2 a3 b0 b1 b2 b3:Bool,
  (let k1:=if(n/1%2==1&&(a0||b0))=true then n-1 else n
   let k2:=if(k1/2%2==1&&(a1||b1))=true then k1-2 else k1
   let k3:=if(k2/4%2==1&&(a2||b2))=true then k2-4 else k2
   if(k3/8%2==1&&(a3||b3))=true then k3-8 else k3) =
  clrN n ((if a3 then(if a2 then(if a1 then(if a0 then 0|||1 else 0)|||2 else(if a0 then 0|||1 else 0))|||4 else(if a1 then(if a0 then 0|||1 else 0)|||2 else(if a0 then 0|||1 else 0)))|||8 else(if a2 then(if a1 then(if a0 then 0|||1 else 0)|||2 else(if a0 then 0|||1 else 0))|||4 else(if a1 then(if a0 then 0|||1 else 0)|||2 else(if a0 then 0|||1 else 0)))) |||
   (if b3 then(if b2 then(if b1 then(if b0 then 0|||1 else 0)|||2 else(if b0 then 0|||1 else 0))|||4 else(if b1 then(if b0 then 0|||1 else 0)|||2 else(if b0 then 0|||1 else 0)))|||8 else(if b2 then(if b1 then(if b0 then 0|||1 else 0)|||2 else(if b0 then 0|||1 else 0))|||4 else(if b1 then(if b0 then 0|||1 else 0)|||2 else(if b0 then 0|||1 else 0))))):=by decide +kernel
theorem Ae{n a b:Nat}(hn:n<16):caK n a b 4=clrN n (lostW a|||lostW b):=by
 have hel:∀(x y z:Nat),elI [(x:Int),(y:Int)] (z:Int)=(decide ((x:Int)=z)||decide ((y:Int)=z)):=by intro x y z;unfold elI;rw[Bool.eq_iff_iff];simp
 have h:=yX n hn (decide (((4:Nat):Int)=a)||decide (((7:Nat):Int)=a)) (decide (((4:Nat):Int)=a)||decide (((0:Nat):Int)=a)) (decide (((60:Nat):Int)=a)||decide (((63:Nat):Int)=a)) (decide (((60:Nat):Int)=a)||decide (((56:Nat):Int)=a)) (decide (((4:Nat):Int)=b)||decide (((7:Nat):Int)=b)) (decide (((4:Nat):Int)=b)||decide (((0:Nat):Int)=b)) (decide (((60:Nat):Int)=b)||decide (((63:Nat):Int)=b)) (decide (((60:Nat):Int)=b)||decide (((56:Nat):Int)=b));simp only[←hel]at h;refine Eq.trans rfl (h.trans ?_);simp only[hel];rfl
theorem qV{P:Pos}{a b:Nat}{pr:Int}{way:Option Cas}(hF:3≤P.F∧P.F≤8)(hpas:passB P.F P.R P.xs P.bl P.pa P.ha=true)(ha:a<P.F*P.R)(h:iq P a b pr way):dq P.F P.R P.xs P.pa a b=(bL P ⟨a,b,pr⟩).1:=by
 unfold dq;rw[show P.xs[a]?.getD 0=gx P.xs a from rfl,show P.xs[b]?.getD 0=gx P.xs b from rfl];cases h with
 | go h hc =>
  generalize (bL P ⟨a,b,pr⟩).1=t at *;generalize (bL P ⟨a,b,pr⟩).2=cp at *;cases hc with
  | none hb hp=>rw[if_neg (fun h=>hp h.1 h.2),if_neg (fun h=>h hb)]
  | take hb=>rw[if_neg (fun h=>hb (gu hpas h.2).2.2.2.1),if_pos hb]
  | pass e he hx hb hak hee hp hd=>rw[if_pos ⟨by rw[hak];cases P.bl<;>decide,hp⟩,fJ (Nat.mod_lt _ (by omega)) ⟨Int.natCast_nonneg _,Int.ofNat_lt.2 (Nat.div_lt_of_lt_mul ha)⟩,hee];unfold sqN;rw[Int.toNat_natCast]
 | cas c h h1 h2 h3=>subst h1 h2 h3;rw[h.cap,h.king,h.tg,if_neg (fun h=>absurd h.1 (by cases P.bl<;>decide)),if_neg (fun h=>h rfl)]
theorem xN{x:Int}{b:Bool}(h:isW x b=true):sgnI x=sdI b:=xG.1 h
theorem zP{P:Pos}{a b:Nat}{pr:Int}{way:Option Cas}(hF:3≤P.F∧P.F≤8)(ha:a<P.F*P.R)(hb:b<P.F*P.R)(h:iq P a b pr way):eL P.F P.R (gx P.xs a) (a%P.F) (a/P.F) (b/P.F)=if kindI (gx P.xs a)=1∧((b:Int)-a=2*P.F∨(b:Int)-a=-(2*P.F))then(a:Int)+((b:Int)-a)/2 else -1:=by
 have hab:=Ak P.F a b;have hdm:a/P.F*P.F+a%P.F=a:=Nat.div_add_mod' a P.F;have hfa:a%P.F<P.F:=Nat.mod_lt _ (by omega);have hrr:dR P.F a b=((b/P.F:Nat):Int)-((a/P.F:Nat):Int):=rfl;have hq:a/P.F<P.R:=Nat.div_lt_of_lt_mul ha;have hq2:b/P.F<P.R:=Nat.div_lt_of_lt_mul hb;have hs:sdI P.bl=1∨sdI P.bl=-1:=by cases P.bl<;>decide
 have hk1:kindI (pcI 1 P.bl)=1:=by cases P.bl<;>decide
 have hall:(kindI (gx P.xs a)=1→(dR P.F a b=1∨dR P.F a b=-1)∧-1≤dF P.F a b∧dF P.F a b≤1)∨(kindI (gx P.xs a)=1∧(dR P.F a b=2∨dR P.F a b=-2)∧dF P.F a b=0):=by
  cases h with
  | go h hc =>
   cases h with
   | piece hk=>exact .inl fun h=>absurd h hk
   | step hk hb0 hd hr hl=>exact .inl fun _=>⟨by rw[hr];exact hs,by rw[hd];decide⟩
   | diag hk hd hr hc hl=>exact .inl fun _=>⟨by rw[hr];exact hs,by rcases hd with h|h<;>rw[h]<;>decide⟩
   | two hk hb0 hd hr h6 hs2 c hc hl=>exact .inr ⟨by rw[hk,hk1],by rw[hr];rcases hs with h|h<;>rw[h]<;>decide,hd⟩
  | cas c h h1 h2 h3=>subst h1 h2;exact .inl fun h9=>absurd h9 (by rw[h.king];cases P.bl<;>decide)
 clear h hk1 hs;clear ha hb;unfold eL;generalize P.F=F at *;generalize P.R=R at *;generalize a/F=ra at *;generalize b/F=rb at *;generalize a%F=fa at *;generalize dF F a b=df at *;generalize dR F a b=dr at *;generalize kindI (gx P.xs a)=kk at *;rcases hall with h|⟨rfl,hd,rfl⟩
 ·by_cases hk:kk=1
  ·obtain⟨h1,h2,h3⟩:=h hk;rw[if_neg (by omega),if_neg (by rcases h1 with h1|h1<;>rw[h1]at hab<;>omega)]
  ·rw[if_neg (fun h=>hk h.1),if_neg (fun h=>hk h.1)]
 ·rw[if_pos ⟨rfl,by omega⟩,if_pos ⟨rfl,by rcases hd with h|h<;>rw[h]at hab<;>omega⟩];rcases hd with h|h
  ·have e:(ra+rb)/2=ra+1:=by omega
   rw[e,fJ hfa ⟨by omega,by omega⟩];unfold sqN;rw[Int.toNat_natCast,Nat.add_mul,Nat.one_mul];rw[h]at hab;omega
  ·have e:(ra+rb)/2+1=ra:=by omega
   have e3:((ra+rb)/2+1)*F=ra*F:=by rw[e]
   rw[Nat.add_mul,Nat.one_mul]at e3;rw[fJ hfa ⟨by omega,by omega⟩];unfold sqN;rw[Int.toNat_natCast];rw[h]at hab;omega
theorem zH{P:Pos}{a b:Nat}{pr:Int}{n:Nat}{way:Option Cas}(hway:way=casR P ⟨a,b,pr⟩)(hca:P.ca=n)(hn:n<16)(hF:3≤P.F∧P.F≤8)(hpas:passB P.F P.R P.xs P.bl P.pa P.ha=true)(ha:a<P.F*P.R)(hb:b<P.F*P.R)(hw:isW (gx P.xs a) P.bl=true)(h:iq P a b pr way):bK P ⟨a,b,pr⟩=dU P ⟨a,b,pr⟩ way:=by
 have hcap:=qV hF hpas ha h;have hpa:=zP hF ha hb h;have hpr:pr≠0→way=none:=fun h=>hway.trans (if_pos (.inr h))
 have hz:(bL P ⟨a,b,pr⟩).2≠0↔0≤(bL P ⟨a,b,pr⟩).1:=by
  cases h with
  | go h hc =>
   generalize (bL P ⟨a,b,pr⟩).1=t at *;generalize (bL P ⟨a,b,pr⟩).2=cp at *;cases hc with
   | none=>simp
   | take hb=>simp[hb]
   | pass e he=>simp[(jy (!P.bl)).2]
  | cas c h h1 h2 h3=>subst h1 h2 h3;rw[h.cap];simp
 have hx:f8 way (proX pr (gx P.xs a) b (((capX (bL P ⟨a,b,pr⟩).1 P.xs).set a 0).set b (gx P.xs a)))=brdW P ⟨a,b,pr⟩ way:=by
  unfold brdW proX f8 capX;simp only[Int.toNat_natCast,show P.at_ (a:Int)=gx P.xs a from rfl];generalize (if 0≤(bL P ⟨a,b,pr⟩).1 then P.xs.set (bL P ⟨a,b,pr⟩).1.toNat 0 else P.xs)=x1;by_cases h0:pr≠0
  ·rw[hpr h0,if_pos h0,if_pos h0,xN hw];simp only;congr 1;cases P.bl
   ·show pr*1=pr;omega
   ·show pr * -1=-pr;omega
  ·rw[if_neg h0,if_neg h0];cases way<;>rfl
 have e1:bK P ⟨a,b,pr⟩={ F:=P.F,R:=P.R,xs:=f8 way (proX pr (gx P.xs a) b (((capX (dq P.F P.R P.xs P.pa a b) P.xs).set a 0).set b (gx P.xs a))),bl:=!P.bl,ca:=(caK P.ca.toNat a b 4:Nat),pa:=eL P.F P.R (gx P.xs a) (a%P.F) (a/P.F) (b/P.F),ha:=if kindI (gx P.xs a)=1∨0≤dq P.F P.R P.xs P.pa a b then 0 else P.ha+1,fu:=if P.bl then P.fu+1 else P.fu}:=by rw[hway];rfl
 rw[e1,hcap,hpa,hca,Int.toNat_natCast,Ae hn];have e2:dU P ⟨a,b,pr⟩ way={ F:=P.F,R:=P.R,xs:=brdW P ⟨a,b,pr⟩ way,bl:=!P.bl,ca:=(clrN P.ca.toNat (lostW a|||lostW b):Nat),pa:=if kindI (gx P.xs a)=1∧((b:Int)-a=2*P.F∨(b:Int)-a=-(2*P.F))then(a:Int)+((b:Int)-a)/2 else -1,ha:=if kindI (gx P.xs a)=1∨(bL P ⟨a,b,pr⟩).2≠0 then 0 else P.ha+1,fu:=if P.bl then P.fu+1 else P.fu}:=rfl;rw[e2,hca,Int.toNat_natCast];simp only[hz,hx]
def lw(F R n:Nat)(bl:Bool)(ca pa ha fu:Int)(X:List Int)(v:Value)(W:World):Prop:=∃ p c,v=.agg (aa F R p n c bl ca pa ha fu).toArray∧Arr .i8 W p X
def lX(F R n:Nat)(X:List Int)(v:Value)(W:World):Prop:=∃ p c,v=.agg (ar F R p n c).toArray∧Arr .i8 W p X
def lS(L:List Nat)(v:Value)(W:World):Prop:=∃ g,v=.slice (some ⟨g,0,none⟩) 4 4∧gC W g L
def lP(L:List Nat)(v:Value)(W:World):Prop:=∃ g,v=.pointer (some ⟨g,3,none⟩)∧gC W g L
theorem lw.call{F R n:Nat}{bl:Bool}{ca pa ha fu:Int}{X:List Int}{v:Value}{W W':World}(hb:Bw W W')(h:lw F R n bl ca pa ha fu X v W):lw F R n bl ca pa ha fu X v W':=by obtain⟨p,c,e,h⟩:=h;exact⟨p,c,e,h.call hb⟩
theorem lX.call{F R n:Nat}{X:List Int}{v:Value}{W W':World}(hb:Bw W W')(h:lX F R n X v W):lX F R n X v W':=by obtain⟨p,c,e,h⟩:=h;exact⟨p,c,e,h.call hb⟩
theorem lS.call{L:List Nat}{v:Value}{W W':World}(hb:Bw W W')(h:lS L v W):lS L v W':=by obtain⟨g,e,h⟩:=h;exact⟨g,e,h.call hb⟩
theorem lP.call{L:List Nat}{v:Value}{W W':World}(hb:Bw W W')(h:lP L v W):lP L v W':=by obtain⟨g,e,h⟩:=h;exact⟨g,e,h.call hb⟩
def safB(P:Pos)(m:Mv):Bool :=
 !chkB P.F P.R (bK P m).xs (kgI (bK P m).xs P.bl).toNat P.bl&&(match casR P m with
  | none=>true
  | some c=>!chkB P.F P.R P.xs (kgI P.xs P.bl).toNat P.bl&&decide ((attrL P.F P.R P.xs c.cr (!P.bl)).length=0))
theorem pE(F R:Nat)(xs:List Int)(bl:Bool)(can:Nat)(pa ha fu:Int)(a b:Nat)(pr:Int)(p:Option Addr)(cc:Nat)(hF:3≤F∧F≤8)(hR:3≤R∧R≤8)(hal:a<F*R)(hbl:b<F*R)(hlen:xs.length=F*R)(hca:can<256)(h88:∀ c∈az,can/c.bit%2=1→F=8∧R=8)(h6:∀ x∈xs,-6≤x∧x≤6)(hha:0≤ha∧ha≤10000)(hfu:-10000≤fu∧fu≤10000)(hpr:0≤pr∧pr≤5)(k k0:Nat)(hk:kgI (bK ⟨F,R,xs,bl,can,pa,ha,fu⟩ ⟨a,b,pr⟩).xs bl=k)(hkl:k<F*R)(hk0:kgI xs bl=k0)(hk0l:k0<F*R)(hXl:(bK ⟨F,R,xs,bl,can,pa,ha,fu⟩ ⟨a,b,pr⟩).xs.length=xs.length)(hXo:∀ x∈(bK ⟨F,R,xs,bl,can,pa,ha,fu⟩ ⟨a,b,pr⟩).xs,pOk x=true)(hok:∀ x∈xs,pOk x=true)(w:World)(hx:Arr .i8 w p xs):
  Clz 115 #[.agg (aa F R p xs.length cc bl can pa ha fu).toArray,.agg #[.int .i64 a,.int .i64 b,.int .i8 pr]] w fun e w'=>e=.returned (.bool (safB ⟨F,R,xs,bl,can,pa,ha,fu⟩ ⟨a,b,pr⟩))∧Bw w w':=by
 obtain⟨W1,hW1⟩:∃ W1,W1=(w.alloc (.cells (aa F R p xs.length cc bl can pa ha fu).toArray 26)).alloc (.cells #[.int .i64 a,.int .i64 b,.int .i8 pr] 40):=⟨_,rfl⟩;have hB:Bw w W1:=by subst hW1;exact(ae w _).alloc (by simp) _
 have hA:ac W1 w.heap.size (.cells (aa F R p xs.length cc bl can pa ha fu).toArray 26 (0,0)):=by subst hW1;exact(ac.new w _).alloc _
 have hM:ac W1 (w.heap.size+1) (.cells #[.int .i64 a,.int .i64 b,.int .i8 pr] 40 (0,0)):=by subst hW1;exact ac.new' _ _ (by simp)
 have hx1:=hx.call hB;have hl64:xs.length≤64:=by rw[hlen];exact Nat.mul_le_mul hF.2 hR.2
 have haf:=fun W h=>iJ F R xs bl can pa ha fu a b pr p cc hF hR hal hbl hlen hca h88 h6 hha hfu hpr W h
 have hcs:=fun W h=>er F R xs bl can pa ha fu a b pr p cc hlen hal hca h88 h6 W h
 have hof:=fun W=>cX F R can pa ha fu bl p xs.length cc W
 have hof2:=fun q d x1 x2 x3 x4 x5 W=>cX F R x1 x2 x3 x4 x5 q xs.length d W
 have hc0:=fun W h=>fP F R p cc xs k0 bl hF hR hlen hk0 hk0l hok W h
 have hV:safB ⟨F,R,xs,bl,can,pa,ha,fu⟩ ⟨a,b,pr⟩=(!chkB F R (bK ⟨F,R,xs,bl,can,pa,ha,fu⟩ ⟨a,b,pr⟩).xs k bl&&(match casR ⟨F,R,xs,bl,can,pa,ha,fu⟩ ⟨a,b,pr⟩with
  | none=>true
  | some c=>!chkB F R xs k0 bl&&decide ((attrL F R xs c.cr (!bl)).length=0))):=by
  unfold safB;rw[show(kgI (bK ⟨F,R,xs,bl,can,pa,ha,fu⟩ ⟨a,b,pr⟩).xs bl).toNat=k by rw[hk];rfl,show(kgI xs bl).toNat=k0 by rw[hk0];rfl]
 have h64:∀ c,casR ⟨F,R,xs,bl,can,pa,ha,fu⟩ ⟨a,b,pr⟩=some c→c∈az∧F*R=64:=fun c h=>by
  obtain⟨h1,h2⟩:=my h;unfold ik at h2;rw[Bool.and_eq_true]at h2;have h3:can/c.bit%2=1:=by have:=eq_of_beq h2.1;have h4:((can/c.bit%2:Nat):Int)=1:=this;omega
  obtain⟨e1,e2⟩:=h88 c h1 h3;exact⟨h1,by rw[e1,e2]⟩
 unfold kw at haf;simp only at haf;have hc1:∀ q d W,Arr .i8 W q (bK ⟨F,R,xs,bl,can,pa,ha,fu⟩ ⟨a,b,pr⟩).xs→Clz 38 #[.agg (ar F R q xs.length d).toArray,.bool bl] W fun e w'=>e=.returned (.bool (chkB F R (bK ⟨F,R,xs,bl,can,pa,ha,fu⟩ ⟨a,b,pr⟩).xs k bl))∧Bw W w':=fun q d W h=>by rw[←hXl];exact fP F R q d (bK ⟨F,R,xs,bl,can,pa,ha,fu⟩ ⟨a,b,pr⟩).xs k bl hF hR (hXl.trans hlen) hk hkl hXo W h
 generalize (bK ⟨F,R,xs,bl,can,pa,ha,fu⟩ ⟨a,b,pr⟩).bl=b9 at *;generalize (bK ⟨F,R,xs,bl,can,pa,ha,fu⟩ ⟨a,b,pr⟩).ca=c9 at *;generalize (bK ⟨F,R,xs,bl,can,pa,ha,fu⟩ ⟨a,b,pr⟩).pa=p9 at *;generalize (bK ⟨F,R,xs,bl,can,pa,ha,fu⟩ ⟨a,b,pr⟩).ha=h9 at *;generalize (bK ⟨F,R,xs,bl,can,pa,ha,fu⟩ ⟨a,b,pr⟩).fu=z9 at *;generalize (bK ⟨F,R,xs,bl,can,pa,ha,fu⟩ ⟨a,b,pr⟩).xs=X at *;generalize casR ⟨F,R,xs,bl,can,pa,ha,fu⟩ ⟨a,b,pr⟩=CO at *;generalize safB ⟨F,R,xs,bl,can,pa,ha,fu⟩ ⟨a,b,pr⟩=V at *;generalize chkB F R X k bl=E1 at *;replace hV:=zhd hV;replace hlen:=zhd hlen;replace hW1:=zhd hW1;replace hXl:=zhd hXl;clear h6 h88 hx;go_enter Tryz.func115,Tryz.ntmps115;go_upto_region 1 with fail;change Code.wp _ _ _ _ ((w.alloc (.cells (aa F R p xs.length cc bl can pa ha fu).toArray 26)).alloc (.cells #[.int .i64 a,.int .i64 b,.int .i8 pr] 40));rw[←hW1.out];refine cB (by kernel_rfl) (by kernel_rfl) [some 6,some 7,some 8,some 9,some 10,some 11,some 12] (by rfl) (by rfl) (fun i8=>match i8 with|0=>.agg (aa F R p xs.length cc bl can pa ha fu).toArray|1=>.agg #[.int .i64 a,.int .i64 b,.int .i8 pr] | 4=>.pointer (some ⟨w.heap.size,3,none⟩)|5=>.bool bl|6=>.bool E1|_=>undef) (fun i8=>match i8 with|2=>some (lw F R xs.length b9 c9 p9 h9 z9 X)|3=>some (lX F R xs.length X)|_=>none) ?hst ?hstep ?hend
 case hst =>
  intro i φ h v W W2 hb h2;split at h
  ·injection h with h;subst h;exact lw.call hb h2
  ·injection h with h;subst h;exact lX.call hb h2
  ·cases h
 case hstep =>
  intro i9 o9 f7 W ho hi hC hf K hK;have hi:i9<7:=hi;rcases i9 with _|_|_|_|_|_|_|i9
  ·exact ay (og ho) 26 (.tmp 2) (oo ho) (ah rfl rfl) (aa F R p xs.length cc bl can pa ha fu) (by kernel_rfl) (fun j v hv=>by rw[Nat.zero_add,(hA.call hC).cells j];simpa using hv) (kk hK)
  ·exact ay (og ho) 40 (.tmp 3) (oo ho) (ah rfl rfl) [.int .i64 a,.int .i64 b,.int .i8 pr] (by kernel_rfl) (fun j v hv=>by rw[Nat.zero_add,(hM.call hC).cells j];simpa using hv) (kk hK)
  ·exact aH (og ho) 116 (.tmp 6) (.tmp 7) #[26,40] (oo ho) (ri 0 (da ho hf 0)) (ri 1 (da ho hf 1)) (fun _ _=>rfl) (haf W (hx1.call hC)) (by rintro u w9 ⟨q9,c8,hh,hb9,_,hO9⟩;injection hh with hh;subst hh;exact hK _ _ hb9 ⟨some ⟨q9,0,none⟩,c8,rfl,hO9.arr⟩) (by rintro ch w9 ⟨_,_,h9,_⟩;cases h9) (by rintro w9 ⟨_,_,h9,_⟩;cases h9)
  ·obtain⟨q8,d8,e8,h8⟩:lw F R xs.length b9 c9 p9 h9 z9 X (f7 2) W:=hf ⟨2,.data⟩ (oa ho) rfl;exact aQ (og ho) 35 (.tmp 8) #[26] (oo ho) (ri 2 e8) (fun _ _=>rfl) (hof2 q8 d8 c9 p9 h9 z9 b9 W) (by rintro u w9 ⟨hh,hb9⟩;injection hh with hh;subst hh;exact hK _ _ hb9 ⟨q8,d8,rfl,h8.call hb9⟩) (fun _ _ h=>nomatch h.1) (fun _ h=>nomatch h.1)
  ·exact au (og ho) 26 (.tmp 2) 2 (oo ho) (ah rfl rfl) (n:=3) (by kernel_rfl) (kk hK)
  ·exact ap (og ho) 4 (.tmp 10) (oo ho) (ri 4 (da ho hf 4)) (by kernel_rfl) ((hA.call hC).cells 3) (kk hK)
  ·obtain⟨q8,d8,e8,h8⟩:lX F R xs.length X (f7 3) W:=hf ⟨3,.data⟩ (oa ho) rfl;exact aH (og ho) 38 (.tmp 9) (.tmp 11) #[68,4] (oo ho) (ri 3 e8) (ri 5 (da ho hf 5)) (fun _ _=>rfl) (hc1 q8 d8 W h8) (by rintro u w9 ⟨h9,hb9⟩;injection h9 with h9;subst h9;exact hK _ _ hb9 rfl) (fun _ _ h=>nomatch h.1) (fun _ h=>nomatch h.1)
  ·omega
 case hend =>
  intro f7 W2 hC hf;have hv:f7 6=.bool E1:=hf 6 (by decide);have hA2:=hA.call hC;have hM2:=hM.call hC;have hB2:=zbc hB hC;have hx2:=hx1.call hC;clear hf hA hM hB hx1 hC haf hof2 hc1;simp only[ao,Act.put,List.setIfInBounds_toArray,List.set_cons_succ,List.set_cons_zero];rw[hv];clear hv;generalize f7 0=u0,f7 1=u1,f7 2=u2,f7 3=u3,f7 4=u4,f7 5=u5;have⟨c0,l0⟩:=hA2.cl;have⟨c1,l1⟩:=hM2.cl;cases E1
  rotate_left
  ·replace hV:=zhd (hV.out.trans rfl:V=false);go_wp2_with fail;go_ret;exact⟨by rw[hV.out];rfl,hB2⟩
  go_wp2_with fail;refine(hcs W2 hx2).mono ?_;rintro e W3 ⟨rfl,hb3⟩;have hA3:=hA2.call hb3;have hB3:=zbc hB2 hb3;have hx3:=hx2.call hb3;clear c0 l0 c1 l1 hx2 hcs;rcases CO with _|c
  ·have z:(((bitO none:Nat):Int)==0)=true:=rfl;generalize ((bitO none:Nat):Int)=bz at *;replace hV:=zhd (hV.out.trans rfl:V=true);clear h64;go_wp2_with fail;go_ret;exact⟨by rw[hV.out];rfl,hB3⟩
  ·obtain⟨hcm,h8⟩:=h64 c rfl;obtain⟨hb1,hb8,_,_,_,_,hr64,_,_⟩:=gt hcm;have z:((c.bit:Int)==0)=false:=by simp;omega
   have e1:bitO (some c)=c.bit:=rfl;rw[e1];clear h64 e1;have hat:=fun W h=>fM F R p cc xs c.cr (!bl) hF hR hlen.out (by rw[h8];exact hr64) hok W h
   replace hV:=zhd (hV.out.trans rfl:V=(!chkB F R xs k0 bl&&decide ((attrL F R xs c.cr (!bl)).length=0)));generalize attrL F R xs c.cr (!bl)=AL at *;generalize chkB F R xs k0 bl=E0 at *;replace h8:=zhd h8;go_upto_region 6 with fail;cases E0
   rotate_left
   ·replace hV:=zhd (hV.out.trans rfl:V=false);have m1:=am hA3;have t1:=ax (w:=W3) (fun W _=>hof W);have t2:=ax (w:=W3) (fun W h=>hc0 W (hx3.call h));refine ag (by kernel_rfl) (by kernel_rfl) ?_;repeat(go_big_quiet_step (first|with_reducible exact t1 _ _|with_reducible exact t2 _ _|fail))
    refine wpQuiet_nil ?_;intro W5 hC;go_wp2_with fail;go_ret;exact⟨by rw[hV.out];rfl,zbc hB3 hC⟩
   ·obtain⟨d,hd⟩:∃ d,(((AL.length:Nat):Int)==0)=d:=⟨_,rfl⟩;replace hV:=zhd (hV.out.trans (by rw[←hd];by_cases h:AL.length=0<;>simp[h]):V=d);refine cB (by kernel_rfl) (by kernel_rfl) [some 18,some 19,some 20,some 21,some 22,some 23,some 24,some 25,some 26,some 27,some 28,some 29,some 30,some 31,some 32,some 33,some 34,some 35,some 36,some 37,some 38,some 4] (by rfl) (by rfl) (fun i8=>match i8 with|0=>.agg (aa F R p xs.length cc bl can pa ha fu).toArray|1=>.agg (ar F R p xs.length cc).toArray|2=>.pointer (some ⟨w.heap.size,3,none⟩)|3=>.bool bl|4=>.bool false|5=>.bool true|6=>.bool true|7=>.agg (aa F R p xs.length cc bl can pa ha fu).toArray|8=>.agg (ar F R p xs.length cc).toArray|9=>.int .u8 c.bit|12=>.string (str (nmL c.cr))|13=>.int .i64 c.cr|14=>.pointer (some ⟨w.heap.size,3,none⟩)|15=>.bool bl|16=>.bool (!bl)|18=>.int .i64 AL.length|19=>.bool d|20=>.bool d|21=>.bool d|_=>undef) (fun i8=>match i8 with|10=>some (lS (nL c))|11=>some (lP (nL c))|17=>some (bP AL)|_=>none) ?hst ?hstep ?hend
    case hst =>
     intro i φ h v W W2 hb h2;split at h
     ·injection h with h;subst h;exact lS.call hb h2
     ·injection h with h;subst h;exact lP.call hb h2
     ·injection h with h;subst h;exact bP.call hb h2
     ·cases h
    case hstep =>
     intro i9 o9 f9 W ho hi hC hf K hK;have hi:i9<22:=hi;rcases i9 with _|_|_|_|_|_|_|_|_|_|_|_|_|_|_|_|_|_|_|_|_|_|i9
     ·exact ay (og ho) 26 (.tmp 2) (oo ho) (ah rfl rfl) (aa F R p xs.length cc bl can pa ha fu) (by kernel_rfl) (fun j v hv=>by rw[Nat.zero_add,(hA3.call hC).cells j];simpa using hv) (kk hK)
     ·exact aQ (og ho) 35 (.tmp 18) #[26] (oo ho) (ri 0 (da ho hf 0)) (fun _ _=>rfl) (hof W) (by rintro u w9 ⟨h9,hb9⟩;injection h9 with h9;subst h9;exact hK _ _ hb9 rfl) (fun _ _ h=>nomatch h.1) (fun _ h=>nomatch h.1)
     ·exact au (og ho) 26 (.tmp 2) 2 (oo ho) (ah rfl rfl) (n:=3) (by kernel_rfl) (kk hK)
     ·exact ap (og ho) 4 (.tmp 20) (oo ho) (ri 2 (da ho hf 2)) (by kernel_rfl) ((hA3.call hC).cells 3) (kk hK)
     ·exact aH (og ho) 38 (.tmp 19) (.tmp 21) #[68,4] (oo ho) (ri 1 (da ho hf 1)) (ri 3 (da ho hf 3)) (fun _ _=>rfl) (hc0 W (hx3.call hC)) (by rintro u w9 ⟨h9,hb9⟩;injection h9 with h9;subst h9;exact hK _ _ hb9 rfl) (fun _ _ h=>nomatch h.1) (fun _ h=>nomatch h.1)
     ·exact js (og ho) .not 4 (.tmp 22) (oo ho) (ri 4 (da ho hf 4)) (rj _ _) (kk hK)
     ·exact al (og ho) (.tmp 23) (oo ho) (ri 5 (da ho hf 5)) (kk hK)
     ·exact gd (wo ho (dg ho hf 6)) (ay rfl 26 (.tmp 2) (oo ho) (ah rfl rfl) (aa F R p xs.length cc bl can pa ha fu) (by kernel_rfl) (fun j v hv=>by rw[Nat.zero_add,(hA3.call hC).cells j];simpa using hv) (kk hK))
     ·exact gd (wo ho (dg ho hf 6)) (aQ rfl 35 (.tmp 25) #[26] (oo ho) (ri 7 (da ho hf 7)) (fun _ _=>rfl) (hof W) (by rintro u w9 ⟨h9,hb9⟩;injection h9 with h9;subst h9;exact hK _ _ hb9 rfl) (fun _ _ h=>nomatch h.1) (fun _ h=>nomatch h.1))
     ·exact gd (wo ho (dg ho hf 6)) (al rfl (.tmp 5) (oo ho) (ah rfl rfl) (kk hK))
     ·exact gd (wo ho (dg ho hf 6)) (aQ rfl 167 (.tmp 27) #[5] (oo ho) (ri 9 (da ho hf 9)) (fun _ _=>rfl) (fE c hcm W) (by rintro u w9 ⟨g8,h8,hb9,h10⟩;injection h8 with h8;subst h8;exact hK _ _ hb9 ⟨_,rfl,h10⟩) (by rintro ch w9 ⟨_,h9,_⟩;cases h9) (by rintro w9 ⟨_,h9,_⟩;cases h9))
     ·obtain⟨g8,e8,h8⟩:lS (nL c) (f9 10) W:=hf ⟨10,.data⟩ (oa ho) rfl;exact gd (wo ho (dg ho hf 6)) (aT rfl 158 (.tmp 28) (.const (.int .i64 3)) (oo ho) (ri 10 e8) rfl (eD W g8 3 (by decide)) (hK _ _ (Below.refl _ _) ⟨g8,rfl,h8⟩))
     ·obtain⟨g8,e8,h8⟩:lP (nL c) (f9 11) W:=hf ⟨11,.data⟩ (oa ho) rfl;exact gd (wo ho (dg ho hf 6)) (ap rfl 9 (.tmp 29) (oo ho) (ri 11 e8) (by kernel_rfl) (h8.2 3 c.cr rfl) (kk hK))
     ·exact gd (wo ho (dg ho hf 6)) (aQ rfl 166 (.tmp 30) #[9] (oo ho) (ri 12 (da ho hf 12)) (fun _ _=>rfl) (aP c.cr hr64 W) (by rintro u w9 ⟨h9,hb9⟩;injection h9 with h9;subst h9;exact hK _ _ hb9 rfl) (fun _ _ h=>nomatch h.1) (fun _ h=>nomatch h.1))
     ·exact gd (wo ho (dg ho hf 6)) (au rfl 26 (.tmp 2) 2 (oo ho) (ah rfl rfl) (n:=3) (by kernel_rfl) (kk hK))
     ·exact gd (wo ho (dg ho hf 6)) (ap rfl 4 (.tmp 32) (oo ho) (ri 14 (da ho hf 14)) (by kernel_rfl) ((hA3.call hC).cells 3) (kk hK))
     ·exact gd (wo ho (dg ho hf 6)) (js rfl .not 4 (.tmp 33) (oo ho) (ri 15 (da ho hf 15)) (rj _ _) (kk hK))
     ·exact gd (wo ho (dg ho hf 6)) (ee rfl 100 (.tmp 26) (.tmp 31) (.tmp 34) #[68,3,4] (oo ho) (ri 8 (da ho hf 8)) (ri 13 (da ho hf 13)) (ri 16 (da ho hf 16)) (fun _ _=>rfl) (hat W (hx3.call hC)) (by rintro u w9 ⟨⟨v9,h8,h10⟩,hb9⟩;injection h8 with h8;subst h8;exact hK _ _ hb9 (mg h10)) (by rintro ch w9 h9;revert h9;rintro⟨⟨_,h9,_⟩,_⟩;cases h9) (by rintro w9 h9;revert h9;rintro⟨⟨_,h9,_⟩,_⟩;cases h9))
     ·obtain⟨p7,c7,e7,h7⟩:bP AL (f9 17) W:=hf ⟨17,.data⟩ (oa ho) rfl;exact gd (wo ho (dg ho hf 6)) (lg rfl (.tmp 35) 136 (oo ho) Tryz.underlying136 (ri 17 e7) (kk hK))
     ·exact gd (wo ho (dg ho hf 6)) (aK rfl .eql 3 3 (.tmp 36) (.const (.int .i64 0)) (oo ho) (ri 18 (da ho hf 18)) rfl (bM _ _ _ _ _ _ _ _) (iD hd) (kk hK))
     ·exact cx (og ho) (.tmp 24) (.tmp 37) (.const (.bool false)) (oo ho) (ri 6 (da ho hf 6)) (ri 19 (da ho hf 19)) (kk hK)
     ·exact aE (og ho) (.tmp 38) (oo ho) (ri 20 (da ho hf 20)) (kk hK)
     ·omega
    case hend=>intro f9 W5 hC hf;go_wp2_with fail;refine bodyPost_ret (results_tmp (fn:=Tryz.f115) Tryz.results115 _ _ _) (by rw[ce]) ?_;refine⟨?_,zbc hB3 hC⟩;rw[ck rfl 21 rfl (by simp) (show f9 21=.bool d from hf 21 (by decide)),hV.out]
theorem sw{P:Pos}{a b:Nat}{pr:Int}{way:Option Cas}(ho:aF P.F P.R P.xs=true)(hlen:P.xs.length=P.F*P.R)(ha:a<P.F*P.R)(hb:b<P.F*P.R)(hab:a≠b)(hw:isW (gx P.xs a) P.bl=true)(hwb:isW (gx P.xs b) P.bl=false)(hpr:pr=0∨(2≤pr∧pr≤5))(k1:¬kgI P.xs P.bl<0)(hH:iq P a b pr way):
  (brdW P ⟨a,b,pr⟩ way).length=P.xs.length∧aF P.F P.R (brdW P ⟨a,b,pr⟩ way)=true∧∃ k:Nat,k<P.F*P.R∧kgI (brdW P ⟨a,b,pr⟩ way) P.bl=k:=by
 obtain⟨hl,hYa,hYb,hY,_⟩:=yq hlen ha hb hab hH;obtain⟨x1,x2,x3,_⟩:=sD ho hw hpr hH;generalize brdW P ⟨a,b,pr⟩ way=Y at *;refine⟨hl,zl ho hl fun k=>?_,?_⟩
 ·by_cases ka:k=a
  ·subst ka;rw[hYa];omega
  by_cases kb:k=b
  ·subst kb;rw[hYb];exact x2
  rcases hY k ka kb with h9|⟨h9,_,_⟩|⟨d,_,_,⟨_,h9,_⟩|⟨_,h9,_⟩⟩
  ·rw[h9];exact kD ho k
  ·rw[h9];omega
  ·rw[h9];omega
  ·rw[h9];cases P.bl<;>decide
 ·obtain⟨ko,hko⟩:=qT k1;have hko2:=vz (by rw[hYb];exact x3) hwb hYa hY hko;refine⟨_,?_,li.2 hko2⟩;rw[←hlen,←hl];exact il (by rw[hko2.1];exact sd6 _)
theorem qy{F R:Nat}{xs:List Int}{bl:Bool}{k:Nat}(ho:aF F R xs=true)(hF:3≤F∧F≤8)(hR:3≤R∧R≤8)(hlen:xs.length=F*R)(hk:k<F*R)(hkk:kgI xs bl=k):decide (chkS F R xs bl≠0)=chkB F R xs k bl:=by unfold chkS;rw[ho,if_pos rfl,if_neg (by omega),tY hF hR hlen (ea ho) hk hkk];simp
theorem wF{x:Int}(h:-6≤x∧x≤6):pOk x=true:=by unfold pOk;simp;omega
theorem yS{P:Pos}{a b:Nat}{pr:Int}{way:Option Cas}(hway:way=casR P ⟨a,b,pr⟩)(haft:bK P ⟨a,b,pr⟩=dU P ⟨a,b,pr⟩ way)(ho:aF P.F P.R P.xs=true)(hF:3≤P.F∧P.F≤8)(hR:3≤P.R∧P.R≤8)(hlen:P.xs.length=P.F*P.R){Y:List Int}(hY:Y=(dU P ⟨a,b,pr⟩ way).xs)(hl:Y.length=P.xs.length)(hoY:aF P.F P.R Y=true)
  {k k0:Nat} (hk:k<P.F*P.R) (hkk:kgI Y P.bl=k) (hk0:k0<P.F*P.R) (hkk0:kgI P.xs P.bl=k0) (hcr:∀ c,way=some c→c.cr<P.F*P.R) :
  (decide (chkS P.F P.R (dU P ⟨a,b,pr⟩ way).xs P.bl≠0)||(way.isSome&&(decide (chkS P.F P.R P.xs P.bl≠0)||decide (atrW P.F P.R (setW gNon P.xs P.xs.length) P.xs ((way.map Cas.cr).getD 0) (!P.bl) P.xs.length≠0))))=!safB P ⟨a,b,pr⟩:=by
 unfold safB;rw[haft,←hway,←hY,hkk,hkk0,Int.toNat_natCast,Int.toNat_natCast,qy hoY hF hR (by omega) hk hkk];rcases way with _|c
 ·simp
 ·simp only[Option.isSome_some,Bool.true_and,Option.map_some,Option.getD_some];rw[qy ho hF hR hlen hk0 hkk0];have:=oy (bl:=P.bl) hF hR hlen (ea ho) (hcr c rfl);have e:decide (atrW P.F P.R (setW gNon P.xs P.xs.length) P.xs c.cr (!P.bl) P.xs.length≠0)=!decide ((attrL P.F P.R P.xs c.cr (!P.bl)).length=0):=by
   rw[←decide_not,decide_eq_decide];exact not_congr this
  rw[e];generalize decide ((attrL P.F P.R P.xs c.cr (!P.bl)).length=0)=z;cases chkB P.F P.R Y k P.bl<;>cases chkB P.F P.R P.xs k0 P.bl<;>cases z<;>rfl
theorem sK:∀ n,n<16→∀ c∈az,n/c.bit%2=1→n&&&c.bit≠0:=by decide
structure AS(F R:Nat)(xs:List Int)(can:Nat)(ha fu:Int)(a b:Nat)(pr:Int):Prop where
 hF:3≤F∧F≤8
 hR:3≤R∧R≤8
 hlen:xs.length=F*R
 hal:a<F*R
 hbl:b<F*R
 hca:can<256
 h88:∀ c∈az,can/c.bit%2=1→F=8∧R=8
 h6:∀ x∈xs,-6≤x∧x≤6
 hha:0≤ha∧ha≤10000
 hfu:1≤fu∧fu≤10000
 hpr:pr=0∨(2≤pr∧pr≤5)
theorem oK{F R:Nat}{xs:List Int}{bl:Bool}{can:Nat}{pa ha fu:Int}{a b:Nat}{pr:Int}(h:(pvW F R xs bl can pa ha fu&&mvB F R ⟨a,b,pr⟩)=true):AS F R xs can ha fu a b pr:=by
 rw[Bool.and_eq_true]at h;obtain⟨F',R',e1,e2,hF,hR,hlen,hor,hc15,h88,hha,hfu⟩:=eW h.1 (by omega);obtain rfl:F=F':=by omega
 obtain rfl:R=R':=by omega
 obtain⟨a',b',pr',e,hal,hbl,hab,hpr⟩:=kM h.2;injection e with e1 e2 e3;obtain rfl:a=a':=by omega
 obtain rfl:b=b':=by omega
 subst e3;obtain⟨_,_,_,_,_,k5,_,_⟩:=oG.1 (show(⟨F,R,xs,bl,can,pa,ha,fu⟩:Pos).ok=true from h.1);obtain⟨h15,hc⟩:=gX.1 (show cstB F R xs (can:Int)=true from k5);exact⟨hF,hR,hlen,hal,hbl,by omega,fun c hcm hc2=>by obtain⟨x,y,_⟩:=hc c hcm (sK can (by omega) c hcm hc2);exact⟨x,y⟩,ea hor,hha,hfu,hpr⟩
theorem Ah:∀ c∈az,c.cr<64:=by decide
theorem ye{F R:Nat}{xs:List Int}{bl:Bool}{can:Nat}{pa ha fu:Int}{a b:Nat}{pr:Int}(h:(pvW F R xs bl can pa ha fu&&mvB F R ⟨a,b,pr⟩)=true)(hw:isW (xs[a]?.getD 0) bl=true):
  (soB ⟨F,R,xs,bl,can,pa,ha,fu⟩ ⟨a,b,pr⟩=false→mkW ⟨F,R,xs,bl,can,pa,ha,fu⟩ ⟨a,b,pr⟩=.error 10) ∧
  (soB ⟨F,R,xs,bl,can,pa,ha,fu⟩ ⟨a,b,pr⟩=true→∃ k k0:Nat,kgI (bK ⟨F,R,xs,bl,can,pa,ha,fu⟩ ⟨a,b,pr⟩).xs bl=k∧k<F*R∧kgI xs bl=k0∧k0<F*R∧(bK ⟨F,R,xs,bl,can,pa,ha,fu⟩ ⟨a,b,pr⟩).xs.length=xs.length∧(∀ x∈(bK ⟨F,R,xs,bl,can,pa,ha,fu⟩ ⟨a,b,pr⟩).xs,pOk x=true) ∧
   (safB ⟨F,R,xs,bl,can,pa,ha,fu⟩ ⟨a,b,pr⟩=false→mkW ⟨F,R,xs,bl,can,pa,ha,fu⟩ ⟨a,b,pr⟩=.error 90) ∧
   (safB ⟨F,R,xs,bl,can,pa,ha,fu⟩ ⟨a,b,pr⟩=true→mkW ⟨F,R,xs,bl,can,pa,ha,fu⟩ ⟨a,b,pr⟩=if 10000<(bK ⟨F,R,xs,bl,can,pa,ha,fu⟩ ⟨a,b,pr⟩).ha∨10000<(bK ⟨F,R,xs,bl,can,pa,ha,fu⟩ ⟨a,b,pr⟩).fu then .error 7 else .ok (bK ⟨F,R,xs,bl,can,pa,ha,fu⟩ ⟨a,b,pr⟩,⟨⟨a,b,pr⟩,if 0≤dq F R xs pa a b then xs[(dq F R xs pa a b).toNat]?.getD 0 else 0,dq F R xs pa a b,can,pa,ha,fu⟩))∧(0≤dq F R xs pa a b→(dq F R xs pa a b).toNat<F*R)):=by
 have hf:=oK h;obtain⟨hF,hR,hlen,hal,hbl,_,_,_,hha,hfu,hpr⟩:=hf;have h1:=h;rw[Bool.and_eq_true]at h;obtain⟨P,hP⟩:∃ P:Pos,P=⟨F,R,xs,bl,can,pa,ha,fu⟩:=⟨_,rfl⟩;have hok:P.ok=true:=by rw[hP];exact h.1
 obtain⟨ho,k1,k2,k3,k4,k5,k6,k7⟩:=oG.1 hok;have eF:F=P.F:=by rw[hP]
 have eR:R=P.R:=by rw[hP]
 have ex:xs=P.xs:=by rw[hP]
 have eb:bl=P.bl:=by rw[hP]
 have ep:pa=P.pa:=by rw[hP]
 have ec:P.ca=(can:Int):=by rw[hP]
 have h15:can≤15:=by rw[ec]at k5;exact(gX.1 k5).1
 obtain⟨_,_,_,e,_,_,hab,_⟩:=kM h.2;injection e with e1 e2 e3;have hab:a≠b:=by omega
 clear e1 e2 e3;have h1':(P.ok&&mvB P.F P.R ⟨a,b,pr⟩)=true:=by rw[hP];exact h1
 have hw':isW (gx P.xs a) P.bl=true:=by rw[←ex,←eb];exact hw
 rw[←hP];rw[eF,eR,ex,eb,ep];rw[eF,eR]at hal hbl hlen;rw[eF]at hF;rw[eR]at hR;rw[ex]at hlen;have hund:(⟨⟨a,b,pr⟩,(bL P ⟨a,b,pr⟩).2,(bL P ⟨a,b,pr⟩).1,can,P.pa,ha,fu⟩:Und)=eT P ⟨a,b,pr⟩:=by rw[hP];rfl
 clear hP h1 hw k2 k3 k4 k7 h eF eR ex eb ep;obtain⟨hso,hwy⟩:=zX (pr:=pr) ec ho hF hR hlen k5 hal hbl hw';have hmk:mkW P ⟨a,b,pr⟩=if soB P ⟨a,b,pr⟩=false then .error 10 else if decide (chkS P.F P.R (dU P ⟨a,b,pr⟩ (gL P ⟨a,b,pr⟩)).xs P.bl≠0)||((gL P ⟨a,b,pr⟩).isSome&&(decide (chkS P.F P.R P.xs P.bl≠0)||decide (atrW P.F P.R (setW gNon P.xs P.xs.length) P.xs (((gL P ⟨a,b,pr⟩).map Cas.cr).getD 0) (!P.bl) P.xs.length≠0)))then .error 90
   else if 10000<(dU P ⟨a,b,pr⟩ (gL P ⟨a,b,pr⟩)).ha∨10000<(dU P ⟨a,b,pr⟩ (gL P ⟨a,b,pr⟩)).fu then .error 7 else .ok (dU P ⟨a,b,pr⟩ (gL P ⟨a,b,pr⟩),eT P ⟨a,b,pr⟩):=by
  unfold mkW;rw[if_neg (by rw[h1'];simp),if_neg (by rw[show P.at_ (Mv.fr ⟨a,b,pr⟩)=gx P.xs a from rfl,hw'];simp)];simp only;rw[hso];rcases soB P ⟨a,b,pr⟩with _|_<;>rfl
 refine⟨fun hs=>by rw[hmk,if_pos hs],fun hs=>?_⟩;rw[hs,Bool.not_true]at hso;have hH:=Ac (by omega) h1' hw' hso;rw[Bool.or_eq_false_iff]at hso;have hwy:=hwy hs;rw[hwy]at hH hmk;obtain⟨way,hway⟩:∃ way,way=casR P ⟨a,b,pr⟩:=⟨_,rfl⟩;rw[←hway]at hH hmk;have haft:=zH hway ec (by omega) hF k6 hal hbl hw' hH;have hcap:=qV hF k6 hal hH;obtain⟨y1,y2,k,y3,y4⟩:=sw ho hlen hal hbl hab hw' hso.1 hpr k1 hH;have hyx:brdW P ⟨a,b,pr⟩ way=(dU P ⟨a,b,pr⟩ way).xs:=rfl;rw[hyx]at y1 y2 y4;obtain⟨k0,hk0⟩:=qT k1;have hk0l:k0<P.F*P.R:=by rw[←hlen];exact il (by rw[hk0.1];exact sd6 _)
 have hcr:∀ c,way=some c→c.cr<P.F*P.R:=by
  intro c hc;rw[hc]at hH;cases hH with
  | cas c h=>rw[h.h8.1,h.h8.2];exact Ah c h.mem
 have hsf:=yS hway haft ho hF hR hlen rfl y1 y2 y3 y4 hk0l (li.2 hk0) hcr;rw[hsf]at hmk;rw[haft,hcap];refine⟨k,k0,y4,y3,li.2 hk0,hk0l,y1,fun x hx=>wF (ea y2 x hx),fun h9=>?_,fun h9=>?_,?_⟩
 ·rw[hmk,if_neg (by rw[hs];simp),h9];rfl
 ·rw[hmk,if_neg (by rw[hs];simp),h9,if_neg (by simp),←hund];congr 4;have hc:=iW P a b pr;rw[hc];simp only;by_cases hz:gx P.xs (cz P.F (gx P.xs a) P.pa a b)=0
  ·rw[if_pos hz,hz];rfl
  ·rw[if_neg hz,if_pos (Int.natCast_nonneg _),Int.toNat_natCast];rfl
 ·intro h9;have hc:=iW P a b pr;rw[hc]at h9 ⊢;simp only at h9 ⊢;split at h9
  ·omega
  ·rename_i hz;rw[if_neg hz,Int.toNat_natCast,←hlen];exact il hz
theorem bZ{P:Program}{fn:Func}{p u x:Tmp}{ty ty2:TypeId}(h:fn.results=#[.cell p ty,.cell u ty2,.tmp x]){tmps:Array Value}{w:World}{g g2:Nat}{t t2:TypeId}{cs cs2:Array Value}
  (hp:tmps.getD p undef=.pointer (some ⟨g,0,none⟩)) (hg:ac w g (.cells cs t (0,0))) (hr:cP P ty cs.size=true)
  (hu:tmps.getD u undef=.pointer (some ⟨g2,0,none⟩)) (hg2:ac w g2 (.cells cs2 t2 (0,0))) (hr2:cP P ty2 cs2.size=true) {v:Value} (hv:v=.tuple #[.agg cs,.agg cs2,tmps.getD x undef]) :
  (results fn tmps).run P w=.ok v w:=by
 subst hv;have e1:(loadVar ty ⟨g,0,none⟩).run P w=.ok (.agg cs) w:=by have:=ct (P:=P) (w:=w) (ty:=ty) (g:=g) (b:=0) cs.toList (by simpa using hr) (fun j v hv=>by rw[Nat.zero_add,hg.cells j];simpa using hv);simpa using this
 have e2:(loadVar ty2 ⟨g2,0,none⟩).run P w=.ok (.agg cs2) w:=by have:=ct (P:=P) (w:=w) (ty:=ty2) (g:=g2) (b:=0) cs2.toList (by simpa using hr2) (fun j v hv=>by rw[Nat.zero_add,hg2.cells j];simpa using hv);simpa using this
 have hp':tmps[p]?.getD undef=.pointer (some ⟨g,0,none⟩):=by simpa using hp
 have hu':tmps[u]?.getD undef=.pointer (some ⟨g2,0,none⟩):=by simpa using hu
 simp[results,h,hp',hu',asAddr,e1,e2]
theorem pG(f r:Int)(xs:List Int)(bl:Bool)(ca pa ha fu:Int)(m:Mv)(p:Option Addr)(cc:Nat)(h:(pvW f r xs bl ca pa ha fu&&mvB f r m)=false)(hca:0≤ca)(w:World)(hx:Arr .i8 w p xs):
  Clz 57 #[.agg (aa f r p xs.length cc bl ca pa ha fu).toArray,.agg m.cs.toArray] w fun e w'=>e=mkE 2∧Bw w w':=by
 obtain⟨W1,hW1⟩:∃ W1,W1=(((w.alloc (.cells (aa f r p xs.length cc bl ca pa ha fu).toArray 26)).alloc (.cells m.cs.toArray 40)).alloc (.cells af.toArray 26)).alloc (.cells aw.toArray 54):=⟨_,rfl⟩;have hB:Bw w W1:=by subst hW1;exact(((ae w _).alloc (by simp) _).alloc (by simp<;>omega) _).alloc (by simp<;>omega) _
 have hA:ac W1 w.heap.size (.cells (aa f r p xs.length cc bl ca pa ha fu).toArray 26 (0,0)):=by subst hW1;exact(((ac.new w _).alloc _).alloc _).alloc _
 have hM:ac W1 (w.heap.size+1) (.cells m.cs.toArray 40 (0,0)):=by subst hW1;exact((ac.new' _ _ (by simp)).alloc _).alloc _
 have hO:ac W1 (w.heap.size+1+1) (.cells af.toArray 26 (0,0)):=by subst hW1;exact(ac.new' _ _ (by simp)).alloc _
 have hU:ac W1 (w.heap.size+1+1+1) (.cells aw.toArray 54 (0,0)):=by subst hW1;exact ac.new' _ _ (by simp)
 have hpv:=fun W hx=>eK f r ca pa ha fu bl p cc xs hca W hx
 rw[←fB]at hpv;have hmv:=fun W=>fm f r m W
 have⟨c0,l0⟩:=hA.cl;have⟨c1,l1⟩:=hM.cl;have hx1:=hx.call hB;replace hW1:=zhd hW1;go_enter Tryz.func57,Tryz.ntmps57;go_upto_region 1 with fail;change Code.wp _ _ _ _ ((((w.alloc (.cells (aa f r p xs.length cc bl ca pa ha fu).toArray 26)).alloc (.cells m.cs.toArray 40)).alloc (.cells af.toArray 26)).alloc (.cells aw.toArray 54));rw[←hW1.out];go_wp2_with fail;refine(hpv W1 hx1).mono ?_;rintro e W2 ⟨rfl,hb2⟩;have hA2:=hA.call hb2;have hM2:=hM.call hb2;have hO2:=hO.call hb2;have hU2:=hU.call hb2;have hB2:=zbc hB hb2;clear c0 l0 c1 l1 hA hM hO hU hB hpv hx1 hx;rcases zv:pvW f r xs bl ca pa ha fu with _|_
 ·clear h;have⟨hi,ho⟩:=zrw 26 (A:=af.toArray) (by kernel_rfl) (by simp[Value.oneCell']);have⟨hi2,ho2⟩:=zrw 54 (A:=aw.toArray) (by kernel_rfl) (by simp[Value.oneCell']);have hU9:=hU2.setRow_far (g:=w.heap.size+1+1) (cells:=af.toArray) (by omega);have hB9:=aj (cells:=aw.toArray) (aj (cells:=af.toArray) hB2 (g:=w.heap.size+1+1) (by omega) hB2.size) (g:=w.heap.size+1+1+1) (by omega) (aj (cells:=af.toArray) hB2 (g:=w.heap.size+1+1) (by omega) hB2.size).size;have hO9:=(ak (cells:=af.toArray) hO2).setRow_far (g:=w.heap.size+1+1+1) (cells:=aw.toArray) (by omega);have hU8:=ak (cells:=aw.toArray) hU9;go_wp2_with (first|((refine ai rfl 26 (.tmp 4) (.tmp 19) rfl (w.heap.size+1+1) (af.toArray) rfl rfl 26 _ hO2 hi.out rfl ho.out ?_);rintro w3 rfl)|((refine ai rfl 54 (.tmp 5) (.tmp 20) rfl (w.heap.size+1+1+1) (aw.toArray) rfl rfl 54 _ hU9 hi2.out rfl ho2.out ?_);rintro w3 rfl)|fail);refine bodyPost_ret (bZ (fn:=Tryz.f57) Tryz.results57 rfl hO9 (by kernel_rfl) rfl hU8 (by kernel_rfl) rfl) rfl ?_;exact⟨rfl,hB9⟩
 ·rw[zv,Bool.true_and]at h;have⟨c0,l0⟩:=hA2.cl;have⟨c1,l1⟩:=hM2.cl;go_wp2_with fail;refine(hmv W2).mono ?_;rintro e W3 ⟨rfl,hb3⟩;have hO3:=hO2.call hb3;have hU3:=hU2.call hb3;have hB3:=zbc hB2 hb3;clear c0 l0 c1 l1 hmv;rw[h];have⟨hi,ho⟩:=zrw 26 (A:=af.toArray) (by kernel_rfl) (by simp[Value.oneCell']);have⟨hi2,ho2⟩:=zrw 54 (A:=aw.toArray) (by kernel_rfl) (by simp[Value.oneCell']);have hU9:=hU3.setRow_far (g:=w.heap.size+1+1) (cells:=af.toArray) (by omega);have hB9:=aj (cells:=aw.toArray) (aj (cells:=af.toArray) hB3 (g:=w.heap.size+1+1) (by omega) hB3.size) (g:=w.heap.size+1+1+1) (by omega) (aj (cells:=af.toArray) hB3 (g:=w.heap.size+1+1) (by omega) hB3.size).size;have hO9:=(ak (cells:=af.toArray) hO3).setRow_far (g:=w.heap.size+1+1+1) (cells:=aw.toArray) (by omega);have hU8:=ak (cells:=aw.toArray) hU9;go_wp2_with (first|((refine ai rfl 26 (.tmp 4) (.tmp 19) rfl (w.heap.size+1+1) (af.toArray) rfl rfl 26 _ hO3 hi.out rfl ho.out ?_);rintro w3 rfl)|((refine ai rfl 54 (.tmp 5) (.tmp 20) rfl (w.heap.size+1+1+1) (aw.toArray) rfl rfl 54 _ hU9 hi2.out rfl ho2.out ?_);rintro w3 rfl)|fail);refine bodyPost_ret (bZ (fn:=Tryz.f57) Tryz.results57 rfl hO9 (by kernel_rfl) rfl hU8 (by kernel_rfl) rfl) rfl ?_;exact⟨rfl,hB9⟩
theorem AC(W:World):(Instr.alloc 54 true (.tuple #[])).run Tryz.prog W=.ok (.pointer (some ⟨W.heap.size,0,none⟩)) (W.alloc (.cells aw.toArray 54)):=by kernel_rfl
def rr(q0:Nat)(mv po un:Value)(AT:Int)(can:Nat)(pa ha fu:Int):Nat→Value
 | 0=>mv|1=>po|2=>mv|3=>.int .i64 AT|4=>.pointer (some ⟨q0,4,none⟩)|5=>.int .u8 can|6=>.pointer (some ⟨q0,5,none⟩)|7=>.int .i64 pa|8=>.pointer (some ⟨q0,6,none⟩)|9=>.int .i64 ha|10=>.pointer (some ⟨q0,7,none⟩)|11=>.int .i64 fu|12=>un|_=>undef
def R12(W:World)(pv:Nat→Value)(x:Array Value)(S:Nat→Bool)(f:Nat→Value)(w:World):Prop :=
 (∀ i,i<13→S i=true→f i=pv i)∧Bw W w∧bxV W.heap.size x aw.toArray 54 w (S 13) (S 14) (f 13)
theorem Ad(W:World)(F R:Nat)(xs:List Int)(bl:Bool)(can:Nat)(pa ha fu:Int)(a b:Nat)(pr:Int)(p:Option Addr)(cc q0 q1:Nat)(AT:Int)(hcap:∀ W,Arr .i8 W p xs→Clz 117 #[.agg (aa F R p xs.length cc bl can pa ha fu).toArray,.agg #[.int .i64 a,.int .i64 b,.int .i8 pr]] W fun e w'=>e=.returned (.int .i64 AT)∧Bw W w')(hx:Arr .i8 W p xs)(hP:ac W q0 (.cells (aa F R p xs.length cc bl can pa ha fu).toArray 26 (0,0)))(hM:ac W q1 (.cells #[.int .i64 a,.int .i64 b,.int .i8 pr] 40 (0,0)))
  (A:Act) (Q:Exit→Act→World→Prop) (ha2:A.tmps.getD 2 undef=.pointer (some ⟨q0,0,none⟩)) (ha3:A.tmps.getD 3 undef=.pointer (some ⟨q1,0,none⟩)) (hsz:83≤A.tmps.size)
  (hok:∀ f w' k1,f 13=.pointer (some ⟨k1,0,none⟩)→W.heap.size≤k1→ac w' k1 (.cells #[.int .i64 a,.int .i64 b,.int .i8 pr,.int .i8 0,.int .i64 AT,.int .u8 can,.int .i64 pa,.int .i64 ha,.int .i64 fu] 54 (0,0))→Bw W w'→Q .normal (ao [some 58,some 59,some 60,some 61,some 62,some 63,some 64,some 65,some 66,some 67,some 68,some 69,some 70,some 8,none] f 0 A) w')
  (cd:Code) (hcd:Tryz.f57.body.bind (dh 12)=some cd):cd.wp Tryz.prog Q A W:=by
 obtain rfl:=Option.some.inj ((show Tryz.f57.body.bind (dh 12)=some _ from rfl).symm.trans hcd);clear hcd;refine bE (by kernel_rfl) (by kernel_rfl) [some 58,some 59,some 60,some 61,some 62,some 63,some 64,some 65,some 66,some 67,some 68,some 69,some 70,some 8,none] (by rfl) (by rfl) (R12 W (rr q0 (.agg #[.int .i64 a,.int .i64 b,.int .i8 pr]) (.agg (aa F R p xs.length cc bl can pa ha fu).toArray) (.agg #[.int .i64 a,.int .i64 b,.int .i8 pr,.int .i8 0,.int .i64 AT,.int .u8 can,.int .i64 pa,.int .i64 ha,.int .i64 fu]) AT can pa ha fu) #[.int .i64 a,.int .i64 b,.int .i8 pr,.int .i8 0,.int .i64 AT,.int .u8 can,.int .i64 pa,.int .i64 ha,.int .i64 fu]) ?hcong ?h0 ?hstep ?hend
 case hcong=>rintro S S' f wv hSS ⟨h1,h2,h3⟩;refine⟨fun i hi h=>h1 i hi (by rw[hSS i (Nat.lt_of_lt_of_le hi (by decide))];exact h),h2,?_⟩;rw[←hSS 13 (by decide),←hSS 14 (by decide)];exact h3
 case h0=>exact fun f=>⟨fun i _ h=>(by cases h),(Below.refl _ _).drew,trivial⟩
 case hstep =>
  rintro S i o f wv ho hi hSi hpre hcl ⟨hf,hB,hX⟩ K hK;have hi:i<15:=hi;have keep:∀ u w',i<13→u=rr q0 (.agg #[.int .i64 a,.int .i64 b,.int .i8 pr]) (.agg (aa F R p xs.length cc bl can pa ha fu).toArray) (.agg #[.int .i64 a,.int .i64 b,.int .i8 pr,.int .i8 0,.int .i64 AT,.int .u8 can,.int .i64 pa,.int .i64 ha,.int .i64 fu]) AT can pa ha fu i→Bw wv w'→R12 W (rr q0 (.agg #[.int .i64 a,.int .i64 b,.int .i8 pr]) (.agg (aa F R p xs.length cc bl can pa ha fu).toArray) (.agg #[.int .i64 a,.int .i64 b,.int .i8 pr,.int .i8 0,.int .i64 AT,.int .u8 can,.int .i64 pa,.int .i64 ha,.int .i64 fu]) AT can pa ha fu) #[.int .i64 a,.int .i64 b,.int .i8 pr,.int .i8 0,.int .i64 AT,.int .u8 can,.int .i64 pa,.int .i64 ha,.int .i64 fu] (upd S i) (fun j=>if j=i then u else f j) w':=by
   intro u w' h9 hu hb;refine⟨fun j hj hSj=>?_,zbc hB hb,?_⟩
   ·by_cases e:j=i
    ·subst e;simpa using hu
    ·simp only[e,if_false];exact hf j hj (by simpa[upd,e]using hSj)
   ·simp only[upd,show ¬13=i by omega,show ¬14=i by omega,if_false];exact hX.call hb
  have hv:∀ j,o.after.toList.any (fun e=>Region.binds .any e&&(e.on==j))=true→j<13→f j=rr q0 (.agg #[.int .i64 a,.int .i64 b,.int .i8 pr]) (.agg (aa F R p xs.length cc bl can pa ha fu).toArray) (.agg #[.int .i64 a,.int .i64 b,.int .i8 pr,.int .i8 0,.int .i64 AT,.int .u8 can,.int .i64 pa,.int .i64 ha,.int .i64 fu]) AT can pa ha fu j:=fun j hj h9=>by
   rw[List.any_eq_true]at hj;obtain⟨e,he,h⟩:=hj;simp only[Bool.and_eq_true,beq_iff_eq]at h;have:=hpre e (by simpa using he) h.1;rw[h.2]at this;exact hf j h9 this
  have hR0:=Below.refl wv.heap.size wv;rcases(by omega:i=0∨i=1∨i=2∨i=3∨i=4∨i=5∨i=6∨i=7∨i=8∨i=9∨i=10∨i=11∨i=12∨i=13∨i=14)with rfl|rfl|rfl|rfl|rfl|rfl|rfl|rfl|rfl|rfl|rfl|rfl|rfl|rfl|rfl
  ·exact ay (og ho) 40 (.tmp 3) (oo ho) (ah rfl ha3) [.int .i64 a,.int .i64 b,.int .i8 pr] (by kernel_rfl) (fun j v hv=>by rw[Nat.zero_add,(hM.call hB).cells j];simpa using hv) (hK _ wv (keep _ _ (by decide) rfl hR0))
  ·exact ay (og ho) 26 (.tmp 2) (oo ho) (ah rfl ha2) (aa F R p xs.length cc bl can pa ha fu) (by kernel_rfl) (fun j v hv=>by rw[Nat.zero_add,(hP.call hB).cells j];simpa using hv) (hK _ wv (keep _ _ (by decide) rfl hR0))
  ·exact ay (og ho) 40 (.tmp 3) (oo ho) (ah rfl ha3) [.int .i64 a,.int .i64 b,.int .i8 pr] (by kernel_rfl) (fun j v hv=>by rw[Nat.zero_add,(hM.call hB).cells j];simpa using hv) (hK _ wv (keep _ _ (by decide) rfl hR0))
  ·exact aH (og ho) 117 (.tmp 59) (.tmp 60) #[26,40] (oo ho) (aB rfl 1 rfl (Nat.lt_of_lt_of_le (by decide) hsz) (hv 1 (ov ho) (by decide))) (aB rfl 2 rfl (Nat.lt_of_lt_of_le (by decide) hsz) (hv 2 (ov ho) (by decide))) (fun _ _=>rfl) (hcap wv (hx.call hB)) (by rintro u w9 ⟨h9,hb9⟩;injection h9 with h9;subst h9;exact hK _ w9 (keep _ _ (by decide) rfl hb9)) (by rintro ch w9 ⟨h9,_⟩;cases h9) (by rintro w9 ⟨h9,_⟩;cases h9)
  ·exact au (og ho) 26 (.tmp 2) 3 (oo ho) (ah rfl ha2) (n:=4) (by kernel_rfl) (hK _ wv (keep _ _ (by decide) rfl hR0))
  ·exact ap (og ho) 5 (.tmp 62) (oo ho) (aB rfl 4 rfl (Nat.lt_of_lt_of_le (by decide) hsz) (hv 4 (ov ho) (by decide))) (by kernel_rfl) ((hP.call hB).cells 4) (hK _ wv (keep _ _ (by decide) rfl hR0))
  ·exact au (og ho) 26 (.tmp 2) 4 (oo ho) (ah rfl ha2) (n:=5) (by kernel_rfl) (hK _ wv (keep _ _ (by decide) rfl hR0))
  ·exact ap (og ho) 3 (.tmp 64) (oo ho) (aB rfl 6 rfl (Nat.lt_of_lt_of_le (by decide) hsz) (hv 6 (ov ho) (by decide))) (by kernel_rfl) ((hP.call hB).cells 5) (hK _ wv (keep _ _ (by decide) rfl hR0))
  ·exact au (og ho) 26 (.tmp 2) 5 (oo ho) (ah rfl ha2) (n:=6) (by kernel_rfl) (hK _ wv (keep _ _ (by decide) rfl hR0))
  ·exact ap (og ho) 3 (.tmp 66) (oo ho) (aB rfl 8 rfl (Nat.lt_of_lt_of_le (by decide) hsz) (hv 8 (ov ho) (by decide))) (by kernel_rfl) ((hP.call hB).cells 6) (hK _ wv (keep _ _ (by decide) rfl hR0))
  ·exact au (og ho) 26 (.tmp 2) 6 (oo ho) (ah rfl ha2) (n:=7) (by kernel_rfl) (hK _ wv (keep _ _ (by decide) rfl hR0))
  ·exact ap (og ho) 3 (.tmp 68) (oo ho) (aB rfl 10 rfl (Nat.lt_of_lt_of_le (by decide) hsz) (hv 10 (ov ho) (by decide))) (by kernel_rfl) ((hP.call hB).cells 7) (hK _ wv (keep _ _ (by decide) rfl hR0))
  ·exact mn (og ho) 54 [(0,.tmp 58),(2,.tmp 61),(3,.tmp 63),(4,.tmp 65),(5,.tmp 67),(6,.tmp 69)] (oo ho) [(0,.agg #[.int .i64 a,.int .i64 b,.int .i8 pr]),(2,.int .i64 AT),(3,.int .u8 can),(4,.int .i64 pa),(5,.int .i64 ha),(6,.int .i64 fu)] (by simp only[List.map_cons,List.map_nil];rw[(aB rfl 0 rfl (Nat.lt_of_lt_of_le (by decide) hsz) (hv 0 (ov ho) (by decide))),(aB rfl 3 rfl (Nat.lt_of_lt_of_le (by decide) hsz) (hv 3 (ov ho) (by decide))),(aB rfl 5 rfl (Nat.lt_of_lt_of_le (by decide) hsz) (hv 5 (ov ho) (by decide))),(aB rfl 7 rfl (Nat.lt_of_lt_of_le (by decide) hsz) (hv 7 (ov ho) (by decide))),(aB rfl 9 rfl (Nat.lt_of_lt_of_le (by decide) hsz) (hv 9 (ov ho) (by decide))),(aB rfl 11 rfl (Nat.lt_of_lt_of_le (by decide) hsz) (hv 11 (ov ho) (by decide)))];rfl) (cs:=#[.int .i64 a,.int .i64 b,.int .i8 pr,.int .i8 0,.int .i64 AT,.int .u8 can,.int .i64 pa,.int .i64 ha,.int .i64 fu]) (by kernel_rfl) (hK _ wv (keep _ _ (by decide) rfl hR0))
  ·have hst:S 14=false:=by
    rcases hs:S 14 with _|_
    ·rfl
    ·have h4:=hcl 14 _ hs rfl ⟨13,.data⟩ (by simp) rfl;rw[hSi]at h4;cases h4
   refine bV (og ho) 54 (oo ho) (AC wv) (hK _ _ ⟨fun j hj h3=>by show(if j=13 then _ else f j)=_;rw[if_neg (by omega)];exact hf j hj (by simpa[upd,show ¬j=13 by omega]using h3),hB.alloc hB.size _,?_⟩);rw[show upd S 13 13=true by simp[upd],show upd S 13 14=false by simp[upd,hst]];exact⟨_,rfl,hB.size,ac.new wv (.cells aw.toArray 54)⟩
  ·have hm:S 13=true:=hpre ⟨13,.data⟩ (oa ho) rfl;have h':=hX;rw[hm,hSi]at h';obtain⟨q,e1,e2,e3⟩:=h';refine bI (og ho) 54 (.tmp 8) (.tmp 70) (oo ho) (aB rfl 13 rfl (Nat.lt_of_lt_of_le (by decide) hsz) e1) #[.int .i64 a,.int .i64 b,.int .i8 pr,.int .i8 0,.int .i64 AT,.int .u8 can,.int .i64 pa,.int .i64 ha,.int .i64 fu] aw.toArray 54 (aB rfl 12 rfl (Nat.lt_of_lt_of_le (by decide) hsz) (hv 12 (ov ho) (by decide))) e3 (by kernel_rfl) rfl (by simp[Value.oneCell']) (hK _ _ ⟨fun j hj h3=>by show(if j=14 then _ else f j)=_;rw[if_neg (by omega)];exact hf j hj (by simpa[upd,show ¬j=14 by omega]using h3),aj hB e2 hB.size,?_⟩);rw[show upd S 14 13=true by simp[upd,hm],show upd S 14 14=true by simp[upd]];exact⟨q,e1,e2,ak e3⟩
 case hend=>rintro S f wv hSS ⟨hf,hB,hX⟩;rw[hSS 13 (by decide),hSS 14 (by decide)]at hX;obtain⟨k1,h1,h2,h3⟩:=hX;exact hok f wv k1 h1 h2 h3 hB
end Go.Proofs.YtefmplccbkmalaaGreatDoor
