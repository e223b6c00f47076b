import Derived.Test.YtefmplccbkmalaaGreatDoorB10
import Derived.Laws.OwnMore
import Derived.WalkSpells
import Derived.Recover
import Derived.Defers
set_option maxRecDepth 100000
set_option maxHeartbeats 12800000
namespace Go.Proofs.YtefmplccbkmalaaGreatDoor
open Go.RowKit Go.Sort Go.BigFrame

abbrev aZ:List Value:=[.int .u8 0,.bool false,.int .i64 0,.int .i64 0,.int .i64 0,.int .i64 0]
def bA(o:Option Cas):List Value:=match o with|some c=>c.cs|none=>aZ
theorem ub{i:Nat}{c:Cas}(h:az[i]? = some c):c.bit<256∧0<c.bit∧c.fr<64∧c.tg<64∧c.co<64∧c.cr<64∧c.fr≠c.co∧c.co/8=c.fr/8:=by have hm:=List.mem_of_getElem? h;unfold az at hm;simp only[List.mem_cons,List.not_mem_nil,or_false]at hm;rcases hm with rfl|rfl|rfl|rfl<;>decide
theorem ph{i:Nat}{c:Cas}(h:az[i]? = some c):az.drop i=c::az.drop (i+1):=by obtain⟨hl,e⟩:=List.getElem?_eq_some_iff.1 h;rw[List.drop_eq_getElem_cons hl,e]
theorem bj{Wk:Nat→World}{q:Nat}{cs:Array Value}{t:TypeId}(h:∀ k,ac (Wk k) q (.cells cs t (0,0)))(k d:Nat)(os:Array Obj)(j:Nat):(grow (redrawn (Wk k) d) os).cell? ⟨q,j,none⟩=cs[j]?:=am (h k) d os j
theorem xh{b:Int}{n:Nat}:∀(L:List Int) (S:Nat),(∀ x∈L,0≤x∧x<n)→S<2^n→iX b L S<2^n:=by
 intro L;induction L with
 | nil=>intro S _ h;exact h
 | cons x r ih =>
  intro S hL hS;have hx:=hL x (by simp);have h1:S|||2^x.toNat<2^n:=Nat.or_lt_two_pow hS (Nat.pow_lt_pow_right (by decide) (by omega))
  simp only[iX];split
  ·exact hS
  ·exact ih _ (fun y hy=>hL y (by simp[hy])) h1
theorem wL{F R a b:Nat}(hF:3≤F∧F≤8)(hR:3≤R∧R≤8):btwW F R a b<18446744073709551616:=by unfold btwW;refine Nat.lt_of_lt_of_le (xh (n:=F*R) _ _ (fun x hx=>?_) (Nat.two_pow_pos _)) (eE hF hR);have:=gV x hx;rw[Int.natCast_mul];exact this
theorem oz(F R a b:Nat)(ca pa ha fu pr:Int)(bl:Bool)(p:Option Addr)(c:Nat)(xs:List Int)(hF:3≤F∧F≤8)(hR:3≤R∧R≤8)(hlen:xs.length=F*R)(hor:aF F R xs=true)(hal:a<F*R)(hbl:b<F*R)
  (hca:0≤ca∧ca<256) (h88:ca≠0→F=8∧R=8) (w:World) (hg:aM w) (hx:Arr .i8 w p xs) :
  Clz 62 #[.agg (aa F R p xs.length c bl ca pa ha fu).toArray,.agg #[.int .i64 a,.int .i64 b,.int .i8 pr]] w fun e w' =>
   e=.returned (.tuple #[.agg (bA (castW ⟨F,R,xs,bl,ca,pa,ha,fu⟩ ⟨a,b,pr⟩).1).toArray,.bool (castW ⟨F,R,xs,bl,ca,pa,ha,fu⟩ ⟨a,b,pr⟩).2])∧Below w.heap.size w w':=by
 have hbo:aL F R xs=true:=by unfold aF at hor;simp only[Bool.and_eq_true]at hor;exact hor.1
 have h6:=ea hor;have hla:a<xs.length:=by omega
 have hax:-6≤xs[a]?.getD 0∧xs[a]?.getD 0≤6:=h6 _ (by rw[List.getElem?_eq_getElem hla];exact List.getElem_mem hla);have hoc:=fun W h=>qt F R ca pa ha fu bl p c xs W h hbo
 have hbt:=fun F R a b hF hR ha hb hab hrk W=>pR F R a b hF hR ha hb hab hrk W
 have hV:castW ⟨F,R,xs,bl,ca,pa,ha,fu⟩ ⟨a,b,pr⟩=if kindI (xs[a]?.getD 0)≠6 then(none,false)else casW ⟨F,R,xs,bl,ca,pa,ha,fu⟩ ⟨a,b,pr⟩ az:=rfl
 have hcw:∀ cc l,casW ⟨F,R,xs,bl,ca,pa,ha,fu⟩ ⟨a,b,pr⟩ (cc::l)=if cc.bl≠bl∨ca.toNat&&&cc.bit=0∨(cc.fr:Int)≠a∨(cc.tg:Int)≠b then casW ⟨F,R,xs,bl,ca,pa,ha,fu⟩ ⟨a,b,pr⟩ l else(some cc,decide (btwW F R cc.fr cc.co&&&setW gNon xs xs.length=0)):=fun cc l=>rfl
 have hc0:casW ⟨F,R,xs,bl,ca,pa,ha,fu⟩ ⟨a,b,pr⟩ []=(none,false):=rfl;have hocl:setW gNon xs xs.length<18446744073709551616:=ek _ _ (by rw[hlen];exact Nat.mul_le_mul hF.2 hR.2);generalize castW ⟨F,R,xs,bl,ca,pa,ha,fu⟩ ⟨a,b,pr⟩=V at *;generalize casW ⟨F,R,xs,bl,ca,pa,ha,fu⟩ ⟨a,b,pr⟩=CW at *;generalize setW gNon xs xs.length=oc at *;obtain⟨g,o,rfl,hgl,hcc⟩:=hx.at hla;have hca1:=hcc a hla;clear hcc;obtain⟨x,hxe⟩:∃ x,xs[a]?.getD 0=x:=⟨_,rfl⟩;rw[hxe]at hca1 hax hV;have hkd:=fun W=>eI x (by omega) W
 have hA:=((ac.new w (.cells (aa F R (some ⟨g,o,none⟩) xs.length c bl ca pa ha fu).toArray 26)).alloc (.cells #[.int .i64 a,.int .i64 b,.int .i8 pr] 40)).alloc (.cells aZ.toArray 104);have hM:=(ac.new' (w.alloc (.cells (aa F R (some ⟨g,o,none⟩) xs.length c bl ca pa ha fu).toArray 26)) (.cells #[.int .i64 a,.int .i64 b,.int .i8 pr] 40) (q:=w.heap.size+1) (by simp)).alloc (.cells aZ.toArray 104);have hZ:=ac.new' ((w.alloc (.cells (aa F R (some ⟨g,o,none⟩) xs.length c bl ca pa ha fu).toArray 26)).alloc (.cells #[.int .i64 a,.int .i64 b,.int .i8 pr] 40)) (.cells aZ.toArray 104) (q:=w.heap.size+1+1) (by simp);have hB:=((ae w (.cells (aa F R (some ⟨g,o,none⟩) xs.length c bl ca pa ha fu).toArray 26)).alloc (by simp) (.cells #[.int .i64 a,.int .i64 b,.int .i8 pr] 40)).alloc (by simp;omega) (.cells aZ.toArray 104);have hg1:=hg.call hB;have hx1:=hx.call hB;have hcx1:=(iB hB).1 g (o+a) hgl;rw[hca1]at hcx1;have hgl1:=Nat.lt_of_lt_of_le hgl hB.size;have hii:(a:Int)<xs.length:=by omega
 have hc1:=hA.cells;have hc2:=hM.cells;have hl1:=hA.lt;have hl2:=hM.lt;have hl3:=hZ.lt;replace hlen:=zhd hlen;replace hor:=zhd hor;replace hbo:=zhd hbo;replace hxe:=zhd hxe;clear hx hg;go_enter Tryz.func62,Tryz.ntmps62;go_wp2_with fail;show Calls _ _ _ (((w.alloc (.cells (aa F R (some ⟨g,o,none⟩) xs.length c bl ca pa ha fu).toArray 26)).alloc (.cells #[.int .i64 a,.int .i64 b,.int .i8 pr] 40)).alloc (.cells aZ.toArray 104)) _;generalize ((w.alloc (.cells (aa F R (some ⟨g,o,none⟩) xs.length c bl ca pa ha fu).toArray 26)).alloc (.cells #[.int .i64 a,.int .i64 b,.int .i8 pr] 40)).alloc (.cells aZ.toArray 104)=w1 at *;clear hca1 hgl;refine(hkd _).mono ?_;rintro e w2 ⟨rfl,rfl⟩;by_cases hk:kindI x=6
 rotate_left
 ·have hkk:((kindI x:Int) != 6)=true:=by simp[hk]
  rw[if_pos hk]at hV;replace hV:=zhd hV;generalize kindI x=k at *;have⟨hi,ho⟩:=zrw 104 (A:=aZ.toArray) (by kernel_rfl) (by simp[Value.oneCell']);go_wp2_with ((refine ai rfl 104 (.tmp 4) (.tmp 18) rfl (w.heap.size+1+1) aZ.toArray rfl rfl 104 _ hZ hi.out rfl ho.out ?_);rintro w3 rfl);have hZ3:=ak (cells:=aZ.toArray) hZ;have hB3:Bw w (w1.setRow (w.heap.size+1+1) aZ.toArray):=aj hB (by omega) hB.size;go_wp2_with fail;refine bodyPost_ret (aU (fn:=Tryz.f62) Tryz.results62 rfl hZ3 (by kernel_rfl) (by kernel_rfl) rfl) rfl ?_;exact⟨by rw[hV.out];rfl,hB3⟩
 ·have hkk:((kindI x:Int) != 6)=false:=by simp[hk]
  rw[if_neg (by simp[hk])]at hV;have hld:=ld2 w1 hg1;have hix:=ix2;generalize kindI x=k at *;generalize casV.toArray=cv at *;replace hV:=zhd hV;go_wp2_with (with_reducible refine cy rfl 150 (.global 2) rfl rfl hld ?_);go_loopg [20] 5 (fun q iv wr=>∃ i:Nat,q+i=5∧i≤4∧iv=.int .i64 i∧Hid (CW (az.drop i)=V)∧Bw w1 wr)
  case atStart=>exact⟨0,rfl,Nat.zero_le _,rfl,zhd (by rw[hV.out];rfl),Below.refl _ _⟩
  case round =>
   obtain⟨i,hq,hi,rfl,hcv,hbr⟩:=hrel;have hAr:=hA.call hbr;have hMr:=hM.call hbr;have hZr:=hZ.call hbr;have hBr:=zbc hB hbr;have hgr:=hg1.call hbr;have hxr:=hx1.call hbr;by_cases hlt:i<4
   ·have hii:(i:Int)<4:=by omega
    obtain⟨cc,hc,_,hix2⟩:=hix i hlt;obtain⟨k1,k2,k3,k4,k5,k6,k7,k8⟩:=ub hc;have hnx:=hcw cc (az.drop (i+1));rw[←ph hc,hcv.out]at hnx;have e2:ca.toNat&&&cc.bit=0↔(bits .and .u8 ca (cc.bit:Nat)==0)=true:=by have h1:=u8_and_nat ca.toNat cc.bit (by omega) k1;rw[show((ca.toNat:Nat):Int)=ca by omega]at h1;rw[h1];simp
    have hsk:(cc.bl==bl)=false∨(bits .and .u8 ca (cc.bit:Nat)==0)=true∨((cc.fr:Int) != a)=true∨((cc.tg:Int) != b)=true→Hid (CW (az.drop (i+1))=V):=fun h=>zhd (by
     rw[hnx,if_pos];simpa[←e2]using h)
    have hht:(cc.bl==bl)=true→(bits .and .u8 ca (cc.bit:Nat)==0)=false→((cc.fr:Int) != a)=false→((cc.tg:Int) != b)=false→Hid (V=(some cc,decide (btwW F R cc.fr cc.co&&&oc=0))):=fun h1 h2 h3 h4=>zhd (by
     rw[hnx,if_neg];have h5:¬(ca.toNat&&&cc.bit=0):=fun h=>by rw[e2.1 h]at h2;cases h2
     simp only[bne_eq_false_iff_eq,beq_iff_eq]at h1 h3 h4;simp[h1,h3,h4,h5])
    clear hix hcw e2 hnx hA hM hZ hc1 hc2 hl1 hl2 hl3 hcv;have hb3:=ae wr (.cells cc.cs.toArray 104);have hQ:=ac.new wr (.cells cc.cs.toArray 104);have hA3:=hAr.call hb3;have hM3:=hMr.call hb3;have hZ3:=hZr.call hb3;have hB3:=zbc hBr hb3;have hb4:=zbc hbr hb3;have hx3:=hxr.call hb3;have c1:=hAr.cells;have c2:=hMr.cells;have l1:=hAr.lt;have l2:=hMr.lt;have hlq:wr.heap.size<(wr.alloc (.cells cc.cs.toArray 104)).heap.size:=by simp
    rcases z1:(cc.bl==bl)with _|_<;>rcases z2:(bits .and .u8 ca (cc.bit:Nat)==0)with _|_<;>rcases z3:((cc.fr:Int) != a)with _|_<;>rcases z4:((cc.tg:Int) != b)with _|_
    case true.false.false.false =>
     have hV:=hht z1 z2 z3 z4;clear hsk hht;have hca0:ca≠0:=by rintro rfl;have h1:=u8_and_nat 0 cc.bit (by decide) k1;rw[Nat.zero_and]at h1;rw[show((0:Nat):Int)=0 from rfl]at h1;rw[h1]at z2;cases z2
     obtain⟨rfl,rfl⟩:=h88 hca0;have hbt:=hbt 8 8 cc.fr cc.co hF hR (by omega) (by omega) k7 k8;have hbl:=wL (a:=cc.fr) (b:=cc.co) hF hR;have ean:=u64_and_nat _ _ hbl hocl;have hV:Hid (V=(some cc,((btwW 8 8 cc.fr cc.co&&&oc:Nat):Int)==0)):=zhd (by rw[hV.out];congr 1;simp[BEq.beq]);generalize btwW 8 8 cc.fr cc.co&&&oc=N at *;generalize btwW 8 8 cc.fr cc.co=S at *;go_wp2_with fail;refine(hbt _).mono ?_;rintro e w4 ⟨rfl,hb5⟩;have hA4:=hA3.call hb5;have hQ4:=hQ.call hb5;have hZ4:=hZ3.call hb5;have hB4:=zbc hB3 hb5;have hx4:=hx3.call hb5;have hq3:w.heap.size+1+1<wr.heap.size:=hZr.lt;have hno:w.heap.size≠w.heap.size+1+1:=by omega
     have hnq:wr.heap.size≠w.heap.size+1+1:=by omega
     clear c1 c2 l1 l2 hlq hQ hAr hMr hZr hbr hgr hxr hx3 hbt;obtain⟨Wk,hWk⟩:∃ Wk:Nat→World,Wk=fun k=>match k with|0=>w4|_=>w4.setRow (w.heap.size+1+1) cc.cs.toArray:=⟨_,rfl⟩
     have hW0:Wk 0=w4:=by subst hWk;rfl
     have hW1:Wk (0+1)=(Wk 0).setRow (w.heap.size+1+1) cc.cs.toArray:=by subst hWk;rfl
     have m1:=bj (Wk:=Wk) (fun k=>by rw[hWk];cases k with|zero=>exact hA4|succ k=>exact hA4.setRow_far hno);have m2:=bj (Wk:=Wk) (fun k=>by rw[hWk];cases k with|zero=>exact hQ4|succ k=>exact hQ4.setRow_far hnq);have t2:=ax (w:=Wk 0) (fun W h=>hoc W (hx4.call (by rw[hW0]at h;exact h)));have hZ0:ac (Wk 0) (w.heap.size+1+1) (.cells aZ.toArray 104 (0,0)):=by rw[hW0];exact hZ4
     clear hWk;replace hW1:=zhd hW1;go_wp2_with fail;refine aR [6] [(0,0),(0,1),(0,1),(0,0),(0,1),(0,1),(9,9),(1,1)] Wk (by kernel_rfl) (by kernel_rfl) hW0 ?_;replace hW0:=zhd hW0;refine a8 0 rfl rfl ?_;go_big_quiet_step (fail);refine wpQuiet_nil ?_;refine ci rfl rfl ?_;go_big_quiet_step (fail);refine wpQuiet_nil ?_;refine ci rfl rfl ?_;go_big_quiet_step (fail);refine wpQuiet_nil ?_;refine a8 0 rfl rfl ?_;go_big_quiet_step (exact t2 _ _);refine wpQuiet_nil ?_;refine ci rfl rfl ?_;go_big_quiet_step (fail);refine wpQuiet_nil ?_;refine ci rfl rfl ?_;go_big_quiet_step (fail);refine wpQuiet_nil ?_;refine ew 0 rfl rfl 104 (.tmp 4) (.tmp 60) rfl rfl rfl hZ0 (by kernel_rfl) rfl (by simp[Value.oneCell']) hW1.out rfl ?_;refine a8 1 rfl rfl ?_;go_big_quiet_step (fail);refine wpQuiet_nil ?_;refine cm ?_;intro w5 hb6;have hw1:Wk [6].length=w4.setRow (w.heap.size+1+1) cc.cs.toArray:=by rw[←hW0.out];exact hW1.out
     rw[hw1]at hb6;have hZ5:=(ak (cells:=cc.cs.toArray) hZ4).call hb6;have hB5:Bw w (w4.setRow (w.heap.size+1+1) cc.cs.toArray):=aj hB4 (by omega) hB4.size;have hB6:=zbc hB5 hb6;clear hW1 hw1 m1 m2 t2;go_wp2_with fail;refine bodyPost_ret (aU (fn:=Tryz.f62) Tryz.results62 rfl hZ5 (by kernel_rfl) (by kernel_rfl) rfl) rfl ?_;exact⟨by rw[hV.out];rfl,hB6⟩
    all_goals
     have hcv:Hid (CW (az.drop (i+1))=V):=hsk (by simp[z1,z2,z3,z4]);go_wp2_with fail;go_roundg (gk-1)
     case measure=>omega
     case rel=>exact⟨i+1,by omega,by omega,by go_num,hcv,zbc hbr (ae _ _)⟩
   ·obtain rfl:i=4:=by omega
    have hcv:Hid (V=(none,false)):=zhd (by rw[←hcv.out];exact hc0);have⟨hi,ho⟩:=zrw 104 (A:=aZ.toArray) (by kernel_rfl) (by simp[Value.oneCell']);go_wp2_with ((refine ai rfl 104 (.tmp 4) (.tmp 67) rfl (w.heap.size+1+1) aZ.toArray rfl rfl 104 _ hZr hi.out rfl ho.out ?_);rintro w3 rfl);have hZ3:=ak (cells:=aZ.toArray) hZr;have hB3:Bw w (wr.setRow (w.heap.size+1+1) aZ.toArray):=aj hBr (by omega) hBr.size;refine bodyPost_ret (aU (fn:=Tryz.f62) Tryz.results62 rfl hZ3 (by kernel_rfl) (by kernel_rfl) rfl) rfl ?_;exact⟨by rw[hcv.out];rfl,hB3⟩
def aC(W:World)(q cap:Nat)(xs:List Int):Prop:=∃ cur:Array Value,ac W q (.cells cur 38 (0,0))∧xs.length≤cap∧cur.size=cap∧∀ j,j<xs.length→cur[j]? = some (.int .i8 (xs[j]?.getD 0))
theorem aC.arr{W:World}{q cap:Nat}{xs:List Int}(h:aC W q cap xs):Arr .i8 W (some ⟨q,0,none⟩) xs:=by obtain⟨cur,h1,h2,h3,h4⟩:=h;exact .inr ⟨q,0,rfl,h1.lt,fun j hj=>by rw[Nat.zero_add,h1.cells j];exact h4 j hj⟩
theorem aC.call{W W':World}{q cap:Nat}{xs:List Int}(h:aC W q cap xs)(hb:Bw W W'):aC W' q cap xs:=by obtain⟨cur,h1,h2⟩:=h;exact⟨cur,h1.call hb,h2⟩
theorem aC.lt{W:World}{q cap:Nat}{xs:List Int}(h:aC W q cap xs):q<W.heap.size:=by obtain⟨cur,h1,_⟩:=h;exact h1.lt
theorem aC.far{W:World}{q cap:Nat}{xs:List Int}(h:aC W q cap xs){p:Addr}(hp:q≠p.block)(u:Value):aC (W.setCell p u) q cap xs:=by obtain⟨cur,h1,h2⟩:=h;exact⟨cur,h1.far hp u,h2⟩
theorem aC.farR{W:World}{q g cap:Nat}{xs:List Int}(h:aC W q cap xs)(hp:q≠g)(cs:Array Value):aC (W.setRow g cs) q cap xs:=by obtain⟨cur,h1,h2⟩:=h;exact⟨cur,h1.setRow_far hp,h2⟩
theorem aC.set{W:World}{q cap:Nat}{xs:List Int}(h:aC W q cap xs)(i:Nat)(v:Int):aC (W.setCell ⟨q,i,none⟩ (.int .i8 v)) q cap (xs.set i v):=by
 obtain⟨cur,h1,h2,h3,h4⟩:=h;refine⟨cur.setIfInBounds i (.int .i8 v),h1.set_ i _,by simpa using h2,by simpa using h3,fun j hj=>?_⟩;rw[List.length_set]at hj;rw[Array.getElem?_setIfInBounds];by_cases e:i=j
 ·subst e;rw[if_pos rfl,if_pos (by omega),List.getElem?_set_self hj];rfl
 ·rw[if_neg e,List.getElem?_set_ne e];exact h4 j hj
theorem aC.cell{W:World}{q cap:Nat}{xs:List Int}(h:aC W q cap xs){j:Nat}(hj:j<xs.length):W.cell? ⟨q,j,none⟩=some (.int .i8 (xs[j]?.getD 0)):=by obtain⟨cur,h1,h2,h3,h4⟩:=h;rw[h1.cells j];exact h4 j hj
theorem aC.frozen{W:World}{q cap:Nat}{xs:List Int}(h:aC W q cap xs)(j:Nat):W.frozen? ⟨q,j,none⟩=false:=by obtain⟨cur,h1,_⟩:=h;exact h1.frozen j
theorem aC.of{W:World}{base:Nat}{v:Value}{xs:List Int}(h:W.ownsRow base 38 1 v xs.length (xs.map (.int .i8)))(h0:0<xs.length):∃ q cap,v=.slice (some ⟨q,0,none⟩) xs.length cap∧base≤q∧aC W q cap xs:=by
 rcases h.2 with⟨_,h2⟩|⟨g,cap,cur,rfl,hg,hh,hc,_,hcs,ht⟩
 ·omega
 ·refine⟨g,cap,rfl,hg,cur,hh,hc,by omega,fun j hj=>?_⟩;have h1:(cur.toList.take (xs.length*1))[j]? = some (.int .i8 (xs[j]?.getD 0)):=by rw[ht];simp[hj]
  rw[List.getElem?_take_of_lt (by omega)]at h1;simpa using h1
theorem Tryz.info38:(Tryz.prog.info? 38).map (fun i=>(i.zero,i.size,i.bytes))=some (some (.int .i8 0),1,1):=by kernel_rfl
theorem o6{W:World}{g o:Nat}{xs:List Int}(h:Arr .i8 W (some ⟨g,o,none⟩) xs):∀ j u,(xs.map (Value.int .i8))[j]? = some u→W.cell? ((⟨g,o,none⟩:Addr).add j)=some u:=by
 intro j u hu;have hj:j<xs.length:=by have:=(List.getElem?_eq_some_iff.1 hu).1;simpa using this
 obtain⟨b,o',e',hb,hc⟩:=h.at (i:=j) hj;injection e' with e';injection e' with e1 e2;subst e1 e2;rw[Addr.add_lit,hc j hj];simp[hj]at hu ⊢;exact hu
theorem tr(g o c:Nat)(xs:List Int)(w:World)(hx:Arr .i8 w (some ⟨g,o,none⟩) xs)(h0:0<xs.length)(hl:xs.length≤1000):
  Clz 122 #[.slice (some ⟨g,o,none⟩) xs.length c] w fun e w'=>∃ q cap,e=.returned (.slice (some ⟨q,0,none⟩) xs.length cap)∧Bw w w'∧w.heap.size≤q∧aC w' q cap xs:=by
 obtain⟨i3,hi3,hz3,hs3,hy3⟩:=info_parts Tryz.info38;have hown:=qK w w.heap.size 38 [] (Nat.le_refl _) (by simp[maxLen]);have hb:=ae w (.cells (#[]:Array Value) 38);have hx1:=hx.call hb;have hli:¬(xs.length:Int)=0:=by omega
 have hnil:=Lib.run_eql_slice_nil (P:=Tryz.prog) w 24 38 (some ⟨g,o,none⟩) xs.length c 0 0 Tryz.underlying24;go_enter Tryz.func122,Tryz.ntmps122;go_wp2_with (refine wpList_append_own _ rfl (.tmp 5) (.tmp 6) 24 rfl w.heap.size 38 i3 (.int .i8 0) 1 1 Tryz.underlying24 hi3 hz3 hs3 hy3 rfl (by decide) _ 0 [] rfl hown ⟨g,o,none⟩ xs.length c (xs.map (.int .i8)) rfl (by simp) (o6 hx1) (by intro u hu;obtain⟨y,_,rfl⟩:=List.mem_map.1 hu;rfl) (by unfold maxLen;omega) (by omega) (by simp) ?_);intro v' w' ho hgr _;obtain⟨q,cap,rfl,hq,hO⟩:=aC.of ho h0;have hB:=(hb.grown hgr (Nat.le_of_lt (by simp)) (fun j e=>by simp[Value.ownBlock]at e;omega));go_wp2_with fail;go_ret;exact⟨q,cap,rfl,hB,hq,hO⟩
def wC(F R ca pa ha fu:Int)(bl:Bool)(xs:List Int)(w:World)(e:Ending)(w':World):Prop :=
 ∃ q cap,e=.returned (.agg (aa F R (some ⟨q,0,none⟩) xs.length cap bl ca pa ha fu).toArray)∧Bw w w'∧w.heap.size≤q∧aC w' q cap xs
theorem nN(F R ca pa ha fu:Int)(bl:Bool)(g o c:Nat)(xs:List Int)(w:World)(hx:Arr .i8 w (some ⟨g,o,none⟩) xs)(h0:0<xs.length)(hl:xs.length≤1000):
  Clz 65 #[.agg (aa F R (some ⟨g,o,none⟩) xs.length c bl ca pa ha fu).toArray] w (wC F R ca pa ha fu bl xs w):=by
 have hA:=(ac.new w (.cells (aa F R (some ⟨g,o,none⟩) xs.length c bl ca pa ha fu).toArray 26)).alloc (.cells (aa 0 0 none 0 0 false 0 0 0 0).toArray 26);have hZ:=ac.new' (w.alloc (.cells (aa F R (some ⟨g,o,none⟩) xs.length c bl ca pa ha fu).toArray 26)) (.cells (aa 0 0 none 0 0 false 0 0 0 0).toArray 26) (q:=w.heap.size+1) (by simp);have hB:=(ae w (.cells (aa F R (some ⟨g,o,none⟩) xs.length c bl ca pa ha fu).toArray 26)).alloc (by simp) (.cells (aa 0 0 none 0 0 false 0 0 0 0).toArray 26);have hx1:=hx.call hB;have⟨hc1,hl1⟩:=hA.cl;have hlZ:=hZ.lt;go_enter Tryz.func65,Tryz.ntmps65;go_wp2_with fail;generalize (w.alloc (.cells (aa F R (some ⟨g,o,none⟩) xs.length c bl ca pa ha fu).toArray 26)).alloc (.cells (aa 0 0 none 0 0 false 0 0 0 0).toArray 26)=w1 at *;refine(tr g o c xs w1 hx1 h0 hl).mono ?_;rintro e w2 ⟨q,cap,rfl,hb2,hq,hO⟩;have hA2:=hA.call hb2;have hZ2:=hZ.call hb2;have hB2:=zbc hB hb2;clear hc1 hl1 hA hZ hB hx1 hx;have hqa:q≠w.heap.size:=by omega
 have hqz:q≠w.heap.size+1:=by omega
 have hqw:w.heap.size≤q:=by omega
 have hc1:=hA2.cells;have hf1:=hA2.frozen;have hl1:=hA2.lt;have⟨hi,ho⟩:=zrw 26 (A:=(aa F R (some ⟨q,0,none⟩) xs.length cap bl ca pa ha fu).toArray) (by kernel_rfl) (by simp[Value.oneCell']);have hA3:ac (w2.setCell ⟨w.heap.size,2,none⟩ (.slice (some ⟨q,0,none⟩) xs.length cap)) w.heap.size (.cells (aa F R (some ⟨q,0,none⟩) xs.length cap bl ca pa ha fu).toArray 26 (0,0)):=hA2.set_ 2 (.slice (some ⟨q,0,none⟩) xs.length cap);have hZ3:=hZ2.far (p:=⟨w.heap.size,2,none⟩) (by simp) (.slice (some ⟨q,0,none⟩) xs.length cap);have hO3:=hO.far (p:=⟨w.heap.size,2,none⟩) hqa (.slice (some ⟨q,0,none⟩) xs.length cap);have hB3:Bw w (w2.setCell ⟨w.heap.size,2,none⟩ (.slice (some ⟨q,0,none⟩) xs.length cap)):=hB2.setCell (by simp) _;clear hO;go_wp2_with (first|(refine ba rfl 26 (.tmp 1) rfl w.heap.size _ 26 rfl hA3 (by kernel_rfl) ?_)|((refine ai rfl 26 (.tmp 2) (.tmp 7) rfl (w.heap.size+1) _ rfl rfl 26 _ hZ3 hi.out rfl ho.out ?_);rintro w3 rfl)|fail);refine bodyPost_ret (bg (fn:=Tryz.f65) Tryz.results65 rfl (ak (cells:=(aa F R (some ⟨q,0,none⟩) xs.length cap bl ca pa ha fu).toArray) hZ3) (by kernel_rfl)) rfl ⟨q,cap,rfl,aj hB3 (by omega) hB3.size,hqw,hO3.farR hqz _⟩
theorem bQ{W:World}{p:Option Addr}{xs:List Int}{j:Nat}(h:Arr .i8 W p xs)(hj:j<xs.length):∃ g o,p=some ⟨g,o,none⟩∧W.cell? ⟨g,o+j,none⟩=some (.int .i8 (xs[j]?.getD 0)):=by obtain⟨g,o,e,_,hc⟩:=h.at hj;exact⟨g,o,e,hc j hj⟩
theorem tJ{xs ys:List Int}{i:Nat}(hx:i<xs.length)(hy:i<ys.length):(xs.take (i+1)=ys.take (i+1))↔(xs.take i=ys.take i∧xs[i]?.getD 0=ys[i]?.getD 0):=by
 rw[List.take_succ_eq_append_getElem hx,List.take_succ_eq_append_getElem hy];simp only[List.getElem?_eq_getElem hx,List.getElem?_eq_getElem hy,Option.getD_some];constructor
 ·intro h;have h2:=List.append_inj h (by simp;omega);exact⟨h2.1,by simpa using h2.2⟩
 ·rintro⟨h1,h2⟩;rw[h1,h2]
theorem pW(p1 p2:Option Addr)(c1 c2:Nat)(xs ys:List Int)(w:World)(hx:Arr .i8 w p1 xs)(hy:Arr .i8 w p2 ys)(hl:xs.length≤1000)(hl2:ys.length≤1000):
  Clz 192 #[.slice p1 xs.length c1,.slice p2 ys.length c2] w fun e w'=>e=.returned (.bool (decide (xs=ys)))∧Bw w w':=by
 by_cases hn:xs.length=ys.length
 rotate_left
 ·have hne:(((xs.length:Nat):Int) != ys.length)=true:=by simp;omega
  have hV:Hid (decide (xs=ys)=false):=zhd (by simp;intro h;exact hn (by rw[h]));go_enter Tryz.func192,Tryz.ntmps192;go_wp2_with fail;go_ret;exact⟨by rw[hV.out];rfl,Below.refl _ _⟩
 ·rw[←hn];replace hn:=zhd hn;go_enter Tryz.func192,Tryz.ntmps192;go_wp2_with fail;go_loopg [13] 1001 (fun q iv wr=>∃ i:Nat,q+i=1001∧i≤xs.length∧iv=.int .i64 i∧Hid (xs.take i=ys.take i)∧Bw w wr)
  case atStart=>exact⟨0,rfl,Nat.zero_le _,rfl,zhd rfl,Below.refl _ _⟩
  case round =>
   obtain⟨i,hq,hi,rfl,ht,hbr⟩:=hrel;by_cases hlt:i<xs.length
   ·have hii:(i:Int)<xs.length:=by omega
    obtain⟨g1,o1,rfl,h1⟩:=bQ (hx.call hbr) hlt;obtain⟨g2,o2,rfl,h2⟩:=bQ (hy.call hbr) (by rw[←hn.out];exact hlt);have hnx:=tJ (xs:=xs) (ys:=ys) hlt (by rw[←hn.out];exact hlt);have hne2:xs[i]?.getD 0≠ys[i]?.getD 0→Hid (decide (xs=ys)=false):=fun h=>zhd (by simp;rintro rfl;exact h rfl)
    generalize xs[i]?.getD 0=x at *;generalize ys[i]?.getD 0=y at *;have m1:=cell_regrown h1;have m2:=cell_regrown h2;rcases z:(x != y)with _|_
    ·have ht2:Hid (xs.take (i+1)=ys.take (i+1)):=zhd (hnx.2 ⟨ht.out,by simpa using z⟩);clear hnx hne2;go_wp2_with fail;refine ag (by kernel_rfl) (by kernel_rfl) ?_;repeat(go_big_quiet_step (fail))
     refine wpQuiet_nil ?_;intro w5 hb5;clear m1 m2;go_wp2_with fail;go_roundg (gk-1)
     case measure=>omega
     case rel=>exact⟨i+1,by omega,by omega,by go_num,ht2,zbc hbr hb5⟩
    ·have hV:=hne2 (by simpa using z);clear hnx hne2;go_wp2_with fail;refine ag (by kernel_rfl) (by kernel_rfl) ?_;repeat(go_big_quiet_step (fail))
     refine wpQuiet_nil ?_;intro w5 hb5;clear m1 m2;go_wp2_with fail;go_ret;exact⟨by rw[hV.out];rfl,zbc hbr hb5⟩
   ·obtain rfl:i=xs.length:=by omega
    have hV:Hid (decide (xs=ys)=true):=zhd (by have h1:=ht.out;rw[List.take_length,hn.out,List.take_length]at h1;simpa using h1);go_wp2_with fail;go_ret;exact⟨by rw[hV.out];rfl,hbr⟩
theorem uZ(F R:Int)(w:World):(binOp .eql 23 (.agg #[.int .i64 F,.int .i64 R]) (.agg #[.int .i64 F,.int .i64 R])).run Tryz.prog w=.ok (.bool true) w:=by simp[go_sem]
def posE(xs ys:List Int)(b1 b2:Bool)(c1 c2 p1 p2:Int):Bool:=decide (xs=ys)&&((b1==b2)&&((c1==c2)&&(p1==p2)))
theorem qf(F R:Int)(x1 x2:Option Addr)(c1 c2:Nat)(xs ys:List Int)(b1 b2:Bool)(ca1 ca2 pa1 pa2 ha1 ha2 fu1 fu2:Int)(w:World)(hx:Arr .i8 w x1 xs)(hy:Arr .i8 w x2 ys)(hl:xs.length≤1000)(hl2:ys.length≤1000):
  Clz 162 #[.agg (aa F R x1 xs.length c1 b1 ca1 pa1 ha1 fu1).toArray,.agg (aa F R x2 ys.length c2 b2 ca2 pa2 ha2 fu2).toArray] w fun e w'=>e=.returned (.bool (posE xs ys b1 b2 ca1 ca2 pa1 pa2))∧Bw w w':=by
 have hA:=(ac.new w (.cells (aa F R x1 xs.length c1 b1 ca1 pa1 ha1 fu1).toArray 26)).alloc (.cells (aa F R x2 ys.length c2 b2 ca2 pa2 ha2 fu2).toArray 26);have hD:=ac.new' (w.alloc (.cells (aa F R x1 xs.length c1 b1 ca1 pa1 ha1 fu1).toArray 26)) (.cells (aa F R x2 ys.length c2 b2 ca2 pa2 ha2 fu2).toArray 26) (q:=w.heap.size+1) (by simp);have hB:=(ae w (.cells (aa F R x1 xs.length c1 b1 ca1 pa1 ha1 fu1).toArray 26)).alloc (by simp) (.cells (aa F R x2 ys.length c2 b2 ca2 pa2 ha2 fu2).toArray 26);have hse:=pW x1 x2 c1 c2 xs ys _ (hx.call hB) (hy.call hB) hl hl2;have hV:posE xs ys b1 b2 ca1 ca2 pa1 pa2=(decide (xs=ys)&&((b1==b2)&&((ca1==ca2)&&(pa1==pa2)))):=rfl;generalize posE xs ys b1 b2 ca1 ca2 pa1 pa2=V at *;generalize decide (xs=ys)=D at *;have hsz:=fun w=>uZ F R w
 have h1:=hA.cells;have h2:=hD.cells;have l1:=hA.lt;have l2:=hD.lt;replace hV:=zhd hV;go_enter Tryz.func162,Tryz.ntmps162;go_wp2_with fail;refine hse.mono ?_;rintro e w2 ⟨rfl,hb2⟩;have hA2:=hA.call hb2;have hD2:=hD.call hb2;have hB2:=zbc hB hb2;clear h1 h2 l1 l2 hA hD hB hse;have h1:=hA2.cells;have h2:=hD2.cells;have l1:=hA2.lt;have l2:=hD2.lt;cases D
 ·go_wp2_with fail;go_ret;exact⟨by rw[hV.out];rfl,hB2⟩
 ·rcases z1:(b1==b2)with _|_
  ·go_wp2_with fail;go_ret;exact⟨by rw[hV.out,z1];rfl,hB2⟩
  ·rcases z2:(ca1==ca2)with _|_
   ·go_wp2_with fail;go_ret;exact⟨by rw[hV.out,z1,z2];rfl,hB2⟩
   ·go_wp2_with fail;go_ret;exact⟨by rw[hV.out,z1,z2];rfl,hB2⟩
theorem oE(F R:Int)(x1 x2:Option Addr)(c1 c2:Nat)(xs ys:List Int)(b1 b2:Bool)(ca1 ca2 pa1 pa2 ha1 ha2 fu1 fu2:Int)(w:World)(hx:Arr .i8 w x1 xs)(hy:Arr .i8 w x2 ys)(hl:xs.length≤1000)(hl2:ys.length≤1000):
  Clz 111 #[.agg (aa F R x1 xs.length c1 b1 ca1 pa1 ha1 fu1).toArray,.agg (aa F R x2 ys.length c2 b2 ca2 pa2 ha2 fu2).toArray] w fun e w'=>e=.returned (.bool (posE xs ys b1 b2 ca1 ca2 pa1 pa2&&((ha1==ha2)&&(fu1==fu2))))∧Bw w w':=by
 have hA:=(ac.new w (.cells (aa F R x1 xs.length c1 b1 ca1 pa1 ha1 fu1).toArray 26)).alloc (.cells (aa F R x2 ys.length c2 b2 ca2 pa2 ha2 fu2).toArray 26);have hD:=ac.new' (w.alloc (.cells (aa F R x1 xs.length c1 b1 ca1 pa1 ha1 fu1).toArray 26)) (.cells (aa F R x2 ys.length c2 b2 ca2 pa2 ha2 fu2).toArray 26) (q:=w.heap.size+1) (by simp);have hB:=(ae w (.cells (aa F R x1 xs.length c1 b1 ca1 pa1 ha1 fu1).toArray 26)).alloc (by simp) (.cells (aa F R x2 ys.length c2 b2 ca2 pa2 ha2 fu2).toArray 26);have hse:=qf F R x1 x2 c1 c2 xs ys b1 b2 ca1 ca2 pa1 pa2 ha1 ha2 fu1 fu2 _ (hx.call hB) (hy.call hB) hl hl2;generalize posE xs ys b1 b2 ca1 ca2 pa1 pa2=D at *;have h1:=hA.cells;have h2:=hD.cells;have l1:=hA.lt;have l2:=hD.lt;go_enter Tryz.func111,Tryz.ntmps111;go_wp2_with fail;refine hse.mono ?_;rintro e w2 ⟨rfl,hb2⟩;have hA2:=hA.call hb2;have hD2:=hD.call hb2;have hB2:=zbc hB hb2;clear h1 h2 l1 l2 hA hD hB hse;have h1:=hA2.cells;have h2:=hD2.cells;have l1:=hA2.lt;have l2:=hD2.lt;cases D
 ·go_wp2_with fail;go_ret;exact⟨rfl,hB2⟩
 ·rcases z1:(ha1==ha2)with _|_
  ·go_wp2_with fail;go_ret;exact⟨aV (by rw[z1];rfl),hB2⟩
  ·go_wp2_with fail;go_ret;exact⟨aV (by rw[z1];rfl),hB2⟩
theorem dp(F R:Int)(m:Mv)(w:World):
  Clz 54 #[.agg #[.int .i64 F,.int .i64 R],.agg m.cs.toArray] w fun e w'=>e=.returned (.bool (mvB F R m))∧Bw w w':=by
 have hA:=(ac.new w (.cells #[.int .i64 F,.int .i64 R] 23)).alloc (.cells m.cs.toArray 40);have hD:=ac.new' (w.alloc (.cells #[.int .i64 F,.int .i64 R] 23)) (.cells m.cs.toArray 40) (q:=w.heap.size+1) (by simp);have hB:=(ae w (.cells #[.int .i64 F,.int .i64 R] 23)).alloc (by simp) (.cells m.cs.toArray 40);have hsv:=fun a W=>dn F R a W
 have hV:mvB F R m=(sqB F R m.fr&&(sqB F R m.tg&&((m.fr != m.tg)&&((m.pr==0)||(decide (2≤m.pr)&&decide (m.pr≤5)))))):=by
  unfold mvB;have e1:decide (m.fr≠m.tg)=(m.fr != m.tg):=by by_cases h:m.fr=m.tg<;>simp[h]
  rw[e1];rfl
 generalize mvB F R m=V at *;have h1:=hA.cells;have h2:=hD.cells;have l1:=hA.lt;have l2:=hD.lt;go_enter Tryz.func54,Tryz.ntmps54;go_wp2_with fail;refine(hsv _ _).mono ?_;rintro e w2 ⟨rfl,hb2⟩;have hA2:=hA.call hb2;have hD2:=hD.call hb2;have hB2:=zbc hB hb2;clear h1 h2 l1 l2 hA hD hB;have h1:=hA2.cells;have h2:=hD2.cells;have l1:=hA2.lt;have l2:=hD2.lt;rcases z1:sqB F R m.fr with _|_
 ·have hV:Hid (V=false):=zhd (by rw[hV,z1];rfl);go_wp2_with fail;go_ret;exact⟨by rw[hV.out];rfl,hB2⟩
 ·rw[z1,Bool.true_and]at hV;replace hV:=zhd hV;go_wp2_with fail;refine(hsv _ _).mono ?_;rintro e w3 ⟨rfl,hb3⟩;have hD3:=hD2.call hb3;have hB3:=zbc hB2 hb3;clear h1 h2 l1 l2 hD2;have⟨h2,l2⟩:=hD3.cl;rcases z2:sqB F R m.tg with _|_
  ·go_wp2_with fail;go_ret;exact⟨by rw[hV.out,z2];rfl,hB3⟩
  ·rcases z3:(m.fr != m.tg)with _|_
   ·go_wp2_with fail;go_ret;exact⟨by rw[hV.out,z2,z3];rfl,hB3⟩
   ·rcases z4:(m.pr==0)with _|_
    ·rcases z5:decide (2≤m.pr)with _|_
     ·go_wp2_with fail;go_ret;exact⟨by rw[hV.out,z2,z3,z4,z5];rfl,hB3⟩
     ·go_wp2_with fail;go_ret;exact⟨aV (by rw[hV.out,z2,z3,z4,z5];rfl),hB3⟩
    ·go_wp2_with fail;go_ret;exact⟨by rw[hV.out,z2,z3,z4];rfl,hB3⟩
theorem zS(x:Int)(w:World):(Instr.typeAssert (.iface 31 (.int .i64 x)) 20 31 true).run Tryz.prog w=.ok (.tuple #[.int .i64 x,.bool true]) w:=by kernel_rfl
theorem yn(x:Int)(w:World):(binOp .eql 20 (.iface 31 (.int .i64 x)) .nilIface).run Tryz.prog w=.ok (.bool false) w:=by kernel_rfl
theorem xW(w:World):(binOp .eql 20 .nilIface .nilIface).run Tryz.prog w=.ok (.bool true) w:=by kernel_rfl
theorem xu(q:Nat)(x:Value)(n:Int)(older:List PanicEntry)(w:World)(h:ac w q (.cells #[x] 31 (0,0))):
  CallsD Tryz.prog 59 #[.pointer (some ⟨q,0,none⟩)] (.panicking ({v:=.iface 31 (.int .i64 n),recovered:=false}::older)) w fun e u' w' =>
   e=.returned (.tuple #[])∧u'=.panicking ({v:=.iface 31 (.int .i64 n),recovered:=true}::older)∧w'=w.setCell ⟨q,0,none⟩ (.int .i64 n):=by
 refine callsD_of_wpS Tryz.func59 rfl fun c₀ cs hu=>?_
 simp only[Tryz.ntmps59,List.size_toArray,List.length_cons,List.length_nil,Nat.reduceAdd,Nat.reduceSub,Array.replicate_succ,Array.replicate_zero,List.push_toArray,List.append_toArray,List.nil_append,List.cons_append];apply wpS_seq
 apply wpS_region
 simp[wpOpsS,go_sem,recoverD,hu,Exit.thenS];refine wpS_of_wp ?_;have hc:=h.cells 0;have hf:=h.frozen;have hl:=h.lt;have e1:=yn n;have e2:=zS n;go_wp2_with fail;cases c₀
 simp_all [bodyPostS,results,Tryz.results59]
theorem vX(q:Nat)(w:World):
  CallsD Tryz.prog 59 #[.pointer (some ⟨q,0,none⟩)] .returning w fun e u' w'=>e=.returned (.tuple #[])∧u'=.returning∧w'=w:=by
 refine callsD_of_wpS Tryz.func59 rfl fun c₀ cs hu=>?_
 simp only[Tryz.ntmps59,List.size_toArray,List.length_cons,List.length_nil,Nat.reduceAdd,Nat.reduceSub,Array.replicate_succ,Array.replicate_zero,List.push_toArray,List.append_toArray,List.nil_append,List.cons_append];apply wpS_seq
 apply wpS_region
 simp[wpOpsS,go_sem,recoverD,hu,Exit.thenS];refine wpS_of_wp ?_;have e1:=xW;go_wp2_with fail;cases c₀
 simp_all [bodyPostS,results,Tryz.results59]
abbrev af:List Value:=aa 0 0 none 0 0 false 0 0 0 0
abbrev aw:List Value:=[.int .i64 0,.int .i64 0,.int .i8 0,.int .i8 0,.int .i64 0,.int .u8 0,.int .i64 0,.int .i64 0,.int .i64 0]
theorem yf(qe qo qu:Nat)(n:Int)(hn:n≠0)(oo ou:Array Value)(w:World)(he:ac w qe (.cells #[.int .i64 n] 31 (0,0)))(ho:ac w qo (.cells oo 26 (0,0)))(hos:oo.size=8)(hu:ac w qu (.cells ou 54 (0,0)))(hus:ou.size=9)(hne:qo≠qu):
  CallsD Tryz.prog 58 #[.pointer (some ⟨qe,0,none⟩),.pointer (some ⟨qo,0,none⟩),.pointer (some ⟨qu,0,none⟩)] .returning w fun e u' w'=>e=.returned (.tuple #[])∧u'=.returning∧w'=(w.setRow qo af.toArray).setRow qu aw.toArray:=by
 refine callsD_of_wpS Tryz.func58 rfl fun c₀ cs hm=>?_
 simp only[Tryz.ntmps58,List.size_toArray,List.length_cons,List.length_nil,Nat.reduceAdd,Nat.reduceSub,Array.replicate_succ,Array.replicate_zero,List.push_toArray,List.append_toArray,List.nil_append,List.cons_append];refine wpS_of_wp ?_;have hc:=he.cells 0;have hl:=he.lt;have hz:((n:Int) != 0)=true:=by simp[hn]
 have hu1:=hu.setRow_far (g:=qo) (cells:=af.toArray) (fun h=>hne h.symm);have hi1:Hid ((Tryz.prog.info? 26).map (·.size)=some af.toArray.size):=zhd (by kernel_rfl);have hi2:Hid ((Tryz.prog.info? 54).map (·.size)=some aw.toArray.size):=zhd (by kernel_rfl);have h11:Hid (af.toArray.all (·.oneCell')=true):=zhd (by simp[Value.oneCell']);have h12:Hid (aw.toArray.all (·.oneCell')=true):=zhd (by simp[Value.oneCell']);have hos:Hid (oo.size=af.toArray.size):=zhd hos;have hus:Hid (ou.size=aw.toArray.size):=zhd hus;go_wp2_with (first|((refine ai rfl 26 (.tmp 1) (.tmp 5) rfl qo af.toArray rfl rfl 26 _ ho hi1.out hos.out h11.out ?_);rintro w3 rfl)|((refine ai rfl 54 (.tmp 2) (.tmp 6) rfl qu aw.toArray rfl rfl 54 _ hu1 hi2.out hus.out h12.out ?_);rintro w3 rfl)|fail);cases c₀
 simp_all [bodyPostS,results,Tryz.results58]
theorem wJ(qe qo qu:Nat)(w:World)(he:ac w qe (.cells #[.int .i64 0] 31 (0,0))):
  CallsD Tryz.prog 58 #[.pointer (some ⟨qe,0,none⟩),.pointer (some ⟨qo,0,none⟩),.pointer (some ⟨qu,0,none⟩)] .returning w fun e u' w'=>e=.returned (.tuple #[])∧u'=.returning∧w'=w:=by
 refine callsD_of_wpS Tryz.func58 rfl fun c₀ cs hm=>?_
 simp only[Tryz.ntmps58,List.size_toArray,List.length_cons,List.length_nil,Nat.reduceAdd,Nat.reduceSub,Array.replicate_succ,Array.replicate_zero,List.push_toArray,List.append_toArray,List.nil_append,List.cons_append];refine wpS_of_wp ?_;have hc:=he.cells 0;have hl:=he.lt;go_wp2_with fail;cases c₀
 simp_all [bodyPostS,results,Tryz.results58]
theorem jJ{P:Program}{fn:Func}{p u x:Tmp}{ty ty2 ty3:TypeId}(h:fn.results=#[.cell p ty,.cell u ty2,.cell x ty3]){tmps:Array Value}{w:World}{g g2 g3:Nat}{t t2:TypeId}{cs cs2:Array Value}{n:Value}
  (hp:tmps.getD p undef=.pointer (some ⟨g,0,none⟩)) (hg:ac w g (.cells cs t (0,0))) (hr:cP P ty cs.size=true)
  (hu:tmps.getD u undef=.pointer (some ⟨g2,0,none⟩)) (hg2:ac w g2 (.cells cs2 t2 (0,0))) (hr2:cP P ty2 cs2.size=true)
  (hx:tmps.getD x undef=.pointer (some ⟨g3,0,none⟩)) (hg3:w.cell? ⟨g3,0,none⟩=some n) (hr3:kV P ty3=true) {v:Value} (hv:v=.tuple #[.agg cs,.agg cs2,n]) :
  (results fn tmps).run P w=.ok v w:=by
 subst hv;have e1:(loadVar ty ⟨g,0,none⟩).run P w=.ok (.agg cs) w:=by have:=ct (P:=P) (w:=w) (ty:=ty) (g:=g) (b:=0) cs.toList (by simpa using hr) (fun j v hv=>by rw[Nat.zero_add,hg.cells j];simpa using hv);simpa using this
 have e2:(loadVar ty2 ⟨g2,0,none⟩).run P w=.ok (.agg cs2) w:=by have:=ct (P:=P) (w:=w) (ty:=ty2) (g:=g2) (b:=0) cs2.toList (by simpa using hr2) (fun j v hv=>by rw[Nat.zero_add,hg2.cells j];simpa using hv);simpa using this
 have e3:=mz (P:=P) (w:=w) (ty:=ty3) (p:=⟨g3,0,none⟩) hr3 hg3;have hp':tmps[p]?.getD undef=.pointer (some ⟨g,0,none⟩):=by simpa using hp
 have hu':tmps[u]?.getD undef=.pointer (some ⟨g2,0,none⟩):=by simpa using hu
 have hx':tmps[x]?.getD undef=.pointer (some ⟨g3,0,none⟩):=by simpa using hx
 simp[results,h,hp',hu',hx',asAddr,e1,e2,e3]
abbrev cw(qe qo qu:Nat):List Deferred:=[{target:=.fn (.func 59) #[],args:=#[.pointer (some ⟨qe,0,none⟩)]},{target:=.fn (.func 58) #[.pointer (some ⟨qe,0,none⟩),.pointer (some ⟨qo,0,none⟩),.pointer (some ⟨qu,0,none⟩)],args:=#[]}]
theorem eJ{tmps:Array Value}{R:Ending→World→Prop}(qe qo qu:Nat)(n z:Int)(hn:n≠0)(oo ou:Array Value)(w w0:World)(h4:tmps.getD 4 undef=.pointer (some ⟨qo,0,none⟩))(h5:tmps.getD 5 undef=.pointer (some ⟨qu,0,none⟩))(h6:tmps.getD 6 undef=.pointer (some ⟨qe,0,none⟩))
  (he:ac w qe (.cells #[.int .i64 z] 31 (0,0))) (ho:ac w qo (.cells oo 26 (0,0))) (hos:oo.size=8) (hu:ac w qu (.cells ou 54 (0,0))) (hus:ou.size=9) (hB:Bw w0 w) (h1:w0.heap.size≤qe) (h2:w0.heap.size≤qo) (h3:w0.heap.size≤qu)
  (hR:∀ w',Bw w0 w'→R (.returned (.tuple #[.agg af.toArray,.agg aw.toArray,.int .i64 n])) w'):Leaves Tryz.prog Tryz.f23 tmps R (cw qe qo qu) (.panicking (noP n)) w:=by
 have hoe:qe≠qo:=he.ne_ ho (by intro h;injection h with h;rw[←h]at hos;cases hos);have hue:qe≠qu:=he.ne_ hu (by intro h;injection h with h;rw[←h]at hus;cases hus);have hou:qo≠qu:=ho.ne_ hu (by intro h;injection h with h;rw[h]at hos;omega);refine leaves_cons (f:=59) (args:=#[.pointer (some ⟨qe,0,none⟩)]) (by simp) (by simp[go_sem]) ?_;refine(xu qe _ n [] w he).mono ?_;rintro e u' w1 ⟨rfl,rfl,rfl⟩;have he1:=he.set_ 0 (.int .i64 n);have ho1:=ho.far (p:=⟨qe,0,none⟩) (fun h=>hoe h.symm) (.int .i64 n);have hu1:=hu.far (p:=⟨qe,0,none⟩) (fun h=>hue h.symm) (.int .i64 n);show Leaves _ _ _ _ _ .returning _;refine leaves_cons (f:=58) (args:=#[.pointer (some ⟨qe,0,none⟩),.pointer (some ⟨qo,0,none⟩),.pointer (some ⟨qu,0,none⟩)]) (by simp) (by simp[go_sem]) ?_;refine(yf qe qo qu n hn oo ou _ he1 ho1 hos hu1 hus hou).mono ?_;rintro e u' w2 ⟨rfl,rfl,rfl⟩;have ho2:=(ak (cells:=af.toArray) ho1).setRow_far (g:=qu) (cells:=aw.toArray) hou;have hu2:=ak (cells:=aw.toArray) (hu1.setRow_far (g:=qo) (cells:=af.toArray) (fun h=>hou h.symm));have he2:=(he1.setRow_far (g:=qo) (cells:=af.toArray) hoe).setRow_far (g:=qu) (cells:=aw.toArray) hue;refine⟨_,jJ (fn:=Tryz.f23) Tryz.results23 h4 ho2 (by kernel_rfl) h5 hu2 (by kernel_rfl) h6 (he2.cells 0) (by kernel_rfl) rfl,hR _ ?_⟩;have hB1:Bw w0 (w.setCell ⟨qe,0,none⟩ (.int .i64 n)):=hB.setCell h1 _;exact aj (aj hB1 h2 hB1.size) h3 (by rw[pw];exact hB1.size)
theorem Al{tmps:Array Value}{R:Ending→World→Prop}(qe qo qu:Nat)(oo ou:Array Value)(w:World)(h4:tmps.getD 4 undef=.pointer (some ⟨qo,0,none⟩))(h5:tmps.getD 5 undef=.pointer (some ⟨qu,0,none⟩))(h6:tmps.getD 6 undef=.pointer (some ⟨qe,0,none⟩))
  (he:ac w qe (.cells #[.int .i64 0] 31 (0,0))) (ho:ac w qo (.cells oo 26 (0,0))) (hos:cP Tryz.prog 26 oo.size=true) (hu:ac w qu (.cells ou 54 (0,0))) (hus:cP Tryz.prog 54 ou.size=true)
  (hR:R (.returned (.tuple #[.agg oo,.agg ou,.int .i64 0])) w):Leaves Tryz.prog Tryz.f23 tmps R (cw qe qo qu) .returning w:=by
 refine leaves_cons (f:=59) (args:=#[.pointer (some ⟨qe,0,none⟩)]) (by simp) (by simp[go_sem]) ?_;refine(vX qe w).mono ?_;rintro e u' w1 ⟨rfl,rfl,rfl⟩;refine leaves_cons (f:=58) (args:=#[.pointer (some ⟨qe,0,none⟩),.pointer (some ⟨qo,0,none⟩),.pointer (some ⟨qu,0,none⟩)]) (by simp[settle]) (by simp[go_sem]) ?_;refine(wJ qe qo qu _ he).mono ?_;rintro e u' w2 ⟨rfl,rfl,rfl⟩;exact⟨_,jJ (fn:=Tryz.f23) Tryz.results23 h4 ho hos h5 hu hus h6 (he.cells 0) (by kernel_rfl) rfl,hR⟩
def aq:Nat→Code→Code
 | 0,c=>c
 | n+1,.seq _ b=>aq n b
 | _+1,c=>c
def ofA(T:Array Value)(i:Nat):Value:=T.getD i undef
theorem vo(l:List Value):l=(List.range l.length).map (fun i=>l.getD i undef):=by
 apply List.ext_getElem
 ·simp
 ·intro i h1 h2;simp[h1]
theorem yz(T:Array Value):T=((List.range T.size).map (ofA T)).toArray:=by
 have h:=vo T.toList;apply Array.ext'
 simp only[Array.length_toList]at h;conv=>lhs;rw[h]
 simp only;apply List.map_congr_left
 intro i _;simp[ofA,Array.getD_eq_getD_getElem?]
def litB(X:Nat→Value):Nat→Nat→List Value
 | _,0=>[]
 | k,n+1=>X k::litB X (k+1) n
theorem qL(X:Nat→Value):∀ n k,litB X k n=(List.range' k n).map X
 | 0,_=>rfl
 | n+1,k=>by rw[litB,qL X n,List.range'_succ,List.map_cons]
theorem frB(T:Array Value){n:Nat}(h:T.size=n):T=(litB (ofA T) 0 n).toArray:=by rw[qL,←List.range_eq_range',←h];exact yz T
def mkF(q0 q1 q2 q3 q4:Nat)(x:Int)(qw:Nat)(cb:Bool)(X:Nat→Value):Array Value:=(litB (fun i=>match i with|2=>.pointer (some ⟨q0,0,none⟩)|3=>.pointer (some ⟨q1,0,none⟩)|4=>.pointer (some ⟨q2,0,none⟩)|5=>.pointer (some ⟨q3,0,none⟩)|6=>.pointer (some ⟨q4,0,none⟩)|7=>.int .i8 x|8=>.pointer (some ⟨qw,0,none⟩)|9=>.bool cb|i=>X i) 0 305).toArray
theorem y9(T:Array Value)(q0 q1 q2 q3 q4:Nat)(x:Int)(qw:Nat)(cb:Bool)(hs:T.size=305)(h2:ofA T 2=.pointer (some ⟨q0,0,none⟩))(h3:ofA T 3=.pointer (some ⟨q1,0,none⟩))(h4:ofA T 4=.pointer (some ⟨q2,0,none⟩))(h5:ofA T 5=.pointer (some ⟨q3,0,none⟩))(h6:ofA T 6=.pointer (some ⟨q4,0,none⟩))
  (h7:ofA T 7=.int .i8 x) (h8:ofA T 8=.pointer (some ⟨qw,0,none⟩)) (h9:ofA T 9=.bool cb):T=mkF q0 q1 q2 q3 q4 x qw cb (ofA T):=by
 refine(frB T hs).trans (congrArg (fun X=>(litB X 0 305).toArray) (funext fun i=>?_));split<;>first|assumption|rfl
def MkT(T:Array Value)(q0 q1 q2 q3 q4:Nat)(x:Int)(qw:Nat)(cb:Bool):Prop:=T.size=305∧ofA T 2=.pointer (some ⟨q0,0,none⟩)∧ofA T 3=.pointer (some ⟨q1,0,none⟩)∧ofA T 4=.pointer (some ⟨q2,0,none⟩)∧ofA T 5=.pointer (some ⟨q3,0,none⟩)∧ofA T 6=.pointer (some ⟨q4,0,none⟩) ∧
  ofA T 7=.int .i8 x∧ofA T 8=.pointer (some ⟨qw,0,none⟩)∧ofA T 9=.bool cb
theorem MkT.fr{T:Array Value}{q0 q1 q2 q3 q4 qw:Nat}{x:Int}{cb:Bool}(h:MkT T q0 q1 q2 q3 q4 x qw cb):∃ X,T=mkF q0 q1 q2 q3 q4 x qw cb X:=by obtain⟨hs,h2,h3,h4,h5,h6,h7,h8,h9⟩:=h;exact⟨_,y9 T q0 q1 q2 q3 q4 x qw cb hs h2 h3 h4 h5 h6 h7 h8 h9⟩
def MkC(w:World)(P:Pos)(pp:Option Addr)(cc:Nat)(m:Mv)(q0 q1 q4:Nat)(W:World):Prop :=
 Bw w W∧ac W q0 (.cells (aa P.F P.R pp P.xs.length cc P.bl P.ca P.pa P.ha P.fu).toArray 26 (0,0))∧ac W q1 (.cells m.cs.toArray 40 (0,0))∧ac W q4 (.cells #[.int .i64 0] 31 (0,0))∧aM W∧Arr .i8 W pp P.xs
theorem MkC.call{w:World}{P:Pos}{pp:Option Addr}{cc:Nat}{m:Mv}{q0 q1 q4:Nat}{W W':World}(h:MkC w P pp cc m q0 q1 q4 W)(hb:Bw W W'):MkC w P pp cc m q0 q1 q4 W':=by obtain⟨h1,h2,h3,h4,h5,h6⟩:=h;exact⟨zbc h1 hb,h2.call hb,h3.call hb,h4.call hb,h5.call hb,h6.call hb⟩
def MkQ(w:World)(q0 q1 q2 q3 q4 qw:Nat):Prop:=w.heap.size≤q0∧q0<q1∧q1<q2∧q2<q3∧q3<q4∧q4<qw
theorem ly(F R a:Nat)(bl:Bool)(p:Option Addr)(c:Nat)(xs:List Int)(hF:3≤F∧F≤8)(hR:3≤R∧R≤8)(hlen:xs.length=F*R)(ha:a<F*R)(hor:aF F R xs=true)(w:World)(hg:bq w)(hx:Arr .i8 w p xs):
  Clz 67 #[.agg (ar F R p xs.length c).toArray,.int .i64 a,.bool bl] w fun e w'=>e=.returned (.tuple #[.int .u64 (atrW F R (setW gNon xs xs.length) xs a bl xs.length:Nat),.int .i64 0])∧Bw w w':=by
 have hA:=ac.new w (.cells (ar F R p xs.length c).toArray 68);have hB:=ae w (.cells (ar F R p xs.length c).toArray 68);have hof:=fun W h=>ji F R p c xs W h
 rw[hor]at hof;have hsv:=fun W=>dn F R a W
 rw[gY hF hR ha]at hsv;have hat:=fun W hg hx=>iE F R a bl p c xs hF hR hlen ha hor W hg hx
 generalize atrW F R (setW gNon xs xs.length) xs a bl xs.length=S at *;have hg1:=hg.call hB;have hx1:=hx.call hB;have⟨h1,l1⟩:=hA.cl;replace hlen:=zhd hlen;replace hor:=zhd hor;go_enter Tryz.func67,Tryz.ntmps67;go_wp2_with fail;refine(hof _ hx1).mono ?_;rintro e w2 ⟨rfl,hb2⟩;have hA2:=hA.call hb2;have hB2:=zbc hB hb2;have hg2:=hg1.call hb2;have hx2:=hx1.call hb2;clear h1 l1 hA hB hof hg1 hx1;have⟨h1,l1⟩:=hA2.cl;go_wp2_with fail;refine(hsv _).mono ?_;rintro e w3 ⟨rfl,hb3⟩;have hA3:=hA2.call hb3;have hB3:=zbc hB2 hb3;have hg3:=hg2.call hb3;have hx3:=hx2.call hb3;clear h1 l1 hsv hg2 hx2;have⟨h1,l1⟩:=hA3.cl;go_wp2_with fail;refine(hat _ hg3 hx3).mono ?_;rintro e w4 ⟨rfl,hb4⟩;go_wp2_with fail;go_ret2
 exact⟨rfl,zbc hB3 hb4⟩
abbrev mkE(n:Int):Ending:=.returned (.tuple #[.agg af.toArray,.agg aw.toArray,.int .i64 n])
theorem yN(w:World)(q0 q1 q2 q3 q4 qw qa cap:Nat)(x:Int)(cb:Bool)(T:Array Value)(hT:MkT T q0 q1 q2 q3 q4 x qw cb)(F R:Nat)(ys:List Int)(bo:Bool)(cao pao hao fuo:Int)(u:Und)(Rs:Ending→World→Prop)
  (W:World) (hq:MkQ w q0 q1 q2 q3 q4 qw) (hqa:q4<qa) (hB:Bw w W) (hE:ac W q4 (.cells #[.int .i64 0] 31 (0,0)))
  (hO:ac W q2 (.cells (aa F R (some ⟨qa,0,none⟩) ys.length cap bo cao pao hao fuo).toArray 26 (0,0))) (hY:aC W qa cap ys) (hU:ac W q3 (.cells u.cs.toArray 54 (0,0)))
  (h7:(10000<hao∨10000<fuo)→∀ w',Bw w w'→Rs (mkE 7) w')
  (hok:¬(10000<hao∨10000<fuo)→∀ w',Bw w w'→aC w' qa cap ys→Rs (.returned (.tuple #[.agg (aa F R (some ⟨qa,0,none⟩) ys.length cap bo cao pao hao fuo).toArray,.agg u.cs.toArray,.int .i64 0])) w')
  (cd:Code) (hcd:Tryz.f23.body.map (aq 25)=some cd):cd.wp Tryz.prog (bodyPostD Tryz.prog Tryz.f23 Rs) {tmps:=T,defers:=cw q4 q2 q3} W:=by
 obtain rfl:=Option.some.inj ((show Tryz.f23.body.map (aq 25)=some _ from rfl).symm.trans hcd);clear hcd;simp only[aq];obtain⟨X,rfl⟩:=hT.fr;clear hT;dsimp only[mkF,litB,Nat.reduceAdd];unfold MkQ at hq;have⟨p2,l2⟩:=hO.cl;rcases z1:decide (hao>10000)with _|_
 ·rcases z2:decide (fuo>10000)with _|_
  ·have hok:=hok (by simp at z1 z2;omega);go_wp2_with fail;refine(dC _ _).mono ?_;rintro e W5 ⟨rfl,rfl⟩;go_wp2_with fail;obtain⟨OR,hOR⟩:∃ r,r=(aa F R (some ⟨qa,0,none⟩) ys.length cap bo cao pao hao fuo).toArray:=⟨_,rfl⟩;have hos:OR.size=8:=by rw[hOR];rfl
   have hone:OR.all (·.oneCell')=true:=by rw[hOR];simp[Value.oneCell']
   obtain⟨UR,hUR⟩:∃ r,r=u.cs.toArray:=⟨_,rfl⟩;have hus:UR.size=9:=by rw[hUR];rfl
   have hune:UR.all (·.oneCell')=true:=by rw[hUR];simp[Value.oneCell']
   obtain⟨Wk,hWk⟩:∃ Wk:Nat→World,Wk=fun k=>match k with|0=>W|1=>W.setRow q2 OR|2=>(W.setRow q2 OR).setRow q3 UR|_=>((W.setRow q2 OR).setRow q3 UR).setCell ⟨q4,0,none⟩ (.int .i64 0):=⟨_,rfl⟩
   have hW0:Wk 0=W:=by subst hWk;rfl
   have hW1:Wk (0+1)=(Wk 0).setRow q2 OR:=by subst hWk;rfl
   have hW2:Wk (1+1)=(Wk 1).setRow q3 UR:=by subst hWk;rfl
   have hW3:Wk (2+1)=(Wk 2).setCell ⟨q4,0,none⟩ (.int .i64 0):=by subst hWk;rfl
   have hW4:Wk [2,3,4].length=((W.setRow q2 OR).setRow q3 UR).setCell ⟨q4,0,none⟩ (.int .i64 0):=by subst hWk;rfl
   rw[←hOR]at hO;rw[←hUR]at hU;have e23:q2≠q3:=by omega
   have e24:q2≠q4:=by omega
   have e34:q3≠q4:=by omega
   have kO:∀ k,ac (Wk k) q2 (.cells OR 26 (0,0)):=fun k=>by
    have h1:=ak (cells:=OR) hO;have h2:=h1.setRow_far (g:=q3) (cells:=UR) e23;subst hWk;rcases k with _|_|_|k
    ·exact hO
    ·exact h1
    ·exact h2
    ·exact h2.far (p:=⟨q4,0,none⟩) e24 _
   have kU:∀ k,ac (Wk k) q3 (.cells UR 54 (0,0)):=fun k=>by
    have h1:=hU.setRow_far (g:=q2) (cells:=OR) (fun h=>e23 h.symm);have h2:=ak (cells:=UR) h1;subst hWk;rcases k with _|_|_|k
    ·exact hU
    ·exact h1
    ·exact h2
    ·exact h2.far (p:=⟨q4,0,none⟩) e34 _
   have kE:∀ k,ac (Wk k) q4 (.cells #[.int .i64 0] 31 (0,0)):=fun k=>by
    have h1:=hE.setRow_far (g:=q2) (cells:=OR) (fun h=>e24 h.symm);have h2:=h1.setRow_far (g:=q3) (cells:=UR) (fun h=>e34 h.symm);subst hWk;rcases k with _|_|_|k
    ·exact hE
    ·exact h1
    ·exact h2
    ·exact h2.set_ 0 (.int .i64 0)
   have hBk:Bw w (Wk [2,3,4].length):=by have h1:Bw w (W.setRow q2 OR):=aj hB (by omega) hB.size;have h2:Bw w ((W.setRow q2 OR).setRow q3 UR):=aj h1 (by omega) h1.size;rw[hW4];exact h2.setCell (by show w.heap.size≤q4;omega) _
   have hYk:aC (Wk [2,3,4].length) qa cap ys:=by rw[hW4];exact((hY.farR (by omega) OR).farR (by omega) UR).far (p:=⟨q4,0,none⟩) (by show qa≠q4;omega) _
   have o1:=bj kO;have u1:=bj kU;have ro:OR=#[.int .i64 (F:Int),.int .i64 (R:Int),.slice (some ⟨qa,0,none⟩) ys.length cap,.bool bo,.int .u8 cao,.int .i64 pao,.int .i64 hao,.int .i64 fuo]:=hOR;have ru:UR=#[.int .i64 u.mv.fr,.int .i64 u.mv.tg,.int .i8 u.mv.pr,.int .i8 u.cp,.int .i64 u.at_,.int .u8 u.ca,.int .i64 u.pa,.int .i64 u.ha,.int .i64 u.fu]:=hUR;rw[ro]at o1;rw[ru]at u1;clear hWk p2 l2;replace hW1:=zhd hW1;replace hW2:=zhd hW2;replace hW3:=zhd hW3;replace hW4:=zhd hW4;replace hos:=zhd hos;replace hus:=zhd hus;replace hone:=zhd hone;replace hune:=zhd hune;replace hOR:=zhd hOR;replace hUR:=zhd hUR;replace ro:=zhd ro;replace ru:=zhd ru;refine aR [2,3,4] [(0,0),(0,1)] Wk (by kernel_rfl) (by kernel_rfl) hW0 ?_;replace hW0:=zhd hW0;refine a8 0 rfl rfl ?_;go_big_quiet_step (fail);refine wpQuiet_nil ?_;refine ci rfl rfl ?_;go_big_quiet_step (fail);refine wpQuiet_nil ?_;refine ew 0 rfl rfl 26 (.tmp 4) (.tmp 303) rfl (cells:=OR) rfl (by rw[ro.out];rfl) (kO 0) (by rw[hos.out];kernel_rfl) rfl hone.out hW1.out rfl ?_;refine ew 1 rfl rfl 54 (.tmp 5) (.tmp 304) rfl (cells:=UR) rfl (by rw[ru.out];rfl) (kU 1) (by rw[hus.out];kernel_rfl) rfl hune.out hW2.out rfl ?_;refine dc 2 rfl rfl 31 (.tmp 6) (.const (.int .i64 0)) rfl rfl rfl (by kernel_rfl) rfl ((kE 2).cells 0) ((kE 2).frozen 0) hW3.out rfl ?_;refine cm ?_;intro W6 hb6;have hO6:=(kO _).call hb6;have hU6:=(kU _).call hb6;have hE6:=(kE _).call hb6;have hB6:=zbc hBk hb6;have hY6:=hYk.call hb6;clear o1 u1;go_wp2_with fail;refine Al q4 q2 q3 OR UR W6 rfl rfl rfl hE6 hO6 (by rw[ro.out];kernel_rfl) hU6 (by rw[ru.out];kernel_rfl) ?_;rw[hOR.out,hUR.out];exact hok W6 hB6 hY6
  ·go_wp2_with fail;refine(bT _ _).mono ?_;rintro e W5 ⟨rfl,rfl⟩;refine eJ q4 q2 q3 7 0 (by decide) _ _ W w rfl rfl rfl hE hO rfl hU rfl hB (by omega) (by omega) (by omega) (h7 (by simp at z2;omega))
 ·go_wp2_with fail;refine(bT _ _).mono ?_;rintro e W5 ⟨rfl,rfl⟩;refine eJ q4 q2 q3 7 0 (by decide) _ _ W w rfl rfl rfl hE hO rfl hU rfl hB (by omega) (by omega) (by omega) (h7 (by simp at z1;omega))
theorem Ay(w:World)(F R:Nat)(xs:List Int)(bl:Bool)(ca pa ha fu:Int)(pp:Option Addr)(cc:Nat)(m:Mv)(q0 q1 q2 q3 q4 qw qa cap:Nat)(x:Int)(cb:Bool)(wy:Option Cas)(T:Array Value)(hT:MkT T q0 q1 q2 q3 q4 x qw cb)(ys:List Int)(bo:Bool)(cao pao hao fuo:Int)(u:Und)(Rs:Ending→World→Prop)
  (hF:3≤F∧F≤8) (hR:3≤R∧R≤8) (hlen:xs.length=F*R) (hly:ys.length=xs.length) (hor:aF F R xs=true) (hcc:xs.length≤cc) (hcap:ys.length≤cap) (cr:Nat) (hcr:bA wy=(bA wy).set 5 (.int .i64 cr)) (hcrl:cr<F*R)
  (W:World) (hQ:MkQ w q0 q1 q2 q3 q4 qw) (hqa:q4<qa) (hC:MkC w ⟨F,R,xs,bl,ca,pa,ha,fu⟩ pp cc m q0 q1 q4 W) (hW:ac W qw (.cells (bA wy).toArray 104 (0,0)))
  (hO:ac W q2 (.cells (aa F R (some ⟨qa,0,none⟩) ys.length cap bo cao pao hao fuo).toArray 26 (0,0))) (hY:aC W qa cap ys) (hU:ac W q3 (.cells u.cs.toArray 54 (0,0)))
  (C:Bool) (hCd:C=(decide (chkS F R ys bl≠0)||(cb&&(decide (chkS F R xs bl≠0)||decide (atrW F R (setW gNon xs xs.length) xs cr (!bl) xs.length≠0)))))
  (h90:C=true→∀ w',Bw w w'→Rs (mkE 90) w')
  (h7:C=false→(10000<hao∨10000<fuo)→∀ w',Bw w w'→Rs (mkE 7) w')
  (hok:C=false→¬(10000<hao∨10000<fuo)→∀ w',Bw w w'→aC w' qa cap ys→Rs (.returned (.tuple #[.agg (aa F R (some ⟨qa,0,none⟩) ys.length cap bo cao pao hao fuo).toArray,.agg u.cs.toArray,.int .i64 0])) w')
  (cd:Code) (hcd:Tryz.f23.body.map (aq 23)=some cd):cd.wp Tryz.prog (bodyPostD Tryz.prog Tryz.f23 Rs) {tmps:=T,defers:=cw q4 q2 q3} W:=by
 obtain rfl:=Option.some.inj ((show Tryz.f23.body.map (aq 23)=some _ from rfl).symm.trans hcd);clear hcd;simp only[aq];obtain⟨X,rfl⟩:=hT.fr;clear hT;dsimp only[mkF,litB,Nat.reduceAdd];have hll:xs.length≤1000:=by rw[hlen];exact Nat.le_trans (Nat.mul_le_mul hF.2 hR.2) (by decide)
 have hat:=fun W hg hx=>ly F R cr (!bl) pp cc xs hF hR hlen hcrl hor W hg hx
 have hk1:=fun W hg hx=>jH F R cao pao hao fuo bo bl (some ⟨qa,0,none⟩) cap ys W hg hx (by omega) hcap
 have hk2:=fun W hg hx=>jH F R ca pa ha fu bl bl pp cc xs W hg hx hll hcc
 generalize atrW F R (setW gNon xs xs.length) xs cr (!bl) xs.length=AT at *;generalize chkS F R ys bl=C1 at *;generalize chkS F R xs bl=C2 at *;obtain⟨hB,hP,hM,hE,hG,hX⟩:=hC;have hwc:(bA wy).toArray[5]? = some (.int .i64 (cr:Int)):=by
  rw[hcr];have:(bA wy).length=6:=by cases wy<;>rfl
  simp[this]
 have⟨p1,l1⟩:=hP.cl;have w5:=hW.cells 5;rw[hwc]at w5;have l2:=hW.lt;clear hcr hwc;replace hlen:=zhd hlen;replace hly:=zhd hly;replace hor:=zhd hor;replace hCd:=zhd hCd;go_wp2_with fail;refine(hat W hG.1 hX).mono ?_;rintro e W2 ⟨rfl,hb2⟩;have hB2:=zbc hB hb2;have hP2:=hP.call hb2;have hE2:=hE.call hb2;have hG2:=hG.call hb2;have hX2:=hX.call hb2;have hO2:=hO.call hb2;have hY2:=hY.call hb2;have hU2:=hU.call hb2;clear p1 l1 w5 l2 hat hB hP hM hE hG hX hO hY hU hW;have⟨p1,l1⟩:=hP2.cl;have⟨p2,l2⟩:=hO2.cl;go_upto_region 37 with fail;rename_i hk38;replace hk38:=zhd hk38;go_wp2_with fail;refine(hk1 W2 hG2.1 hY2.arr).mono ?_;rintro e W3 ⟨rfl,hb2⟩;have hB3:=zbc hB2 hb2;have hP3:=hP2.call hb2;have hE3:=hE2.call hb2;have hG3:=hG2.call hb2;have hX3:=hX2.call hb2;have hO3:=hO2.call hb2;have hY3:=hY2.call hb2;have hU3:=hU2.call hb2;clear p1 l1 p2 l2 hE2 hG2 hk1;have hq:MkQ w q0 q1 q2 q3 q4 qw:=hQ;unfold MkQ at hq;have⟨p1,l1⟩:=hP3.cl;rcases z1:decide (C1≠0)with _|_
 ·rcases cb with _|_
  ·have hC:C=false:=by rw[hCd.out,z1];rfl
   go_wp2_with fail;refine(dC _ _).mono ?_;rintro e W5 ⟨rfl,rfl⟩;go_wp2_with fail;refine hk38.out _ _ ?_;refine yN w q0 q1 q2 q3 q4 qw qa cap x false _ ?_ F R ys bo cao pao hao fuo u Rs W3 hQ hqa hB3 hE3 hO3 hY3 hU3 (h7 hC) (hok hC) _ ?_
   ·exact⟨rfl,rfl,rfl,rfl,rfl,rfl,rfl,rfl,rfl⟩
   ·exact rfl
  ·go_wp2_with fail;refine(hk2 W3 hG3.1 hX3).mono ?_;rintro e W4 ⟨rfl,hb2⟩;have hB4:=zbc hB3 hb2;have hE4:=hE3.call hb2;have hO4:=hO3.call hb2;have hY4:=hY3.call hb2;have hU4:=hU3.call hb2;clear p1 l1;rcases z2:decide (C2≠0)with _|_
   ·rcases z3:((AT:Int) != 0)with _|_
    ·have hC:C=false:=by rw[hCd.out,z1,z2];simp at z3;simp[z3]
     go_wp2_with fail;refine(dC _ _).mono ?_;rintro e W5 ⟨rfl,rfl⟩;go_wp2_with fail;refine hk38.out _ _ ?_;refine yN w q0 q1 q2 q3 q4 qw qa cap x true _ ?_ F R ys bo cao pao hao fuo u Rs W4 hQ hqa hB4 hE4 hO4 hY4 hU4 (h7 hC) (hok hC) _ ?_
     ·exact⟨rfl,rfl,rfl,rfl,rfl,rfl,rfl,rfl,rfl⟩
     ·exact rfl
    ·go_wp2_with fail;refine(bT _ _).mono ?_;rintro e W5 ⟨rfl,rfl⟩;refine eJ q4 q2 q3 90 0 (by decide) _ _ W4 w rfl rfl rfl hE4 hO4 rfl hU4 rfl hB4 (by omega) (by omega) (by omega) (h90 (by rw[hCd.out,z1,z2];simp at z3;simp[z3]))
   ·go_wp2_with fail;refine(bT _ _).mono ?_;rintro e W5 ⟨rfl,rfl⟩;refine eJ q4 q2 q3 90 0 (by decide) _ _ W4 w rfl rfl rfl hE4 hO4 rfl hU4 rfl hB4 (by omega) (by omega) (by omega) (h90 (by rw[hCd.out,z1,z2];rfl))
 ·go_wp2_with fail;refine(bT _ _).mono ?_;rintro e W5 ⟨rfl,rfl⟩;refine eJ q4 q2 q3 90 0 (by decide) _ _ W3 w rfl rfl rfl hE3 hO3 rfl hU3 rfl hB3 (by omega) (by omega) (by omega) (h90 (by rw[hCd.out,z1];rfl))
end Go.Proofs.YtefmplccbkmalaaGreatDoor
