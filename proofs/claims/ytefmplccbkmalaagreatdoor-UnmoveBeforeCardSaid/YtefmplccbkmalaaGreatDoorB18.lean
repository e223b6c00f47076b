import Derived.Test.YtefmplccbkmalaaGreatDoorB11
import Derived.Test.YtefmplccbkmalaaGreatDoorB16
import Derived.Test.YtefmplccbkmalaaGreatDoorB17
import Derived.Sort.QuietTacIn
import Derived.Lib.QuietBelow
set_option maxRecDepth 100000
set_option maxHeartbeats 12800000
namespace Go.Proofs.YtefmplccbkmalaaGreatDoor
open Go.RowKit Go.Sort Go.BigFrame

theorem kF{F:Fence}{n:Nat}{P:Program}{fn:Func}{tmps:Array Value}{R:Ending→World→Prop}{w:World}{D:Nat}(hx:ac w D (.deferred (some [])))(h:LeavesIn F n P fn tmps R [] .returning (w.putObj D (.deferred none))):
  LeavesInM F n P fn tmps R [{target:=.collected D,args:=#[]}] .returning w:=⟨by simp,.inl ⟨_,_,rfl,run_takeDeferred hx,h⟩⟩
theorem ii(w:World)(D:Nat)(o:Obj):Alt D (D+1) w (w.putObj D o):=⟨rfl,rfl,rfl,by simp,fun k hk hr=>World.putObj_heap_other (by omega)⟩
section
variable {base qs:Nat} {F R:Nat} {xs:List Int} {bl:Bool} {can:Nat} {pa ha fu:Int} {pp:Option Addr} {cc occ:Nat} {v v0:Value} {L:List Ret} {w W W':World}
theorem Sea.alt(h:Sea base qs F R xs bl can pa ha fu pp cc occ v L W){lo hi:Nat}(ha2:Alt lo hi W W')(hbd:base≤lo)(hq:qs<lo)(hv:∀ k,v.ownBlock=some k→k<lo∨hi≤k):Sea base qs F R xs bl can pa ha fu pp cc occ v L W' :=
 ⟨h.st.below (ha2.below (Below.refl _ _) hbd h.st.b),ha2.hasO h.s (.inl hq),jP h.o (fun k _ e ho=>ha2.hasO ho (hv k e)),h.q⟩
theorem Nib.alt(h:Nib qs w W v0 v){lo hi:Nat}(ha2:Alt lo hi W W')(hw:w.heap.size≤lo):Nib qs w W' v0 v :=
 ⟨ha2.os.trans h.os,ha2.tape.trans h.tape,ha2.output.trans h.output,Nat.le_trans h.size ha2.size,fun k hk e1 e2=>(ha2.block k (Nat.lt_of_lt_of_le hk h.size) (.inl (by omega))).trans (h.block k hk e1 e2),h.near⟩
end
theorem yy{P:Pos}{tg:Nat}{c:Cas}(h:jW P tg c=false):iF P tg c=[]:=by unfold iF;rw[h];rfl
theorem wR{P:Pos}{tg:Nat}{c:Cas}(h:jW P tg c=true):iF P tg c=db P ⟨c.fr,tg,0⟩ 0 (-1):=by unfold iF;rw[h];rfl

def pcF(q2:Nat)(q3:Nat)(kk:Int)(X:Nat→Value):Array Value:=(litB (fun i=>match i with|2=>.pointer (some ⟨q2,0,none⟩)|3=>.pointer (some ⟨q3,0,none⟩)|4=>.int .i8 kk|i=>X i) 0 108).toArray
def pcT(T:Array Value)(q2:Nat)(q3:Nat)(kk:Int):Prop:=T.size=108∧ofA T 2=.pointer (some ⟨q2,0,none⟩)∧ofA T 3=.pointer (some ⟨q3,0,none⟩)∧ofA T 4=.int .i8 kk
theorem pcT.fr{T:Array Value}{q2:Nat}{q3:Nat}{kk:Int}(h:pcT T q2 q3 kk):∃ X,T=pcF q2 q3 kk X:=by obtain⟨hs,h2,h3,h4⟩:=h;refine⟨ofA T,(frB T hs).trans (congrArg (fun X=>(litB X 0 108).toArray) (funext fun i=>?_))⟩;split<;>first|assumption|rfl
theorem zB(F R:Nat)(xs:List Int)(bl:Bool)(can:Nat)(pa ha fu:Int)(pp:Option Addr)(cc occ:Nat)(hH:fA F R xs can ha fu)(hocc:occ=(⟨F,R,xs,bl,can,pa,ha,fu⟩:Pos).occ)(ho64:occ<2^64)(base qs q2 q3:Nat)(v0:Value)(w:World)(Bs:List (Nat×Obj))(tg:Nat)(htg:tg<xs.length)(D:Nat)(kk:Int)(hkk:kk=kindI ((⟨F,R,xs,bl,can,pa,ha,fu⟩:Pos).at_ tg))(v:Value)(L:List Ret)(hl:L.length≤899990000)
  (m2:(q2,Obj.cells #[.pointer (some ⟨qs,0,none⟩)] 69 (0,0))∈Bs) (m3:(q3,Obj.cells #[.int .i64 tg] 3 (0,0))∈Bs) (mD:(D,Obj.deferred (some []))∈Bs) (hbd:base≤D) (hq:qs<D) (hw:w.heap.size≤D) (hBq:∀ x∈Bs,x.1≠qs) (hBt:∀ x∈Bs,∀ cs,x.2≠.cells cs 42 (0,0))
  (T:Array Value) (hT:pcT T q2 q3 kk) (W:World) (hS:Sea base qs F R xs bl can pa ha fu pp cc occ v L W) (hN:Nib qs w W v0 v) (hB:∀ x∈Bs,ac W x.1 x.2) (Rs:Ending→World→Prop)
  (hok:∀ v' w',Sea base qs F R xs bl can pa ha fu pp cc occ v' (L++gE ⟨F,R,xs,bl,can,pa,ha,fu⟩ tg 4) w'→Nib qs w w' v0 v'→Rs (.returned (.tuple #[])) w')
  (cd:Code) (hcd:Tryz.f32.body.map (aq 4)=some cd):cd.wp Tryz.prog (bodyPostM Fence.wide 3 Tryz.prog Tryz.f32 Rs) {tmps:=T,defers:=[{target:=.collected D,args:=#[]}]} W:=by
 obtain rfl:=Option.some.inj ((show Tryz.f32.body.map (aq 4)=some _ from rfl).symm.trans hcd);clear hcd;simp only[aq];obtain⟨X,rfl⟩:=hT.fr;clear hT;dsimp only[pcF,litB,Nat.reduceAdd];obtain⟨CK,hCK⟩:∃ CK,CK=gE ⟨F,R,xs,bl,can,pa,ha,fu⟩ tg:=⟨_,rfl⟩;have hz0:CK 0=[]:=by rw[hCK];rfl
 have hnx0:∀ k c,az[k]? = some c→CK (k+1)=CK k++iF ⟨F,R,xs,bl,can,pa,ha,fu⟩ tg c:=fun k c h=>by rw[hCK];simp only[gE,h,Option.getD_some]
 have hll:∀ k,(CK k).length≤144*k:=fun k=>by rw[hCK];exact pb _ _ hH.hF.2 k
 rw[←hCK]at hok;replace hCK:=True.intro;have hcb:∀ c,jW ⟨F,R,xs,bl,can,pa,ha,fu⟩ tg c=((((F:Int)==8)&&((R:Int)==8))&&((kk==6)&&(((tg:Int)==c.tg)&&((c.bl==!bl)&&(bits .and .u64 ((occ:Int)/2^c.fr) 1==0))))):=fun c=>by
  rw[oq ho64,hkk,hocc];unfold jW;simp only[←Bool.beq_eq_decide_eq];congr 1
  ·congr 1<;>(rw[Bool.eq_iff_iff];simp;omega)
  ·congr 2;rw[Bool.eq_iff_iff];simp;omega
 replace hkk:=zhd hkk;replace hocc:=zhd hocc;have hld:=ld0 W hS.st.g;have hix:=ix0;generalize casV.toArray=cv at *;have hlen64:F=8→R=8→xs.length=64:=fun h1 h2=>by rw[hH.len,h1,h2]
 go_wp2_with (with_reducible refine cy rfl 132 (.global 0) rfl rfl hld ?_);go_loopg [59] 5 (fun q iv wr=>∃(i:Nat) (v':Value),q+i=5∧i≤4∧iv=.int .i64 i∧Sea base qs F R xs bl can pa ha fu pp cc occ v' (L++CK i) wr∧Nib qs w wr v0 v'∧(∀ x∈Bs,ac wr x.1 x.2)∧True)
 case atStart=>exact⟨0,v,rfl,Nat.zero_le _,rfl,by rw[hz0,List.append_nil];exact hS,hN,hB,trivial⟩
 case round =>
  clear hS hN hB hld;obtain⟨i,v',hq5,hi,rfl,hSr,hNr,hBr,hA2⟩:=hrel;by_cases hlt:i<4
  ·have hii:(i:Int)<4:=by omega
   obtain⟨c,hc,hcok,hix2⟩:=hix i hlt;have hnx:=hnx0 i c hc;have hli:=hll i;have hcb:=hcb c;have hno:jW ⟨F,R,xs,bl,can,pa,ha,fu⟩ tg c=false→Hid (CK (i+1)=CK i):=fun h=>zhd (by rw[hnx,yy h,List.append_nil])
   have hye:jW ⟨F,R,xs,bl,can,pa,ha,fu⟩ tg c=true→Hid (CK (i+1)=CK i++db ⟨F,R,xs,bl,can,pa,ha,fu⟩ ⟨c.fr,tg,0⟩ 0 (-1)):=fun h=>zhd (by rw[hnx,wR h])
   rw[hcb]at hno hye;clear hix hnx0 hll hnx hcb;have hcfr:(c.fr:Int)≤64:=by have:=hcok.2.1;omega
   have hS3:=hSr.call (ae wr (.cells c.cs.toArray 131));have hN3:=hNr.trans (Nib.of_below qs (ae wr (.cells c.cs.toArray 131)) v');have hC3:=ac.new wr (.cells c.cs.toArray 131);have hB3:∀ x∈Bs,ac (wr.alloc (.cells c.cs.toArray 131)) x.1 x.2:=fun x hx=>(hBr x hx).alloc _
   go_upto_region 12 with fail;change Code.wp _ _ _ _ (wr.alloc (.cells c.cs.toArray 131));generalize wr.alloc (.cells c.cs.toArray 131)=w3 at *;generalize wr.heap.size=q10 at *;clear hSr hNr hBr;have h8:=ms F R;have p0:∀ d os j,(grow (redrawn w3 d) os).cell? ⟨qs,j,none⟩=(#[.int .i64 F,.int .i64 R,.slice pp xs.length cc,.bool bl,.int .u8 can,.int .i64 pa,.int .i64 ha,.int .i64 fu,.int .u64 occ,v']:Array Value)[j]?:=am hS3.s;have e2:ac w3 q2 (.cells #[.pointer (some ⟨qs,0,none⟩)] 69 (0,0)):=hB3 _ m2;have e3:ac w3 q3 (.cells #[.int .i64 tg] 3 (0,0)):=hB3 _ m3;have b2:=cell_regrown ((e2.cells 0).trans (show _=some (Value.pointer (some ⟨qs,0,none⟩))from rfl));have b3:=cell_regrown ((e3.cells 0).trans (show _=some (Value.int .i64 tg)from rfl));have p1:∀ d os j,(grow (redrawn w3 d) os).cell? ⟨q10,j,none⟩=(#[.int .u8 c.bit,.bool c.bl,.int .i64 c.fr,.int .i64 c.tg,.int .i64 c.co,.int .i64 c.cr]:Array Value)[j]?:=am hC3;have g0:=cell_regrown hS3.st.g.2.2.2.1;have g1:=cell_regrown hS3.st.g.2.2.2.2;have h64:(((F:Int)==8)&&((R:Int)==8))=true→xs.length=64:=fun h=>by simp at h;exact hlen64 (by omega) (by omega)
   generalize (((F:Int)==8)&&((R:Int)==8))=B8 at *;rcases B8 with _|_
   ·have hLn:=hno (by simp);clear hno hye;refine ag (by kernel_rfl) (by kernel_rfl) ?_;repeat(go_big_quiet_step (fail))
    refine wpQuiet_nil ?_;intro w4 hb4;clear p0 b2 b3 p1 g0 g1 h8;go_wp2_with fail;go_roundg (gk-1)
    case measure=>omega
    case rel=>exact⟨i+1,v',by omega,by omega,by go_num,by rw[hLn.out];exact hS3.call hb4,hN3.trans (Nib.of_below qs hb4 v'),fun x hx=>(hB3 x hx).call hb4,hA2⟩
   ·rcases z1:(kk==6)with _|_
    ·have hLn:=hno (by rw[z1];rfl);clear hno hye;refine ag (by kernel_rfl) (by kernel_rfl) ?_;repeat(go_big_quiet_step (fail))
     refine wpQuiet_nil ?_;intro w4 hb4;clear p0 b2 b3 p1 g0 g1 h8;go_wp2_with fail;go_roundg (gk-1)
     case measure=>omega
     case rel=>exact⟨i+1,v',by omega,by omega,by go_num,by rw[hLn.out];exact hS3.call hb4,hN3.trans (Nib.of_below qs hb4 v'),fun x hx=>(hB3 x hx).call hb4,hA2⟩
    ·rcases z2:((tg:Int)==c.tg)with _|_
     ·have hLn:=hno (by rw[z1,z2];rfl);clear hno hye;refine ag (by kernel_rfl) (by kernel_rfl) ?_;repeat(go_big_quiet_step (fail))
      refine wpQuiet_nil ?_;intro w4 hb4;clear p0 b2 b3 p1 g0 g1 h8;go_wp2_with fail;go_roundg (gk-1)
      case measure=>omega
      case rel=>exact⟨i+1,v',by omega,by omega,by go_num,by rw[hLn.out];exact hS3.call hb4,hN3.trans (Nib.of_below qs hb4 v'),fun x hx=>(hB3 x hx).call hb4,hA2⟩
     ·rcases z3:(c.bl==!bl)with _|_
      ·have hLn:=hno (by rw[z1,z2,z3];rfl);clear hno hye;refine ag (by kernel_rfl) (by kernel_rfl) ?_;repeat(go_big_quiet_step (fail))
       refine wpQuiet_nil ?_;intro w4 hb4;clear p0 b2 b3 p1 g0 g1 h8;go_wp2_with fail;go_roundg (gk-1)
       case measure=>omega
       case rel=>exact⟨i+1,v',by omega,by omega,by go_num,by rw[hLn.out];exact hS3.call hb4,hN3.trans (Nib.of_below qs hb4 v'),fun x hx=>(hB3 x hx).call hb4,hA2⟩
      ·rcases z4:(bits .and .u64 ((occ:Int)/2^c.fr) 1==0)with _|_
       ·have hLn:=hno (by rw[z1,z2,z3,z4];rfl);clear hno hye;refine ag (by kernel_rfl) (by kernel_rfl) ?_;repeat(go_big_quiet_step (fail))
        refine wpQuiet_nil ?_;intro w4 hb4;clear p0 b2 b3 p1 g0 g1 h8;go_wp2_with fail;go_roundg (gk-1)
        case measure=>omega
        case rel=>exact⟨i+1,v',by omega,by omega,by go_num,by rw[hLn.out];exact hS3.call hb4,hN3.trans (Nib.of_below qs hb4 v'),fun x hx=>(hB3 x hx).call hb4,hA2⟩
       ·have hLn:=hye (by rw[z1,z2,z3,z4];rfl);have h64:=h64 rfl;clear hno hye;have htr:=fun W h=>gQ F R xs bl can pa ha fu pp cc occ hH base qs v' (L++CK i) (by rw[List.length_append];omega) ⟨c.fr,tg,0⟩ 0 (-1) c.fr tg rfl rfl (by have:=hcok.2.1;omega) htg W h
        refine ag (by kernel_rfl) (by kernel_rfl) ?_;repeat(go_big_quiet_step (fail))
        refine wpQuiet_nil ?_;intro w4 hb4;have hS4:=hS3.call hb4;have hB4:∀ x∈Bs,ac w4 x.1 x.2:=fun x hx=>(hB3 x hx).call hb4
        have hN4:=hN3.trans (Nib.of_below qs hb4 v');have hC4:=hC3.call hb4;clear p0 b2 b3 p1 g0 g1 h8 hS3 hC3 e2 e3;have e2:ac w4 q2 (.cells #[.pointer (some ⟨qs,0,none⟩)] 69 (0,0)):=hB4 _ m2;have e3:ac w4 q3 (.cells #[.int .i64 tg] 3 (0,0)):=hB4 _ m3;have b2:=e2.cells 0;have b3:=e3.cells 0;have b10:=hC4.cells 2;have l2:=e2.lt;have l3:=e3.lt;have l10:=hC4.lt;clear e2 e3;go_wp2_with fail;refine(htr w4 hS4).mono ?_;rintro e w5 ⟨rfl,v5,hS5,hN5⟩;have hB5:∀ x∈Bs,ac w5 x.1 x.2:=fun x hx=>hN5.hasO (hB4 x hx) (hBq x hx) (aY hS4.o (hB4 x hx) (hBt x hx))
        have hN6:=hN4.trans hN5;clear htr hS4 b2 b3 b10 l2 l3 l10;go_wp2_with fail;go_roundg (gk-1)
        case measure=>omega
        case rel=>exact⟨i+1,v5,by omega,by omega,by go_num,by rw[hLn.out,←List.append_assoc];exact hS5,hN6,hB5,trivial⟩
  ·obtain rfl:i=4:=by omega
   go_wp2_with fail;have hD:ac wr D (.deferred (some [])):=hBr _ mD;have hne:=aY hSr.o hD (by simp);refine kF hD ⟨_,results_none rfl _ _ _,hok v' _ (hSr.alt (ii wr D _) hbd hq (fun k e=>?_)) (hNr.alt (ii wr D _) hw)⟩;rcases Nat.lt_trichotomy k D with h|h|h
   ·exact .inl h
   ·subst h;exact absurd e hne
   ·exact .inr h
theorem xe(P:Pos)(tg:Nat):pieS P tg<2^(P.F*P.R):=Nat.lt_of_le_of_lt Nat.and_le_left (reachW_lt _)
theorem vW{S n k:Nat}(h:S<2^n)(hk:k<(bitsL S).length):(bitsL S)[k]?.getD 0<n:=by
 rw[List.getElem?_eq_getElem hk,Option.getD_some];have h1:=(oD.1 (List.getElem_mem hk)).2;rcases Nat.lt_or_ge ((bitsL S)[k]) n with h2|h2
 ·exact h2
 ·rw[Nat.testBit_lt_two_pow (Nat.lt_of_lt_of_le h (Nat.pow_le_pow_right (by decide) h2))]at h1;cases h1
theorem vg(F R:Nat)(xs:List Int)(bl:Bool)(can:Nat)(pa ha fu:Int)(pp:Option Addr)(cc occ:Nat)(hH:fA F R xs can ha fu)(hocc:occ=(⟨F,R,xs,bl,can,pa,ha,fu⟩:Pos).occ)(ho64:occ<2^(F*R))(base qs:Nat)(v:Value)(L:List Ret)(hl:L.length≤899800000)(tg:Nat)(htg:tg<xs.length)(hk26:2≤kindI ((⟨F,R,xs,bl,can,pa,ha,fu⟩:Pos).at_ tg)∧kindI ((⟨F,R,xs,bl,can,pa,ha,fu⟩:Pos).at_ tg)≤6)(w:World)(hS:Sea base qs F R xs bl can pa ha fu pp cc occ v L w):
  Clz 32 #[.pointer (some ⟨qs,0,none⟩),.int .i64 tg] w (lV base qs F R xs bl can pa ha fu pp cc occ v (L++ft ⟨F,R,xs,bl,can,pa,ha,fu⟩ tg) w):=by
 obtain⟨g,o,rfl,hgw⟩:=bQ hS.st.x htg;obtain⟨Rs,hRs⟩:∃ Rs,Rs=lV base qs F R xs bl can pa ha fu (some ⟨g,o,none⟩) cc occ v (L++ft ⟨F,R,xs,bl,can,pa,ha,fu⟩ tg) w:=⟨_,rfl⟩;rw[←hRs];have hFR:F*R≤64:=Nat.mul_le_mul hH.hF.2 hH.hR.2;have ho64':occ<2^64:=Nat.lt_of_lt_of_le ho64 (Nat.pow_le_pow_right (by decide) hFR);have hSlt:=xe ⟨F,R,xs,bl,can,pa,ha,fu⟩ tg;have hS64:pieS ⟨F,R,xs,bl,can,pa,ha,fu⟩ tg<18446744073709551616:=Nat.lt_of_lt_of_le hSlt (Nat.pow_le_pow_right (by decide) hFR);have hSdef:pieS ⟨F,R,xs,bl,can,pa,ha,fu⟩ tg=reachW F R tg occ (kindI ((⟨F,R,xs,bl,can,pa,ha,fu⟩:Pos).at_ tg))&&&(2^64-1-occ):=by rw[hocc];rfl
 have hrlt:reachW F R tg occ (kindI ((⟨F,R,xs,bl,can,pa,ha,fu⟩:Pos).at_ tg))<2^64:=Nat.lt_of_lt_of_le (reachW_lt _) (Nat.pow_le_pow_right (by decide) hFR);have hpl:ft ⟨F,R,xs,bl,can,pa,ha,fu⟩ tg=dT ⟨F,R,xs,bl,can,pa,ha,fu⟩ tg (bitsL (pieS ⟨F,R,xs,bl,can,pa,ha,fu⟩ tg)).length++gE ⟨F,R,xs,bl,can,pa,ha,fu⟩ tg 4:=rfl;have hpk:∀ k,dT ⟨F,R,xs,bl,can,pa,ha,fu⟩ tg (k+1)=dT ⟨F,R,xs,bl,can,pa,ha,fu⟩ tg k++lT ⟨F,R,xs,bl,can,pa,ha,fu⟩ tg ((bitsL (pieS ⟨F,R,xs,bl,can,pa,ha,fu⟩ tg))[k]?.getD 0):=fun k=>rfl
 have hp0:dT ⟨F,R,xs,bl,can,pa,ha,fu⟩ tg 0=[]:=rfl;have hpn:∀ k,(dT ⟨F,R,xs,bl,can,pa,ha,fu⟩ tg k).length≤720*k:=fun k=>nE _ _ hH.hF.2 k
 have hbl:=fk (pieS ⟨F,R,xs,bl,can,pa,ha,fu⟩ tg);have hblt:=fun k h=>vW (k:=k) hSlt h
 have hat:(⟨F,R,xs,bl,can,pa,ha,fu⟩:Pos).at_ tg=xs[tg]?.getD 0:=by unfold Pos.at_;rw[Int.toNat_natCast]
 have hx6:=hH.h6 (xs[tg]?.getD 0) (by rw[List.getElem?_eq_getElem htg];exact List.getElem_mem htg);obtain⟨kk,hkk⟩:∃ kk,kk=kindI ((⟨F,R,xs,bl,can,pa,ha,fu⟩:Pos).at_ tg):=⟨_,rfl⟩;have hki:∀ W,Clz 30 #[.int .i8 (xs[tg]?.getD 0)] W fun e w'=>e=.returned (.int .i8 kk)∧W=w':=fun W=>by
  rw[hkk,hat];exact kC _ (by omega) W
 have hre:=fun W (hg:bq W)=>iT F R tg occ kk (by rw[hkk];exact hk26) hH.hF hH.hR (by rw[←hH.len];exact htg) ho64 W hg
 rw[←hkk]at hSdef hrlt;have hand:=sj hrlt ho64';rw[←hSdef]at hand;have hti:(tg:Int)<xs.length:=by omega
 have hq2:w.heap.size<(w.alloc (.cells #[.pointer (some ⟨qs,0,none⟩)] 69)).heap.size:=by simp
 obtain⟨W1,hW1⟩:∃ W1,W1=(w.alloc (.cells #[.pointer (some ⟨qs,0,none⟩)] 69)).alloc (.cells #[.int .i64 tg] 3):=⟨_,rfl⟩;have hB:Bw w W1:=by subst hW1;exact(ae w _).alloc (by simp) _
 have hM2:ac W1 w.heap.size (.cells #[.pointer (some ⟨qs,0,none⟩)] 69 (0,0)):=by subst hW1;exact(ac.new w _).alloc _
 have hM3:ac W1 (w.heap.size+1) (.cells #[.int .i64 tg] 3 (0,0)):=by subst hW1;exact ac.new' _ _ (by simp)
 have hqs:=hS.s.lt;have hS1:=hS.call hB;have hN1:Nib qs w W1 v v:=Nib.of_below qs hB v;have hc1:=hgw;rw[←hB.cell (p:=⟨g,o+tg,none⟩) (block_lt_of_cell hgw)]at hc1;generalize hx:xs[tg]?.getD 0=x at *;generalize pieS ⟨F,R,xs,bl,can,pa,ha,fu⟩ tg=S at *;generalize reachW F R tg occ kk=RS at *;replace hx:=zhd hx;replace hRs:=zhd hRs;replace hocc:=zhd hocc;replace hkk:=zhd hkk;replace hSdef:=zhd hSdef;replace hat:=zhd hat;replace hW1:=zhd hW1;replace hpl:=zhd hpl;refine(callsIn_wide (n:=3)).1 ?_;refine callsIn_of_wp_marks Tryz.func32 rfl trivial ?_ rfl;simp only[Tryz.ntmps32,List.size_toArray,List.length_cons,List.length_nil,Nat.reduceAdd,Nat.reduceSub,Array.replicate_succ,Array.replicate_zero,List.push_toArray,List.append_toArray,List.nil_append,List.cons_append];rw[wpIn_wide];go_upto_region 1 with fail;change Code.wp _ _ _ _ ((w.alloc (.cells #[.pointer (some ⟨qs,0,none⟩)] 69)).alloc (.cells #[.int .i64 tg] 3));rw[←hW1.out];obtain⟨q2,hq2e⟩:∃ q2,q2=w.heap.size:=⟨_,rfl⟩;rw[←hq2e]at hM2 hM3 ⊢;replace hq2e:=zhd hq2e;have p0:∀ d os j,(grow (redrawn W1 d) os).cell? ⟨qs,j,none⟩=(#[.int .i64 F,.int .i64 R,.slice (some ⟨g,o,none⟩) xs.length cc,.bool bl,.int .u8 can,.int .i64 pa,.int .i64 ha,.int .i64 fu,.int .u64 occ,v]:Array Value)[j]?:=am hS1.s;have b2:=cell_regrown ((hM2.cells 0).trans (show _=some (Value.pointer (some ⟨qs,0,none⟩))from rfl));have b3:=cell_regrown ((hM3.cells 0).trans (show _=some (Value.int .i64 tg)from rfl));have bx:=cell_regrown hc1;have t1:=aJ (w:=W1) hki;refine ag (by kernel_rfl) (by kernel_rfl) ?_;repeat(go_big_quiet_step (first|with_reducible exact t1 _ _|fail))
 refine wpQuiet_nil ?_;intro W2 hb2;have hS2:=hS1.call hb2;have hN2:=hN1.trans (Nib.of_below qs hb2 v);have hM22:=hM2.call hb2;have hM32:=hM3.call hb2;clear p0 b2 b3 bx t1 hki hc1 hgw hS1;go_upto_region 2 with fail;have p0:∀ d os j,(grow (redrawn W2 d) os).cell? ⟨qs,j,none⟩=(#[.int .i64 F,.int .i64 R,.slice (some ⟨g,o,none⟩) xs.length cc,.bool bl,.int .u8 can,.int .i64 pa,.int .i64 ha,.int .i64 fu,.int .u64 occ,v]:Array Value)[j]?:=am hS2.s;have b2:=cell_regrown ((hM22.cells 0).trans (show _=some (Value.pointer (some ⟨qs,0,none⟩))from rfl));have b3:=cell_regrown ((hM32.cells 0).trans (show _=some (Value.int .i64 tg)from rfl));have t1:=ax (w:=W2) (fun W h=>hre W (hS2.st.g.call h).1);refine ag (by kernel_rfl) (by kernel_rfl) ?_;repeat(go_big_quiet_step (first|with_reducible exact t1 _ _|fail))
 refine wpQuiet_nil ?_;intro W3 hb3;have hS3:=hS2.call hb3;have hN3:=hN2.trans (Nib.of_below qs hb3 v);have hM23:=hM22.call hb3;have hM33:=hM32.call hb3;clear p0 b2 b3 t1 hre hS2;go_upto_region 3 with fail;rename_i k0 hk0 k1 hk1;replace hk0:=zhd hk0;have p0:∀ j,W3.cell? ⟨qs,j,none⟩=(#[.int .i64 F,.int .i64 R,.slice (some ⟨g,o,none⟩) xs.length cc,.bool bl,.int .u8 can,.int .i64 pa,.int .i64 ha,.int .i64 fu,.int .u64 occ,v]:Array Value)[j]?:=hS3.s.cells;have b2:=hM23.cells 0;have l0:=hS3.s.lt;have l2:=hM23.lt;go_wp2_with fail;refine(nF S W3).mono ?_;rintro e W4 ⟨rfl,hE4,hb4,hz4⟩;have hS4:=hS3.call hb4;have hN4:=hN3.trans (Nib.of_below qs hb4 v);have hM24:=hM23.call hb4;have hM34:=hM33.call hb4;have hlM:=hM23.lt;have hlM3:=hM33.lt;obtain⟨q1,hq1⟩:∃ q,q=W3.heap.size:=⟨_,rfl⟩;rw[←hq1]at hE4 hz4 l0 hlM hlM3 ⊢;replace hq1:=zhd hq1;replace hz4:=zhd hz4;obtain⟨Bs,hBs⟩:∃ Bs:List (Nat×Obj),Bs=[(q2,.cells #[.pointer (some ⟨qs,0,none⟩)] 69 (0,0)),(q2+1,.cells #[.int .i64 tg] 3 (0,0)),(q1,.cells #[.int .u64 S] 64 (0,0))]:=⟨_,rfl⟩;have hLd:∀ x∈Bs,ac W4 x.1 x.2:=by
  intro x hx;rw[hBs]at hx;simp only[List.mem_cons,List.not_mem_nil,or_false]at hx;rcases hx with rfl|rfl|rfl
  ·exact hM24
  ·exact hM34
  ·exact hE4
 have hBD:∀ x∈Bs,x.1<W4.heap.size:=fun x hx=>(hLd x hx).lt
 have hBq:∀ x∈Bs,x.1≠qs:=by
  have h1:=hq2e.out;intro x hx;rw[hBs]at hx;simp only[List.mem_cons,List.not_mem_nil,or_false]at hx;rcases hx with rfl|rfl|rfl
  ·show q2≠qs;omega
  ·show q2+1≠qs;omega
  ·show q1≠qs;omega
 have hBt:∀ x∈Bs,∀ cs,x.2≠.cells cs 42 (0,0):=by intro x hx;rw[hBs]at hx;simp only[List.mem_cons,List.not_mem_nil,or_false]at hx;rcases hx with rfl|rfl|rfl<;>intro cs h<;>(injection h with _ h;exact absurd h (by decide))
 have m2:(q2,Obj.cells #[.pointer (some ⟨qs,0,none⟩)] 69 (0,0))∈Bs:=by rw[hBs];simp
 have m3:(q2+1,Obj.cells #[.int .i64 tg] 3 (0,0))∈Bs:=by rw[hBs];simp
 have m1:(q1,Obj.cells #[.int .u64 S] 64 (0,0))∈Bs:=by rw[hBs];simp
 replace hBs:=zhd hBs;have hw4:w.heap.size≤W4.heap.size:=hN4.size;have hqW4:qs<W4.heap.size:=by have:=hz4.out;omega
 have hbW4:base≤W4.heap.size:=hS4.st.b;have hpkl:∀ k,k≤64→(L++dT ⟨F,R,xs,bl,can,pa,ha,fu⟩ tg k).length≤899900000:=fun k hk=>by rw[List.length_append];have:=hpn k;omega
 clear hS3 p0 b2 l2 hE4 hand hrlt;go_wp2_with fail;refine(wpIn_wide (n:=3)).1 ?_;refine fz (gf:=86) (lb:=#[.pointer (some ⟨q1,0,none⟩)]) rfl (enters_of Tryz.func86 (by kernel_rfl) rfl) (oR q1 S hS64) (fun _ _=>rfl)
  (fun c k W=>dV base qs F R xs bl can pa ha fu (some ⟨g,o,none⟩) cc occ v w Bs W4.heap.size c (L++dT ⟨F,R,xs,bl,can,pa,ha,fu⟩ tg k) W) (fun _ _ _ _=>False) ?hst ?hstx ?hRd ?hsz ?hszx ?h0 ?hbody ?hdone ?hstop ?hpanic
 case hstx=>intro _ _ _ _ _ _ h;exact h.elim
 case hszx=>intro _ _ _ _ _ h;exact h.elim
 case hstop=>intro _ _ _ _ _ _ h;exact h.elim
 case hpanic=>intro _ _ _ _ _ h;exact h.elim
 case hsz=>rintro c k W _ ⟨_,_,_,_,_,h⟩;exact h
 case hRd=>rintro c k W _ ⟨_,h1,_,_,h2,_⟩;exact⟨h2 _ m1,h1.st.t⟩
 case hst=>intro c k W W' hc h ha2;exact h.alt ha2 (Nat.le_refl _) (Nat.le_refl _) hbW4 hqW4 hBD hw4
 case h0=>intro c W hbW hcc hzW;refine⟨v,by rw[hp0,List.append_nil];exact hS4.call hbW,hN4.trans (Nib.of_below qs hbW v),fun k e=>?_,fun x hx=>(hLd x hx).call hbW,by omega⟩;have:=(hS4.o.lt k e).2;omega
 case hbody =>
  rintro c k W hcc hk hI hT;refine wY F R xs bl can pa ha fu (some ⟨g,o,none⟩) cc occ hH base qs q2 (q2+1) v w Bs tg htg W4.heap.size c k ((bitsL S)[k]?.getD 0) (by rw[hH.len];exact hblt k hk) (fun i=>L++dT ⟨F,R,xs,bl,can,pa,ha,fu⟩ tg i) (by show L++dT ⟨F,R,xs,bl,can,pa,ha,fu⟩ tg (k+1)=_;rw[hpk,List.append_assoc]) (hpkl k (by omega)) m2 m3 hbW4 hqW4 hBD hw4 hcc hBq hBt _ ?_ W hI (_,_) rfl;refine⟨?_,?_,?_,?_⟩
  all_goals first|rfl|(simp[ofA];done)|kernel_rfl
 case hdone =>
  rintro c W hcc ⟨v5,hS5,hN5,hA5,hB5,hc5⟩ hD;refine hk0.out _ _ ?_;have hpll:∀ L',L'++ft ⟨F,R,xs,bl,can,pa,ha,fu⟩ tg=L'++dT ⟨F,R,xs,bl,can,pa,ha,fu⟩ tg (bitsL S).length++gE ⟨F,R,xs,bl,can,pa,ha,fu⟩ tg 4:=fun L'=>by rw[hpl.out,List.append_assoc]
  refine zB F R xs bl can pa ha fu (some ⟨g,o,none⟩) cc occ hH hocc.out ho64' base qs q2 (q2+1) v w ((W4.heap.size,.deferred (some []))::Bs) tg htg W4.heap.size kk hkk.out v5 (L++dT ⟨F,R,xs,bl,can,pa,ha,fu⟩ tg (bitsL S).length) (by rw[List.length_append];have:=hpn (bitsL S).length;omega) (List.mem_cons_of_mem _ m2) (List.mem_cons_of_mem _ m3) List.mem_cons_self hbW4 hqW4 hw4
   (fun x hx=>?_) (fun x hx=>?_) _ ⟨rfl,rfl,rfl,rfl⟩ W hS5 hN5 (fun x hx=>?_) Rs (fun v' w' h1 h2=>?_) _ rfl
  ·rcases List.mem_cons.1 hx with rfl|hx
   ·show W4.heap.size≠qs;omega
   ·exact hBq x hx
  ·rcases List.mem_cons.1 hx with rfl|hx
   ·intro cs h;cases h
   ·exact hBt x hx
  ·rcases List.mem_cons.1 hx with rfl|hx
   ·exact hD
   ·exact hB5 x hx
  ·rw[hRs.out];exact⟨rfl,v',by rw[hpll];exact h1,h2⟩
end Go.Proofs.YtefmplccbkmalaaGreatDoor
namespace Go.Proofs.YtefmplccbkmalaaGreatDoor
open Go Go.RowKit

def ndB(ops:Array Oper):Bool:=ops.toList.all fun o=>match o.op with | .defer _=>false|_=>true
theorem wk{ops:Array Oper}(h:ndB ops=true){i:Nat}{o:Oper}(ho:ops[i]? = some o):∀ c,o.op≠.defer c:=by
 intro c e;have h1:=List.all_eq_true.1 h o (by
  have:=List.mem_of_getElem? (l:=ops.toList) (i:=i) (by rw[Array.getElem?_toList];exact ho);exact this)
 rw[e]at h1;cases h1
section
variable {F:Fence} {n:Nat} {P:Program} {ops:Array Oper} {C:World→Prop}
theorem r7{o:Oper}{a:Act}{K:Act→Prop}{K':Act→World→Prop}{Q':Exit→Act→World→Prop}{w:World}(hnd:∀ c,o.op≠.defer c)(hw:C w)(h:∀ a w',C w'→K a→K' a w')
  (ha:o.askedIn F P a C) (hh:o.quietIn F n P a C K):o.wpIn F n P a w K' Q':=by
 obtain⟨v,h1,h2⟩:=hh;have h3:=h1 w hw;unfold Oper.quietAtIn at h3;unfold Oper.wpIn;refine⟨ha w hw,?_⟩;rw[Oper.semAt_eq F.round a.eval o hnd];revert h3;rcases(execOp a.eval o).run P w with⟨x,w'⟩|⟨x,w'⟩
 ·cases x<;>simp only[Oper.quietUponIn,Oper.uponIn]<;>intro h3
  case value u=>rw[h3.1,h3.2];exact h _ _ hw h2
  case skip=>rw[h3.1,←h3.2];exact h _ _ hw h2
  case enter f args=>rw[h3.1];exact⟨h3.2.1,h3.2.2.mono fun e w'' he=>by rw[he.1];exact h _ _ he.2 h2⟩
  all_goals exact h3.elim
 ·simp only[Oper.quietUponIn];exact fun h=>h.elim
theorem tx{Q:Act→Prop}{Q':Exit→Act→World→Prop}(hnd:ndB ops=true)(hQ:∀ a w,C w→Q a→Q' .normal a w):∀(f:Nat) (listed:Array Bool) (a:Act) (w:World),C w →
  wpAnyQIn F n P .any ops C Q f listed a→wpAnyIn F n P .any ops Q' f listed a w:=by
 intro f;induction f with
 | zero=>exact fun listed a w hw h=>⟨h.1,hQ _ _ hw h.2⟩
 | succ f ih =>
  intro listed a w hw h;refine⟨fun h0=>hQ _ _ hw (h.1 h0),fun i hi=>?_⟩;have h2:=h.2 i hi;unfold qOpIn at h2;unfold wpOpIn;rcases ho:ops[i]? with _|o
  ·simp only[ho]at h2 ⊢;exact ih _ _ _ hw h2
  ·simp only[ho]at h2 ⊢;rcases hwd:Region.wanted o (yielded ops a.tmps)with _|_
   ·simp only[hwd,Bool.false_eq_true,if_false]at h2 ⊢;exact⟨h2.1 w hw,ih _ _ _ hw h2.2⟩
   ·simp only[hwd,if_true]at h2 ⊢;exact r7 (wk hnd ho) hw (fun a' w' hw' h'=>ih _ a' w' hw' h') h2.1 h2.2
theorem gy{id:Nat}{Q:Exit→Act→World→Prop}{a:Act}{w:World}{l:List Oper}(hm:P.follows .mixedOrders=true)(hB:(Region.lexB .any l.toArray&&ndB l.toArray)=true)
  (h:wpQuietIn F n P l.toArray (fun w'=>∃ n,w'=w.drewN n) (fun a'=>∀ w',Bw w w'→Q .normal a' w') l a):(Code.region id l.toArray true).wpIn F n P Q a w:=by
 rw[Bool.and_eq_true]at hB;obtain⟨hB,hnd⟩:=hB;simp only[Region.lexB,Bool.and_eq_true]at hB;refine wpIn_region_any hm (tx (C:=fun w'=>∃ n,w'=w.drewN n) (Q:=fun a'=>∀ w',Bw w w'→Q .normal a' w') hnd ?_ _ _ _ _ ⟨1,rfl⟩ ?_)
 ·rintro a' w' ⟨k,rfl⟩ hq;exact hq _ ⟨rfl,rfl,rfl,Nat.le_refl _,fun _ _=>rfl⟩
 ·have:=wpAnyQIn_lex (F:=F) (n:=n) (P:=P) (C:=fun w'=>∃ n,w'=w.drewN n) (md:=.any) hB.1 l 0 (Array.replicate l.toArray.size false) a (by simp) (by simpa using hB.2) h;simpa using this
end
end Go.Proofs.YtefmplccbkmalaaGreatDoor
namespace Go.Proofs.YtefmplccbkmalaaGreatDoor
open Go.RowKit Go.Sort Go.BigFrame
attribute [local go_sem] Oper.semAt_some

section
variable {base qs:Nat} {F R:Nat} {xs:List Int} {bl:Bool} {can:Nat} {pa ha fu:Int} {pp:Option Addr} {cc occ:Nat} {v0 v2:Value} {w:World} {Bs:List (Nat×Obj)} {D c:Nat} {L2 L4:List Ret} {W2 W4:World}
theorem dV.step(hS2:Sea base qs F R xs bl can pa ha fu pp cc occ v2 L2 W2)(hN2:Nib qs w W2 v0 v2)(hA2:∀ k,v2.ownBlock=some k→k<D∨c≤k)(hB2:∀ x∈Bs,ac W2 x.1 x.2)(hc2:c≤W2.heap.size)(hq:qs<D)(hBq:∀ x∈Bs,x.1≠qs)(hBt:∀ x∈Bs,∀ cs,x.2≠.cells cs 42 (0,0))
  {v4:Value} (_:Sea base qs F R xs bl can pa ha fu pp cc occ v4 L4 W4) (hN4:Nib qs W2 W4 v2 v4):(Nib qs w W4 v0 v4∧(∀ k,v4.ownBlock=some k→k<D∨c≤k)∧(∀ x∈Bs,ac W4 x.1 x.2)∧c≤W4.heap.size)∧∀ q o,D≤q→q<c→ac W2 q o→ac W4 q o:=by
 refine⟨⟨hN2.trans hN4,fun j e=>?_,fun x hx=>hN4.hasO (hB2 x hx) (hBq x hx) (aY hS2.o (hB2 x hx) (hBt x hx)),Nat.le_trans hc2 hN4.size⟩,fun q o h1 h2 ho=>hN4.hasO ho (by omega) (fun e=>by have:=hA2 q e;omega)⟩;rcases hN4.near j e with h|h
 ·exact hA2 j h
 ·right;omega
theorem nM{xs:List Int}{bl:Bool}{k:Nat}(hk:k<(bitsL (setW (if bl then gPos else gNeg) xs xs.length)).length):((bitsL (setW (if bl then gPos else gNeg) xs xs.length))[k]?.getD 0)<xs.length∧1≤kindI (xs[((bitsL (setW (if bl then gPos else gNeg) xs xs.length))[k]?.getD 0)]?.getD 0):=by rw[List.getElem?_eq_getElem hk,Option.getD_some];have h1:=(oD.1 (List.getElem_mem hk)).2;generalize (bitsL (setW (if bl then gPos else gNeg) xs xs.length))[k]=a at *;rw[setW_bit,Bool.and_eq_true,decide_eq_true_eq]at h1;refine⟨h1.1,?_⟩;have h2:=h1.2;unfold kindI;cases bl<;>simp[gPos,gNeg]at h2<;>split<;>omega
end
theorem ut(n s:Nat)(hs:1≤s)(hn:n≤8192)(W:World):(binOp .quo 3 (.int .i64 (n:Nat)) (.int .i64 (s:Nat))).run Tryz.prog W=.ok (.int .i64 ((n/s:Nat):Int)) W:=by
 have h2:n/s≤n:=Nat.div_le_self _ _;have h1:IntKind.i64.wrap ((n/s:Nat):Int)=((n/s:Nat):Int):=by generalize n/s=d at *;exact IntWalk.i64_in _ (by omega)
 have h3:(n:Int).tdiv (s:Int)=((n/s:Nat):Int):=rfl;have h4:¬s=0:=by omega
 simp only[go_sem,h3,h1];simp[h4]
def mbF(q1:Nat)(q7:Nat)(q9:Nat)(x:Nat)(X:Nat→Value):Array Value:=(litB (fun i=>match i with|1=>.pointer (some ⟨q1,0,none⟩)|7=>.pointer (some ⟨q7,0,none⟩)|9=>.pointer (some ⟨q9,0,none⟩)|44=>.int .i64 x|i=>X i) 0 84).toArray
def mbT(T:Array Value)(q1:Nat)(q7:Nat)(q9:Nat)(x:Nat):Prop:=T.size=84∧ofA T 1=.pointer (some ⟨q1,0,none⟩)∧ofA T 7=.pointer (some ⟨q7,0,none⟩)∧ofA T 9=.pointer (some ⟨q9,0,none⟩)∧ofA T 44=.int .i64 x
theorem mbT.fr{T:Array Value}{q1:Nat}{q7:Nat}{q9:Nat}{x:Nat}(h:mbT T q1 q7 q9 x):∃ X,T=mbF q1 q7 q9 x X:=by obtain⟨hs,h1,h7,h9,h44⟩:=h;refine⟨ofA T,(frB T hs).trans (congrArg (fun X=>(litB X 0 84).toArray) (funext fun i=>?_))⟩;split<;>first|assumption|rfl
theorem yF(F R:Nat)(xs:List Int)(bl:Bool)(can:Nat)(pa ha fu:Int)(g o cc occ:Nat)(hH:fA F R xs can ha fu)(hocc:occ=(⟨F,R,xs,bl,can,pa,ha,fu⟩:Pos).occ)(ho64:occ<2^(F*R))(base qs q1 q7 q9:Nat)(v0:Value)(w:World)(Bs:List (Nat×Obj))(la:Nat)(hla:la=if bl then R-1 else 0)(D c k x:Nat)(hx:x<xs.length)(hx1:1≤kindI ((⟨F,R,xs,bl,can,pa,ha,fu⟩:Pos).at_ x))(LK:Nat→List Ret)(hnx:LK (k+1)=LK k++skC ⟨F,R,xs,bl,can,pa,ha,fu⟩ x)(hl:(LK k).length≤899000000)
  (m1:(q1,Obj.cells (aa F R (some ⟨g,o,none⟩) xs.length cc bl can pa ha fu).toArray 26 (0,0))∈Bs) (m7:(q7,Obj.cells #[.pointer (some ⟨qs,0,none⟩)] 69 (0,0))∈Bs) (m9:(q9,Obj.cells #[.int .i64 la] 3 (0,0))∈Bs) (hbd:base≤D) (hq:qs<D) (hB:∀ x∈Bs,x.1<D) (hw:w.heap.size≤D) (hc:D+2≤c) (hBq:∀ x∈Bs,x.1≠qs) (hBt:∀ x∈Bs,∀ cs,x.2≠.cells cs 42 (0,0))
  (T:Array Value) (hT:mbT T q1 q7 q9 x) (W:World) (hI:dV base qs F R xs bl can pa ha fu (some ⟨g,o,none⟩) cc occ v0 w Bs D c (LK k) W)
  (ab:Code×Code) (hab:Tryz.f11.body.bind bS=some ab) :
  ab.1.wpIn (Fence.wide.inRound (D+1)) 3 Tryz.prog (Exit.then (fun a₁ W₁=>(∀ q o,(D≤q∧q<c)→ac W q o→ac W₁ q o) ∧
     ∀ W₂,Alt (D+1) (D+2) W₁ W₂→W₂.heap.size=W₁.heap.size→(∃ r,ac W₂ (D+1) (.loop r)) →
      ab.2.wpIn (Fence.wide.inRound (D+1)) 3 Tryz.prog (nf (D+1) D (fun i=>dV base qs F R xs bl can pa ha fu (some ⟨g,o,none⟩) cc occ v0 w Bs D c (LK i)) (fun _ _=>False) k (fun D q=>D+2≤q∧q<c) W₂) a₁ W₂) (fun _ _ _=>False))
    {tmps:=T,defers:=[]} W:=by
 obtain rfl:=Option.some.inj ((show Tryz.f11.body.bind bS=some _ from rfl).symm.trans hab);clear hab;obtain⟨X,rfl⟩:=hT.fr;clear hT;dsimp only[mbF,litB,Nat.reduceAdd];have hFR:F*R≤64:=Nat.mul_le_mul hH.hF.2 hH.hR.2;have ho64':occ<2^64:=Nat.lt_of_lt_of_le ho64 (Nat.pow_le_pow_right (by decide) hFR);have hat:(⟨F,R,xs,bl,can,pa,ha,fu⟩:Pos).at_ x=xs[x]?.getD 0:=by unfold Pos.at_;rw[Int.toNat_natCast]
 have hy6:=hH.h6 (xs[x]?.getD 0) (by rw[List.getElem?_eq_getElem hx];exact List.getElem_mem hx);have hsk:skC ⟨F,R,xs,bl,can,pa,ha,fu⟩ x=if kindI (xs[x]?.getD 0)=1 then eH ⟨F,R,xs,bl,can,pa,ha,fu⟩ x 0 4 else ft ⟨F,R,xs,bl,can,pa,ha,fu⟩ x++(if kindI (xs[x]?.getD 0)≠6∧x/F=(if bl then R-1 else 0)then eH ⟨F,R,xs,bl,can,pa,ha,fu⟩ x (kindI (xs[x]?.getD 0)) 4 else []):=by rw[←hat];rfl
 rw[←hla]at hsk;have hxb:x≤8192:=by have:=hH.len;omega
 have hqu:=fun W=>ut x F (by have:=hH.hF;omega) hxb W
 have hxl:(x:Int)<xs.length:=by omega
 obtain⟨kk,hkk⟩:∃ kk,kk=kindI (xs[x]?.getD 0):=⟨_,rfl⟩;have hki:∀ W,Clz 30 #[.int .i8 (xs[x]?.getD 0)] W fun e w'=>e=.returned (.int .i8 kk)∧W=w':=fun W=>by
  rw[hkk];exact kC _ (by omega) W
 have hk6:kk≤6:=by rw[hkk];unfold kindI;split<;>omega
 rw[hat]at hx1;rw[←hkk]at hsk hx1;have hp26:kk≠1→2≤kindI ((⟨F,R,xs,bl,can,pa,ha,fu⟩:Pos).at_ x)∧kindI ((⟨F,R,xs,bl,can,pa,ha,fu⟩:Pos).at_ x)≤6:=fun h=>by rw[hat,←hkk];omega
 have hpw:=fun pr=>iw ⟨F,R,xs,bl,can,pa,ha,fu⟩ x pr hH.hF.2 4
 have hpl:=oV ⟨F,R,xs,bl,can,pa,ha,fu⟩ x hH.hF.2;rw[hsk]at hnx;obtain⟨y,hy⟩:∃ y,y=xs[x]?.getD 0:=⟨_,rfl⟩;rw[←hy]at hki;have hyc:∀ W,Arr .i8 W (some ⟨g,o,none⟩) xs→W.cell? ⟨g,o+x,none⟩=some (.int .i8 y):=fun W h=>by
  obtain⟨g',o',e3,h5⟩:=bQ h hx;injection e3 with e3;injection e3 with e3 e4;subst e3 e4;rw[hy];exact h5
 clear hsk hat hy6;replace hnx:=zhd hnx;replace hkk:=zhd hkk;replace hocc:=zhd hocc;replace hla:=zhd hla;replace hy:=zhd hy;gi_wp2_with fail;refine⟨fun q o _ h=>h,fun W2 ha2 hz hrec=>?_⟩;have hI2:=hI.alt ha2 (by omega) hc hbd hq hB hw;clear hI ha2 hz hrec;obtain⟨v2,hS2,hN2,hA2,hB2,hc2⟩:=hI2;have b1:ac W2 q1 (.cells #[.int .i64 F,.int .i64 R,.slice (some ⟨g,o,none⟩) xs.length cc,.bool bl,.int .u8 can,.int .i64 pa,.int .i64 ha,.int .i64 fu] 26 (0,0)):=hB2 _ m1;have b7:ac W2 q7 (.cells #[.pointer (some ⟨qs,0,none⟩)] 69 (0,0)):=hB2 _ m7;have d1:=b1.cells;have l1:=b1.lt;have d7:=b7.cells 0;have l7:=b7.lt;have dy:=hyc W2 hS2.st.x;gi_wp2_with fail;refine⟨trivial,(CallsIn.inRound _ (callsIn_wide.2 (hki W2))).mono ?_⟩;rintro e W3 ⟨rfl,rfl⟩;rcases z1:(kk==1)with _|_
 ·have hk1:kk≠1:=by simpa using z1
  have hpi:=vg F R xs bl can pa ha fu (some ⟨g,o,none⟩) cc occ hH hocc.out ho64 base qs v2 (LK k) (by omega) x hx (hp26 hk1) W2 hS2;gi_wp2_with fail;refine⟨trivial,(CallsIn.inRound _ (callsIn_wide.2 hpi)).mono ?_⟩;rintro e W4 ⟨rfl,v4,hS4,hN4⟩;obtain⟨⟨hN5,hA4,hB4,hc4⟩,hKp⟩:=dV.step hS2 hN2 hA2 hB2 hc2 hq hBq hBt hS4 hN4;clear hpi hS2 hc2 b1 b7 d1 l1 d7 l7 dy hki hp26;have b1:ac W4 q1 (.cells #[.int .i64 F,.int .i64 R,.slice (some ⟨g,o,none⟩) xs.length cc,.bool bl,.int .u8 can,.int .i64 pa,.int .i64 ha,.int .i64 fu] 26 (0,0)):=hB4 _ m1;have b7:ac W4 q7 (.cells #[.pointer (some ⟨qs,0,none⟩)] 69 (0,0)):=hB4 _ m7;have b9:ac W4 q9 (.cells #[.int .i64 la] 3 (0,0)):=hB4 _ m9;have d1:=b1.cells;have l1:=b1.lt;have d9:=b9.cells 0;have l9:=b9.lt;have d7:=b7.cells 0;have l7:=b7.lt;gi_wp2_with fail;rename_i k0 hk0;replace hk0:=zhd hk0;obtain⟨nq,hnq⟩:∃ nq,nq=x/F:=⟨_,rfl⟩;have htd:(x:Int).tdiv (F:Int)=(nq:Int):=by rw[hnq];rfl
  have hnb:nq≤8192:=by rw[hnq];exact Nat.le_trans (Nat.div_le_self _ _) hxb
  have hnb2:(nq:Int)≤8192:=by omega
  have hwr:IntKind.i64.wrap (nq:Int)=nq:=IntWalk.i64_in _ (by omega);have hF0:¬F=0:=by have:=hH.hF;omega
  have hF0':¬(F:Int)=0:=by omega
  replace hnq:=zhd hnq;clear hqu;rcases z2:(kk != 6)with _|_
  ·have z6:kk=6:=by simpa using z2
   have hLn:Hid (LK (k+1)=LK k++ft ⟨F,R,xs,bl,can,pa,ha,fu⟩ x):=zhd (by rw[hnx.out,if_neg hk1,if_neg (by rw[z6];simp),List.append_nil]);clear z6;refine gy (by kernel_rfl) (by kernel_rfl) ?_;repeat(quiet_step_in (fail))
   refine wpQuietIn_nil ?_;intro W5 hb5;have hN6:=hN5.trans (Nib.of_below qs hb5 v4);have hS5:=hS4.call hb5;clear hS4;refine hk0.out _ _ ?_;gi_wp2_with fail;exact⟨fun q o hq ho=>(hKp q o (by omega) (by omega) ho).call hb5,v4,by rw[hLn.out];exact hS5,hN6,hA4,fun x hx=>(hB4 x hx).call hb5,Nat.le_trans hc4 hb5.size⟩
  ·have z6:kk≠6:=by simpa using z2
   refine gy (by kernel_rfl) (by kernel_rfl) ?_;repeat(quiet_step_in (fail))
   refine wpQuietIn_nil ?_;intro W5 hb5;have hN6:=hN5.trans (Nib.of_below qs hb5 v4);have hS5:=hS4.call hb5;have hB5:∀ x∈Bs,ac W5 x.1 x.2:=fun x hx=>(hB4 x hx).call hb5
   have hc5:=Nat.le_trans hc4 hb5.size;have hKp5:∀ q o,D≤q→q<c→ac W2 q o→ac W5 q o:=fun q o h1 h2 ho=>(hKp q o h1 h2 ho).call hb5
   clear hS4 hc4 hKp b1 b7 b9 d1 l1 d7 l7 d9 l9 htd;rcases z9:((nq:Int)==(la:Int))with _|_
   ·have hLn:Hid (LK (k+1)=LK k++ft ⟨F,R,xs,bl,can,pa,ha,fu⟩ x):=zhd (by rw[hnx.out,if_neg hk1,if_neg (by rw[←hnq.out];simp at z9;omega),List.append_nil]);refine hk0.out _ _ ?_;gi_wp2_with fail;exact⟨fun q o hq ho=>hKp5 q o (by omega) (by omega) ho,v4,by rw[hLn.out];exact hS5,hN6,hA4,hB5,hc5⟩
   ·have hLn:Hid (LK (k+1)=LK k++ft ⟨F,R,xs,bl,can,pa,ha,fu⟩ x++eH ⟨F,R,xs,bl,can,pa,ha,fu⟩ x kk 4):=zhd (by rw[hnx.out,if_neg hk1,if_pos ⟨z6,by rw[←hnq.out];simp at z9;omega⟩,List.append_assoc]);have hca:=mF F R xs bl can pa ha fu (some ⟨g,o,none⟩) cc occ hH hocc.out ho64' base qs v4 (LK k++ft ⟨F,R,xs,bl,can,pa,ha,fu⟩ x) (by rw[List.length_append];omega) x kk hx W5 hS5;have b7:ac W5 q7 (.cells #[.pointer (some ⟨qs,0,none⟩)] 69 (0,0)):=hB5 _ m7;have d7:=b7.cells 0;have l7:=b7.lt;refine hk0.out _ _ ?_;gi_wp2_with fail;refine⟨trivial,(CallsIn.inRound _ (callsIn_wide.2 hca)).mono ?_⟩;rintro e W6 ⟨rfl,v6,hS6,hN7⟩;obtain⟨⟨hN8,hA6,hB6,hc6⟩,hKp6⟩:=dV.step hS5 hN6 hA4 hB5 hc5 hq hBq hBt hS6 hN7;clear hca hS5 hc5 b7 d7 l7;gi_wp2_with fail;exact⟨fun q o hq ho=>hKp6 q o (by omega) (by omega) (hKp5 q o (by omega) (by omega) ho),v6,by rw[hLn.out];exact hS6,hN8,hA6,hB6,hc6⟩
 ·obtain rfl:kk=1:=by simpa using z1
  have hca:=mF F R xs bl can pa ha fu (some ⟨g,o,none⟩) cc occ hH hocc.out ho64' base qs v2 (LK k) (by omega) x 0 hx W2 hS2;have hLn:Hid (LK (k+1)=LK k++eH ⟨F,R,xs,bl,can,pa,ha,fu⟩ x 0 4):=zhd (by rw[hnx.out,if_pos rfl]);gi_wp2_with fail;refine⟨trivial,(CallsIn.inRound _ (callsIn_wide.2 hca)).mono ?_⟩;rintro e W4 ⟨rfl,v4,hS4,hN4⟩;obtain⟨⟨hN5,hA4,hB4,hc4⟩,hKp⟩:=dV.step hS2 hN2 hA2 hB2 hc2 hq hBq hBt hS4 hN4;clear hca hS2 hc2 b1 b7 d1 l1 d7 l7 dy hki;gi_wp2_with fail;exact⟨fun q o hq ho=>hKp q o (by omega) (by omega) ho,v4,by rw[hLn.out];exact hS4,hN5,hA4,hB4,hc4⟩
end Go.Proofs.YtefmplccbkmalaaGreatDoor
namespace Go.Proofs.YtefmplccbkmalaaGreatDoor
open Go.RowKit Go.Sort Go.BigFrame

def jU(x:Ret):List Ret→List Ret
 | []=>[x]
 | y::l=>if eU x y≤0 then x::y::l else y::jU x l
def gO:List Ret→List Ret
 | []=>[]
 | x::l=>jU x (gO l)
def cE(P:Pos):List Ret:=ddN (gO (skL P)) (gO (skL P)).length
def leR(x y:Ret):Prop:=¬eU y x<0
theorem gS(x y:Ret):leR x y↔eU x y≤0:=by have:=fO.anti x y;unfold leR;omega
theorem mG(x:Ret):∀ l:List Ret,(jU x l).Perm (x::l):=by
 intro l;induction l with
 | nil=>exact List.Perm.refl _
 | cons y l ih =>
  simp only[jU];split
  ·exact List.Perm.refl _
  ·exact(List.Perm.cons y ih).trans (List.Perm.swap x y l)
theorem mP:∀ l:List Ret,(gO l).Perm l:=by
 intro l;induction l with
 | nil=>exact List.Perm.refl _
 | cons x l ih=>exact(mG x _).trans (List.Perm.cons x ih)
theorem yu(x:Ret):∀ l:List Ret,l.Pairwise leR→(jU x l).Pairwise leR:=by
 intro l;induction l with
 | nil=>intro _;simp[jU]
 | cons y l ih =>
  intro h;obtain⟨h1,h2⟩:=List.pairwise_cons.1 h;simp only[jU];split
  ·rename_i hc;refine List.pairwise_cons.2 ⟨fun z hz=>?_,h⟩;rcases List.mem_cons.1 hz with rfl|hz
   ·exact(gS _ _).2 hc
   ·exact(gS _ _).2 (fO.trans x y z hc ((gS _ _).1 (h1 z hz)))
  ·rename_i hc;refine List.pairwise_cons.2 ⟨fun z hz=>?_,ih h2⟩;rcases List.mem_cons.1 ((mG x l).mem_iff.1 hz)with rfl|hz
   ·have:=fO.anti z y;exact(gS _ _).2 (by omega)
   ·exact h1 z hz
theorem xT:∀ l:List Ret,(gO l).Pairwise leR:=by
 intro l;induction l with
 | nil=>exact List.Pairwise.nil
 | cons x l ih=>exact yu x _ ih
theorem vb{x y:Ret}(h1:leR x y)(h2:leR y x):x=y:=by have:=fO.anti x y;rw[gS]at h1 h2;exact xd (by omega)
theorem pN:∀ S T:List Ret,S.Perm T→S.Pairwise leR→T.Pairwise leR→S=T:=by
 intro S;induction S with
 | nil=>intro T h _ _;exact(List.nil_perm.1 h).symm
 | cons a S ih =>
  intro T h hS hT;rcases T with _|⟨b,T⟩
  ·exact absurd h.length_eq (by simp)
  obtain⟨h1,h2⟩:=List.pairwise_cons.1 hS;obtain⟨h3,h4⟩:=List.pairwise_cons.1 hT;have hab:a=b:=by
   rcases List.mem_cons.1 (h.mem_iff.1 (List.mem_cons_self))with e|e
   ·exact e
   ·rcases List.mem_cons.1 (h.mem_iff.2 (List.mem_cons_self))with e2|e2
    ·exact e2.symm
    ·exact vb (h1 b e2) (h3 a e)
  subst hab;rw[ih T (List.Perm.cons_inv h) h2 h4]
theorem rS{S L:List Ret}(h:S.Perm L)(hs:S.Pairwise (fun x y=>¬eU y x<0)):S=gO L:=pN S _ (h.trans (mP L).symm) hs (xT L)
theorem vO(L:List Ret):(gO L).length=L.length:=(mP L).length_eq
def ta(P:Pos)(w:World)(e:Ending)(w':World):Prop:=∃ v,e=.returned (.tuple #[v,.int .i64 0])∧w'.ownsRow w.heap.size 42 7 v (cE P).length (aD (cE P))∧Bw w w'
theorem sS(F R:Int)(w:World):(binOp .neq 23 (.agg #[.int .i64 F,.int .i64 R]) (.agg #[.int .i64 F,.int .i64 R])).run Tryz.prog w=.ok (.bool false) w:=by simp[go_sem]
theorem nC(f r:Int)(p1 p2:Option Addr)(c1 c2:Nat)(xs ys:List Int)(hn:ys.length=xs.length)(hn2:xs.length≤900)(w:World)(h1:Arr .i8 w p1 xs)(h2:Arr .i8 w p2 ys):
  Clz 69 #[.agg (ar f r p1 xs.length c1).toArray,.agg (ar f r p2 ys.length c2).toArray] w fun e w'=>e=.returned (.bool (decide (xs=ys)))∧Below w.heap.size w w':=by
 rw[hn];have hA:=(ac.new w (.cells (ar f r p1 xs.length c1).toArray 68)).alloc (.cells (ar f r p2 xs.length c2).toArray 68);have hD:=ac.new' (w.alloc (.cells (ar f r p1 xs.length c1).toArray 68)) (.cells (ar f r p2 xs.length c2).toArray 68) (q:=w.heap.size+1) (by simp);have hB:=(ae w (.cells (ar f r p1 xs.length c1).toArray 68)).alloc (by simp) (.cells (ar f r p2 xs.length c2).toArray 68);have hsz:=sS f r;replace h1:=h1.call hB;replace h2:=h2.call hB;replace hn:=zhd hn;go_enter Tryz.func69,Tryz.ntmps69;go_upto_region 1 with fail;show Code.wp _ _ _ _ ((w.alloc (.cells (ar f r p1 xs.length c1).toArray 68)).alloc (.cells (ar f r p2 xs.length c2).toArray 68));generalize (w.alloc (.cells (ar f r p1 xs.length c1).toArray 68)).alloc (.cells (ar f r p2 xs.length c2).toArray 68)=w1 at *;obtain⟨q,hq⟩:∃ q,q=w.heap.size:=⟨_,rfl⟩;rw[←hq]at hA hD ⊢;replace hq:=zhd hq;have hcA:=hA.cells;have hcD:=hD.cells;have hlA:=hA.lt;have hlD:=hD.lt;go_wp2_with fail;go_loopg [5] 1000 (fun g kv wr=>∃ j:Nat,∃ wz,wz=wr∧g+j=1000∧j≤xs.length∧kv=.int .i64 ((j:Nat):Int)∧Hid (xs.take j=ys.take j)∧Below w1.heap.size w1 wr)
 case atStart=>exact⟨0,_,rfl,rfl,by omega,rfl,zhd rfl,Below.refl _ _⟩
 case round =>
  clear hcA hcD hlA hlD;obtain⟨j,w2,rfl,hg,hj,rfl,ht,hB2⟩:=hrel;replace hA:=hA.call hB2;replace hD:=hD.call hB2;by_cases hlt:j<xs.length
  ·have hii:(j:Int)<xs.length:=by omega
   have⟨hcA,hlA⟩:=hA.cl;obtain⟨b1,o1,rfl,h1⟩:=bQ (h1.call hB2) hlt;obtain⟨b2,o2,rfl,h2⟩:=bQ (h2.call hB2) (j:=j) (by rw[hn.out];exact hlt);have hnx:=tJ (xs:=xs) (ys:=ys) hlt (by rw[hn.out];exact hlt);have hne2:xs[j]?.getD 0≠ys[j]?.getD 0→Hid (decide (xs=ys)=false):=fun h=>zhd (by simp;rintro rfl;exact h rfl)
   generalize xs[j]?.getD 0=x at *;generalize ys[j]?.getD 0=y at *;have m1:=cell_regrown h1;have m2:=cell_regrown h2;have m3:=am hA;have m4:=am hD;rcases z:(x != y)with _|_
   ·have ht2:Hid (xs.take (j+1)=ys.take (j+1)):=zhd (hnx.2 ⟨ht.out,by simpa using z⟩);clear hnx hne2;go_wp2_with fail;refine ag (by kernel_rfl) (by kernel_rfl) ?_;repeat(go_big_quiet_step (fail))
    refine wpQuiet_nil ?_;intro w5 hb5;clear m1 m2 m3 m4;go_wp2_with fail;go_roundg (gk-1)
    case measure=>omega
    case rel=>exact⟨j+1,_,rfl,by omega,by omega,by go_num,ht2,zbc hB2 hb5⟩
   ·have hV:=hne2 (by simpa using z);clear hnx hne2;go_wp2_with fail;refine ag (by kernel_rfl) (by kernel_rfl) ?_;repeat(go_big_quiet_step (fail))
    refine wpQuiet_nil ?_;intro w5 hb5;clear m1 m2 m3 m4;go_wp2_with fail;go_ret;exact⟨by rw[hV.out];rfl,zbc hB (zbc hB2 hb5)⟩
  ·obtain rfl:j=xs.length:=by omega
   have hV:Hid (decide (xs=ys)=true):=zhd (by have h1:=ht.out;rw[List.take_length,←hn.out,List.take_length]at h1;simpa using h1);have⟨hcA,hlA⟩:=hA.cl;go_wp2_with fail;go_ret;exact⟨by rw[hV.out];rfl,zbc hB hB2⟩
theorem o3(F R:Int)(x1 x2:Option Addr)(c1 c2:Nat)(xs ys:List Int)(b1 b2:Bool)(ca1 ca2 pa1 pa2 ha1 ha2 fu1 fu2:Int)(hn:ys.length=xs.length)(hn2:xs.length≤900)(w:World)(hx:Arr .i8 w x1 xs)(hy:Arr .i8 w x2 ys):
  Clz 24 #[.agg (aa F R x1 xs.length c1 b1 ca1 pa1 ha1 fu1).toArray,.agg (aa F R x2 ys.length c2 b2 ca2 pa2 ha2 fu2).toArray] w fun e w'=>e=.returned (.bool (posE xs ys b1 b2 ca1 ca2 pa1 pa2))∧Bw w w':=by
 obtain⟨W1,hW1⟩:∃ W1,W1=(w.alloc (.cells (aa F R x1 xs.length c1 b1 ca1 pa1 ha1 fu1).toArray 26)).alloc (.cells (aa F R x2 ys.length c2 b2 ca2 pa2 ha2 fu2).toArray 26):=⟨_,rfl⟩;have hB:Bw w W1:=by subst hW1;exact(ae w _).alloc (by simp) _
 have hA:ac W1 w.heap.size (.cells (aa F R x1 xs.length c1 b1 ca1 pa1 ha1 fu1).toArray 26 (0,0)):=by subst hW1;exact(ac.new w _).alloc _
 have hC:ac W1 (w.heap.size+1) (.cells (aa F R x2 ys.length c2 b2 ca2 pa2 ha2 fu2).toArray 26 (0,0)):=by subst hW1;exact ac.new' _ _ (by simp)
 have t1:=ax (w:=W1) (fun W _=>(show Clz 35 #[.agg #[.int .i64 F,.int .i64 R,.slice x1 xs.length c1,.bool b1,.int .u8 ca1,.int .i64 pa1,.int .i64 ha1,.int .i64 fu1]] W fun e w'=>e=.returned (.agg (ar F R x1 xs.length c1).toArray)∧Bw W w' from cX F R ca1 pa1 ha1 fu1 b1 x1 xs.length c1 W));have t2:=ax (w:=W1) (fun W _=>(show Clz 35 #[.agg #[.int .i64 F,.int .i64 R,.slice x2 ys.length c2,.bool b2,.int .u8 ca2,.int .i64 pa2,.int .i64 ha2,.int .i64 fu2]] W fun e w'=>e=.returned (.agg (ar F R x2 ys.length c2).toArray)∧Bw W w' from cX F R ca2 pa2 ha2 fu2 b2 x2 ys.length c2 W));have t3:=ax (w:=W1) (fun W h=>(show Clz 69 #[.agg #[.int .i64 F,.int .i64 R,.slice x1 xs.length c1],.agg #[.int .i64 F,.int .i64 R,.slice x2 ys.length c2]] W fun e w'=>e=.returned (.bool (decide (xs=ys)))∧Bw W w' from nC F R x1 x2 c1 c2 xs ys hn hn2 W ((hx.call hB).call h) ((hy.call hB).call h)));have m1:∀ d os j,(grow (redrawn W1 d) os).cell? ⟨w.heap.size,j,none⟩=(#[.int .i64 F,.int .i64 R,.slice x1 xs.length c1,.bool b1,.int .u8 ca1,.int .i64 pa1,.int .i64 ha1,.int .i64 fu1]:Array Value)[j]?:=am hA;have m2:∀ d os j,(grow (redrawn W1 d) os).cell? ⟨w.heap.size+1,j,none⟩=(#[.int .i64 F,.int .i64 R,.slice x2 ys.length c2,.bool b2,.int .u8 ca2,.int .i64 pa2,.int .i64 ha2,.int .i64 fu2]:Array Value)[j]?:=am hC;have hV:posE xs ys b1 b2 ca1 ca2 pa1 pa2=(decide (xs=ys)&&((b1==b2)&&((ca1==ca2)&&(pa1==pa2)))):=rfl;generalize posE xs ys b1 b2 ca1 ca2 pa1 pa2=V at *;generalize decide (xs=ys)=D at *;replace hV:=zhd hV;replace hW1:=zhd hW1;replace hn:=zhd hn;go_enter Tryz.func24,Tryz.ntmps24;go_upto_region 1 with fail;change Code.wp _ _ _ _ ((w.alloc (.cells (aa F R x1 xs.length c1 b1 ca1 pa1 ha1 fu1).toArray 26)).alloc (.cells (aa F R x2 ys.length c2 b2 ca2 pa2 ha2 fu2).toArray 26));rw[←hW1.out];cases D
 ·refine ag (by kernel_rfl) (by kernel_rfl) ?_;repeat(go_big_quiet_step (first|with_reducible exact t1 _ _|with_reducible exact t2 _ _|with_reducible exact t3 _ _|fail))
  refine wpQuiet_nil ?_;intro w2 hb2;go_wp2_with fail;go_ret;exact⟨by rw[hV.out];rfl,zbc hB hb2⟩
 ·rcases z1:(b1==b2)with _|_
  ·refine ag (by kernel_rfl) (by kernel_rfl) ?_;repeat(go_big_quiet_step (first|with_reducible exact t1 _ _|with_reducible exact t2 _ _|with_reducible exact t3 _ _|fail))
   refine wpQuiet_nil ?_;intro w2 hb2;go_wp2_with fail;go_ret;exact⟨by rw[hV.out,z1];rfl,zbc hB hb2⟩
  ·rcases z2:(ca1==ca2)with _|_
   ·refine ag (by kernel_rfl) (by kernel_rfl) ?_;repeat(go_big_quiet_step (first|with_reducible exact t1 _ _|with_reducible exact t2 _ _|with_reducible exact t3 _ _|fail))
    refine wpQuiet_nil ?_;intro w2 hb2;go_wp2_with fail;go_ret;exact⟨by rw[hV.out,z1,z2];rfl,zbc hB hb2⟩
   ·rcases z3:(pa1==pa2)with _|_
    ·refine ag (by kernel_rfl) (by kernel_rfl) ?_;repeat(go_big_quiet_step (first|with_reducible exact t1 _ _|with_reducible exact t2 _ _|with_reducible exact t3 _ _|fail))
     refine wpQuiet_nil ?_;intro w2 hb2;go_wp2_with fail;go_ret;exact⟨by rw[hV.out,z1,z2,z3];rfl,zbc hB hb2⟩
    ·refine ag (by kernel_rfl) (by kernel_rfl) ?_;repeat(go_big_quiet_step (first|with_reducible exact t1 _ _|with_reducible exact t2 _ _|with_reducible exact t3 _ _|fail))
     refine wpQuiet_nil ?_;intro w2 hb2;go_wp2_with fail;go_ret;exact⟨by rw[hV.out,z1,z2,z3];rfl,zbc hB hb2⟩
theorem fw(F R:Int)(x1 x2:Option Addr)(c1 c2:Nat)(xs ys:List Int)(b1 b2:Bool)(ca1 ca2 pa1 pa2 ha1 ha2 fu1 fu2:Int)(hn:ys.length=xs.length)(hn2:xs.length≤900)(w:World)(hx:Arr .i8 w x1 xs)(hy:Arr .i8 w x2 ys):
  Clz 12 #[.agg (aa F R x1 xs.length c1 b1 ca1 pa1 ha1 fu1).toArray,.agg (aa F R x2 ys.length c2 b2 ca2 pa2 ha2 fu2).toArray] w fun e w'=>e=.returned (.bool (posE xs ys b1 b2 ca1 ca2 pa1 pa2&&((ha1==ha2)&&(fu1==fu2))))∧Bw w w':=by
 have hA:=(ac.new w (.cells (aa F R x1 xs.length c1 b1 ca1 pa1 ha1 fu1).toArray 26)).alloc (.cells (aa F R x2 ys.length c2 b2 ca2 pa2 ha2 fu2).toArray 26);have hD:=ac.new' (w.alloc (.cells (aa F R x1 xs.length c1 b1 ca1 pa1 ha1 fu1).toArray 26)) (.cells (aa F R x2 ys.length c2 b2 ca2 pa2 ha2 fu2).toArray 26) (q:=w.heap.size+1) (by simp);have hB:=(ae w (.cells (aa F R x1 xs.length c1 b1 ca1 pa1 ha1 fu1).toArray 26)).alloc (by simp) (.cells (aa F R x2 ys.length c2 b2 ca2 pa2 ha2 fu2).toArray 26);have hse:=o3 F R x1 x2 c1 c2 xs ys b1 b2 ca1 ca2 pa1 pa2 ha1 ha2 fu1 fu2 hn hn2 _ (hx.call hB) (hy.call hB);generalize posE xs ys b1 b2 ca1 ca2 pa1 pa2=D at *;replace hn:=zhd hn;have h1:=hA.cells;have h2:=hD.cells;have l1:=hA.lt;have l2:=hD.lt;go_enter Tryz.func12,Tryz.ntmps12;go_wp2_with fail;refine hse.mono ?_;rintro e w2 ⟨rfl,hb2⟩;have hA2:=hA.call hb2;have hD2:=hD.call hb2;have hB2:=zbc hB hb2;clear h1 h2 l1 l2 hA hD hB hse;have h1:=hA2.cells;have h2:=hD2.cells;have l1:=hA2.lt;have l2:=hD2.lt;cases D
 ·go_wp2_with fail;go_ret;exact⟨rfl,hB2⟩
 ·rcases z1:(ha1==ha2)with _|_
  ·go_wp2_with fail;go_ret;exact⟨aV (by rw[z1];rfl),hB2⟩
  ·go_wp2_with fail;go_ret;exact⟨aV (by rw[z1];rfl),hB2⟩
end Go.Proofs.YtefmplccbkmalaaGreatDoor
namespace Go.Proofs.YtefmplccbkmalaaGreatDoor
open Go.RowKit

def gx(xs:List Int)(k:Nat):Int:=xs[k]?.getD 0
theorem dm(xs:List Int){i:Nat}(hi:i<xs.length)(k:Nat)(v:Int):gx (xs.set i v) k=if i=k then v else gx xs k:=by
 unfold gx;rw[List.getElem?_set];split
 ·rename_i h;subst h;simp
 ·rfl
theorem n8{xs:List Int}{k:Nat}(h:xs.length≤k):gx xs k=0:=by unfold gx;rw[List.getElem?_eq_none h];rfl
theorem il{xs:List Int}{k:Nat}(h:gx xs k≠0):k<xs.length:=by
 rcases Nat.lt_or_ge k xs.length with h1|h1
 ·exact h1
 ·exact absurd (n8 h1) h
theorem zN{xs:List Int}{k:Nat}(h:k<xs.length):gx xs k∈xs:=by unfold gx;rw[List.getElem?_eq_getElem h];exact List.getElem_mem h
def KG(xs:List Int)(b:Bool)(k:Nat):Prop:=gx xs k=6*sdI b∧∀ j,gx xs j=6*sdI b→j=k
theorem sd6(b:Bool):6*sdI b≠0:=by cases b<;>decide
theorem li{xs:List Int}{b:Bool}{k:Nat}:kgI xs b=k↔KG xs b k:=by
 have hm:=fun i=>idxs_mem (·==6*sdI b) xs i xs.length
 simp only[beq_iff_eq]at hm;have h6:=sd6 b;constructor
 ·intro h;unfold kgI at h;split at h
  ·rename_i h1;obtain⟨y,hy⟩:=List.length_eq_one_iff.1 h1;rw[hy]at h;have h:y=k:=by simpa using h
   subst h;have hm2:∀ i,i∈kgL xs b↔∃ j:Nat,j<xs.length∧gx xs j=6*sdI b∧i=j:=hm;rw[hy]at hm2;obtain⟨j,_,h2,h3⟩:=(hm2 k).1 (by simp);refine⟨by rw[show k=j by omega];exact h2,fun j hj=>?_⟩;have:=(hm2 j).2 ⟨j,il (by rw[hj];exact h6),hj,rfl⟩;have:(j:Int)=k:=by simpa using this
   omega
  ·omega
 ·rintro⟨h1,h2⟩;have hk:=il (by rw[h1];exact h6);have hL:∀ n,idxs (·==6*sdI b) xs n=if k<n then [(k:Int)]else []:=by
   intro n;induction n with
   | zero=>rfl
   | succ n ih =>
    simp only[idxs,ih,beq_iff_eq];by_cases hn:n=k
    ·subst hn;have h1:xs[n]?.getD 0=6*sdI b:=h1;simp[h1]
    ·have:¬xs[n]?.getD 0=6*sdI b:=fun h=>hn (h2 n h)
     rw[if_neg this];by_cases h3:k<n
     ·rw[if_pos h3,if_pos (by omega)]
     ·rw[if_neg h3,if_neg (by omega)]
  have:kgL xs b=[(k:Int)]:=by unfold kgL;rw[hL,if_pos hk]
  unfold kgI;rw[this];rfl
theorem qT{xs:List Int}{b:Bool}(h:¬kgI xs b<0):∃ k,KG xs b k:=⟨(kgI xs b).toNat,li.1 (by omega)⟩
def gL(P:Pos)(m:Mv):Option Cas:=if(castW P m).2&&!goesW P m then(castW P m).1 else none
theorem oG{P:Pos}:P.ok=true↔aF P.F P.R P.xs=true∧¬kgI P.xs P.bl<0∧¬kgI P.xs (!P.bl)<0∧chkW P.F P.R P.xs (!P.bl)=0∧dw P.F P.xs=true∧cstB P.F P.R P.xs P.ca=true∧passB P.F P.R P.xs P.bl P.pa P.ha=true∧gJ P.ha P.fu=true:=by
 have hW:P.ok=((((((true&&aL P.F P.R P.xs)&&cJ P.F P.R P.xs P.bl)&&dw (P.F:Int).toNat P.xs)&&cstB P.F P.R P.xs P.ca)&&passB (P.F:Int).toNat (P.R:Int).toNat P.xs P.bl P.pa P.ha)&&gJ P.ha P.fu):=rfl;rw[hW,Int.toNat_natCast,Int.toNat_natCast];unfold cJ;rw[Int.toNat_natCast,Int.toNat_natCast];have hb:aF P.F P.R P.xs=true→aL P.F P.R P.xs=true:=fun h=>by unfold aF at h;rw[Bool.and_eq_true]at h;exact h.1
 simp only[Bool.and_eq_true,Bool.not_eq_true',decide_eq_false_iff_not,decide_eq_true_eq];constructor
 ·rintro⟨⟨⟨⟨⟨⟨_,_⟩,h1,h2,h3,h4⟩,h5⟩,h6⟩,h7⟩,h8⟩;exact⟨h1,h2,h3,h4,h5,h6,h7,h8⟩
 ·rintro⟨h1,h2,h3,h4,h5,h6,h7,h8⟩;exact⟨⟨⟨⟨⟨⟨trivial,hb h1⟩,h1,h2,h3,h4⟩,h5⟩,h6⟩,h7⟩,h8⟩
theorem zl{f r:Int}{xs ys:List Int}(h:aF f r xs=true)(hl:ys.length=xs.length)(h6:∀ k,-6≤gx ys k∧gx ys k≤6):aF f r ys=true:=by
 unfold aF aL at h ⊢;simp only[Bool.and_eq_true,List.all_eq_true,decide_eq_true_eq]at h ⊢;rw[hl];have h7:∀ x∈ys,-6≤x∧x≤6:=by intro x hx;obtain⟨k,hk,rfl⟩:=List.getElem_of_mem hx;have:=h6 k;unfold gx at this;rwa[List.getElem?_eq_getElem hk]at this
 exact⟨⟨h.1.1,h.1.2.1,fun x hx=>by have:=h7 x hx;simp[pOk];omega⟩,fun x hx=>by have:=h7 x hx;simp[orB];omega⟩
theorem kD{f r:Int}{xs:List Int}(h:aF f r xs=true)(k:Nat):-6≤gx xs k∧gx xs k≤6:=by
 rcases Nat.lt_or_ge k xs.length with h1|h1
 ·exact ea h _ (zN h1)
 ·rw[n8 h1];omega
theorem xG{x:Int}{b:Bool}:isW x b=true↔sgnI x=sdI b:=by unfold isW sgnI sdI;cases b<;>simp<;>(repeat' split)<;>omega
theorem qZ{x:Int}{b:Bool}(h:isW x b=true)(hk:kindI x=1):x=pcI 1 b:=by unfold isW at h;unfold kindI at hk;unfold pcI;cases b<;>simp at h ⊢<;>split at hk<;>omega
theorem occ_bit(P:Pos)(i:Nat):P.occ.testBit i=decide (gx P.xs i≠0):=by
 unfold Pos.occ;rw[setW_bit];by_cases h:i<P.xs.length
 ·simp[h,gNon,gx]
 ·rw[n8 (by omega)];simp[h]
theorem ju{x oc i:Nat}(ho:oc<2^64):(x&&&(2^64-1-oc)).testBit i=(x.testBit i&&(decide (i<64)&&!oc.testBit i)):=by rw[Nat.testBit_and,show 2^64-1-oc=2^64-(oc+1) by omega,Nat.testBit_two_pow_sub_succ ho]
theorem wu{F a f0:Nat}{k:Int}(h1:a%F=f0)(h2:((a/F:Nat):Int)=k):sqN F f0 k=a:=by subst h1 h2;unfold sqN;rw[Int.toNat_natCast];exact Nat.div_add_mod' a F
inductive GoS(P:Pos)(a b:Nat)(pr:Int):Prop
 | piece (hk:kindI (gx P.xs a)≠1) (hp:pr=0) (hr:reachB P.F P.R (kindI (gx P.xs a)) a b P.occ=true)
 | step (hk:gx P.xs a=pcI 1 P.bl) (hb:gx P.xs b=0) (hd:dF P.F a b=0) (hr:dR P.F a b=sdI P.bl) (hl:pr≠0↔((b/P.F:Nat):Int)=lastI P.R P.bl)
 | two (hk:gx P.xs a=pcI 1 P.bl) (hb:gx P.xs b=0) (hd:dF P.F a b=0) (hr:dR P.F a b=2*sdI P.bl) (h6:6≤P.R) (hs:((a/P.F:Nat):Int)=if P.bl then(P.R:Int)-2 else 1) (c:Nat) (hc:c<P.F*P.R∧dF P.F a c=0∧dR P.F a c=sdI P.bl∧gx P.xs c=0) (hl:pr≠0↔((b/P.F:Nat):Int)=lastI P.R P.bl)
 | diag (hk:gx P.xs a=pcI 1 P.bl) (hd:dF P.F a b=1∨dF P.F a b=-1) (hr:dR P.F a b=sdI P.bl) (hc:gx P.xs b≠0∨(b:Int)=P.pa) (hl:pr≠0↔((b/P.F:Nat):Int)=lastI P.R P.bl)
theorem qB{x:Int}(h:-6≤x∧x≤6)(h0:x≠0):1≤kindI x∧kindI x≤6:=by unfold kindI;split<;>omega
theorem tD{x:Int}{b:Bool}(h:isW x b=true):x≠0:=by rintro rfl;cases b<;>simp[isW]at h
theorem lh{P:Pos}(ho:aF P.F P.R P.xs=true)(hF:3≤P.F∧P.F≤8)(hR:3≤P.R∧P.R≤8)(hlen:P.xs.length=P.F*P.R){a b:Nat}{pr:Int}(ha:a<P.F*P.R)(hb:b<P.F*P.R)(h2:isW (gx P.xs a) P.bl=true)(hg:goesW P ⟨a,b,pr⟩=true):GoS P a b pr:=by
 have hl64:P.F*P.R≤64:=Nat.mul_le_mul hF.2 hR.2;have h0:=tD h2;have hkb:=qB (kD ho a) h0;unfold goesW at hg;simp only[show P.at_ (a:Int)=gx P.xs a from rfl,show P.at_ (b:Int)=gx P.xs b from rfl,Int.toNat_natCast]at hg;by_cases hk:kindI (gx P.xs a)=1
 ·rw[if_neg (by rw[hk];decide)]at hg;have hk1:=qZ h2 hk;simp only[Bool.and_eq_true,Nat.testBit_or,Bool.or_eq_true,beq_iff_eq,decide_eq_decide]at hg;obtain⟨hm,hl⟩:=hg;have hl:pr≠0↔((b/P.F:Nat):Int)=lastI P.R P.bl:=hl;have ho64:P.occ<2^64:=ek _ _ (by omega);have l1:=fun(s:Int×Int) (c:Nat) (hc:c<P.F*P.R)=>cW (F:=P.F) (a:=a) [s] hF hc
  simp only[List.length_singleton,List.any_cons,List.any_nil,Bool.or_false]at l1;have hone:∀ c,(leapW P.F P.R a [(0,sdI P.bl)] 1&&&(2^64-1-P.occ)).testBit c=true→c<P.F*P.R∧dF P.F a c=0∧dR P.F a c=sdI P.bl∧gx P.xs c=0:=by
   intro c hc;rw[ju ho64]at hc;simp only[Bool.and_eq_true,occ_bit,Bool.not_eq_true',decide_eq_false_iff_not,decide_eq_true_eq,ne_eq,Decidable.not_not]at hc;have hcl:c<P.F*P.R:=by
    rcases Nat.lt_or_ge c (P.F*P.R)with h|h
    ·exact h
    ·have:=Nat.testBit_lt_two_pow (Nat.lt_of_lt_of_le (bY (F:=P.F) (R:=P.R) (a:=a) [(0,sdI P.bl)] 1) (Nat.pow_le_pow_right (by decide) h));rw[this]at hc;exact absurd hc.1 (by decide)
   have h1:=hc.1;rw[l1 _ _ hcl]at h1;simp only[Bool.and_eq_true,beq_iff_eq]at h1;exact⟨hcl,h1.1,h1.2,hc.2.2⟩
  rcases hm with hm|hm
  ·unfold stpW at hm;simp only at hm;generalize hst:(if P.bl=true then(P.R:Int)-2 else 1)=st at hm;split at hm
   ·obtain⟨_,e1,e2,e3⟩:=hone b hm;exact .step hk1 e3 e1 e2 hl
   ·rename_i hn;rw[not_or,not_or]at hn;rw[Nat.testBit_or,Bool.or_eq_true]at hm;rcases hm with hm|hm
    ·obtain⟨_,e1,e2,e3⟩:=hone b hm;exact .step hk1 e3 e1 e2 hl
    ·rw[ju ho64,l1 _ _ hb]at hm;simp only[Bool.and_eq_true,beq_iff_eq,occ_bit,Bool.not_eq_true',decide_eq_false_iff_not,ne_eq,Decidable.not_not]at hm;obtain⟨c,hc⟩:=Nat.exists_testBit_of_ne_zero hn.1;exact .two hk1 hm.2.2 hm.1.1 hm.1.2 (by omega) (by have:=hn.2.2;rw[hst];omega) c (hone c hc) hl
  ·split at hm
   ·simp at hm
   ·rename_i hn;have l2:=cW (F:=P.F) (a:=a) (pwnL P.bl) hF hb;rw[show(pwnL P.bl).length=2 from rfl]at l2;rw[l2]at hm;simp only[pwnL,List.any_cons,List.any_nil,Bool.or_false,Bool.or_eq_true,Bool.and_eq_true,beq_iff_eq]at hm;refine .diag hk1 ?_ ?_ ?_ hl
    ·rcases hm with hm|hm
     ·exact .inr hm.1
     ·exact .inl hm.1
    ·rcases hm with hm|hm<;>exact hm.2
    ·by_cases e:gx P.xs b=0
     ·right;by_cases e2:(b:Int)=P.pa
      ·exact e2
      ·exact absurd ⟨e,e2⟩ hn
     ·exact .inl e
 ·rw[if_pos hk]at hg;simp only[Bool.and_eq_true,decide_eq_true_eq]at hg;refine .piece hk hg.1 ?_;rw[←jZ hF hR ha hb (by omega)];exact hg.2
end Go.Proofs.YtefmplccbkmalaaGreatDoor
