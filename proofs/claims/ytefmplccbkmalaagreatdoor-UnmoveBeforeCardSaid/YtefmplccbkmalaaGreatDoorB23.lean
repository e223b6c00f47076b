import Derived.Test.YtefmplccbkmalaaGreatDoorB22
import Derived.Maps.AppendAt
import Derived.Deep.CutRange
set_option maxRecDepth 100000
set_option maxHeartbeats 12800000
namespace Go.Proofs.YtefmplccbkmalaaGreatDoor
open Go.RowKit

theorem za:(Tryz.prog.info? 38).map (fun i=>(i.zero,i.size,i.bytes))=some (some (.int .i8 0),1,1):=by kernel_rfl
def BdW(w:World)(g c q6:Nat)(rk:List (List UInt8))(F k:Nat)(W:World):Prop :=
 W.ownsRow w.heap.size 9 1 (.slice (some ⟨g,0,none⟩) rk.length c) rk.length (rk.map aX)∧ac W w.heap.size (.cells (ar 0 0 none 0 0).toArray 68 (0,0))∧w.heap.size<q6 ∧
 (∃ v,ac W q6 (.cells #[.int .i64 (upD F k:Nat),.int .i64 (upD rk.length k:Nat),v] 68 (0,0))∧W.ownsRow w.heap.size 38 1 v (k*F) ((brdL rk k).map (.int .i8)))∧Below w.heap.size w W
theorem x9{w:World}{base base' size size' n n':Nat}{e e':TypeId}{v v':Value}{xs xs':List Value}(h:w.ownsRow base e size v n xs)(h':w.ownsRow base' e' size' v' n' xs')(he:e≠e'):v.ownBlock=none∨v.ownBlock≠v'.ownBlock:=by
 rcases h.2 with⟨rfl,_⟩|⟨g,cap,cur,rfl,_,hh,_⟩
 ·exact .inl rfl
 ·right;rcases h'.2 with⟨rfl,_⟩|⟨g',cap',cur',rfl,_,hh',_⟩
  ·simp[Value.ownBlock]
  ·intro e1;have e2:g=g':=by simpa[Value.ownBlock]using e1
   rw[←e2,hh]at hh';injection hh' with h1;injection h1 with _ h2;exact he h2
theorem pq(s:List UInt8)(F:Nat)(w:World)(hs:s.length≤1000)(hR:3≤(spl 47 s).length∧(spl 47 s).length≤8)(hF:3≤F∧F≤8)(hok:oP F (spl 47 s)=true):
  Clz 127 #[.string (str s)] w fun e w'=>(∃ p c,e=.returned (.tuple #[.agg (ar F (spl 47 s).length p ((spl 47 s).length*F) c).toArray,.bool true])∧(spl 47 s).length*F≤c∧Arr .i8 w' p (brdL (spl 47 s) (spl 47 s).length))∧Below w.heap.size w w':=by
 obtain⟨i9,hi9,hz9,hs9,hy9⟩:=info_parts wA;obtain⟨i81,hi81,hz81,hs81,hy81⟩:=info_parts za;have hz:=cY s;have hA:=ac.new w (.cells (ar 0 0 none 0 0).toArray 68);have hB:=ae w (.cells (ar 0 0 none 0 0).toArray 68);replace hok:=zhd hok;go_enter Tryz.func127,Tryz.ntmps127;go_wp2_with fail;have hO0:((w.alloc (.cells (ar 0 0 none 0 0).toArray 68)).alloc (.cells #[.string (str [])] 9)).ownsRow w.heap.size 9 1 (.slice (some ⟨w.heap.size+1,0,none⟩) 1 1) 1 [aX []]:=by have h:=World.ownsRow_lit (base:=w.heap.size) (size:=1) (e:=9) (w.alloc (.cells (ar 0 0 none 0 0).toArray 68)) #[.string (str [])] 1 hB.size (by decide) rfl;simpa using h
 have hA0:=hA.alloc (.cells #[.string (str [])] 9);have hB0:=hB.alloc hB.size (.cells #[.string (str [])] 9);show Code.wp _ _ _ _ ((w.alloc (.cells (ar 0 0 none 0 0).toArray 68)).alloc (.cells #[.string (str [])] 9));generalize (w.alloc (.cells (ar 0 0 none 0 0).toArray 68)).alloc (.cells #[.string (str [])] 9)=w1 at *;clear hA hB;go_loopg [4,5] 1001 (fun q sv iv wr=>∃ i:Nat,q+i=1001∧iv=.int .i64 i∧ss 47 s w i sv wr∧ac wr w.heap.size (.cells (ar 0 0 none 0 0).toArray 68 (0,0)))
 case atStart=>exact⟨0,rfl,rfl,⟨Nat.zero_le _,⟨_,_,rfl⟩,hO0,hB0⟩,hA0⟩
 case round =>
  obtain⟨i,hq,rfl,⟨hi,⟨g,c,rfl⟩,hown,hbr⟩,hA⟩:=hrel;by_cases hlt:i<s.length
  ·have hii:(i:Int)<s.length:=by omega
   have hix:=fun W=>gi s hlt W
   have hsl:=fun W=>kT s hlt W
   obtain⟨x,hx⟩:∃ x,x=s[i]?.getD 0:=⟨_,rfl⟩;obtain⟨y,hy⟩:∃ y:Int,y=x.toNat:=⟨_,rfl⟩;rw[←hx]at hsl;simp only[←hx,←hy]at hix;obtain⟨n,hn⟩:∃ n,n=(splT 47 s i).length:=⟨_,rfl⟩;have hn1:1≤n∧n≤i+1:=by rw[hn];exact eZ 47 s i
   replace hx:=zhd hx;by_cases h32:x=47
   ·have h32i:y=47:=by rw[hy,h32];rfl
    have hnx:splT 47 s (i+1)=splT 47 s i++[[]]:=by simp only[splT,splF];rw[←hx.out,if_pos h32]
    replace hnx:=zhd hnx;rw[←hn]at hown ⊢;replace hn:=zhd hn;clear hy h32 hsl;go_wp2_with (at_builtin;refine fi rfl (.tmp 24) (.tmp 25) 158 rfl w.heap.size 9 i9 (.string (str [])) 1 16 Tryz.underlying158 hi9 hz9 hs9 hy9 rfl (by decide) _ n ((splT 47 s i).map aX) rfl hown [aX []] rfl (by intro u hu;simp at hu;subst hu;rfl) _ rfl rfl (by omega) hbr.size ?_);intro v' w9 hown9 hg9 hne;have hb9:=hbr.grown hg9 hbr.size (fun j e=>(hown.lt j e).1);have hA9:=hA.grown hg9 (aY hown hA (fun c h=>by injection h with h1 h2;simp at h2));have hl9:(splT 47 s (i+1)).length=n+1:=by rw[hnx.out,hn.out];simp
    replace hown9:w9.ownsRow w.heap.size 9 1 v' (splT 47 s (i+1)).length ((splT 47 s (i+1)).map aX):=by rw[hl9,hnx.out];simpa using hown9
    replace hl9:=zhd hl9;clear hown hg9;go_wp2_with fail;go_roundg (gk-1)
    case measure=>omega
    case rel=>exact⟨i+1,by omega,by go_num,⟨by omega,jh hown9 hne,hown9,hb9⟩,hA9⟩
   ·have h32i:(y==47)=false:=by rw[hy];simp;intro h;exact h32 (UInt8.toNat_inj.1 (by have:(x.toNat:Int)=47:=h;show x.toNat=47;omega))
    have hne:s[i]?.getD 0≠47:=by rw[←hx.out];exact h32
    have hnx:=nK (sep:=47) (s:=s) (k:=i) hne;have hln:=jC (sep:=47) (s:=s) (k:=i) hne;rw[←hx.out]at hnx;have hlc:wr.cell? ⟨g,n-1,none⟩=some (aX ((splT 47 s i).getLastD [])):=by rw[hown.cellAt (n-1) (by omega),List.getElem?_map,hn,mC];rfl
    have hgl:g<wr.heap.size:=(hown.lt g rfl).2;have hfz:=hown.frozenAt (n-1);obtain⟨l,hl⟩:∃ l,l=(splT 47 s i).getLastD []:=⟨_,rfl⟩;rw[←hl]at hlc hnx;have hap:=iz l [x];have hst:=hown.stored (n-1) (aX (l++[x]));rw[hn]at hst;rw[hnx]at hst;rw[←hn]at hst hown ⊢;replace hnx:=zhd hnx;replace hn:=zhd hn;replace hln:=zhd hln;have hlz:(str l).size≤1000:=by rw[cY,hl,List.getLastD_eq_getLast?,List.getLast?_eq_some_getLast (l:=splT 47 s i) (fun h0=>by have:=hn.out;rw[h0]at this;simp at this;omega)];exact Nat.le_trans (iL 47 s i _ (List.getLast_mem _)) (by omega)
    have hxz:(str [x]).size=1:=rfl;replace hl:=zhd hl;replace hst:=zhd hst;have hn0:IntKind.i64.wrap ((n:Int)-1)=((n-1:Nat):Int):=by rw[IntWalk.i64_in _ (by omega)];omega
    clear hy h32 hne;go_wp2_with fail;have hst:=hst.out;go_region;have hgb:=(hown.lt g rfl).1;have hown9:=(hown.stored (n-1) (aX (l++[x]))).1.drew;rw[show((splT 47 s i).map aX).set (n-1) (aX (l++[x]))=(splT 47 s (i+1)).map aX by rw[hn.out];exact hnx.out]at hown9;have hb9:Below w.heap.size w (wr.setCell ⟨g,n-1,none⟩ (aX (l++[x]))).drew:=(hbr.setCell hgb _).drew;have hA9:=(hA.far (p:=⟨g,n-1,none⟩) (fun e=>aY hown hA (fun c h=>by injection h with h1 h2;simp at h2) (by rw[e];rfl)) (aX (l++[x]))).drew;have e9:=zhd (hln.out.trans hn.out.symm);generalize (wr.setCell ⟨g,n-1,none⟩ (aX (l++[x]))).drew=w9 at *;clear hown hst;go_wp2_with fail;go_roundg (gk-1)
    case measure=>omega
    case rel=>exact⟨i+1,by omega,by go_num,by unfold ss;rw[e9.out];exact⟨⟨by omega,⟨g,c,rfl⟩,hown9,hb9⟩,hA9⟩⟩
  ·have hii:¬(i:Int)<s.length:=by omega
   obtain rfl:i=s.length:=by omega
   change wr.ownsRow w.heap.size 9 1 (.slice (some ⟨g,0,none⟩) (spl 47 s).length c) (spl 47 s).length ((spl 47 s).map aX)at hown;rw[show splT 47 s s.length=spl 47 s from rfl];have hwl:Hid (∀ l∈spl 47 s,l.length≤1000):=zhd (fun l hl=>Nat.le_trans (iL 47 s s.length l hl) hs);generalize hrk:spl 47 s=rk at *;replace hrk:=zhd hrk;obtain⟨R,hRk⟩:∃ R,R=rk.length:=⟨_,rfl⟩;rw[←hRk]at hown hR ⊢;have hR3:¬((R:Int)<3):=by omega
   have hR8:¬((8:Int)<R):=by omega
   replace hRk:=zhd hRk;go_wp2_with fail;have hA2:=hA.alloc (.cells #[.int .i64 0,.int .i64 0,.slice none 0 0] 68);have hB2:=hbr.alloc hbr.size (.cells #[.int .i64 0,.int .i64 0,.slice none 0 0] 68);have hQ2:=ac.new wr (.cells #[.int .i64 0,.int .i64 0,.slice none 0 0] 68);have hown2:=hown.alloc (.cells #[.int .i64 0,.int .i64 0,.slice none 0 0] 68);have hq6:w.heap.size<wr.heap.size:=hA.lt;generalize wr.alloc (.cells #[.int .i64 0,.int .i64 0,.slice none 0 0] 68)=w2 at *;generalize wr.heap.size=q6 at *;clear hA hbr hown;obtain⟨g1,hg1⟩:∃ x,x=gk:=⟨_,rfl⟩;subst hg1;go_loopg [7] 9 (fun q iv wr=>∃ k:Nat,∃ wz,wz=wr∧q+k=9∧k≤R∧iv=.int .i64 ((R:Int)-1-k)∧BdW w g c q6 rk F k wr)
   case atStart=>exact⟨0,_,rfl,rfl,by omega,by go_num,by rw[hRk.out]at hown2;exact⟨hown2,hA2,hq6,⟨_,hQ2,by rw[Nat.zero_mul];exact World.ownsRow_nil _ _ _ _⟩,hB2⟩⟩
   case round =>
    obtain⟨k,w3,rfl,hqk,hk,rfl,⟨hownR,hAr,_,⟨v,hQ,hownP⟩,hBr⟩⟩:=hrel;clear hown2;by_cases hkl:k<R
    ·have hii:(0:Int)≤(R:Int)-1-k:=by omega
     obtain⟨i,hi⟩:∃ i,i=R-1-k:=⟨_,rfl⟩;have hic:(R:Int)-1-k=(i:Int):=by omega
     rw[hic];have hiR:i<R:=by omega
     have hrow:=xS hok.out (i:=i) (by rw[←hRk.out];exact hiR);obtain⟨t,ht⟩:∃ t,t=rk[i]?.getD []:=⟨_,rfl⟩;rw[←ht]at hrow;have hcr:w3.cell? ⟨g,i,none⟩=some (aX t):=by have hown:=hownR;rw[←hRk.out]at hown;rw[hown.cellAt i (by omega),List.getElem?_map,ht,List.getElem?_eq_getElem (by rw[←hRk.out];exact hiR)];rfl
     obtain⟨hrs,hrl,d9,hr9⟩:=qC hrow;have htl:t.length≤1000:=by rw[ht,List.getElem?_eq_getElem (by rw[←hRk.out];exact hiR),Option.getD_some];exact hwl.out _ (List.getElem_mem _)
     have hzt:=cY t;have hgR:=(hownR.lt g rfl).2;replace ht:=zhd ht;replace hi:=zhd hi;replace hic:=zhd hic;replace hrs:=zhd hrs;replace hrl:=zhd hrl;replace hr9:=zhd hr9;clear hrow;go_wp2_with fail;obtain⟨g2,hg2⟩:∃ x,x=gk:=⟨_,rfl⟩;subst hg2;go_loopg [8,9,10] 1001 (fun q vv dv iv wx=>∃ j l d,∃ wz,wz=wx∧q+j=1001∧j≤t.length∧iv=.int .i64 (j:Nat)∧dv=.bool d∧Hid (rowT t j=some (l,d))∧wx.ownsRow w3.heap.size 38 1 vv l.length (l.map (.int .i8))∧Below w3.heap.size w3 wx)
     case atStart=>exact⟨0,[],false,_,rfl,rfl,Nat.zero_le _,rfl,rfl,zhd rfl,World.ownsRow_nil _ _ _ _,Below.refl _ _⟩
     case round =>
      obtain⟨j,l,d,w4,rfl,hqj,hj,rfl,rfl,hrj,hownV,hbx⟩:=hrel;have hcrx:=(hbx.cell (p:=⟨g,i,none⟩) hgR).trans hcr;have hll:=uE t j l d hrj.out;by_cases hjl:j<t.length
      ·have hjj:(j:Int)<t.length:=by omega
       have hix:=fun W=>gi t hjl W
       obtain⟨x,hx⟩:∃ x,x=t[j]?.getD 0:=⟨_,rfl⟩;obtain⟨y,hy⟩:∃ y:Int,y=x.toNat:=⟨_,rfl⟩;simp only[←hx,←hy]at hix;have hns:rowT t (j+1)≠none:=by obtain⟨l',d',e⟩:=tG (k:=j+1) hrs.out (by omega);rw[e];simp
       by_cases hdg:49≤x.toNat∧x.toNat≤56
       ·obtain⟨rfl,hnx⟩:=yj hrj.out hx.symm hdg hns;have hy1:(49:Int)≤y:=by omega
        have hy2:y≤56:=by omega
        have hyn:y=((x.toNat:Nat):Int):=hy;replace hnx:=zhd hnx;replace hx:=zhd hx;obtain⟨z,hzz⟩:∃ z:Nat,z=x.toNat-48:=⟨_,rfl⟩;have hyz:y=48+(z:Int):=by omega
        rw[←hzz]at hnx;clear hns hy hyn hdg hzz;have hz8:z≤8:=by omega
        replace hyz:=zhd hyz;go_wp2_with fail;obtain⟨g3,hg3⟩:∃ x,x=gk:=⟨_,rfl⟩;subst hg3;go_loopg [8,12] 9 (fun q vv nv wy=>∃ m:Nat,q+m=9∧m≤z∧nv=.int .u8 (48+(m:Int))∧wy.ownsRow w3.heap.size 38 1 vv (l++List.replicate m 0).length ((l++List.replicate m 0).map (.int .i8))∧Below w3.heap.size w3 wy)
        case atStart=>exact⟨0,rfl,Nat.zero_le _,rfl,by simpa using hownV,hbx⟩
        case round =>
         obtain⟨m,hqm,hm,rfl,hownW,hby⟩:=hrel;clear hownV hbx hcrx;by_cases hmz:m<z
         ·have hlt2:(48:Int)+m<y:=by have:=hyz.out;omega
          have hnl:(l++List.replicate m (0:Int)).length≤9000:=by rw[List.length_append,List.length_replicate];omega
          have e1:IntKind.u8.wrap (48+(m:Int)+1)=48+((m+1:Nat):Int):=by rw[wD (by omega) (by omega)];omega
          go_wp2_with (at_builtin;refine fi rfl (.tmp 89) (.tmp 90) 24 rfl w3.heap.size 38 i81 (.int .i8 0) 1 1 Tryz.underlying24 hi81 hz81 hs81 hy81 rfl (by decide) _ (l++List.replicate m 0).length ((l++List.replicate m 0).map (.int .i8)) rfl hownW [.int .i8 0] rfl (by intro u hu;simp at hu;subst hu;rfl) _ rfl rfl (by omega) hby.size ?_);intro v' w9 hown9 hg9 _;have hb9:=hby.grown hg9 hby.size (fun j e=>(hownW.lt j e).1);replace hown9:w9.ownsRow w3.heap.size 38 1 v' (l++List.replicate (m+1) 0).length ((l++List.replicate (m+1) 0).map (.int .i8)):=by rw[show l++List.replicate (m+1) (0:Int)=(l++List.replicate m 0)++[0] by rw[List.replicate_succ',List.append_assoc],List.length_append,List.map_append];simpa[Nat.add_assoc]using hown9
          clear hownW hg9 hby;go_wp2_with fail;go_roundg (gk-1)
          case measure=>omega
          case rel=>exact⟨m+1,by omega,by omega,by go_num,hown9,hb9⟩
         ·have hlt2:¬(48:Int)+m<y:=by have:=hyz.out;omega
          obtain rfl:m=z:=by omega
          go_wp2_with fail;go_roundg (g3-1)
          case measure=>omega
          case rel=>exact⟨j+1,_,_,_,rfl,by omega,by omega,by go_num,rfl,hnx,hownW,hby⟩
       ·obtain⟨hne,hnx⟩:=xU hrj.out hx.symm hdg hns;have hpb:=xR x 31 (Nat.le_refl _);have hlp:=fun W=>oN x W
        rw[←hy]at hlp;generalize ltrP x 31=p at *;have hp0:(p==0)=false:=by simp[hne]
        have hdy:¬((49:Int)≤y)∨((49:Int)≤y∧¬(y≤56)):=by omega
        have hll2:l.length≤8000:=by omega
        replace hnx:=zhd hnx;replace hx:=zhd hx;replace hp0:=zhd hp0;clear hns hdg hy hne hpb;rcases hdy with hd1|⟨hd1,hd2⟩
        all_goals
         go_wp2_with fail;refine(hlp _).mono ?_;rintro e w5 ⟨rfl,rfl⟩;have hp0:=hp0.out;go_wp2_with fail;refine(hlp _).mono ?_;rintro e w5 ⟨rfl,rfl⟩;go_wp2_with (at_builtin;refine fi rfl (.tmp 96) (.tmp 99) 24 rfl w3.heap.size 38 i81 (.int .i8 0) 1 1 Tryz.underlying24 hi81 hz81 hs81 hy81 rfl (by decide) _ l.length (l.map (.int .i8)) rfl hownV [.int .i8 p] rfl (by intro u hu;simp at hu;subst hu;rfl) _ rfl rfl (by omega) hbx.size ?_);intro v' w9 hown9 hg9 _;have hb9:=hbx.grown hg9 hbx.size (fun j e=>(hownV.lt j e).1);replace hown9:w9.ownsRow w3.heap.size 38 1 v' (l++[p]).length ((l++[p]).map (.int .i8)):=by rw[List.length_append,List.map_append];exact hown9
         clear hownV hg9 hbx;go_wp2_with fail;go_roundg (gk-1)
         case measure=>omega
         case rel=>exact⟨j+1,_,_,_,rfl,by omega,by omega,by go_num,rfl,hnx,hown9,hb9⟩
      ·have hjj:¬(j:Int)<t.length:=by omega
       obtain rfl:j=t.length:=by omega
       obtain⟨e1,e2⟩:=Prod.mk.inj (Option.some.inj (hrj.out.symm.trans hr9.out));rw[e1,hrl.out]at hownV;clear hll hrj e1 e2 l;obtain⟨g4,c4,rfl⟩:=jh hownV (fun e=>by rcases hownV.2 with⟨h1,h2⟩|⟨g,cap,cur,h1,_⟩;omega;rw[e]at h1;cases h1);have hQ4:=hQ.call hbx;have hP4:=aA hownP hbx;obtain⟨pv,cv,rfl⟩:=nY hP4;obtain⟨n,hn⟩:∃ n,n=k*F:=⟨_,rfl⟩;rw[←hn]at hQ4 hP4;have⟨hc,hl4⟩:=hQ4.cl;have hF3:¬((F:Int)<3):=by omega
       have hF8:¬((8:Int)<F):=by omega
       have hnb:n≤64:=by rw[hn];exact Nat.le_trans (Nat.mul_le_mul (by omega:k≤8) hF.2) (by decide)
       replace hn:=zhd hn;replace hownP:=zhd hownP;have hb4:=zbc hBr hbx;have hne4:=aY hP4 hQ4 (fun c h=>by injection h with h1 h2;simp at h2);have hneV:=aY hownV hQ4 (fun c h=>by injection h with h1 h2;simp at h2);have ha5:Alt q6 (q6+1) w4 ((w4.setCell ⟨q6,0,none⟩ (.int .i64 F)).setCell ⟨q6,1,none⟩ (.int .i64 R)):=(Alt.setCell (p:=⟨q6,0,none⟩) (u:=.int .i64 F) ⟨Nat.le_refl q6,Nat.lt_succ_self q6⟩).trans (Alt.setCell (p:=⟨q6,1,none⟩) (u:=.int .i64 R) ⟨Nat.le_refl q6,Nat.lt_succ_self q6⟩);have hP5:=ha5.own hP4 (fun q e=>by have:q≠q6:=fun h=>hne4 (by rw[e,h]);omega);have hV5:=ha5.own hownV (fun q e=>by have:q≠q6:=fun h=>hneV (by rw[e,h]);omega);have hR5:=ha5.own (aA hownR hbx) (fun q e=>by have:=aY (aA hownR hbx) hQ4 (fun c h=>by injection h with h1 h2;simp at h2);have:q≠q6:=fun h=>this (by rw[e,h]);omega);have hA5:=ha5.hasO (hAr.call hbx) (.inl hq6);have hQ5:=(hQ4.set_ 0 (.int .i64 F)).set_ 1 (.int .i64 R);have hb5:=ha5.below hb4 (Nat.le_of_lt hq6) hb4.size;have hbv:w.heap.size≤w3.heap.size:=hBr.size;have hcl:∀ j u,((jg t).map (Value.int .i8))[j]? = some u→((w4.setCell ⟨q6,0,none⟩ (.int .i64 F)).setCell ⟨q6,1,none⟩ (.int .i64 R)).cell? ((⟨g4,0,none⟩:Addr).add j)=some u:=fun j u h=>hV5.cells (g:=g4) rfl j u h
       have hrlen:((jg t).map (Value.int .i8)).length=F*1:=by rw[List.length_map,hrl.out,Nat.mul_one]
       have h1c:∀ u∈(jg t).map (Value.int .i8),u.oneCell'=true:=by intro u hu;obtain⟨y,_,rfl⟩:=List.mem_map.1 hu;rfl
       have hnx:n+F=(k+1)*F:=by rw[hn.out,Nat.add_mul,Nat.one_mul]
       have hbl:brdL rk (k+1)=brdL rk k++jg t:=by rw[brdL,ht,hi,hRk.out]
       replace hbl:=zhd hbl;replace hnx:=zhd hnx;have hgu:(¬((0:Int)<n))∨((0:Int)<n∧upD F k=F):=by
        by_cases hk0:k=0
        ·left;rw[hn.out,hk0,Nat.zero_mul];simp
        ·right;exact⟨by have:0<k*F:=Nat.mul_pos (by omega) (by omega);rw[hn.out];omega,if_neg hk0⟩
       have hfz:=hQ4.frozen;replace hneV:=zhd hneV;replace hne4:=zhd hne4;clear hownR hAr hQ hownV ha5 hbx hBr hV5 hcr;rcases hgu with hn0|⟨hn0,hup⟩
       all_goals (try rw[hup]at hc)
       all_goals (try clear hup)
       all_goals
        go_wp2_with (at_builtin;refine wpList_append_own_at _ rfl (.tmp 131) (.tmp 132) 24 rfl w.heap.size 38 i81 (.int .i8 0) 1 1 Tryz.underlying24 hi81 hz81 hs81 hy81 rfl (by decide) _ n _ rfl hP5 ⟨g4,0,none⟩ F c4 _ rfl hrlen hcl h1c (by unfold maxLen;omega) (by omega) hb5.size ?_);intro v' w9 hown9 hg9 _ _;obtain⟨pv',cv',e'⟩:=nY hown9;have hQ9:=hQ5.grown hg9 (aY hP5 hQ5 (fun c h=>by injection h with h1 h2;simp at h2));have hA9:=hA5.grown hg9 (aY hP5 hA5 (fun c h=>by injection h with h1 h2;simp at h2));have hb9:=hb5.grown hg9 hb5.size (fun j e=>(hP5.lt j e).1);have hR9:=hR5.kept hg9 (x9 hR5 hP5 (by decide));have hne9:=aY hown9 hQ9 (fun c h=>by injection h with h1 h2;simp at h2);have hneR:=aY hR9 hQ9 (fun c h=>by injection h with h1 h2;simp at h2);have ha9:Alt q6 (q6+1) w9 (w9.setCell ⟨q6,2,none⟩ v'):=Alt.setCell (p:=⟨q6,2,none⟩) ⟨Nat.le_refl q6,Nat.lt_succ_self q6⟩;have hP10:=ha9.own hown9 (fun q e=>by have:q≠q6:=fun h=>hne9 (by rw[e,h]);omega);have hR10:=ha9.own hR9 (fun q e=>by have:q≠q6:=fun h=>hneR (by rw[e,h]);omega);have hQ10:=hQ9.set_ 2 v';have hA10:=ha9.hasO hA9 (.inl hq6);have hb10:=ha9.below hb9 (Nat.le_of_lt hq6) hb9.size;have⟨hc,hl9⟩:=hQ9.cl;have hfz:=hQ9.frozen;subst e';replace hne9:=zhd hne9;replace hneR:=zhd hneR;clear ha9 hown9 hg9 hcl;go_wp2_with fail;go_roundg (g2-1)
        case measure=>omega
        case rel=>refine⟨k+1,_,rfl,by omega,by omega,by have:=hic.out;go_num,?_⟩;refine⟨hR10,hA10,hq6,⟨_,?_,by rw[←hnx.out,hbl.out,List.map_append];exact hP10⟩,hb10⟩;rw[show upD F (k+1)=F from rfl,←hRk.out,show upD R (k+1)=R from rfl];exact hQ10
    ·have hii:¬(0:Int)≤(R:Int)-1-k:=by omega
     obtain rfl:k=R:=by omega
     have⟨hc,hlq⟩:=hQ.cl;have hlb:=kh hok.out k (by rw[←hRk.out];exact Nat.le_refl _);rw[←hRk.out,show upD F k=F from if_neg (by omega),show upD k k=k from if_neg (by omega)]at hQ hc;obtain⟨p,cp,rfl,hcp,_⟩:=dO (k:=.i8) (xs:=brdL rk k) (by rw[hlb];exact hownP);rw[hlb]at hcp hQ hc;have hown9:=(dI w3 w.heap.size (ar F k p (k*F) cp).toArray).own hownP (fun q e=>by
      have:=aY hownP hAr (fun c h=>by injection h with h1 h2;simp at h2);rw[e]at this;have:q≠w.heap.size:=fun h=>this (by rw[h]);omega)
     obtain⟨p2,cp2,e2,hcp2,hArr⟩:=dO (k:=.i8) (xs:=brdL rk k) (by rw[hlb];exact hown9);injection e2 with e21 e22 e23;subst e21;subst e23;have hi91:Hid ((Tryz.prog.info? 68).map (·.size)=some (ar F k p (k*F) cp).toArray.size):=zhd (by kernel_rfl);have hone:Hid ((ar F k p (k*F) cp).toArray.all (·.oneCell')=true):=zhd (by first|kernel_rfl|simp[Value.oneCell']);have hA9:=ak (cells:=(ar F k p (k*F) cp).toArray) hAr;have hb9:=aj (cells:=(ar F k p (k*F) cp).toArray) hBr (Nat.le_refl _) hBr.size;have hcp:Hid (k*F≤cp):=zhd hcp;replace hlb:=zhd hlb;clear hcp2 e22 hown9 hownR hownP;go_wp2_with (first|(refine ba rfl 68 (.tmp 6) rfl q6 _ 91 rfl hQ (by kernel_rfl) ?_)|(refine ai rfl 68 (.tmp 2) (.tmp 135) rfl w.heap.size _ rfl rfl 68 _ hAr hi91.out rfl hone.out ?_;rintro w' rfl)|fail);refine bodyPost_ret (aU (fn:=Tryz.f127) Tryz.results127 rfl hA9 (by kernel_rfl) hi91.out rfl) rfl ?_;refine⟨⟨p,cp,rz ?_,?_,?_⟩,hb9⟩
     ·rw[hrk.out,←hRk.out];rfl
     ·rw[hrk.out,←hRk.out];exact hcp.out
     ·rw[hrk.out,←hRk.out];exact hArr
theorem jS{P:Program}{id:Nat}{ops:Array Oper}{Q:Exit→Act→World→Prop}{a:Act}{w:World}(hm:P.follows .mixedOrders=true)(hb:aW .any ops=true)
  (ds:List (Option Tmp)) (hds:ops.toList.map (·.dst)=ds) (hok:bn ds=true)
  (st:List Nat) (hst:bi ops st=true) (hnd:st.Nodup) (hlt:∀ s∈st,s<ops.size)
  (vals:List Value) (Ws:Nat→World) (h0:Ws 0=w.drew)
  (hstep:∀ i o f k,ops[i]? = some o→i<ops.size→i∉st→k≤st.length→(∀ e∈o.after,Region.binds .any e=true→f e.on=vals.getD e.on undef)→∀ K:Act→World→Prop,K ((ao ds f 0 a).put o.dst (vals.getD i undef)) (Ws k) →
   if Region.wanted o (yielded ops (ao ds f 0 a).tmps)=true then o.wp P (ao ds f 0 a) (Ws k) K Q else K ((ao ds f 0 a).put o.dst undef) (Ws k))
  (hturn:∀ i o f k,ops[i]? = some o→st[k]? = some i→(∀ e∈o.after,Region.binds .any e=true→f e.on=vals.getD e.on undef)→∀ K:Act→World→Prop,K ((ao ds f 0 a).put o.dst (vals.getD i undef)) (Ws (k+1)) →
   if Region.wanted o (yielded ops (ao ds f 0 a).tmps)=true then o.wp P (ao ds f 0 a) (Ws k) K Q else K ((ao ds f 0 a).put o.dst undef) (Ws k))
  (hend:∀ f:Nat→Value,(∀ i,f i=vals.getD i undef)→Q .normal (ao ds f 0 a) (Ws st.length)):(Code.region id ops true).wp P Q a w :=
 lf hm hb ds hds hok st hst hnd hlt vals Ws h0 hstep hturn (hend _ (fun _=>rfl))
section ops
variable {P:Program} {o:Oper} {a:Act} {w:World} {K:Act→World→Prop} {Q:Exit→Act→World→Prop} {t:Nat→Option Bool} {X:Prop}
theorem mn(hg:o.guard=none)(ty:TypeId)(parts:List (Nat×Operand))(ho:o.op=.build ty parts.toArray)(vs:List (Nat×Value))(hv:parts.map (fun p=>(p.1,a.eval p.2))=vs){cs:Array Value}
  (hb:P.built ty vs=some cs) (h:K (a.put o.dst (.agg cs)) w):if Region.wanted o t=true then o.wp P a w K Q else X:=by
 refine bm hg ?_;have e:(parts.toArray.map fun(i,x)=>(i,a.eval x)).toList=vs:=by rw[←hv];simp
 refine wp_build ty _ ho (by rw[e,hb];rfl) ?_;rw[e,hb];exact h
end ops
theorem jn(W:World)(g o N cap k:Nat)(hk:k<N):(Instr.indexAt 158 (.slice (some ⟨g,o,none⟩) N cap) (.int .i64 k)).run Tryz.prog W=.ok (.pointer (some ⟨g,o+k,none⟩)) W:=by simp[Instr.indexAt,go_sem,run_underlying Tryz.underlying158,hk]
theorem yI(a b:List UInt8)(h:a.length+b.length≤1000)(W:World):(binOp .add 9 (.string (str a)) (.string (str b))).run Tryz.prog W=.ok (.string (str (a++b))) W:=by have h1:=cY a;have h2:=cY b;have h3:=iz a b;simp[go_sem,h1,h2,h3];omega
def iC(bl:Bool):List UInt8:=if bl then [98]else [119]
theorem wQ(bl:Bool)(W:World):(binOp .eql 9 (.string (str (iC bl))) (.string {data:=#[98]})).run Tryz.prog W=.ok (.bool bl) W:=by cases bl<;>kernel_rfl
theorem xK(W:World):(Instr.alloc 26 true (.tuple #[])).run Tryz.prog W=.ok (.pointer (some ⟨W.heap.size,0,none⟩)) (W.alloc (.cells (aa 0 0 none 0 0 false 0 0 0 0).toArray 26)):=by kernel_rfl
theorem rt{W:World}{q:Nat}{cs cells:Array Value}{T:TypeId}{p:Option Addr}{xs:List Int}(h:Arr .i8 W p xs)(hq:ac W q (.cells cs T (0,0)))(hn:∀(j:Nat) (x:Int),cs[j]?≠some (Value.int .i8 x)):Arr .i8 (W.setRow q cells) p xs:=by
 rcases h with rfl|⟨b,o,rfl,hl,hc⟩
 ·exact .inl rfl
 ·rcases xs with _|⟨x,xs⟩
  ·exact .inl rfl
  ·have hb:b≠q:=by
    rintro rfl;have h0:=hc 0 (by simp);rw[hq.cells]at h0;exact hn _ _ h0
   have ha:=dI W q cells;refine .inr ⟨b,o,rfl,Nat.lt_of_lt_of_le hl ha.size,fun j hj=>?_⟩;rw[←hc j hj];simp only[World.cell?,ha.block b hl (by omega)]
def pw7(w:World)(cs:Array Value)(k:Nat):World :=
 match k with
 | 0=>w.drew
 | 1=>w.drew.alloc (.cells (aa 0 0 none 0 0 false 0 0 0 0).toArray 26)
 | _=>(w.drew.alloc (.cells (aa 0 0 none 0 0 false 0 0 0 0).toArray 26)).setRow w.heap.size cs
theorem mM(w:World)(cs:Array Value)(k:Nat):Below w.heap.size w (pw7 w cs k):=by
 rcases k with _|_|k
 ·exact(Below.refl _ _).drew
 ·exact(Below.refl _ _).drew.alloc (Nat.le_refl _) _
 ·exact aj ((Below.refl _ _).drew.alloc (Nat.le_refl _) _) (Nat.le_refl _) (by simp)
theorem pi(s wb:List UInt8)(rk:List (List UInt8))(F R h u:Nat)(bl:Bool)(w:World)(hs:s.length≤1000)(hsp:spl 32 s=[[br F,120,br R],wb,iC bl,[45],[45],[br h],[br u]])
  (hwb:wb.length≤1000) (hrk:spl 47 wb=rk) (hRl:R=rk.length) (hR:3≤R∧R≤8) (hF:3≤F∧F≤8) (hok:oP F rk=true) (hh:h<10) (hu:u<10) (hpv:pvB F R (brdL rk R) bl 0 (-1) h u=true) :
  Clz 70 #[.string (str s)] w fun e w'=>(∃ p c,e=.returned (.tuple #[.agg (aa F R p (R*F) c bl 0 (-1) h u).toArray,.bool true])∧R*F≤c∧Arr .i8 w' p (brdL rk R))∧Below w.heap.size w w':=by
 have hA:=ac.new w (.cells (aa 0 0 none 0 0 false 0 0 0 0).toArray 26);have hB:=ae w (.cells (aa 0 0 none 0 0 false 0 0 0 0).toArray 26);have hlb:(brdL rk R).length=R*F:=kh hok R (by omega);have hbp:=fun W=>pq wb F W hwb (by rw[hrk,←hRl];exact hR) hF (by rw[hrk];exact hok)
 rw[hrk,←hRl]at hbp;have hspl:=fun W=>sH s W hs
 rw[hsp]at hspl;obtain⟨N,hN⟩:∃ N,N=R*F:=⟨_,rfl⟩;rw[←hN]at hbp hlb ⊢;replace hN:=zhd hN;replace hpv:=zhd hpv;replace hlb:=zhd hlb;replace hRl:=zhd hRl;clear hsp hrk hok;go_enter Tryz.func70,Tryz.ntmps70;go_wp2_with fail;show Calls _ _ _ (w.alloc (.cells (aa 0 0 none 0 0 false 0 0 0 0).toArray 26)) _;generalize w.alloc (.cells (aa 0 0 none 0 0 false 0 0 0 0).toArray 26)=w1 at *;refine(hspl w1).mono ?_;rintro e w2 ⟨⟨v,rfl,⟨g,c,rfl⟩,hown⟩,hb2⟩;have hA2:=hA.call hb2;have hB2:=zbc hB hb2;have hgl:=(hown.lt g rfl).2;have hc0:w2.cell? ⟨g,0+0,none⟩=some (aX [br F,120,br R]):=by rw[hown.cellAt 0 (by simp)];rfl
 have hc1:w2.cell? ⟨g,0+1,none⟩=some (aX wb):=by rw[hown.cellAt 1 (by simp)];rfl
 have hc2:w2.cell? ⟨g,0+2,none⟩=some (aX (iC bl)):=by rw[hown.cellAt 2 (by simp)];rfl
 have hc3:w2.cell? ⟨g,0+3,none⟩=some (aX [45]):=by rw[hown.cellAt 3 (by simp)];rfl
 have hc4:w2.cell? ⟨g,0+4,none⟩=some (aX [45]):=by rw[hown.cellAt 4 (by simp)];rfl
 have hc5:w2.cell? ⟨g,0+5,none⟩=some (aX [br h]):=by rw[hown.cellAt 5 (by simp)];rfl
 have hc6:w2.cell? ⟨g,0+6,none⟩=some (aX [br u]):=by rw[hown.cellAt 6 (by simp)];rfl
 clear hA hB hown hspl;rw[show [[br F,120,br R],wb,iC bl,[45],[45],[br h],[br u]].length=7 from rfl];simp only[Nat.zero_add]at hc0 hc1 hc2 hc3 hc4 hc5 hc6;have hn1:(iC bl=[119]∧bl=false)∨(iC bl=[98]∧bl=true):=by cases bl<;>simp[iC]
 have hl1:(str [98]).toList=[98]:=di _;have hl2:(str [119]).toList=[119]:=di _;go_upto_region 2 with fail;go_cut [25]from 11 to 25 (fun bv wx=>bv=.bool false∧w2=wx)
 case first =>
  rcases hn1 with⟨e1,e2⟩|⟨e1,e2⟩
  all_goals
   clear e2;go_wp2_with fail;go_meet;exact⟨rfl,rfl⟩
 case rest =>
  obtain⟨rfl,rfl⟩:=hcut;clear hn1 hl1 hl2;go_wp2_with fail;refine(hbp _).mono ?_;rintro e w3 ⟨⟨p,cp,rfl,hcp,hArr⟩,hb3⟩;have hA3:=hA2.call hb3;have hB3:=zbc hB2 hb3;have hgl3:=Nat.lt_of_lt_of_le hgl hb3.size;have hQ:=ac.new w3 (.cells (ar F R p N cp).toArray 68);have hb5:=ae w3 (.cells (ar F R p N cp).toArray 68);have hA5:=hA3.call hb5;have hB5:=zbc hB3 hb5;have hb25:=zbc hb3 hb5;have hx5:=hArr.call hb5;have hc0':=(hb25.cell (p:=⟨g,0,none⟩) hgl).trans hc0;have hc2':=(hb25.cell (p:=⟨g,2,none⟩) hgl).trans hc2;have hc3':=(hb25.cell (p:=⟨g,3,none⟩) hgl).trans hc3;have hc4':=(hb25.cell (p:=⟨g,4,none⟩) hgl).trans hc4;have hc5':=(hb25.cell (p:=⟨g,5,none⟩) hgl).trans hc5;have hc6':=(hb25.cell (p:=⟨g,6,none⟩) hgl).trans hc6;have hgl5:=Nat.lt_of_lt_of_le hgl hb25.size;clear hc0 hc1 hc2 hc3 hc4 hc5 hc6 hgl hArr hbp hgl3;go_wp2_with fail;show Code.wp _ _ _ _ (w3.alloc (.cells (ar F R p N cp).toArray 68));generalize w3.alloc (.cells (ar F R p N cp).toArray 68)=w5 at *;generalize w3.heap.size=q5 at *;have hc0:=hc0';have hc2:=hc2';have hc3:=hc3';have hc4:=hc4';have hc5:=hc5';have hc6:=hc6';have hgl:=hgl5;clear hc0' hc2' hc3' hc4' hc5' hc6' hgl5;refine bG (by kernel_rfl) (by kernel_rfl) [some 34,some 35,some 36,some 37,some 38,some 39,some 40,some 41,some 42,some 43,some 44,some 45,some 46,some 47,some 48,some 49,some 50,some 51] (by rfl) (by rfl) (fun i8=>match i8 with|0=>.bool true|1=>.bool false|2=>.bool false|3=>.slice (some ⟨g,0,none⟩) 7 c|4=>.pointer (some ⟨g,0+0,none⟩)|5=>aX [br F,120,br R] | 6=>.pointer (some ⟨q5,0,none⟩)|7=>.pointer (some ⟨q5,0,none⟩)|8=>.int .i64 ((F:Nat):Int)|9=>aX [br F] | 10=>aX [br F,120] | 11=>.pointer (some ⟨q5,0,none⟩)|12=>.pointer (some ⟨q5,1,none⟩)|13=>.int .i64 ((R:Nat):Int)|14=>aX [br R] | 15=>aX [br F,120,br R] | 16=>.bool false|17=>.bool false|_=>undef) (fun W=>Below w5.heap.size w5 W) ((Below.refl _ _).drew) ?hstep ?hend
  case hstep =>
   intro i9 o9 f9 W ho hi hC hf K hK;have hi:i9<18:=hi;rcases i9 with _|_|_|_|_|_|_|_|_|_|_|_|_|_|_|_|_|_|i9
   ·exact al (og ho) (.tmp 6) (oo ho) (ah rfl rfl) (hK _ hC)
   ·exact js (og ho) .not 4 (.tmp 34) (oo ho) (ri 0 (da ho hf 0)) (rj _ _) (hK _ hC)
   ·exact al (og ho) (.tmp 35) (oo ho) (ri 1 (da ho hf 1)) (hK _ hC)
   ·exact gd (wo ho (dg ho hf 2)) (al rfl (.tmp 4) (oo ho) (ah rfl rfl) (hK _ hC))
   ·exact gd (wo ho (dg ho hf 2)) (aT rfl 158 (.tmp 37) (.const (.int .i64 0)) (oo ho) (ri 3 (da ho hf 3)) rfl (jn W g 0 7 c 0 (by decide)) (hK _ hC))
   ·exact gd (wo ho (dg ho hf 2)) (ap rfl 9 (.tmp 38) (oo ho) (ri 4 (da ho hf 4)) (by kernel_rfl) ((hC.cell (p:=⟨g,0,none⟩) hgl).trans hc0) (hK _ hC))
   ·exact gd (wo ho (dg ho hf 2)) (au rfl 68 (.tmp 5) 0 (oo ho) (ah rfl rfl) (n:=0) (by kernel_rfl) (hK _ hC))
   ·exact gd (wo ho (dg ho hf 2)) (au rfl 23 (.tmp 40) 0 (oo ho) (ri 6 (da ho hf 6)) (n:=0) (by kernel_rfl) (hK _ hC))
   ·exact gd (wo ho (dg ho hf 2)) (ap rfl 3 (.tmp 41) (oo ho) (ri 7 (da ho hf 7)) (by kernel_rfl) ((hQ.call hC).cells 0) (hK _ hC))
   ·exact gd (wo ho (dg ho hf 2)) (aQ rfl 128 (.tmp 42) #[3] (oo ho) (ri 8 (da ho hf 8)) (fun _ _=>rfl) (gG F (by omega) W) (by rintro u w9 ⟨h9,h10⟩;injection h9 with h9;subst h9;subst h10;exact hK _ hC) (fun _ _ h=>nomatch h.1) (fun _ h=>nomatch h.1))
   ·exact gd (wo ho (dg ho hf 2)) (aK rfl .add 9 9 (.tmp 43) (.const (Value.string {data:=#[120]})) (oo ho) (ri 9 (da ho hf 9)) rfl (ny _ _ _ _ _ _ _) (yI [br F] [120] (by simp) W) (hK _ hC))
   ·exact gd (wo ho (dg ho hf 2)) (au rfl 68 (.tmp 5) 0 (oo ho) (ah rfl rfl) (n:=0) (by kernel_rfl) (hK _ hC))
   ·exact gd (wo ho (dg ho hf 2)) (au rfl 23 (.tmp 45) 1 (oo ho) (ri 11 (da ho hf 11)) (n:=1) (by kernel_rfl) (hK _ hC))
   ·exact gd (wo ho (dg ho hf 2)) (ap rfl 3 (.tmp 46) (oo ho) (ri 12 (da ho hf 12)) (by kernel_rfl) ((hQ.call hC).cells 1) (hK _ hC))
   ·exact gd (wo ho (dg ho hf 2)) (aQ rfl 128 (.tmp 47) #[3] (oo ho) (ri 13 (da ho hf 13)) (fun _ _=>rfl) (gG R (by omega) W) (by rintro u w9 ⟨h9,h10⟩;injection h9 with h9;subst h9;subst h10;exact hK _ hC) (fun _ _ h=>nomatch h.1) (fun _ h=>nomatch h.1))
   ·exact gd (wo ho (dg ho hf 2)) (aK rfl .add 9 9 (.tmp 44) (.tmp 48) (oo ho) (ri 10 (da ho hf 10)) (ri 14 (da ho hf 14)) (ny _ _ _ _ _ _ _) (yI [br F,120] [br R] (by simp) W) (hK _ hC))
   ·exact gd (wo ho (dg ho hf 2)) (aK rfl .neq 9 9 (.tmp 39) (.tmp 49) (oo ho) (ri 5 (da ho hf 5)) (ri 15 (da ho hf 15)) (ny _ _ _ _ _ _ _) (jl [br F,120,br R] W) (hK _ hC))
   ·exact fN (og ho) (.tmp 36) (.const (.bool true)) (.tmp 50) (oo ho) (ri 2 (da ho hf 2)) (ri 16 (da ho hf 16)) (hK _ hC)
   ·omega
  case hend =>
   intro w6 hC;simp only[ao,Act.put,List.setIfInBounds_toArray,List.set_cons_succ,List.set_cons_zero];have hA6:=hA5.call hC;have hB6:=zbc hB5 hC;have hQ6:=hQ.call hC;have hx6:=hx5.call hC;have hc2':=(hC.cell (p:=⟨g,2,none⟩) hgl).trans hc2;have hc3':=(hC.cell (p:=⟨g,3,none⟩) hgl).trans hc3;have hc4':=(hC.cell (p:=⟨g,4,none⟩) hgl).trans hc4;have hc5':=(hC.cell (p:=⟨g,5,none⟩) hgl).trans hc5;have hc6':=(hC.cell (p:=⟨g,6,none⟩) hgl).trans hc6;have hgl6:=Nat.lt_of_lt_of_le hgl hC.size;clear hQ hx5 hc0 hc2 hc3 hc4 hc5 hc6 hgl hC;go_wp2_with fail;have hc2:=hc2';have hc3:=hc3';have hc4:=hc4';have hc5:=hc5';have hc6:=hc6';have hgl:=hgl6;have hQ:=hQ6;clear hc2' hc3' hc4' hc5' hc6' hgl6;refine jS (by kernel_rfl) (by kernel_rfl) [some 53,some 54,some 55,some 56,some 57,some 58,some 59,some 60,some 61,some 62,some 63,some 64,some 65,some 66,some 67,some 68,some 69,some 7,none] (by rfl) (by rfl) [17,18] (by kernel_rfl) (by decide) (by decide) [.pointer (some ⟨q5,0,none⟩),.agg #[.int .i64 (F:Int),.int .i64 (R:Int)],.pointer (some ⟨q5,2,none⟩),.slice p N cp,.slice (some ⟨g,0,none⟩) 7 c,.pointer (some ⟨g,0+2,none⟩),aX (iC bl),.bool bl,.slice (some ⟨g,0,none⟩) 7 c,.pointer (some ⟨g,0+5,none⟩),aX [br h],.int .i64 ((h:Nat):Int),.slice (some ⟨g,0,none⟩) 7 c,.pointer (some ⟨g,0+6,none⟩),aX [br u],.int .i64 ((u:Nat):Int),.agg (aa F R p N cp bl 0 (-1) h u).toArray,.pointer (some ⟨w6.heap.size,0,none⟩),undef] (pw7 w6 (aa F R p N cp bl 0 (-1) h u).toArray) rfl ?hstep ?hturn ?hend
   case hstep =>
    intro i9 o9 f9 k9 ho hi hmem _ hf K hK;have hi:i9<19:=hi;obtain⟨W,hW⟩:∃ W,W=pw7 w6 (aa F R p N cp bl 0 (-1) h u).toArray k9:=⟨_,rfl⟩;have hC:Below w6.heap.size w6 W:=by rw[hW];exact mM _ _ _
    rw[←hW]at hK ⊢;clear hW;rcases(by simp at hmem;omega:i9=0∨i9=1∨i9=2∨i9=3∨i9=4∨i9=5∨i9=6∨i9=7∨i9=8∨i9=9∨i9=10∨i9=11∨i9=12∨i9=13∨i9=14∨i9=15∨i9=16)with rfl|rfl|rfl|rfl|rfl|rfl|rfl|rfl|rfl|rfl|rfl|rfl|rfl|rfl|rfl|rfl|rfl
    ·exact au (og ho) 68 (.tmp 5) 0 (oo ho) (ah rfl rfl) (n:=0) (by kernel_rfl) hK
    ·exact ay (og ho) 23 (.tmp 53) (oo ho) (ri 0 (da ho hf 0)) [.int .i64 (F:Int),.int .i64 (R:Int)] (by kernel_rfl) (fun j v hv=>by rw[Nat.zero_add,(hQ.call hC).cells j];match j,hv with|0,hv=>simpa using hv|1,hv=>simpa using hv) hK
    ·exact au (og ho) 68 (.tmp 5) 1 (oo ho) (ah rfl rfl) (n:=2) (by kernel_rfl) hK
    ·exact ap (og ho) 24 (.tmp 55) (oo ho) (ri 2 (da ho hf 2)) (by kernel_rfl) ((hQ.call hC).cells 2) hK
    ·exact al (og ho) (.tmp 4) (oo ho) (ah rfl rfl) hK
    ·exact aT (og ho) 158 (.tmp 57) (.const (.int .i64 2)) (oo ho) (ri 4 (da ho hf 4)) rfl (jn W g 0 7 c 2 (by decide)) hK
    ·exact ap (og ho) 9 (.tmp 58) (oo ho) (ri 5 (da ho hf 5)) (by kernel_rfl) ((hC.cell (p:=⟨g,2,none⟩) hgl).trans hc2) hK
    ·exact aK (og ho) .eql 9 9 (.tmp 59) (.const (Value.string {data:=#[98]})) (oo ho) (ri 6 (da ho hf 6)) rfl (ny _ _ _ _ _ _ _) (wQ bl W) hK
    ·exact al (og ho) (.tmp 4) (oo ho) (ah rfl rfl) hK
    ·exact aT (og ho) 158 (.tmp 61) (.const (.int .i64 5)) (oo ho) (ri 8 (da ho hf 8)) rfl (jn W g 0 7 c 5 (by decide)) hK
    ·exact ap (og ho) 9 (.tmp 62) (oo ho) (ri 9 (da ho hf 9)) (by kernel_rfl) ((hC.cell (p:=⟨g,5,none⟩) hgl).trans hc5) hK
    ·exact aQ (og ho) 129 (.tmp 63) #[9] (oo ho) (ri 10 (da ho hf 10)) (fun _ _=>rfl) (lp h (by omega) W) (by intro u w9 h9;rw[Ending.returned.inj h9.1,←h9.2];exact hK) (fun _ _ h=>nomatch h.1) (fun _ h=>nomatch h.1)
    ·exact al (og ho) (.tmp 4) (oo ho) (ah rfl rfl) hK
    ·exact aT (og ho) 158 (.tmp 65) (.const (.int .i64 6)) (oo ho) (ri 12 (da ho hf 12)) rfl (jn W g 0 7 c 6 (by decide)) hK
    ·exact ap (og ho) 9 (.tmp 66) (oo ho) (ri 13 (da ho hf 13)) (by kernel_rfl) ((hC.cell (p:=⟨g,6,none⟩) hgl).trans hc6) hK
    ·exact aQ (og ho) 129 (.tmp 67) #[9] (oo ho) (ri 14 (da ho hf 14)) (fun _ _=>rfl) (lp u (by omega) W) (by intro u w9 h9;rw[Ending.returned.inj h9.1,←h9.2];exact hK) (fun _ _ h=>nomatch h.1) (fun _ h=>nomatch h.1)
    ·exact mn (og ho) 26 [(0,.tmp 54),(1,.tmp 56),(2,.tmp 60),(4,.const (.int .i64 (-1))),(5,.tmp 64),(6,.tmp 68)] (oo ho) [(0,.agg #[.int .i64 (F:Int),.int .i64 (R:Int)]),(1,.slice p N cp),(2,.bool bl),(4,.int .i64 (-1)),(5,.int .i64 ((h:Nat):Int)),(6,.int .i64 ((u:Nat):Int))] (by simp only[List.map_cons,List.map_nil];rw[(ri 1 (da ho hf 1)),(ri 3 (da ho hf 3)),(ri 7 (da ho hf 7)),(ri 11 (da ho hf 11)),(ri 15 (da ho hf 15))];rfl) (by kernel_rfl) hK
   case hturn =>
    intro i9 o9 f9 k9 ho hst hf K hK;have hk9:k9<2:=(List.getElem?_eq_some_iff.1 hst).1;rcases(by omega:k9=0∨k9=1)with rfl|rfl
    ·obtain rfl:i9=17:=by simp at hst;exact hst.symm
     exact bV (og ho) 26 (oo ho) (xK _) hK
    ·obtain rfl:i9=18:=by simp at hst;exact hst.symm
     exact bI (og ho) 26 (.tmp 7) (.tmp 69) (oo ho) (ri 17 (da ho hf 17)) (aa F R p N cp bl 0 (-1) h u).toArray (aa 0 0 none 0 0 false 0 0 0 0).toArray 26 (ri 16 (da ho hf 16)) (ac.new w6.drew _) (by kernel_rfl) rfl (by first|kernel_rfl|simp[Value.oneCell']) hK
   case hend =>
    intro f9 hf9;have hv17:f9 17=.pointer (some ⟨w6.heap.size,0,none⟩):=hf9 17;clear hf9;have hC7:=mM w6 (aa F R p N cp bl 0 (-1) h u).toArray 2;have hQ7:ac (pw7 w6 (aa F R p N cp bl 0 (-1) h u).toArray 2) w6.heap.size (.cells (aa F R p N cp bl 0 (-1) h u).toArray 26 (0,0)):=ak (ac.new w6.drew _);have hA7:=hA6.call hC7;have hB7:=zbc hB6 hC7;have hx7:=hx6.call hC7;have hc37:=(hC7.cell (p:=⟨g,3,none⟩) hgl).trans hc3;have hc47:=(hC7.cell (p:=⟨g,4,none⟩) hgl).trans hc4;have hq7:w.heap.size<w6.heap.size:=hA6.lt;rw[show([17,18]:List Nat).length=2 from rfl];generalize pw7 w6 (aa F R p N cp bl 0 (-1) h u).toArray 2=w7 at *;simp only[ao,Act.put,List.setIfInBounds_toArray,List.set_cons_succ,List.set_cons_zero];rw[hv17];have hC8:=hC7.setCell (p:=⟨w6.heap.size,4,none⟩) (Nat.le_refl _) (.int .u8 0);have hA8:=hA6.call hC8;have hB8:=zbc hB6 hC8;have hx8:=hx6.call hC8;have hc48:=(hC8.cell (p:=⟨g,4,none⟩) hgl).trans hc4;have hQ8:ac (w7.setCell ⟨w6.heap.size,4,none⟩ (.int .u8 0)) w6.heap.size (.cells (aa F R p N cp bl 0 (-1) h u).toArray 26 (0,0)):=by have h:=hQ7.set_ 4 (.int .u8 0);simpa using h
    have hrp:=eK F R 0 (-1) h u bl p cp (brdL rk R) (by omega) _ hx8;rw[hlb.out,hpv.out]at hrp;generalize w6.heap.size=q7 at *;clear hv17 hQ hx6 hc2 hc3 hc4 hc5 hc6 hgl hC7 hC8;generalize f9 0=u0,f9 1=u1,f9 2=u2,f9 3=u3,f9 4=u4,f9 5=u5,f9 6=u6,f9 7=u7,f9 8=u8,f9 9=u9,f9 10=u10,f9 11=u11,f9 12=u12,f9 13=u13,f9 14=u14,f9 15=u15,f9 16=u16,f9 18=u18;have⟨hc,hl7⟩:=hQ7.cl;have hfz:=hQ7.frozen;have hl45:(str [45]).toList=[45]:=di _;go_wp2_with fail;refine(me w7).mono ?_;rintro e w8 ⟨rfl,rfl⟩;go_upto_region 12 with fail;show Code.wp _ _ _ _ (w7.setCell ⟨q7,4,none⟩ (.int .u8 0));generalize w7.setCell ⟨q7,4,none⟩ (.int .u8 0)=w8 at *;clear hc hl7 hfz hx7 hc37 hc47;have hl8:=hQ8.lt;have hi40:Hid ((Tryz.prog.info? 26).map (·.size)=some (aa F R p N cp bl 0 (-1) h u).toArray.size):=zhd (by kernel_rfl);have hone:Hid ((aa F R p N cp bl 0 (-1) h u).toArray.all (·.oneCell')=true):=zhd (by first|kernel_rfl|simp[Value.oneCell']);go_wp2_with (first|(refine ba rfl 26 (.tmp 7) rfl q7 _ 26 rfl hQ8 (by kernel_rfl) ?_)|fail);refine hrp.mono ?_;rintro e w9 ⟨rfl,hb9⟩;have hQ9:=hQ8.call hb9;have hA9:=hA8.call hb9;have hB9:=zbc hB8 hb9;have hx9:=rt (cells:=(aa F R p N cp bl 0 (-1) h u).toArray) (hx8.call hb9) hA9 (by
     intro j x;rcases j with _|_|_|_|_|_|_|_|j<;>simp)
    clear hx8 hrp hc48 hl8;go_wp2_with (first|(refine ba rfl 26 (.tmp 7) rfl q7 _ 26 rfl hQ9 (by kernel_rfl) ?_)|(refine ai rfl 26 (.tmp 2) (.tmp 99) rfl w.heap.size _ rfl rfl 26 _ hA9 hi40.out rfl hone.out ?_;rintro w' rfl)|fail);refine bodyPost_ret (aU (fn:=Tryz.f70) Tryz.results70 rfl (ak hA9) (by kernel_rfl) hi40.out rfl) rfl ?_;exact⟨⟨p,cp,rfl,hcp,hx9⟩,aj hB9 (Nat.le_refl _) hB9.size⟩
end Go.Proofs.YtefmplccbkmalaaGreatDoor
namespace Go.Proofs.YtefmplccbkmalaaGreatDoor
open Go.RowKit Go.Sort Go.BigFrame

theorem fm(F R:Int)(m:Mv)(w:World):
  Clz 21 #[.agg #[.int .i64 F,.int .i64 R],.agg m.cs.toArray] w fun e w'=>e=.returned (.bool (mvB F R m))∧Bw w w':=by
 have hA:=(ac.new w (.cells #[.int .i64 F,.int .i64 R] 23)).alloc (.cells m.cs.toArray 40);have hD:=ac.new' (w.alloc (.cells #[.int .i64 F,.int .i64 R] 23)) (.cells m.cs.toArray 40) (q:=w.heap.size+1) (by simp);have hB:=(ae w (.cells #[.int .i64 F,.int .i64 R] 23)).alloc (by simp) (.cells m.cs.toArray 40);have hsv:=fun a W=>eV F R a W
 have hV:mvB F R m=(sqB F R m.fr&&(sqB F R m.tg&&((m.fr != m.tg)&&((m.pr==0)||(decide (2≤m.pr)&&decide (m.pr≤5)))))):=by
  unfold mvB;have e1:decide (m.fr≠m.tg)=(m.fr != m.tg):=by by_cases h:m.fr=m.tg<;>simp[h]
  rw[e1];rfl
 generalize mvB F R m=V at *;have h1:=hA.cells;have h2:=hD.cells;have l1:=hA.lt;have l2:=hD.lt;go_enter Tryz.func21,Tryz.ntmps21;go_wp2_with fail;refine(hsv _ _).mono ?_;rintro e w2 ⟨rfl,hb2⟩;have hA2:=hA.call hb2;have hD2:=hD.call hb2;have hB2:=zbc hB hb2;clear h1 h2 l1 l2 hA hD hB;have h1:=hA2.cells;have h2:=hD2.cells;have l1:=hA2.lt;have l2:=hD2.lt;rcases z1:sqB F R m.fr with _|_
 ·have hV:Hid (V=false):=zhd (by rw[hV,z1];rfl);go_wp2_with fail;go_ret;exact⟨by rw[hV.out];rfl,hB2⟩
 ·rw[z1,Bool.true_and]at hV;replace hV:=zhd hV;go_wp2_with fail;refine(hsv _ _).mono ?_;rintro e w3 ⟨rfl,hb3⟩;have hD3:=hD2.call hb3;have hB3:=zbc hB2 hb3;clear h1 h2 l1 l2 hD2;have⟨h2,l2⟩:=hD3.cl;rcases z2:sqB F R m.tg with _|_
  ·go_wp2_with fail;go_ret;exact⟨by rw[hV.out,z2];rfl,hB3⟩
  ·rcases z3:(m.fr != m.tg)with _|_
   ·go_wp2_with fail;go_ret;exact⟨by rw[hV.out,z2,z3];rfl,hB3⟩
   ·rcases z4:(m.pr==0)with _|_
    ·rcases z5:decide (2≤m.pr)with _|_
     ·go_wp2_with fail;go_ret;exact⟨by rw[hV.out,z2,z3,z4,z5];rfl,hB3⟩
     ·go_wp2_with fail;go_ret;exact⟨aV (by rw[hV.out,z2,z3,z4,z5];rfl),hB3⟩
    ·go_wp2_with fail;go_ret;exact⟨by rw[hV.out,z2,z3,z4];rfl,hB3⟩
def cS(w:World)(p:Option Addr)(L:List Ret):Prop :=
 L=[]∨∃ g,p=some ⟨g,0,none⟩∧g<w.heap.size∧∀ j,j<L.length→∀ i v,(L[j]?.getD zeroRet).cs[i]? = some v→w.cell? ⟨g,j*7+i,none⟩=some v
theorem cS.call{w w':World}{p:Option Addr}{L:List Ret}(h:cS w p L)(hb:Bw w w'):cS w' p L:=by
 rcases h with h|⟨g,rfl,hl,hc⟩
 ·exact .inl h
 ·exact .inr ⟨g,rfl,Nat.lt_of_lt_of_le hl hb.size,fun j hj i v hv=>(hb.cell (p:=⟨g,j*7+i,none⟩) hl).trans (hc j hj i v hv)⟩
theorem cS.at{w:World}{p:Option Addr}{L:List Ret}(h:cS w p L){j:Nat}(hj:j<L.length):
  ∃ g,p=some ⟨g,0,none⟩∧g<w.heap.size∧∀ i v,(L[j]?.getD zeroRet).cs[i]? = some v→w.cell? ⟨g,j*7+i,none⟩=some v:=by
 rcases h with rfl|⟨g,rfl,hl,hc⟩
 ·simp at hj
 ·exact⟨g,rfl,hl,hc j hj⟩
theorem fR{w:World}{base:Nat}{v:Value}{L:List Ret}(h:w.ownsRow base 42 7 v L.length (aD L)):∃ p c,v=.slice p L.length c∧cS w p L:=by
 rcases h.2 with⟨rfl,h0⟩|⟨g,cap,cur,rfl,hb,hh,_⟩
 ·rw[h0];exact⟨_,_,rfl,.inl (List.length_eq_zero_iff.1 h0)⟩
 ·exact⟨_,_,rfl,.inr ⟨g,rfl,(Array.getElem?_eq_some_iff.1 hh).1,fun j hj i v hv=>gW h hj hv⟩⟩
theorem kp(p1 p2:Option Addr)(c1 c2:Nat)(L1 L2:List Ret)(hl:L1.length≤4000000)(w:World)(h1:cS w p1 L1)(h2:cS w p2 L2):
  Clz 14 #[.slice p1 L1.length c1,.slice p2 L2.length c2] w fun e w'=>e=.returned (.bool (decide (L1=L2)))∧Bw w w':=by
 by_cases hn:L1.length=L2.length
 rotate_left
 ·have z:((L1.length:Int) != L2.length)=true:=by simp;omega
  have hf:decide (L1=L2)=false:=by rw[decide_eq_false_iff_not];intro e;exact hn (by rw[e])
  rw[hf];replace hf:=True.intro;clear hn;go_enter Tryz.func14,Tryz.ntmps14;go_wp2_with fail;go_ret;exact⟨rfl,Below.refl _ _⟩
 ·have z:((L1.length:Int) != L2.length)=false:=by simp;omega
  obtain⟨n,hn1⟩:∃ n,n=L1.length:=⟨_,rfl⟩;have hn2:n=L2.length:=by omega
  rw[←hn1,←hn2]at z ⊢;rw[←hn1]at hl;clear hn;obtain⟨B,hBd⟩:∃ B,B=decide (L1=L2):=⟨_,rfl⟩;rw[←hBd];replace hBd:=zhd hBd;replace hn1:=zhd hn1;replace hn2:=zhd hn2;go_enter Tryz.func14,Tryz.ntmps14;go_wp2_with fail;go_loopg [5] 4000001 (fun q iv wr=>∃ k:Nat,q+k=4000001∧k≤n∧iv=.int .i64 k∧Hid (L1.take k=L2.take k)∧Bw w wr)
  case atStart=>exact⟨0,by omega,Nat.zero_le _,rfl,zhd rfl,Below.refl _ _⟩
  case round =>
   obtain⟨k,hq,hk,rfl,hE,hBr⟩:=hrel;by_cases hlt:k<n
   ·have hki:(k:Int)<n:=by omega
    obtain⟨g1,rfl,hg1,hx⟩:=(h1.call hBr).at (j:=k) (by rw[←hn1.out];exact hlt);obtain⟨g2,rfl,hg2,hy⟩:=(h2.call hBr).at (j:=k) (by rw[←hn2.out];exact hlt);obtain⟨x,hxe⟩:∃ x,x=L1[k]?.getD zeroRet:=⟨_,rfl⟩;obtain⟨y,hye⟩:∃ y,y=L2[k]?.getD zeroRet:=⟨_,rfl⟩;rw[←hxe]at hx;rw[←hye]at hy;obtain⟨b,hb⟩:∃ b,b=!decide (x=y):=⟨_,rfl⟩;have hne:=fun W=>qS x y W
    rw[←hb]at hne;replace hxe:=zhd hxe;replace hye:=zhd hye;replace hb:=zhd hb;go_wp2_with fail;refine bG (by kernel_rfl) (by kernel_rfl) [some 17,some 18,some 19,some 20,some 21,some 22,some 23,some 24,some 25] (by rfl) (by rfl) (fun i8=>match i8 with|0=>.slice (some ⟨g1,0,none⟩) n c1|1=>.int .i64 (k:Nat)|2=>.pointer (some ⟨g1,k*7,none⟩)|3=>.agg x.cs.toArray|4=>.slice (some ⟨g2,0,none⟩) n c2|5=>.int .i64 (k:Nat)|6=>.pointer (some ⟨g2,k*7,none⟩)|7=>.agg y.cs.toArray|8=>.bool b|_=>undef) (fun W=>Bw wr W) ((Below.refl _ _).drew) ?hstep ?hend
    case hstep =>
     intro i9 o9 f9 W ho hi hC hf K hK;have hi:i9<9:=hi;rcases i9 with _|_|_|_|_|_|_|_|_|i9
     ·exact al (og ho) (.tmp 0) (oo ho) (ah rfl rfl) (hK _ hC)
     ·exact al (og ho) (.tmp 5) (oo ho) (ah rfl rfl) (hK _ hC)
     ·exact aT (og ho) 30 (.tmp 17) (.tmp 18) (oo ho) (ri 0 (da ho hf 0)) (ri 1 (da ho hf 1)) (jr W g1 n c1 k hlt) (hK _ hC)
     ·exact ay (og ho) 42 (.tmp 19) (oo ho) (ri 2 (da ho hf 2)) x.cs (by kernel_rfl) (fun i v hv=>(hC.cell (p:=⟨g1,k*7+i,none⟩) hg1).trans (hx i v hv)) (hK _ hC)
     ·exact al (og ho) (.tmp 1) (oo ho) (ah rfl rfl) (hK _ hC)
     ·exact al (og ho) (.tmp 5) (oo ho) (ah rfl rfl) (hK _ hC)
     ·exact aT (og ho) 30 (.tmp 21) (.tmp 22) (oo ho) (ri 4 (da ho hf 4)) (ri 5 (da ho hf 5)) (jr W g2 n c2 k hlt) (hK _ hC)
     ·exact ay (og ho) 42 (.tmp 23) (oo ho) (ri 6 (da ho hf 6)) y.cs (by kernel_rfl) (fun i v hv=>(hC.cell (p:=⟨g2,k*7+i,none⟩) hg2).trans (hy i v hv)) (hK _ hC)
     ·exact aK (og ho) .neq 42 42 (.tmp 20) (.tmp 24) (oo ho) (ri 3 (da ho hf 3)) (ri 7 (da ho hf 7)) (iH .neq _ _ _ _ _) (hne W) (hK _ hC)
     ·omega
    case hend =>
     intro W hC;simp only[ao,Act.put,List.setIfInBounds_toArray,List.set_cons_succ,List.set_cons_zero];have hB5:=zbc hBr hC;have e1:k<L1.length:=by rw[←hn1.out];exact hlt
     have e2:k<L2.length:=by rw[←hn2.out];exact hlt
     have e3:L1.take (k+1)=L1.take k++[x]:=by rw[List.take_succ_eq_append_getElem e1,hxe.out,List.getElem?_eq_getElem e1];rfl
     have e4:L2.take (k+1)=L2.take k++[y]:=by rw[List.take_succ_eq_append_getElem e2,hye.out,List.getElem?_eq_getElem e2];rfl
     have hxx:x=L1[k]?.getD zeroRet:=hxe.out;have hyy:y=L2[k]?.getD zeroRet:=hye.out;replace hxx:=zhd hxx;replace hyy:=zhd hyy;replace e3:=zhd e3;replace e4:=zhd e4;clear hx hy hne hC hBr;cases b
     ·have he:x=y:=by have:=hb.out;simpa using this
      have hE2:Hid (L1.take (k+1)=L2.take (k+1)):=zhd (by rw[e3.out,e4.out,hE.out,he]);clear he;go_wp2_with fail;go_roundg (gk-1)
      case measure=>omega
      case rel=>exact⟨k+1,by omega,by omega,by go_num,hE2,hB5⟩
     ·have he:x≠y:=by have:=hb.out;simpa using this
      have hB2:Hid (B=false):=zhd (by
       rw[hBd.out,decide_eq_false_iff_not];intro e;exact he (by rw[hxx.out,hyy.out,e]))
      clear he;go_wp2_with fail;go_ret;exact⟨by rw[hB2.out];rfl,hB5⟩
   ·obtain rfl:k=n:=by omega
    have hB2:Hid (B=true):=zhd (by
     rw[hBd.out,decide_eq_true_eq];have:=hE.out;rwa[List.take_of_length_le (Nat.le_of_eq hn1.out.symm),List.take_of_length_le (Nat.le_of_eq hn2.out.symm)]at this)
    go_wp2_with fail;go_ret;exact⟨by rw[hB2.out];rfl,hBr⟩
theorem wX(o:Nat)(x:Int):af.toArray[o]?≠some (.int .i8 x):=by intro h;rcases o with _|_|_|_|_|_|_|_|o<;>(simp at h)
theorem Arr.far_row{w:World}{p:Option Addr}{xs:List Int}(h:Arr .i8 w p xs)(hl:0<xs.length){g:Nat}{cs:Array Value}(hg:∀ o x,w.cell? ⟨g,o,none⟩≠some (.int .i8 x)):Arr .i8 (w.setRow g cs) p xs:=by
 rcases h with h|⟨b,o,rfl,hb,hc⟩
 ·rw[h]at hl;cases hl
 ·have hne:b≠g:=fun e=>by subst e;exact hg _ _ (hc 0 hl)
  have ha:=dI w g cs;refine .inr ⟨b,o,rfl,Nat.lt_of_lt_of_le hb ha.size,fun j hj=>?_⟩;rw[←hc j hj];exact World.cell?_of_block (w:=w) (ha.block b hb (by omega))
theorem ga(s wb:List UInt8)(rk:List (List UInt8))(F R h u:Nat)(bl:Bool)(w:World)(hs:s.length≤1000)(hsp:spl 32 s=[[br F,120,br R],wb,iC bl,[45],[45],[br h],[br u]])
  (hwb:wb.length≤1000) (hrk:spl 47 wb=rk) (hRl:R=rk.length) (hR:3≤R∧R≤8) (hF:3≤F∧F≤8) (hok:oP F rk=true) (hh:h<10) (hu:u<10) (hpv:pvB F R (brdL rk R) bl 0 (-1) h u=true) :
  Clz 25 #[.string (str s)] w fun e w'=>(∃ p c,e=.returned (.agg (aa F R p (R*F) c bl 0 (-1) h u).toArray)∧R*F≤c∧Arr .i8 w' p (brdL rk R))∧Bw w w':=by
 have hO:=ac.new w (.cells af.toArray 26);have hB:=ae w (.cells af.toArray 26);have hpp:=fun W=>pi s wb rk F R h u bl W hs hsp hwb hrk hRl hR hF hok hh hu hpv
 have hXl:0<(brdL rk R).length:=by rw[kh hok R (by omega)];exact Nat.mul_pos (by omega) (by omega)
 generalize hST:str s=ST at *;generalize brdL rk R=XS at *;clear hsp hok hpv hwb hrk hs hST;replace hRl:=True.intro;go_enter Tryz.func25,Tryz.ntmps25;go_upto_region 1 with fail;change Code.wp _ _ _ _ (w.alloc (.cells af.toArray 26));generalize w.alloc (.cells af.toArray 26)=W1 at *;go_wp2_with fail;refine(hpp W1).mono ?_;rintro e W2 ⟨⟨p,c,rfl,hc,hx⟩,hb2⟩;have hO2:=hO.call hb2;have hB2:=zbc hB hb2;have hbx:=ae W2 (.cells (aa F R p (R*F) c bl 0 (-1) h u).toArray 26);have hX:=ac.new W2 (.cells (aa F R p (R*F) c bl 0 (-1) h u).toArray 26);clear hpp hO hB;go_upto_region 2 with fail;change Code.wp _ _ _ _ (W2.alloc (.cells (aa F R p (R*F) c bl 0 (-1) h u).toArray 26));have hO3:=hO2.call hbx;have hB3:=zbc hB2 hbx;have hx3:=hx.call hbx;have hl3:W2.heap.size≠w.heap.size:=by have:=hO2.lt;omega
 generalize W2.alloc (.cells (aa F R p (R*F) c bl 0 (-1) h u).toArray 26)=W3 at *;have⟨hi,ho⟩:=zrw 26 (A:=(aa F R p (R*F) c bl 0 (-1) h u).toArray) (by kernel_rfl) (by simp[Value.oneCell']);go_wp2_with (first|(refine ba rfl 26 (.tmp 3) rfl W2.heap.size _ 26 rfl hX (by kernel_rfl) ?_)|((refine ai rfl 26 (.tmp 2) (.tmp 10) rfl w.heap.size ((aa F R p (R*F) c bl 0 (-1) h u).toArray) rfl rfl 26 _ hO3 hi.out rfl ho.out ?_);rintro w9 rfl)|fail);refine bodyPost_ret (bg (fn:=Tryz.f25) Tryz.results25 rfl (ak (cells:=(aa F R p (R*F) c bl 0 (-1) h u).toArray) hO3) (by kernel_rfl)) rfl ?_;have hbS:=aj (cells:=(aa F R p (R*F) c bl 0 (-1) h u).toArray) hB3 (Nat.le_refl _) hB3.size;refine⟨⟨p,c,rfl,hc,?_⟩,hbS⟩;refine hx3.far_row hXl (fun o x e=>?_);rw[hO3.cells o]at e;exact wX o x e
end Go.Proofs.YtefmplccbkmalaaGreatDoor
