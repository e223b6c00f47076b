import Derived.Test.YtefmplccbkmalaaGreatDoorB15
import Derived.Test.YtefmplccbkmalaaGreatDoorB19
set_option maxRecDepth 100000
set_option maxHeartbeats 12800000
namespace Go.Proofs.YtefmplccbkmalaaGreatDoor
open Go.RowKit Go.Sort Go.BigFrame

def gI(R:Nat)(bl:Bool):Int:=if bl then(R:Int)-2 else 1
theorem nd(F R:Nat)(bl:Bool)(hR:R≤8)(w:World):Clz 206 #[.agg #[.int .i64 F,.int .i64 R],.bool bl] w fun e w'=>e=.returned (.int .i64 (gI R bl))∧Bw w w':=by
 have hB:=ae w (.cells #[.int .i64 (F:Int),.int .i64 (R:Int)] 23);have hA:=ac.new w (.cells #[.int .i64 (F:Int),.int .i64 (R:Int)] 23);have⟨c0,l0⟩:=hA.cl;have hw:wrap64 ((R:Int)-2)=(R:Int)-2:=IntWalk.wrap64_in _ (by omega);cases bl
 ·go_enter Tryz.func206,Tryz.ntmps206;go_wp2_with fail;go_ret;exact⟨rfl,hB⟩
 ·go_enter Tryz.func206,Tryz.ntmps206;go_wp2_with fail;go_ret;exact⟨rfl,hB⟩
def gF(F R:Nat)(bl:Bool)(a:Nat):Int:=numI F R ((a%F:Nat):Int) (((a/F:Nat):Int)+sdI bl)
def lx(F R:Nat)(bl:Bool)(a:Nat):Int:=numI F R ((a%F:Nat):Int) (((a/F:Nat):Int)+2*sdI bl)
def gK(F R:Nat)(bl:Bool)(a oc b:Nat):Bool:=(((b:Int)==gF F R bl a)&&!cF oc (gF F R bl a))||((((b:Int)==lx F R bl a)&&(decide ((6:Int)≤R)&&((((a/F:Nat):Int)==gI R bl)&&(!cF oc (gF F R bl a)&&!cF oc (lx F R bl a))))))
def stpL(F R:Nat)(bl:Bool)(a oc:Nat):Nat→List Int
 | 0=>[]
 | k+1=>if gK F R bl a oc k then stpL F R bl a oc k++[(k:Int)]else stpL F R bl a oc k
theorem nP(F R:Nat)(bl:Bool)(a oc k:Nat):(stpL F R bl a oc k).length≤k:=by
 induction k with
 | zero=>simp[stpL]
 | succ k ih =>
  simp only[stpL];split
  ·simp;omega
  ·omega
theorem vN{F R:Nat}{bl:Bool}{a oc b:Nat}:∀ n,b<n→elI (stpL F R bl a oc n) b=gK F R bl a oc b:=by
 have hout:∀ n,n≤b→elI (stpL F R bl a oc n) b=false:=by
  intro n;induction n with
  | zero=>intro _;rfl
  | succ n ih =>
   intro h;simp only[stpL];split
   ·unfold elI at ih ⊢;rw[List.any_append,ih (by omega)];simp;omega
   ·exact ih (by omega)
 intro n;induction n with
 | zero=>intro h;omega
 | succ n ih =>
  intro h;simp only[stpL];by_cases hb:b=n
  ·subst hb;have h0:=hout b (Nat.le_refl _);split
   ·rename_i h1;unfold elI at h0 ⊢;rw[List.any_append,h1];simp
   ·rename_i h1;rw[h0];simpa using h1
  ·have h1:=ih (by omega);split
   ·unfold elI at h1 ⊢;rw[List.any_append,h1];have:((n:Int)==(b:Int))=false:=by simp;omega
    simp[this]
   ·exact h1
def stR(w4:World)(F R:Nat)(bl:Bool)(a oc N:Nat)(b:Nat)(lv bv:Value)(wr:World):Prop :=
 b≤N∧bv=.int .i64 b∧wr.ownsRow w4.heap.size 3 1 lv (stpL F R bl a oc b).length ((stpL F R bl a oc b).map (.int .i64))∧Bw w4 wr
theorem pj(F R:Nat)(bl:Bool)(a oc:Nat)(hF:3≤F∧F≤8)(hR:3≤R∧R≤8)(ha:a<F*R)(w:World):
  Clz 193 #[.agg #[.int .i64 F,.int .i64 R],.bool bl,.int .i64 a,.int .u64 oc] w fun e w'=>(∃ v,e=.returned v∧w'.ownsRow w.heap.size 3 1 v (stpL F R bl a oc (F*R)).length ((stpL F R bl a oc (F*R)).map (.int .i64)))∧Bw w w':=by
 obtain⟨i3,hi3,hz3,hs3,hy3⟩:=info_parts Tryz.info3;have hA:=ac.new w (.cells #[.int .i64 (F:Int),.int .i64 (R:Int)] 23);have hB:=ae w (.cells #[.int .i64 (F:Int),.int .i64 (R:Int)] 23);obtain⟨ha64,ha0,ha1⟩:=bU hF hR ha;obtain⟨N,hN⟩:∃ N,N=F*R:=⟨_,rfl⟩;have hN64:N≤64:=by rw[hN];exact Nat.mul_le_mul hF.2 hR.2
 have hw:wrap64 ((F:Int)*(R:Int))=(N:Int):=by rw[hN,Int.natCast_mul];exact IntWalk.wrap64_in _ (by rw[←Int.natCast_mul,←hN];omega)
 rw[←hN];have hpl:=fun W=>aO F R a hF (by omega) W
 have hfw:=fun W=>cV bl W
 have hsc:=fun W=>nd F R bl hR.2 W
 have hd:-1≤sdI bl∧sdI bl≤1:=by unfold sdI;split<;>omega
 have hr0:(0:Int)≤((a/F:Nat):Int):=Int.natCast_nonneg _;have hf0:(0:Int)≤((a%F:Nat):Int):=Int.natCast_nonneg _;have hn1:=fun W=>cN F R ((a%F:Nat):Int) (((a/F:Nat):Int)+sdI bl) W (by omega) (by omega) (by omega)
 have hn2:=fun W=>cN F R ((a%F:Nat):Int) (((a/F:Nat):Int)+2*sdI bl) W (by omega) (by omega) (by omega)
 obtain⟨n1,e1⟩:∃ n,n=gF F R bl a:=⟨_,rfl⟩;obtain⟨n2,e2⟩:∃ n,n=lx F R bl a:=⟨_,rfl⟩;rw[show numI F R ((a%F:Nat):Int) (((a/F:Nat):Int)+sdI bl)=n1 from e1.symm]at hn1;rw[show numI F R ((a%F:Nat):Int) (((a/F:Nat):Int)+2*sdI bl)=n2 from e2.symm]at hn2;have hH:∀ b:Nat,gK F R bl a oc b=((((b:Int)==n1)&&!cF oc n1)||((((b:Int)==n2)&&(decide ((6:Int)≤R)&&((((a/F:Nat):Int)==gI R bl)&&(!cF oc n1&&!cF oc n2)))))):=fun b=>by unfold gK;rw[←e1,←e2]
 have hs1:=fun W=>fG oc n1 W
 have hs2:=fun W=>fG oc n2 W
 obtain⟨h1,he1⟩:∃ h,h=cF oc n1:=⟨_,rfl⟩;obtain⟨h2,he2⟩:∃ h,h=cF oc n2:=⟨_,rfl⟩;rw[←he1]at hs1 hH;rw[←he2]at hs2 hH;obtain⟨sc,hsce⟩:∃ x,x=gI R bl:=⟨_,rfl⟩;rw[←hsce]at hsc hH;generalize sdI bl=d at *;generalize a%F=f0 at *;generalize a/F=r0 at *;obtain⟨k1,hk1⟩:∃ k:Int,k=(r0:Int)+d:=⟨_,rfl⟩;obtain⟨k2,hk2⟩:∃ k:Int,k=(r0:Int)+2*d:=⟨_,rfl⟩;rw[←hk1]at hn1;rw[←hk2]at hn2;have hw1:IntKind.i64.wrap ((r0:Int)+d)=k1:=by rw[hk1];exact IntWalk.i64_in _ (by omega)
 have hw2:IntKind.i64.wrap (2*d)=2*d:=IntWalk.i64_in _ (by omega);have hw3:IntKind.i64.wrap ((r0:Int)+2*d)=k2:=by rw[hk2];exact IntWalk.i64_in _ (by omega)
 clear e1 e2 he1 he2 hsce hk1 hk2;have⟨c0,l0⟩:=hA.cl;replace hN:=zhd hN;go_enter Tryz.func193,Tryz.ntmps193;go_upto_region 1 with fail;change Code.wp _ _ _ _ (w.alloc (.cells #[.int .i64 (F:Int),.int .i64 (R:Int)] 23));generalize w.alloc (.cells #[.int .i64 (F:Int),.int .i64 (R:Int)] 23)=w1 at *;go_wp2_with fail;refine(hpl w1).mono ?_;rintro e w2 ⟨rfl,hb2⟩;have hA2:=hA.call hb2;have hB2:=zbc hB hb2;clear c0 l0 hA hB hpl;go_wp2_with fail;refine(hfw w2).mono ?_;rintro e w3 ⟨rfl,rfl⟩;have⟨hi,ho⟩:=zrw 85 (A:=(#[.int .i64 (f0:Int),.int .i64 (r0:Int)]:Array Value)) (by kernel_rfl) (by simp[Value.oneCell']);have hZ:=ac.new w2 (.cells #[.int .i64 0,.int .i64 0] 85);go_upto_region 2 with(first|((refine ai rfl 85 (.tmp 9) (.tmp 17) rfl w2.heap.size (#[.int .i64 (f0:Int),.int .i64 (r0:Int)]) rfl rfl 85 _ hZ hi.out rfl ho.out ?_);rintro w3 rfl)|fail);have hbx:=aj (cells:=#[.int .i64 (f0:Int),.int .i64 (r0:Int)]) (ae w2 (.cells #[.int .i64 0,.int .i64 0] 85)) (Nat.le_refl _) (by simp);have hQ:=ak (cells:=#[.int .i64 (f0:Int),.int .i64 (r0:Int)]) hZ;change Code.wp _ _ _ _ ((w2.alloc (.cells #[.int .i64 0,.int .i64 0] 85)).setRow w2.heap.size #[.int .i64 (f0:Int),.int .i64 (r0:Int)]);generalize (w2.alloc (.cells #[.int .i64 0,.int .i64 0] 85)).setRow w2.heap.size #[.int .i64 (f0:Int),.int .i64 (r0:Int)]=w3 at *;have hA3:=hA2.call hbx;have hB3:=zbc hB2 hbx;clear hi ho hZ hbx hfw;generalize w2.heap.size=qp at *;have m1:=am hA3;have m2:=am hQ;have t1:=ax (w:=w3) (fun W _=>hn1 W);have t2:=ax (w:=w3) (fun W _=>hn2 W);refine ag (by kernel_rfl) (by kernel_rfl) ?_;repeat(go_big_quiet_step (first|with_reducible exact t1 _ _|with_reducible exact t2 _ _|fail))
 refine wpQuiet_nil ?_;intro w4 hb4;have hA4:=hA3.call hb4;have hQ4:=hQ.call hb4;have hB4:=zbc hB3 hb4;clear m1 m2 t1 t2 hQ hn1 hn2 hw1 hw2 hw3;go_wp2_with fail;go_loopg [13,14] 65 (fun q lv bv wr=>∃ b:Nat,q+b=65∧stR w4 F R bl a oc N b lv bv wr)
 case atStart=>exact⟨0,rfl,⟨Nat.zero_le _,rfl,World.ownsRow_nil _ _ _ _,Below.refl _ _⟩⟩
 case round =>
  obtain⟨b,hq,⟨hbN,rfl,hown,hbr⟩⟩:=hrel;have hAr:=hA4.call hbr;have⟨hcr,hlr⟩:=hAr.cl;have hBr:=zbc hB4 hbr;by_cases hlt:b<N
  ·have hii:(b:Int)<N:=by omega
   have hQr:=hQ4.call hbr;have hlen:=nP F R bl a oc b;have hnx:stpL F R bl a oc (b+1)=if gK F R bl a oc b then stpL F R bl a oc b++[(b:Int)]else stpL F R bl a oc b:=rfl
   have hhit:=hH b;go_wp2_with fail;clear hcr hlr;have m1:=am hAr;have m2:=am hQr;have t1:=aJ (w:=wr) (fun W=>hs1 W);have t2:=aJ (w:=wr) (fun W=>hs2 W);have t3:=ax (w:=wr) (fun W _=>hsc W);rcases z1:((b:Int)==n1)with _|_
   ·rcases z2:((b:Int)==n2)with _|_
    ·rw[z1,z2]at hhit;refine ag (by kernel_rfl) (by kernel_rfl) ?_;repeat(go_big_quiet_step (fail))
     refine wpQuiet_nil ?_;intro W2 hC2;have hbW2:=zbc hbr hC2;have hownW2:=aA hown hC2;clear m1 m2 t1 t2 t3 hC2 hBr hbr hown hAr hQr;replace hnx:=zhd (hnx.trans (if_neg (by rw[hhit];simp)));go_wp2_with fail;go_roundg (gk-1)
     case measure=>omega
     case rel=>exact⟨b+1,by omega,⟨by omega,by go_num,by rw[hnx.out];exact hownW2,hbW2⟩⟩
    ·rcases z3:decide ((6:Int)≤R)with _|_
     ·rw[z1,z2,z3]at hhit;refine ag (by kernel_rfl) (by kernel_rfl) ?_;repeat(go_big_quiet_step (fail))
      refine wpQuiet_nil ?_;intro W2 hC2;have hbW2:=zbc hbr hC2;have hownW2:=aA hown hC2;clear m1 m2 t1 t2 t3 hC2 hBr hbr hown hAr hQr;replace hnx:=zhd (hnx.trans (if_neg (by rw[hhit];simp)));go_wp2_with fail;go_roundg (gk-1)
      case measure=>omega
      case rel=>exact⟨b+1,by omega,⟨by omega,by go_num,by rw[hnx.out];exact hownW2,hbW2⟩⟩
     ·rcases z4:((r0:Int)==sc)with _|_
      ·rw[z1,z2,z3,z4]at hhit;refine ag (by kernel_rfl) (by kernel_rfl) ?_;repeat(go_big_quiet_step (first|with_reducible exact t3 _ _|fail))
       refine wpQuiet_nil ?_;intro W2 hC2;have hbW2:=zbc hbr hC2;have hownW2:=aA hown hC2;clear m1 m2 t1 t2 t3 hC2 hBr hbr hown hAr hQr;replace hnx:=zhd (hnx.trans (if_neg (by rw[hhit];simp)));go_wp2_with fail;go_roundg (gk-1)
       case measure=>omega
       case rel=>exact⟨b+1,by omega,⟨by omega,by go_num,by rw[hnx.out];exact hownW2,hbW2⟩⟩
      ·cases h1
       ·cases h2
        ·rw[z1,z2,z3,z4]at hhit;refine ag (by kernel_rfl) (by kernel_rfl) ?_;repeat(go_big_quiet_step (first|with_reducible exact t1 _ _|with_reducible exact t2 _ _|with_reducible exact t3 _ _|fail))
         refine wpQuiet_nil ?_;intro W2 hC2;have hbW2:=zbc hbr hC2;have hownW2:=aA hown hC2;clear m1 m2 t1 t2 t3 hC2 hBr hbr hown hAr hQr;replace hnx:=zhd (hnx.trans (if_pos (by rw[hhit];rfl)));go_wp2_with (at_builtin;refine bD rfl (.tmp 85) (.tmp 87) 136 rfl w4.heap.size 3 i3 (.int .i64 0) 8 Tryz.underlying136 hi3 hz3 hs3 hy3 rfl _ (stpL F R bl a oc b).length ((stpL F R bl a oc b).map (.int .i64)) rfl hownW2 1 [.int .i64 (b:Int)] rfl (by intro u hu;simp at hu;subst hu;rfl) _ rfl rfl (by omega) hbW2.size ?_);intro v' w9 hown9 hg9 _;have hb9:=(hbW2.alloc hbW2.size (.cells #[.int .i64 (b:Int)] 3)).grown hg9 (Nat.le_trans hbW2.size (by simp)) (fun j e=>(hownW2.lt j e).1);replace hown9:w9.ownsRow w4.heap.size 3 1 v' (stpL F R bl a oc (b+1)).length ((stpL F R bl a oc (b+1)).map (.int .i64)):=by rw[hnx.out];simpa using hown9
         clear hownW2 hg9;go_wp2_with fail;go_roundg (gk-1)
         case measure=>omega
         case rel=>exact⟨b+1,by omega,⟨by omega,by go_num,hown9,hb9⟩⟩
        ·rw[z1,z2,z3,z4]at hhit;refine ag (by kernel_rfl) (by kernel_rfl) ?_;repeat(go_big_quiet_step (first|with_reducible exact t1 _ _|with_reducible exact t2 _ _|with_reducible exact t3 _ _|fail))
         refine wpQuiet_nil ?_;intro W2 hC2;have hbW2:=zbc hbr hC2;have hownW2:=aA hown hC2;clear m1 m2 t1 t2 t3 hC2 hBr hbr hown hAr hQr;replace hnx:=zhd (hnx.trans (if_neg (by rw[hhit];simp)));go_wp2_with fail;go_roundg (gk-1)
         case measure=>omega
         case rel=>exact⟨b+1,by omega,⟨by omega,by go_num,by rw[hnx.out];exact hownW2,hbW2⟩⟩
       ·rw[z1,z2,z3,z4]at hhit;refine ag (by kernel_rfl) (by kernel_rfl) ?_;repeat(go_big_quiet_step (first|with_reducible exact t1 _ _|with_reducible exact t3 _ _|fail))
        refine wpQuiet_nil ?_;intro W2 hC2;have hbW2:=zbc hbr hC2;have hownW2:=aA hown hC2;clear m1 m2 t1 t2 t3 hC2 hBr hbr hown hAr hQr;replace hnx:=zhd (hnx.trans (if_neg (by rw[hhit];simp)));go_wp2_with fail;go_roundg (gk-1)
        case measure=>omega
        case rel=>exact⟨b+1,by omega,⟨by omega,by go_num,by rw[hnx.out];exact hownW2,hbW2⟩⟩
   ·cases h1
    ·rw[z1]at hhit;refine ag (by kernel_rfl) (by kernel_rfl) ?_;repeat(go_big_quiet_step (first|with_reducible exact t1 _ _|fail))
     refine wpQuiet_nil ?_;intro W2 hC2;have hbW2:=zbc hbr hC2;have hownW2:=aA hown hC2;clear m1 m2 t1 t2 t3 hC2 hBr hbr hown hAr hQr;replace hnx:=zhd (hnx.trans (if_pos (by rw[hhit];rfl)));go_wp2_with (at_builtin;refine bD rfl (.tmp 85) (.tmp 87) 136 rfl w4.heap.size 3 i3 (.int .i64 0) 8 Tryz.underlying136 hi3 hz3 hs3 hy3 rfl _ (stpL F R bl a oc b).length ((stpL F R bl a oc b).map (.int .i64)) rfl hownW2 1 [.int .i64 (b:Int)] rfl (by intro u hu;simp at hu;subst hu;rfl) _ rfl rfl (by omega) hbW2.size ?_);intro v' w9 hown9 hg9 _;have hb9:=(hbW2.alloc hbW2.size (.cells #[.int .i64 (b:Int)] 3)).grown hg9 (Nat.le_trans hbW2.size (by simp)) (fun j e=>(hownW2.lt j e).1);replace hown9:w9.ownsRow w4.heap.size 3 1 v' (stpL F R bl a oc (b+1)).length ((stpL F R bl a oc (b+1)).map (.int .i64)):=by rw[hnx.out];simpa using hown9
     clear hownW2 hg9;go_wp2_with fail;go_roundg (gk-1)
     case measure=>omega
     case rel=>exact⟨b+1,by omega,⟨by omega,by go_num,hown9,hb9⟩⟩
    ·rcases z2:((b:Int)==n2)with _|_
     ·rw[z1,z2]at hhit;refine ag (by kernel_rfl) (by kernel_rfl) ?_;repeat(go_big_quiet_step (first|with_reducible exact t1 _ _|fail))
      refine wpQuiet_nil ?_;intro W2 hC2;have hbW2:=zbc hbr hC2;have hownW2:=aA hown hC2;clear m1 m2 t1 t2 t3 hC2 hBr hbr hown hAr hQr;replace hnx:=zhd (hnx.trans (if_neg (by rw[hhit];simp)));go_wp2_with fail;go_roundg (gk-1)
      case measure=>omega
      case rel=>exact⟨b+1,by omega,⟨by omega,by go_num,by rw[hnx.out];exact hownW2,hbW2⟩⟩
     ·rcases z3:decide ((6:Int)≤R)with _|_
      ·rw[z1,z2,z3]at hhit;refine ag (by kernel_rfl) (by kernel_rfl) ?_;repeat(go_big_quiet_step (first|with_reducible exact t1 _ _|fail))
       refine wpQuiet_nil ?_;intro W2 hC2;have hbW2:=zbc hbr hC2;have hownW2:=aA hown hC2;clear m1 m2 t1 t2 t3 hC2 hBr hbr hown hAr hQr;replace hnx:=zhd (hnx.trans (if_neg (by rw[hhit];simp)));go_wp2_with fail;go_roundg (gk-1)
       case measure=>omega
       case rel=>exact⟨b+1,by omega,⟨by omega,by go_num,by rw[hnx.out];exact hownW2,hbW2⟩⟩
      ·rcases z4:((r0:Int)==sc)with _|_
       ·rw[z1,z2,z3,z4]at hhit;refine ag (by kernel_rfl) (by kernel_rfl) ?_;repeat(go_big_quiet_step (first|with_reducible exact t1 _ _|with_reducible exact t3 _ _|fail))
        refine wpQuiet_nil ?_;intro W2 hC2;have hbW2:=zbc hbr hC2;have hownW2:=aA hown hC2;clear m1 m2 t1 t2 t3 hC2 hBr hbr hown hAr hQr;replace hnx:=zhd (hnx.trans (if_neg (by rw[hhit];simp)));go_wp2_with fail;go_roundg (gk-1)
        case measure=>omega
        case rel=>exact⟨b+1,by omega,⟨by omega,by go_num,by rw[hnx.out];exact hownW2,hbW2⟩⟩
       ·rw[z1,z2,z3,z4]at hhit;refine ag (by kernel_rfl) (by kernel_rfl) ?_;repeat(go_big_quiet_step (first|with_reducible exact t1 _ _|with_reducible exact t3 _ _|fail))
        refine wpQuiet_nil ?_;intro W2 hC2;have hbW2:=zbc hbr hC2;have hownW2:=aA hown hC2;clear m1 m2 t1 t2 t3 hC2 hBr hbr hown hAr hQr;replace hnx:=zhd (hnx.trans (if_neg (by rw[hhit];simp)));go_wp2_with fail;go_roundg (gk-1)
        case measure=>omega
        case rel=>exact⟨b+1,by omega,⟨by omega,by go_num,by rw[hnx.out];exact hownW2,hbW2⟩⟩
  ·have hii:¬(b:Int)<N:=by omega
   obtain rfl:b=N:=by omega
   go_wp2_with fail;go_ret;exact⟨⟨_,rfl,bC hown hB4.size⟩,hBr⟩
def pwnB(F R:Nat)(xs:List Int)(bl:Bool)(pa:Int)(a b:Nat)(pr:Int):Bool :=
 if((((b/F:Nat):Int)==lastI R bl) != (pr != 0))=true then false
 else gK F R bl a (setW gNon xs xs.length) b||(dP F bl a b&&((xs[b]?.getD 0 != 0)||((b:Int)==pa)))
theorem mg{W:World}{L:List Int}{v:Value}{base:Nat}(h:W.ownsRow base 3 1 v L.length (L.map (.int .i64))):bP L v W:=by obtain⟨p,c,e,_,h⟩:=dO h;exact⟨p,c,e,h⟩
theorem rh(F R:Nat)(xs:List Int)(bl:Bool)(can:Nat)(pa ha fu:Int)(a b:Nat)(pr:Int)(p:Option Addr)(cc:Nat)(hF:3≤F∧F≤8)(hR:3≤R∧R≤8)(hlen:xs.length=F*R)(hal:a<F*R)(hbl:b<F*R)(w:World)(hx:Arr .i8 w p xs):
  Clz 163 #[.agg (aa F R p xs.length cc bl can pa ha fu).toArray,.agg #[.int .i64 a,.int .i64 b,.int .i8 pr]] w fun e w'=>e=.returned (.bool (pwnB F R xs bl pa a b pr))∧Bw w w':=by
 obtain⟨W1,hW1⟩:∃ W1,W1=(w.alloc (.cells (aa F R p xs.length cc bl can pa ha fu).toArray 26)).alloc (.cells #[.int .i64 a,.int .i64 b,.int .i8 pr] 40):=⟨_,rfl⟩;have hB:Bw w W1:=by subst hW1;exact(ae w _).alloc (by simp) _
 have hA:ac W1 w.heap.size (.cells (aa F R p xs.length cc bl can pa ha fu).toArray 26 (0,0)):=by subst hW1;exact(ac.new w _).alloc _
 have hM:ac W1 (w.heap.size+1) (.cells #[.int .i64 a,.int .i64 b,.int .i8 pr] 40 (0,0)):=by subst hW1;exact ac.new' _ _ (by simp)
 have hx1:=hx.call hB;have hFR:F*R≤64:=Nat.mul_le_mul hF.2 hR.2;have hl64:xs.length≤64:=by rw[hlen];exact hFR
 have hbx:b<xs.length:=by rw[hlen];exact hbl
 obtain⟨g,o,rfl,hgl,hcc⟩:=hx1.at hbx;have hof:=fun W=>cX F R can pa ha fu bl (some ⟨g,o,none⟩) xs.length cc W
 have hoc:=fun W h=>ey F R (some ⟨g,o,none⟩) cc xs W h hl64
 have hpl:=fun W=>aO F R b hF (by omega) W
 have hla:=fun W=>mj F R bl (by omega) W
 have hst:=fun W=>pj F R bl a (setW gNon xs xs.length) hF hR hal W
 have hpw:=fun W=>jM F R bl a hF hR hal W
 have hV:pwnB F R xs bl pa a b pr=if((((b/F:Nat):Int)==lastI R bl) != (pr != 0))=true then false else elI (stpL F R bl a (setW gNon xs xs.length) (F*R)) b||(elI (pawnL F bl a (F*R)) b&&((xs[b]?.getD 0 != 0)||((b:Int)==pa))):=by unfold pwnB;rw[vN _ hbl,mO _ hbl]
 have hls:=nP F R bl a (setW gNon xs xs.length) (F*R);have hlp:=iQ F bl a (F*R);generalize stpL F R bl a (setW gNon xs xs.length) (F*R)=SL at *;generalize pawnL F bl a (F*R)=PL at *;obtain⟨V,hVe⟩:∃ V,V=pwnB F R xs bl pa a b pr:=⟨_,rfl⟩;rw[←hVe];rw[hV]at hVe;clear hV;generalize setW gNon xs xs.length=oc at *;have hcb:=hcc b hbx;obtain⟨y,hy⟩:∃ y,xs[b]?.getD 0=y:=⟨_,rfl⟩;rw[hy]at hVe hcb;replace hy:=hy;generalize b/F=r0 at *;generalize lastI R bl=l0 at *;have hhs:=fun q d W h=>fh q d SL (b:Int) W h (by omega)
 have hhp:=fun q d W h=>fh q d PL (b:Int) W h (by omega)
 generalize elI SL b=E1 at *;generalize elI PL b=E2 at *;have hbi:(b:Int)<xs.length:=by omega
 have⟨c0,l1⟩:=hA.cl;clear hcc hx;replace hVe:=zhd hVe;replace hlen:=zhd hlen;replace hW1:=zhd hW1;go_enter Tryz.func163,Tryz.ntmps163;go_upto_region 1 with fail;change Code.wp _ _ _ _ ((w.alloc (.cells (aa F R (some ⟨g,o,none⟩) xs.length cc bl can pa ha fu).toArray 26)).alloc (.cells #[.int .i64 a,.int .i64 b,.int .i8 pr] 40));rw[←hW1.out];go_wp2_with fail;refine(hof W1).mono ?_;rintro e W2 ⟨rfl,hb2⟩;have hA2:=hA.call hb2;have hM2:=hM.call hb2;have hB2:=zbc hB hb2;have hx2:=hx1.call hb2;clear c0 l1 hA hM hB hof hgl hx1 hcb;go_wp2_with fail;refine(hoc W2 hx2).mono ?_;rintro e W3 ⟨rfl,hb3⟩;have hA3:=hA2.call hb3;have hM3:=hM2.call hb3;have hB3:=zbc hB2 hb3;have hx3:=hx2.call hb3;clear hoc hx2;go_upto_region 2 with fail;have m1:=am hA3;have m2:=am hM3;have t1:=ax (w:=W3) (fun W _=>hpl W);have t2:=ax (w:=W3) (fun W _=>hla W);have s1:=fun(x y:Int) W=>jq x y W
 refine ag (by kernel_rfl) (by kernel_rfl) ?_;repeat(go_big_quiet_step (first|with_reducible exact t1 _ _|with_reducible exact t2 _ _|fail))
 refine wpQuiet_nil ?_;intro W4 hb4;have hA4:=hA3.call hb4;have hM4:=hM3.call hb4;have hB4:=zbc hB3 hb4;have hx4:=hx3.call hb4;clear m1 m2 t1 t2 s1 hx3 hpl hla;have⟨c1,l1⟩:=hM4.cl;have hbn:(((r0:Int)==l0) != (pr != 0))=(!((r0:Int)==l0)==(pr != 0)):=by cases((r0:Int)==l0)<;>cases(pr != 0)<;>rfl
 rcases z1:(!((r0:Int)==l0)==(pr != 0))with _|_
 rotate_left
 ·replace hVe:=zhd (hVe.out.trans (by rw[hbn,z1];rfl):V=false);clear hbn;go_wp2_with fail;go_ret;exact⟨by rw[hVe.out];rfl,hB4⟩
 ·replace hVe:=zhd (hVe.out.trans (by rw[hbn,z1];rfl):V=(E1||(E2&&((y != 0)||((b:Int)==pa)))));clear hbn;go_wp2_with fail;clear c1 l1;refine cB (by kernel_rfl) (by kernel_rfl) [some 27,some 28,some 29,some 30,some 31,some 32,some 33,some 34,some 35,some 36,some 37] (by rfl) (by rfl) (fun i8=>match i8 with|0=>.pointer (some ⟨w.heap.size,0,none⟩)|1=>.agg #[.int .i64 F,.int .i64 R] | 2=>.pointer (some ⟨w.heap.size,3,none⟩)|3=>.bool bl|4=>.pointer (some ⟨(w.heap.size+1),0,none⟩)|5=>.int .i64 a|6=>.int .u64 oc|8=>.pointer (some ⟨(w.heap.size+1),1,none⟩)|9=>.int .i64 b|10=>.bool E1|_=>undef) (fun i8=>match i8 with|7=>some (bP SL)|_=>none) ?hst ?hstep ?hend
  case hst =>
   intro i φ h v W W2 hb h2;split at h
   ·injection h with h;subst h;exact bP.call hb h2
   ·cases h
  case hstep =>
   intro i9 o9 f9 W ho hi hC hf K hK;have hi:i9<11:=hi;rcases i9 with _|_|_|_|_|_|_|_|_|_|_|i9
   ·exact au (og ho) 26 (.tmp 2) 0 (oo ho) (ah rfl rfl) (n:=0) (by kernel_rfl) (kk hK)
   ·exact ay (og ho) 23 (.tmp 27) (oo ho) (ri 0 (da ho hf 0)) [.int .i64 (F:Int),.int .i64 (R:Int)] (by kernel_rfl) (fun j v hv=>by rw[Nat.zero_add,(hA4.call hC).cells j];rcases(by have:=(List.getElem?_eq_some_iff.1 hv).1;simp at this;omega:j=0∨j=1)with rfl|rfl<;>exact hv) (kk hK)
   ·exact au (og ho) 26 (.tmp 2) 2 (oo ho) (ah rfl rfl) (n:=3) (by kernel_rfl) (kk hK)
   ·exact ap (og ho) 4 (.tmp 29) (oo ho) (ri 2 (da ho hf 2)) (by kernel_rfl) ((hA4.call hC).cells 3) (kk hK)
   ·exact au (og ho) 40 (.tmp 3) 0 (oo ho) (ah rfl rfl) (n:=0) (by kernel_rfl) (kk hK)
   ·exact ap (og ho) 3 (.tmp 31) (oo ho) (ri 4 (da ho hf 4)) (by kernel_rfl) ((hM4.call hC).cells 0) (kk hK)
   ·exact al (og ho) (.tmp 5) (oo ho) (ah rfl rfl) (kk hK)
   ·exact eX (og ho) 193 (.tmp 28) (.tmp 30) (.tmp 32) (.tmp 33) #[23,4,3,64] (oo ho) (ri 1 (da ho hf 1)) (ri 3 (da ho hf 3)) (ri 5 (da ho hf 5)) (ri 6 (da ho hf 6)) (fun _ _=>rfl) (hst W) (by rintro u w9 ⟨⟨v9,h9,h10⟩,hb9⟩;injection h9 with h9;subst h9;exact hK _ _ hb9 (mg h10)) (by rintro ch w9 h9;revert h9;rintro⟨⟨_,h9,_⟩,_⟩;cases h9) (by rintro w9 h9;revert h9;rintro⟨⟨_,h9,_⟩,_⟩;cases h9)
   ·exact au (og ho) 40 (.tmp 3) 1 (oo ho) (ah rfl rfl) (n:=1) (by kernel_rfl) (kk hK)
   ·exact ap (og ho) 3 (.tmp 35) (oo ho) (ri 8 (da ho hf 8)) (by kernel_rfl) ((hM4.call hC).cells 1) (kk hK)
   ·obtain⟨p7,c7,e7,h7⟩:bP SL (f9 7) W:=hf ⟨7,.data⟩ (oa ho) rfl;exact aH (og ho) 169 (.tmp 34) (.tmp 36) #[136,3] (oo ho) (ri 7 e7) (ri 9 (da ho hf 9)) (fun _ _=>rfl) (hhs p7 c7 W h7) (by rintro u w9 ⟨h9,hb9⟩;injection h9 with h9;subst h9;exact hK _ _ hb9 rfl) (fun _ _ h=>nomatch h.1) (fun _ h=>nomatch h.1)
   ·omega
  case hend =>
   intro f9 W5 hC hf;have hv:f9 10=.bool E1:=hf 10 (by decide);have hA5:=hA4.call hC;have hM5:=hM4.call hC;have hB5:=zbc hB4 hC;have hx5:=hx4.call hC;clear hf hx4 hC hst hhs;simp only[ao,Act.put,List.setIfInBounds_toArray,List.set_cons_succ,List.set_cons_zero];rw[hv];clear hv;generalize f9 0=u0,f9 1=u1,f9 2=u2,f9 3=u3,f9 4=u4,f9 5=u5,f9 6=u6,f9 7=u7,f9 8=u8,f9 9=u9;cases E1
   rotate_left
   ·replace hVe:=zhd (hVe.out.trans rfl:V=true);go_wp2_with fail;go_ret;exact⟨by rw[hVe.out];rfl,hB5⟩
   ·replace hVe:=zhd (hVe.out.trans (Bool.false_or _):V=(E2&&((y != 0)||((b:Int)==pa))));go_wp2_with fail;obtain⟨g2,o2,eg,hg2,hc2⟩:=hx5.at hbx;injection eg with eg;injection eg with eg1 eg2;subst eg1 eg2;have hcb:=hc2 b hbx;rw[hy]at hcb;clear hc2;obtain⟨d1,hd1⟩:∃ d,(y != 0)=d:=⟨_,rfl⟩;obtain⟨d2,hd2⟩:∃ d,((b:Int)==pa)=d:=⟨_,rfl⟩;replace hVe:=zhd (hVe.out.trans (by rw[hd1,hd2]):V=(E2&&(d1||d2)));refine cB (by kernel_rfl) (by kernel_rfl) [some 38,some 39,some 40,some 41,some 42,some 43,some 44,some 45,some 46,some 47,some 48,some 49,some 50,some 51,some 52,some 53,some 54,some 55,some 56,some 57,some 58,some 59,some 60,some 61,some 62,some 63,some 4] (by rfl) (by rfl) (fun i8=>match i8 with|0=>.pointer (some ⟨w.heap.size,0,none⟩)|1=>.agg #[.int .i64 F,.int .i64 R] | 2=>.pointer (some ⟨w.heap.size,3,none⟩)|3=>.bool bl|4=>.pointer (some ⟨(w.heap.size+1),0,none⟩)|5=>.int .i64 a|7=>.pointer (some ⟨(w.heap.size+1),1,none⟩)|8=>.int .i64 b|9=>.bool E2|10=>.bool E2|11=>bif E2 then .pointer (some ⟨w.heap.size,2,none⟩)else undef|12=>bif E2 then .slice (some ⟨g,o,none⟩) xs.length cc else undef|13=>bif E2 then .pointer (some ⟨(w.heap.size+1),1,none⟩)else undef|14=>bif E2 then .int .i64 b else undef|15=>bif E2 then .pointer (some ⟨g,o+b,none⟩)else undef|16=>bif E2 then .int .i8 y else undef|17=>bif E2 then .bool d1 else undef|18=>bif E2 then .bool d1 else undef|19=>bif E2&&!d1 then .pointer (some ⟨(w.heap.size+1),1,none⟩)else undef|20=>bif E2&&!d1 then .int .i64 b else undef|21=>bif E2&&!d1 then .pointer (some ⟨w.heap.size,5,none⟩)else undef|22=>bif E2&&!d1 then .int .i64 pa else undef|23=>bif E2&&!d1 then .bool d2 else undef|24=>bif E2 then .bool (d1||d2)else undef|25=>.bool (E2&&(d1||d2))|26=>.bool (E2&&(d1||d2))|_=>undef) (fun i8=>match i8 with|6=>some (bP PL)|_=>none) ?hst ?hstep ?hend
    case hst =>
     intro i φ h v W W2 hb h2;split at h
     ·injection h with h;subst h;exact bP.call hb h2
     ·cases h
    case hstep =>
     intro i9 o9 f9 W ho hi hC hf K hK;have hi:i9<27:=hi;rcases i9 with _|_|_|_|_|_|_|_|_|_|_|_|_|_|_|_|_|_|_|_|_|_|_|_|_|_|_|i9
     ·exact au (og ho) 26 (.tmp 2) 0 (oo ho) (ah rfl rfl) (n:=0) (by kernel_rfl) (kk hK)
     ·exact ay (og ho) 23 (.tmp 38) (oo ho) (ri 0 (da ho hf 0)) [.int .i64 (F:Int),.int .i64 (R:Int)] (by kernel_rfl) (fun j v hv=>by rw[Nat.zero_add,(hA5.call hC).cells j];rcases(by have:=(List.getElem?_eq_some_iff.1 hv).1;simp at this;omega:j=0∨j=1)with rfl|rfl<;>exact hv) (kk hK)
     ·exact au (og ho) 26 (.tmp 2) 2 (oo ho) (ah rfl rfl) (n:=3) (by kernel_rfl) (kk hK)
     ·exact ap (og ho) 4 (.tmp 40) (oo ho) (ri 2 (da ho hf 2)) (by kernel_rfl) ((hA5.call hC).cells 3) (kk hK)
     ·exact au (og ho) 40 (.tmp 3) 0 (oo ho) (ah rfl rfl) (n:=0) (by kernel_rfl) (kk hK)
     ·exact ap (og ho) 3 (.tmp 42) (oo ho) (ri 4 (da ho hf 4)) (by kernel_rfl) ((hM5.call hC).cells 0) (kk hK)
     ·exact ee (og ho) 191 (.tmp 39) (.tmp 41) (.tmp 43) #[23,4,3] (oo ho) (ri 1 (da ho hf 1)) (ri 3 (da ho hf 3)) (ri 5 (da ho hf 5)) (fun _ _=>rfl) (hpw W) (by rintro u w9 ⟨⟨v9,h9,h10⟩,hb9⟩;injection h9 with h9;subst h9;exact hK _ _ hb9 (mg h10)) (by rintro ch w9 h9;revert h9;rintro⟨⟨_,h9,_⟩,_⟩;cases h9) (by rintro w9 h9;revert h9;rintro⟨⟨_,h9,_⟩,_⟩;cases h9)
     ·exact au (og ho) 40 (.tmp 3) 1 (oo ho) (ah rfl rfl) (n:=1) (by kernel_rfl) (kk hK)
     ·exact ap (og ho) 3 (.tmp 45) (oo ho) (ri 7 (da ho hf 7)) (by kernel_rfl) ((hM5.call hC).cells 1) (kk hK)
     ·obtain⟨p7,c7,e7,h7⟩:bP PL (f9 6) W:=hf ⟨6,.data⟩ (oa ho) rfl;exact aH (og ho) 169 (.tmp 44) (.tmp 46) #[136,3] (oo ho) (ri 6 e7) (ri 8 (da ho hf 8)) (fun _ _=>rfl) (hhp p7 c7 W h7) (by rintro u w9 ⟨h9,hb9⟩;injection h9 with h9;subst h9;exact hK _ _ hb9 rfl) (fun _ _ h=>nomatch h.1) (fun _ h=>nomatch h.1)
     ·exact al (og ho) (.tmp 47) (oo ho) (ri 9 (da ho hf 9)) (kk hK)
     ·cases E2<;>first|exact bt (uw ho (dg ho hf 10)) (kk hK)|exact gd (wo ho (dg ho hf 10)) (au rfl 26 (.tmp 2) 1 (oo ho) (ah rfl rfl) (n:=2) (by kernel_rfl) (kk hK))
     ·cases E2<;>first|exact bt (uw ho (dg ho hf 10)) (kk hK)|exact gd (wo ho (dg ho hf 10)) (ap rfl 24 (.tmp 49) (oo ho) (ri 11 (da ho hf 11)) (by kernel_rfl) ((hA5.call hC).cells 2) (kk hK))
     ·cases E2<;>first|exact bt (uw ho (dg ho hf 10)) (kk hK)|exact gd (wo ho (dg ho hf 10)) (au rfl 40 (.tmp 3) 1 (oo ho) (ah rfl rfl) (n:=1) (by kernel_rfl) (kk hK))
     ·cases E2<;>first|exact bt (uw ho (dg ho hf 10)) (kk hK)|exact gd (wo ho (dg ho hf 10)) (ap rfl 3 (.tmp 51) (oo ho) (ri 13 (da ho hf 13)) (by kernel_rfl) ((hM5.call hC).cells 1) (kk hK))
     ·cases E2<;>first|exact bt (uw ho (dg ho hf 10)) (kk hK)|exact gd (wo ho (dg ho hf 10)) (aT rfl 24 (.tmp 50) (.tmp 52) (oo ho) (ri 12 (da ho hf 12)) (ri 14 (da ho hf 14)) (qW W g o xs.length cc b hbx) (kk hK))
     ·cases E2<;>first|exact bt (uw ho (dg ho hf 10)) (kk hK)|exact gd (wo ho (dg ho hf 10)) (ap rfl 38 (.tmp 53) (oo ho) (ri 15 (da ho hf 15)) (by kernel_rfl) ((hC.cell (p:=⟨g,o+b,none⟩) hg2).trans hcb) (kk hK))
     ·cases E2<;>first|exact bt (uw ho (dg ho hf 10)) (kk hK)|exact gd (wo ho (dg ho hf 10)) (aK rfl .neq 38 38 (.tmp 54) (.const (.int .i8 0)) (oo ho) (ri 16 (da ho hf 16)) rfl (bM _ _ _ _ _ _ _ _) (sY hd1) (kk hK))
     ·cases E2<;>first|exact bt (uw ho (dg ho hf 10)) (kk hK)|exact gd (wo ho (dg ho hf 10)) (al rfl (.tmp 55) (oo ho) (ri 17 (da ho hf 17)) (kk hK))
     ·cases E2<;>cases d1<;>first|exact bt (cQ rfl 18 false 56 (og ho) rfl rfl (by simp) (dg ho hf 18)) (kk hK)|exact bt (uw ho (dg ho hf 18)) (kk hK)|exact gd (wo ho (dg ho hf 18)) (au rfl 40 (.tmp 3) 1 (oo ho) (ah rfl rfl) (n:=1) (by kernel_rfl) (kk hK))
     ·cases E2<;>cases d1<;>first|exact bt (cQ rfl 18 false 56 (og ho) rfl rfl (by simp) (dg ho hf 18)) (kk hK)|exact bt (uw ho (dg ho hf 18)) (kk hK)|exact gd (wo ho (dg ho hf 18)) (ap rfl 3 (.tmp 57) (oo ho) (ri 19 (da ho hf 19)) (by kernel_rfl) ((hM5.call hC).cells 1) (kk hK))
     ·cases E2<;>cases d1<;>first|exact bt (cQ rfl 18 false 56 (og ho) rfl rfl (by simp) (dg ho hf 18)) (kk hK)|exact bt (uw ho (dg ho hf 18)) (kk hK)|exact gd (wo ho (dg ho hf 18)) (au rfl 26 (.tmp 2) 4 (oo ho) (ah rfl rfl) (n:=5) (by kernel_rfl) (kk hK))
     ·cases E2<;>cases d1<;>first|exact bt (cQ rfl 18 false 56 (og ho) rfl rfl (by simp) (dg ho hf 18)) (kk hK)|exact bt (uw ho (dg ho hf 18)) (kk hK)|exact gd (wo ho (dg ho hf 18)) (ap rfl 3 (.tmp 59) (oo ho) (ri 21 (da ho hf 21)) (by kernel_rfl) ((hA5.call hC).cells 5) (kk hK))
     ·cases E2<;>cases d1<;>first|exact bt (cQ rfl 18 false 56 (og ho) rfl rfl (by simp) (dg ho hf 18)) (kk hK)|exact bt (uw ho (dg ho hf 18)) (kk hK)|exact gd (wo ho (dg ho hf 18)) (aK rfl .eql 3 3 (.tmp 58) (.tmp 60) (oo ho) (ri 20 (da ho hf 20)) (ri 22 (da ho hf 22)) (bM _ _ _ _ _ _ _ _) (iD hd2) (kk hK))
     ·cases E2<;>cases d1<;>first|exact bt (uw ho (dg ho hf 10)) (kk hK)|exact gd (wo ho (dg ho hf 10)) (cx rfl (.tmp 56) (.const (.bool true)) (.tmp 61) (oo ho) (ri 18 (da ho hf 18)) rfl (kk hK))|exact gd (wo ho (dg ho hf 10)) (fN rfl (.tmp 56) (.const (.bool true)) (.tmp 61) (oo ho) (ri 18 (da ho hf 18)) (ri 23 (da ho hf 23)) (kk hK))
     ·cases E2<;>first|exact fN (og ho) (.tmp 48) (.tmp 62) (.const (.bool false)) (oo ho) (ri 10 (da ho hf 10)) rfl (kk hK)|exact cx (og ho) (.tmp 48) (.tmp 62) (.const (.bool false)) (oo ho) (ri 10 (da ho hf 10)) (ri 24 (da ho hf 24)) (kk hK)
     ·exact aE (og ho) (.tmp 63) (oo ho) (ri 25 (da ho hf 25)) (kk hK)
     ·omega
    case hend=>intro f9 W6 hC hf;go_wp2_with fail;refine bodyPost_ret (results_tmp (fn:=Tryz.f163) Tryz.results163 _ _ _) (by rw[ce]) ?_;refine⟨?_,zbc hB5 hC⟩;rw[ck rfl 26 rfl (by simp) (show f9 26=.bool (E2&&(d1||d2))from hf 26 (by decide)),hVe.out]
theorem wV(x y:Int)(W:World):(Instr.field 85 (.agg #[.int .i64 x,.int .i64 y]) 0).run Tryz.prog W=.ok (.int .i64 x) W:=by kernel_rfl
def dq(F R:Nat)(xs:List Int)(pa:Int)(a b:Nat):Int:=if kindI (xs[a]?.getD 0)=1∧(b:Int)=pa then numI F R ((b%F:Nat):Int) ((a/F:Nat):Int)else if xs[b]?.getD 0≠0 then b else -1
theorem gm(F R:Nat)(xs:List Int)(bl:Bool)(can:Nat)(pa ha fu:Int)(a b:Nat)(pr:Int)(p:Option Addr)(cc:Nat)(hF:3≤F∧F≤8)(hR:3≤R∧R≤8)(hlen:xs.length=F*R)(hal:a<F*R)(hbl:b<F*R)(h6:∀ x∈xs,-6≤x∧x≤6)(w:World)(hx:Arr .i8 w p xs):
  Clz 117 #[.agg (aa F R p xs.length cc bl can pa ha fu).toArray,.agg #[.int .i64 a,.int .i64 b,.int .i8 pr]] w fun e w'=>e=.returned (.int .i64 (dq F R xs pa a b))∧Bw w w':=by
 obtain⟨W1,hW1⟩:∃ W1,W1=(w.alloc (.cells (aa F R p xs.length cc bl can pa ha fu).toArray 26)).alloc (.cells #[.int .i64 a,.int .i64 b,.int .i8 pr] 40):=⟨_,rfl⟩;have hB:Bw w W1:=by subst hW1;exact(ae w _).alloc (by simp) _
 have hA:ac W1 w.heap.size (.cells (aa F R p xs.length cc bl can pa ha fu).toArray 26 (0,0)):=by subst hW1;exact(ac.new w _).alloc _
 have hM:ac W1 (w.heap.size+1) (.cells #[.int .i64 a,.int .i64 b,.int .i8 pr] 40 (0,0)):=by subst hW1;exact ac.new' _ _ (by simp)
 have hx1:=hx.call hB;have hax:a<xs.length:=by rw[hlen];exact hal
 have hbx:b<xs.length:=by rw[hlen];exact hbl
 have hFR:F*R≤64:=Nat.mul_le_mul hF.2 hR.2;obtain⟨g,o,rfl,hgl,hcc⟩:=hx1.at hax;have hca:=hcc a hax;have hcb:=hcc b hbx;have hy6:=h6 (xs[a]?.getD 0) (by rw[List.getElem?_eq_getElem hax];exact List.getElem_mem _);have hkd:=fun W=>cL (xs[a]?.getD 0) ⟨by omega,by omega⟩ W
 have hpa':=fun W=>aO F R a hF (by omega) W
 have hpb':=fun W=>aO F R b hF (by omega) W
 have hr0:(0:Int)≤((a/F:Nat):Int):=Int.natCast_nonneg _;have hf0:(0:Int)≤((b%F:Nat):Int):=Int.natCast_nonneg _;obtain⟨_,hbf,_⟩:=bU hF hR hbl;obtain⟨_,_,har⟩:=bU hF hR hal;have hnm:=fun W=>cN F R ((b%F:Nat):Int) ((a/F:Nat):Int) W (by omega) (by omega) (by omega)
 obtain⟨V,hV⟩:∃ V,V=dq F R xs pa a b:=⟨_,rfl⟩;rw[←hV];unfold dq at hV;generalize numI F R ((b%F:Nat):Int) ((a/F:Nat):Int)=N at *;generalize kindI (xs[a]?.getD 0)=ky at *;generalize xs[a]?.getD 0=y at *;generalize xs[b]?.getD 0=z at *;generalize a%F=a0,a/F=a1,b%F=b0,b/F=b1 at *;have hai:(a:Int)<xs.length:=by omega
 have hbi:(b:Int)<xs.length:=by omega
 have⟨c0,l0⟩:=hA.cl;have⟨c1,l1⟩:=hM.cl;clear hcc hx hy6 hr0 hf0 hbf har hFR hx1;replace hV:=zhd hV;replace hlen:=zhd hlen;replace hW1:=zhd hW1;go_enter Tryz.func117,Tryz.ntmps117;go_upto_region 1 with fail;change Code.wp _ _ _ _ ((w.alloc (.cells (aa F R (some ⟨g,o,none⟩) xs.length cc bl can pa ha fu).toArray 26)).alloc (.cells #[.int .i64 a,.int .i64 b,.int .i8 pr] 40));rw[←hW1.out];go_wp2_with fail;refine(hkd W1).mono ?_;rintro e W2 ⟨rfl,rfl⟩;by_cases h1:ky=1∧(b:Int)=pa
 ·have z1:(ky==1)=true:=by simpa using h1.1
  have z2:((b:Int)==pa)=true:=by simpa using h1.2
  replace hV:=zhd (hV.out.trans (if_pos h1));clear h1;go_wp2_with fail;clear c0 l0 c1 l1;have m1:=am hA;have m2:=am hM;have t1:=ax (w:=W1) (fun W _=>hpa' W);have t2:=ax (w:=W1) (fun W _=>hpb' W);have t3:=ax (w:=W1) (fun W _=>hnm W);have s1:=fun(x y:Int) W=>jq x y W
  have s2:=fun(x y:Int) W=>wV x y W
  refine ag (by kernel_rfl) (by kernel_rfl) ?_;repeat(go_big_quiet_step (first|with_reducible exact t1 _ _|with_reducible exact t2 _ _|with_reducible exact t3 _ _|fail))
  refine wpQuiet_nil ?_;intro W3 hb3;clear m1 m2 t1 t2 t3 s1 s2;go_wp2_with fail;go_ret;exact⟨by rw[hV.out];rfl,zbc hB hb3⟩
 ·have hV1:=hV.out.trans (if_neg h1);have hVn:z=0→V=-1:=fun h=>by rw[hV1,if_neg (by simpa using h)]
  have hVp:z≠0→V=b:=fun h=>by rw[hV1,if_pos h]
  clear hV hV1;rcases z1:(ky==1)with _|_
  ·clear h1;rcases z3:(z != 0)with _|_
   ·have hV:=zhd (hVn (by simpa using z3));clear hVn hVp;go_wp2_with fail;go_ret;exact⟨by rw[hV.out];rfl,hB⟩
   ·have hV:=zhd (hVp (by simpa using z3));clear hVn hVp;go_wp2_with fail;go_ret;exact⟨by rw[hV.out];rfl,hB⟩
  ·have z2:((b:Int)==pa)=false:=by
    have:ky=1:=by simpa using z1
    simp only[beq_eq_false_iff_ne,ne_eq];exact fun h=>h1 ⟨this,h⟩
   clear h1;rcases z3:(z != 0)with _|_
   ·have hV:=zhd (hVn (by simpa using z3));clear hVn hVp;go_wp2_with fail;go_ret;exact⟨by rw[hV.out];rfl,hB⟩
   ·have hV:=zhd (hVp (by simpa using z3));clear hVn hVp;go_wp2_with fail;go_ret;exact⟨by rw[hV.out];rfl,hB⟩
def soB(P:Pos)(m:Mv):Bool :=
 if isW (P.at_ m.tg) P.bl then false
 else if kindI (P.at_ m.fr)=1 then pwnB P.F P.R P.xs P.bl P.pa m.fr.toNat m.tg.toNat m.pr
 else if bitO (casR P m)≠0 then true
 else(m.pr==0)&&reachB P.F P.R (kindI (P.at_ m.fr)) m.fr.toNat m.tg.toNat P.occ
theorem tH(F R:Nat)(xs:List Int)(bl:Bool)(can:Nat)(pa ha fu:Int)(a b:Nat)(pr:Int)(p:Option Addr)(cc:Nat)(hF:3≤F∧F≤8)(hR:3≤R∧R≤8)(hlen:xs.length=F*R)(hal:a<F*R)(hbl:b<F*R)(hca:can<256)(h88:∀ c∈az,can/c.bit%2=1→F=8∧R=8)(h6:∀ x∈xs,-6≤x∧x≤6)(w:World)(hx:Arr .i8 w p xs):
  Clz 114 #[.agg (aa F R p xs.length cc bl can pa ha fu).toArray,.agg #[.int .i64 a,.int .i64 b,.int .i8 pr]] w fun e w'=>e=.returned (.bool (soB ⟨F,R,xs,bl,can,pa,ha,fu⟩ ⟨a,b,pr⟩))∧Bw w w':=by
 obtain⟨W1,hW1⟩:∃ W1,W1=(w.alloc (.cells (aa F R p xs.length cc bl can pa ha fu).toArray 26)).alloc (.cells #[.int .i64 a,.int .i64 b,.int .i8 pr] 40):=⟨_,rfl⟩;have hB:Bw w W1:=by subst hW1;exact(ae w _).alloc (by simp) _
 have hA:ac W1 w.heap.size (.cells (aa F R p xs.length cc bl can pa ha fu).toArray 26 (0,0)):=by subst hW1;exact(ac.new w _).alloc _
 have hM:ac W1 (w.heap.size+1) (.cells #[.int .i64 a,.int .i64 b,.int .i8 pr] 40 (0,0)):=by subst hW1;exact ac.new' _ _ (by simp)
 have hx1:=hx.call hB;have hax:a<xs.length:=by rw[hlen];exact hal
 have hbx:b<xs.length:=by rw[hlen];exact hbl
 have hl64:xs.length≤64:=by rw[hlen];exact Nat.mul_le_mul hF.2 hR.2
 obtain⟨g,o,rfl,hgl,hcc⟩:=hx1.at hax;have hca1:=hcc a hax;have hcb:=hcc b hbx;have hy6:=h6 (xs[a]?.getD 0) (by rw[List.getElem?_eq_getElem hax];exact List.getElem_mem _);have hkd:=fun W=>cL (xs[a]?.getD 0) ⟨by omega,by omega⟩ W
 have how:=fun W=>kW (xs[b]?.getD 0) bl W
 have hpn:=fun W h=>rh F R xs bl can pa ha fu a b pr (some ⟨g,o,none⟩) cc hF hR hlen hal hbl W h
 have hcs:=fun W h=>er F R xs bl can pa ha fu a b pr (some ⟨g,o,none⟩) cc hlen hal hca h88 h6 W h
 have hof:=fun W=>cX F R can pa ha fu bl (some ⟨g,o,none⟩) xs.length cc W
 have hoc:=fun W h=>ey F R (some ⟨g,o,none⟩) cc xs W h hl64
 have hre:=fun W=>gT F R (kindI (xs[a]?.getD 0)) a b (setW gNon xs xs.length) hF hR hal hbl W
 obtain⟨V,hV⟩:∃ V,V=soB ⟨F,R,xs,bl,can,pa,ha,fu⟩ ⟨a,b,pr⟩:=⟨_,rfl⟩;have hV2:V=if isW (xs[b]?.getD 0) bl then false else if kindI (xs[a]?.getD 0)=1 then pwnB F R xs bl pa a b pr else if bitO (casR ⟨F,R,xs,bl,can,pa,ha,fu⟩ ⟨a,b,pr⟩)≠0 then true else(pr==0)&&reachB F R (kindI (xs[a]?.getD 0)) a b (setW gNon xs xs.length):=by rw[hV];unfold soB Pos.at_ Pos.occ;simp only[Int.toNat_natCast]
 rw[←hV];clear hV;generalize isW (xs[b]?.getD 0) bl=O at *;generalize pwnB F R xs bl pa a b pr=PB at *;generalize bitO (casR ⟨F,R,xs,bl,can,pa,ha,fu⟩ ⟨a,b,pr⟩)=CB at *;generalize reachB F R (kindI (xs[a]?.getD 0)) a b (setW gNon xs xs.length)=RB at *;generalize setW gNon xs xs.length=oc at *;generalize kindI (xs[a]?.getD 0)=ky at *;generalize xs[a]?.getD 0=y at *;generalize xs[b]?.getD 0=z at *;have hai:(a:Int)<xs.length:=by omega
 have hbi:(b:Int)<xs.length:=by omega
 clear hcc hx hy6 h6 h88;replace hV2:=zhd hV2;replace hlen:=zhd hlen;replace hW1:=zhd hW1;go_enter Tryz.func114,Tryz.ntmps114;go_upto_region 1 with fail;change Code.wp _ _ _ _ ((w.alloc (.cells (aa F R (some ⟨g,o,none⟩) xs.length cc bl can pa ha fu).toArray 26)).alloc (.cells #[.int .i64 a,.int .i64 b,.int .i8 pr] 40));rw[←hW1.out];have m1:=am hA;have m2:=am hM;have m3:=cell_regrown hcb;have t1:=aJ (w:=W1) (fun W=>how W);refine ag (by kernel_rfl) (by kernel_rfl) ?_;repeat(go_big_quiet_step (first|with_reducible exact t1 _ _|fail))
 refine wpQuiet_nil ?_;intro W2 hb2;clear m1 m2 m3 t1;have hA2:=hA.call hb2;have hM2:=hM.call hb2;have hB2:=zbc hB hb2;have hx2:=hx1.call hb2;have hca2:=(hb2.cell (p:=⟨g,o+a,none⟩) hgl).trans hca1;have hgl2:g<W2.heap.size:=Nat.lt_of_lt_of_le hgl hb2.size;clear hA hM hB hx1 hca1 hcb hgl how;cases O
 rotate_left
 ·replace hV2:=zhd (hV2.out.trans rfl:V=false);go_wp2_with fail;go_ret;exact⟨by rw[hV2.out];rfl,hB2⟩
 have⟨c0,l0⟩:=hA2.cl;have⟨c1,l1⟩:=hM2.cl;go_wp2_with fail;refine(hkd W2).mono ?_;rintro e W3 ⟨rfl,rfl⟩;rcases z1:(ky==1)with _|_
 rotate_left
 ·replace hV2:=zhd (hV2.out.trans (by rw[if_neg (by simp),if_pos (by simpa using z1)]):V=PB);go_wp2_with fail;refine(hpn W2 hx2).mono ?_;rintro e W4 ⟨rfl,hb4⟩;go_wp2_with fail;go_ret;exact⟨by rw[hV2.out];rfl,zbc hB2 hb4⟩
 replace hV2:=zhd (hV2.out.trans (by rw[if_neg (by simp),if_neg (by simpa using z1)]):V=if CB≠0 then true else(pr==0)&&RB);go_wp2_with fail;refine(hcs W2 hx2).mono ?_;rintro e W4 ⟨rfl,hb4⟩;have hA4:=hA2.call hb4;have hM4:=hM2.call hb4;have hB4:=zbc hB2 hb4;have hx4:=hx2.call hb4;have hca4:=(hb4.cell (p:=⟨g,o+a,none⟩) hgl2).trans hca2;clear c0 l0 c1 l1 hx2 hca2 hgl2 hpn hcs;rcases z2:((CB:Int) != 0)with _|_
 rotate_left
 ·replace hV2:=zhd (hV2.out.trans (if_pos (by simpa using z2)):V=true);go_wp2_with fail;go_ret;exact⟨by rw[hV2.out];rfl,hB4⟩
 replace hV2:=zhd (hV2.out.trans (if_neg (by simpa using z2)):V=((pr==0)&&RB));go_wp2_with fail;have m1:=am hA4;have m2:=am hM4;have m3:=cell_regrown hca4;have t1:=aJ (w:=W4) (fun W=>hkd W);have t2:=ax (w:=W4) (fun W _=>hof W);have t3:=ax (w:=W4) (fun W h=>hoc W (hx4.call h));have t4:=ax (w:=W4) (fun W _=>hre W);rcases z3:(pr==0)with _|_
 ·rw[z3]at hV2;refine ag (by kernel_rfl) (by kernel_rfl) ?_;repeat(go_big_quiet_step (fail))
  refine wpQuiet_nil ?_;intro W5 hb5;clear m1 m2 m3 t1 t2 t3 t4;go_wp2_with fail;go_ret;exact⟨by rw[hV2.out];rfl,zbc hB4 hb5⟩
 ·rw[z3]at hV2;refine ag (by kernel_rfl) (by kernel_rfl) ?_;repeat(go_big_quiet_step (first|with_reducible exact t1 _ _|with_reducible exact t2 _ _|with_reducible exact t3 _ _|with_reducible exact t4 _ _|fail))
  refine wpQuiet_nil ?_;intro W5 hb5;clear m1 m2 m3 t1 t2 t3 t4;go_wp2_with fail;go_ret;exact⟨by rw[hV2.out];rfl,zbc hB4 hb5⟩
theorem yM{F R b:Nat}{x y:Int}(hF:3≤F∧F≤8)(hb:b<F*R):(b:Int)=numI F R x y↔x=(b%F:Nat)∧y=(b/F:Nat):=by
 obtain⟨h1,h2⟩:=eP (F:=F) (R:=R) (a:=x) (b:=y);rw[←nI (R:=R) hF hb];rcases e:onB F R x y with _|_
 ·have:=h1.2 e;constructor
  ·intro h;omega
  ·rintro⟨h,_⟩;cases h
 ·rw[h2 e];exact⟨fun h=>⟨rfl,h.symm⟩,fun h=>h.2.symm⟩
theorem tM{F R a b:Nat}{k:Int}(hF:3≤F∧F≤8)(hb:b<F*R):(b:Int)=numI F R ((a%F:Nat):Int) (((a/F:Nat):Int)+k)↔dF F a b=0∧dR F a b=k:=by rw[yM hF hb];unfold dF dR;omega
theorem xn{F R a b oc:Nat}{bl:Bool}(hF:3≤F∧F≤8)(hR:3≤R∧R≤8)(ha:a<F*R)(hb:b<F*R)(ho:oc<2^64):(stpW F R bl a oc).testBit b=gK F R bl a oc b:=by
 have hl64:F*R≤64:=Nat.mul_le_mul hF.2 hR.2;have l1:=fun(s:Int×Int) (c:Nat) (hc:c<F*R)=>cW (F:=F) (a:=a) [s] hF hc
 simp only[List.length_singleton,List.any_cons,List.any_nil,Bool.or_false]at l1;have hbit:∀(k:Int) (c:Nat),c<F*R→(leapW F R a [(0,k)] 1&&&(2^64-1-oc)).testBit c=((dF F a c==0&&dR F a c==k)&&!oc.testBit c):=by intro k c hc;rw[ju ho,l1 _ _ hc,decide_eq_true (by omega:c<64),Bool.true_and]
 have hb64:b<64:=by omega
 have hO:=fun c (hc:c<F*R)=>tM (R:=R) (a:=a) (k:=sdI bl) hF hc
 have hD:=tM (R:=R) (a:=a) (k:=2*sdI bl) hF hb;have hs:sdI bl=1∨sdI bl=-1:=by cases bl<;>decide
 have hlt:∀ c,(leapW F R a [(0,sdI bl)] 1&&&(2^64-1-oc)).testBit c=true→c<F*R:=by
  intro c hc;rw[ju ho,Bool.and_eq_true]at hc;rcases Nat.lt_or_ge c (F*R)with h|h
  ·exact h
  ·have:=Nat.testBit_lt_two_pow (Nat.lt_of_lt_of_le (bY (F:=F) (R:=R) (a:=a) [(0,sdI bl)] 1) (Nat.pow_le_pow_right (by decide) h));rw[this]at hc;exact absurd hc.1 (by decide)
 have hone:(leapW F R a [(0,sdI bl)] 1&&&(2^64-1-oc))≠0↔∃ c,c<F*R∧(dF F a c=0∧dR F a c=sdI bl)∧oc.testBit c=false:=by
  constructor
  ·intro h;obtain⟨c,hc⟩:=Nat.exists_testBit_of_ne_zero h;have hcl:=hlt c hc;rw[hbit _ _ hcl]at hc;simp only[Bool.and_eq_true,beq_iff_eq,Bool.not_eq_true']at hc;exact⟨c,hcl,hc⟩
  ·rintro⟨c,hcl,hc,h2⟩ h;have h3:=hbit (sdI bl) c hcl;rw[h,Nat.zero_testBit,hc.1,hc.2,h2]at h3;simp at h3
 rw[Bool.eq_iff_iff];have hr:gK F R bl a oc b=true↔((dF F a b=0∧dR F a b=sdI bl)∧oc.testBit b=false)∨((dF F a b=0∧dR F a b=2*sdI bl)∧6≤R∧((a/F:Nat):Int)=gI R bl∧cF oc (gF F R bl a)=false∧oc.testBit b=false):=by
  unfold gK;simp only[Bool.or_eq_true,Bool.and_eq_true,beq_iff_eq,decide_eq_true_eq,Bool.not_eq_true'];rw[show(b:Int)=gF F R bl a↔_ from hO b hb,show(b:Int)=lx F R bl a↔_ from hD];constructor
  ·rintro(⟨h1,h2⟩|⟨h1,h2,h3,h4,h5⟩)
   ·rw[←show(b:Int)=gF F R bl a from(hO b hb).2 h1,dz _ b hb64]at h2;exact .inl ⟨h1,h2⟩
   ·rw[←show(b:Int)=lx F R bl a from hD.2 h1,dz _ b hb64]at h5;exact .inr ⟨h1,by omega,h3,h4,h5⟩
  ·rintro(⟨h1,h2⟩|⟨h1,h2,h3,h4,h5⟩)
   ·refine .inl ⟨h1,?_⟩;rw[←show(b:Int)=gF F R bl a from(hO b hb).2 h1,dz _ b hb64];exact h2
   ·refine .inr ⟨h1,by omega,h3,h4,?_⟩;rw[←show(b:Int)=lx F R bl a from hD.2 h1,dz _ b hb64];exact h5
 rw[hr];have hthird:6≤R→((a/F:Nat):Int)=gI R bl→(cF oc (gF F R bl a)=false↔(leapW F R a [(0,sdI bl)] 1&&&(2^64-1-oc))≠0):=by
  intro h6 hsec;have hq:((a/F:Nat):Int)<R:=by have:=Nat.div_lt_of_lt_mul (m:=a) (n:=F) (k:=R) ha;omega
  have hfm:a%F<F:=Nat.mod_lt _ (by omega);have hon:0≤((a/F:Nat):Int)+sdI bl∧((a/F:Nat):Int)+sdI bl<R:=by rw[hsec];unfold gI sdI;cases bl<;>simp<;>omega
  obtain⟨c,hc,hcl⟩:∃ c:Nat,gF F R bl a=(c:Int)∧c<F*R:=by refine⟨sqN F (a%F) (((a/F:Nat):Int)+sdI bl),fJ hfm hon,?_⟩;unfold sqN;have h7:=Nat.mul_le_mul_right F (show(((a/F:Nat):Int)+sdI bl).toNat+1≤R by omega);rw[Nat.add_mul,Nat.one_mul,Nat.mul_comm R F]at h7;omega
  rw[hc,dz _ c (by omega),hone];have hcd:=(hO c hcl).1 hc.symm;constructor
  ·intro h;exact⟨c,hcl,hcd,h⟩
  ·rintro⟨d,hdl,hd,h⟩;have hd2:=(hO d hdl).2 hd;rw[show numI F R ((a%F:Nat):Int) (((a/F:Nat):Int)+sdI bl)=(c:Int)from hc]at hd2;obtain rfl:d=c:=by omega
   exact h
 unfold stpW;simp only;rw[show(if bl=true then(R:Int)-2 else 1)=gI R bl from rfl];split
 ·rename_i hc;rw[hbit _ _ hb];simp only[Bool.and_eq_true,beq_iff_eq,Bool.not_eq_true'];constructor
  ·exact fun h=>.inl h
  ·rintro(h|⟨h1,h2,h3,h4,h5⟩)
   ·exact h
   ·rcases hc with hc|hc|hc
    ·exact absurd hc ((hthird h2 h3).1 h4)
    ·omega
    ·exact absurd h3 hc
 ·rename_i hc;rw[not_or,not_or]at hc;rw[Nat.testBit_or,hbit _ _ hb,hbit _ _ hb];simp only[Bool.or_eq_true,Bool.and_eq_true,beq_iff_eq,Bool.not_eq_true'];refine or_congr Iff.rfl ?_;have h3:((a/F:Nat):Int)=gI R bl:=by
   rcases Int.decEq ((a/F:Nat):Int) (gI R bl)with h|h
   ·exact absurd h hc.2.2
   ·exact h
  constructor
  ·rintro⟨h1,h2⟩;exact⟨h1,by omega,h3,(hthird (by omega) h3).2 hc.1,h2⟩
  ·rintro⟨h1,_,_,_,h2⟩;exact⟨h1,h2⟩
theorem ze{P:Pos}(hl:P.xs.length≤64):P.occ<2^64:=ek _ _ hl
theorem tN{P:Pos}{a b:Nat}{pr:Int}(hF:3≤P.F∧P.F≤8)(hR:3≤P.R∧P.R≤8)(hlen:P.xs.length=P.F*P.R)(ha:a<P.F*P.R)(hb:b<P.F*P.R)(hk:kindI (gx P.xs a)=1):goesW P ⟨a,b,pr⟩=pwnB P.F P.R P.xs P.bl P.pa a b pr:=by
 have hl64:P.F*P.R≤64:=Nat.mul_le_mul hF.2 hR.2;have l2:=cW (F:=P.F) (a:=a) (pwnL P.bl) hF hb;rw[show(pwnL P.bl).length=2 from rfl]at l2;unfold goesW pwnB;simp only[show P.at_ (a:Int)=gx P.xs a from rfl,show P.at_ (b:Int)=gx P.xs b from rfl,Int.toNat_natCast];rw[if_neg (by rw[hk];decide),Nat.testBit_or,xn hF hR ha hb (ze (by omega))];rw[show setW gNon P.xs P.xs.length=P.occ from rfl,show P.xs[b]?.getD 0=gx P.xs b from rfl,show lastI P.R P.bl=if P.bl then 0 else(P.R:Int)-1 from rfl];have hat:(if gx P.xs b=0∧(b:Int)≠P.pa then 0 else leapW P.F P.R a (pwnL P.bl) 2).testBit b=(dP P.F P.bl a b&&((gx P.xs b != 0)||((b:Int)==P.pa))):=by
  have hh:(leapW P.F P.R a (pwnL P.bl) 2).testBit b=dP P.F P.bl a b:=by rw[l2,Bool.eq_iff_iff];unfold dP;simp only[pwnL,List.any_cons,List.any_nil,Bool.or_false,Bool.or_eq_true,Bool.and_eq_true,beq_iff_eq];omega
  split
  ·rename_i hc;have e1:(gx P.xs b != 0)=false:=by simp[hc.1]
   have e2:((b:Int)==P.pa)=false:=by simpa using hc.2
   rw[e1,e2,Nat.zero_testBit];simp
  ·rename_i hc;rw[hh];have:((gx P.xs b != 0)||((b:Int)==P.pa))=true:=by
    rw[Bool.or_eq_true,bne_iff_ne,beq_iff_eq];by_cases e:gx P.xs b=0
    ·right;exact Decidable.byContradiction fun h=>hc ⟨e,h⟩
    ·exact .inl e
   rw[this,Bool.and_true]
 rw[hat];generalize (gK P.F P.R P.bl a P.occ b||(dP P.F P.bl a b&&((gx P.xs b != 0)||((b:Int)==P.pa))))=X;have e1:decide (pr≠0)=(pr != 0):=by rw[Bool.eq_iff_iff];simp
 have e2:decide (((b/P.F:Nat):Int)=if P.bl then 0 else(P.R:Int)-1)=(((b/P.F:Nat):Int)==if P.bl then 0 else(P.R:Int)-1):=by rw[Bool.eq_iff_iff];simp
 rw[e1,e2];generalize (pr != 0)=u;generalize (((b/P.F:Nat):Int)==if P.bl then 0 else(P.R:Int)-1)=v;cases u<;>cases v<;>cases X<;>rfl
theorem wS:∀ c∈az,btwW 8 8 c.fr c.co<2^64∧(∀ i,i<64→(btwW 8 8 c.fr c.co).testBit i=elI (btwS 8 8 c.fr c.co) i)∧∀ x∈btwS 8 8 c.fr c.co,0≤x∧x<64:=by decide +kernel
theorem np{P:Pos}{c:Cas}(hc:c∈az):(btwW 8 8 c.fr c.co&&&P.occ=0)↔d6 P.xs (btwS 8 8 c.fr c.co)=true:=by
 obtain⟨h1,h2,h3⟩:=wS c hc;have hel:∀ {L:List Int} {x:Int},elI L x=true↔x∈L:=by intro L x;unfold elI;rw[List.any_eq_true];simp
 unfold d6;rw[List.all_eq_true];constructor
 ·intro h x hx;obtain⟨h4,h5⟩:=h3 x hx;have hb:=h2 x.toNat (by omega);rw[show((x.toNat:Nat):Int)=x by omega,hel.2 hx]at hb;have:=congrArg (·.testBit x.toNat) h;simp only[Nat.testBit_and,hb,Bool.true_and,Nat.zero_testBit,occ_bit,decide_eq_false_iff_not,ne_eq,Decidable.not_not]at this;rw[beq_iff_eq];exact this
 ·intro h;refine Nat.eq_of_testBit_eq fun i=>?_
  rw[Nat.testBit_and,Nat.zero_testBit,occ_bit];rcases Nat.lt_or_ge i 64 with hi|hi
  ·rw[h2 i hi];rcases he:elI (btwS 8 8 c.fr c.co) i with _|_
   ·rfl
   ·have:=h i (hel.1 he);rw[Int.toNat_natCast,beq_iff_eq]at this;simp[gx,this]
  ·rw[Nat.testBit_lt_two_pow (Nat.lt_of_lt_of_le h1 (Nat.pow_le_pow_right (by decide) hi))];rfl
theorem tE:∀ n,n<16→∀ c∈az,((((n:Nat):Int)/(c.bit:Int)%2==1)=true↔n&&&c.bit≠0):=by decide
theorem qJ:∀ c∈az,∀ d∈az,c.fr=d.fr→c.tg=d.tg→c=d:=by decide
theorem ml{P:Pos}{m:Mv}:∀ {l:List Cas} {c:Cas},(∀ d∈l,∀ e∈l,d.fr=e.fr→d.tg=e.tg→d=e)→c∈l→c.bl=P.bl→P.ca.toNat&&&c.bit≠0→(c.fr:Int)=m.fr→(c.tg:Int)=m.tg→btwW P.F P.R c.fr c.co&&&P.occ=0→casW P m l=(some c,true)
 | [],c,_,h,_,_,_,_,_=>by cases h
 | d::l,c,hu,h,h1,h2,h3,h4,h5=>by
  unfold casW;split
  ·rename_i hc;refine ml (fun d hd e he=>hu d (List.mem_cons_of_mem _ hd) e (List.mem_cons_of_mem _ he)) ?_ h1 h2 h3 h4 h5;rcases List.mem_cons.1 h with rfl|h
   ·exfalso;rcases hc with hc|hc|hc|hc
    ·exact hc h1
    ·exact h2 hc
    ·exact hc h3
    ·exact hc h4
   ·exact h
  ·rename_i hc;simp only[not_or,ne_eq,Decidable.not_not]at hc;obtain rfl:d=c:=hu d List.mem_cons_self c h (by omega) (by omega);rw[h5];rfl
theorem uj{P:Pos}{m:Mv}{n:Nat}(hca:P.ca=n)(hcst:cstB P.F P.R P.xs P.ca=true)(c:Cas):casR P m=some c↔castW P m=(some c,true)∧m.pr=0:=by
 rw[hca]at hcst;obtain⟨h15,h8⟩:=gX.1 hcst;unfold casR;by_cases hk:kindI (P.at_ m.fr)≠6∨m.pr≠0
 ·rw[if_pos hk];constructor
  ·intro h;cases h
  ·rintro⟨h,h0⟩;exact absurd (gz h).1 (hk.resolve_right (fun h1=>h1 h0))
 ·rw[if_neg hk];rw[not_or,Decidable.not_not,ne_eq,Decidable.not_not]at hk;have ht:∀ d∈az,ik P m d=true↔(d.bl=P.bl∧P.ca.toNat&&&d.bit≠0∧(d.fr:Int)=m.fr∧(d.tg:Int)=m.tg∧btwW P.F P.R d.fr d.co&&&P.occ=0):=by
   intro d hd;unfold ik;rw[hca,Int.toNat_natCast];simp only[Bool.and_eq_true];rw[tE n (by omega) d hd];simp only[beq_iff_eq];constructor
   ·rintro⟨k1,k2,k3,k4,k5⟩;obtain⟨e1,e2,_⟩:=h8 d hd k1;rw[e1,e2]at k5 ⊢;exact⟨k2,k1,k3.symm,k4.symm,(np hd).2 k5⟩
   ·rintro⟨k1,k2,k3,k4,k5⟩;obtain⟨e1,e2,_⟩:=h8 d hd k2;rw[e1,e2]at k5 ⊢;exact⟨k2,k1,k3.symm,k4.symm,(np hd).1 k5⟩
  constructor
  ·intro h;have hm:=List.mem_of_find?_eq_some h;obtain⟨k1,k2,k3,k4,k5⟩:=(ht c hm).1 (List.find?_some h);refine⟨?_,hk.2⟩;unfold castW;rw[if_neg (by omega)];exact ml qJ hm k1 k2 k3 k4 k5
  ·rintro⟨h,_⟩;obtain⟨_,hm,k1,k2,k3,k4,k5⟩:=gz h;have h9:=(ht c hm).2 ⟨k1,k2,k3,k4,k5⟩;rcases e:az.find? (ik P m)with _|d
   ·exact absurd h9 (by rw[List.find?_eq_none]at e;exact e c hm)
   ·have hdm:=List.mem_of_find?_eq_some e;obtain⟨_,_,q3,q4,_⟩:=(ht d hdm).1 (List.find?_some e);rw[qJ d hdm c hm (by omega) (by omega)]
theorem yh:∀ c∈az,c.bit≠0:=by decide
theorem vI{P:Pos}{m:Mv}{c:Cas}(h:casR P m=some c):c∈az:=by
 unfold casR at h;split at h
 ·cases h
 ·exact List.mem_of_find?_eq_some h
theorem zX{P:Pos}{a b:Nat}{pr:Int}{n:Nat}(hca:P.ca=n)(ho:aF P.F P.R P.xs=true)(hF:3≤P.F∧P.F≤8)(hR:3≤P.R∧P.R≤8)(hlen:P.xs.length=P.F*P.R)(hcst:cstB P.F P.R P.xs P.ca=true)(ha:a<P.F*P.R)(hb:b<P.F*P.R)(hw:isW (gx P.xs a) P.bl=true):
  (isW (P.at_ (b:Int)) P.bl||(!goesW P ⟨a,b,pr⟩&&(!(castW P ⟨a,b,pr⟩).2||decide (pr≠0))))=!soB P ⟨a,b,pr⟩∧(soB P ⟨a,b,pr⟩=true→gL P ⟨a,b,pr⟩=casR P ⟨a,b,pr⟩):=by
 have hkb:=qB (kD ho a) (tD hw);have hci:=uj (m:=⟨a,b,pr⟩) hca hcst;unfold soB gL;simp only[show P.at_ (a:Int)=gx P.xs a from rfl,show P.at_ (b:Int)=gx P.xs b from rfl,Int.toNat_natCast];rcases hwb:isW (gx P.xs b) P.bl with _|_
 ·simp only[Bool.false_or,Bool.false_eq_true,if_false];by_cases hk:kindI (gx P.xs a)=1
  ·rw[if_pos hk];have e1:castW P ⟨a,b,pr⟩=(none,false):=if_pos (by show kindI (gx P.xs a)≠6;omega);have e2:casR P ⟨a,b,pr⟩=none:=if_pos (.inl (by show kindI (gx P.xs a)≠6;omega));rw[e1,e2,tN hF hR hlen ha hb hk];simp
  ·rw[if_neg hk];have hg:goesW P ⟨a,b,pr⟩=((pr==0)&&reachB P.F P.R (kindI (gx P.xs a)) a b P.occ):=by
    unfold goesW;simp only[show P.at_ (a:Int)=gx P.xs a from rfl,Int.toNat_natCast];rw[if_pos hk,jZ hF hR ha hb (by omega)];congr 1
   rcases hcr:casR P ⟨a,b,pr⟩with _|c
   ·have hz:((castW P ⟨a,b,pr⟩).2&&decide (pr=0))=false:=by
     rcases e:castW P ⟨a,b,pr⟩with⟨x,y⟩
     rcases y with _|_
     ·rfl
     ·rcases Decidable.em (pr=0)with h0|h0
      ·obtain⟨c,hc⟩:=en (P:=P) (m:=⟨a,b,pr⟩) (by rw[e]);rw[e]at hc;have:=(hci c).2 ⟨by rw[e];exact Prod.ext hc rfl,h0⟩;rw[hcr]at this;cases this
      ·simp[h0]
    rw[show bitO none=0 from rfl,if_neg (by simp),←hg];rcases e:(castW P ⟨a,b,pr⟩).2 with _|_
    ·simp
    ·rw[e]at hz;simp only[Bool.true_and,decide_eq_false_iff_not]at hz;have hz2:decide (pr≠0)=true:=by simpa using hz
     rw[hz2];rcases eg:goesW P ⟨a,b,pr⟩with _|_
     ·simp
     ·simp
   ·obtain⟨e1,e2⟩:=(hci c).1 hcr;have e2:pr=0:=e2;rw[show bitO (some c)=c.bit from rfl,if_pos (yh c (vI hcr)),e1];have hgf:goesW P ⟨a,b,pr⟩=false:=by
     rcases eg:goesW P ⟨a,b,pr⟩with _|_
     ·rfl
     ·obtain⟨_,q1,q2,q3,q4,q5,_⟩:=gz e1;rw[hca,Int.toNat_natCast]at q3;rw[hca]at hcst;obtain⟨x1,x2,x3,_⟩:=(gX.1 hcst).2 c q1 q3;have q4:(c.fr:Int)=a:=q4;have q5:(c.tg:Int)=b:=q5;obtain rfl:c.fr=a:=by omega
      exact(zx (lh ho hF hR hlen ha hb hw eg) q1 ⟨x1,x2⟩ (by rw[x3,q2]) rfl (by omega)).elim
    rw[hgf];simp[e2]
 ·simp
end Go.Proofs.YtefmplccbkmalaaGreatDoor
namespace Go.Proofs.YtefmplccbkmalaaGreatDoor
open Go.RowKit

def Chg(P:Pos)(way:Option Cas)(t:Int)(Y:List Int)(k:Nat):Prop :=
 gx Y k=gx P.xs k∨(gx Y k=0∧gx P.xs k=pcI 1 (!P.bl)∧(k:Int)=t) ∨
 ∃ c,way=some c∧c∈az∧((k=c.co∧gx Y k=0∧gx P.xs k=pcI 4 P.bl)∨(k=c.cr∧gx Y k=pcI 4 P.bl∧gx P.xs k=0))
theorem yq{P:Pos}{a b:Nat}{pr:Int}{way:Option Cas}(hlen:P.xs.length=P.F*P.R)(ha:a<P.F*P.R)(hb:b<P.F*P.R)(hab:a≠b)(h:iq P a b pr way):
  (brdW P ⟨a,b,pr⟩ way).length=P.xs.length∧gx (brdW P ⟨a,b,pr⟩ way) a=0∧gx (brdW P ⟨a,b,pr⟩ way) b=gH P a pr∧(∀ k,k≠a→k≠b→Chg P way (bL P ⟨a,b,pr⟩).1 (brdW P ⟨a,b,pr⟩ way) k)∧∀ k:Nat,k≠b→(k:Int)=(bL P ⟨a,b,pr⟩).1→gx (brdW P ⟨a,b,pr⟩ way) k=0:=by
 cases h with
 | go h hc =>
  generalize hte:(bL P ⟨a,b,pr⟩).1=t at hc;generalize hce:(bL P ⟨a,b,pr⟩).2=cp at hc;obtain⟨hl,hx⟩:=vY (pr:=pr) (Prod.ext hte hce) hc (by omega) (by omega);refine⟨hl,by rw[hx,if_neg (fun h=>hab h.symm),if_pos rfl],by rw[hx,if_pos rfl],fun k k1 k2=>?_,fun k k1 k2=>by rw[hx,if_neg (fun h=>k1 h.symm),if_pos k2,ite_self]⟩;have hk:=hx k;rw[if_neg (fun h=>k2 h.symm),if_neg (fun h=>k1 h.symm)]at hk;by_cases e:(k:Int)=t
  ·rw[if_pos e]at hk;subst e;generalize e':(k:Int)=t at hc;cases hc with
   | none _=>omega
   | take _=>omega
   | pass e2 _ h2=>obtain rfl:k=e2:=by omega
                   exact .inr (.inl ⟨hk,h2,e'⟩)
  ·rw[if_neg e]at hk;exact .inl hk
 | cas c h h1 h2 h3 =>
  subst h1 h2 h3;obtain⟨⟨n1,n2,n3,n4,n5,n6⟩,l1,l2,l3,l4⟩:=tj c h.mem;obtain⟨hl,hx⟩:=wO h (wn h hlen);refine⟨by rw[hl,wn h hlen],?_,?_,fun k k1 k2=>?_,fun k _ k2=>by rw[h.cap]at k2;omega⟩
  ·rw[hx,if_neg (fun h=>n2 h.symm),if_neg (fun h=>n3 h.symm),if_neg (fun h=>n1 h.symm),if_pos rfl]
  ·rw[hx,if_neg (fun h=>n4 h.symm),if_neg (fun h=>n5 h.symm),if_pos rfl];rfl
  ·have hk:=hx k;by_cases e1:c.co=k
   ·rw[if_pos e1]at hk;exact .inr (.inr ⟨c,rfl,h.mem,.inl ⟨e1.symm,hk,by rw[←e1];exact h.rook⟩⟩)
   ·rw[if_neg e1]at hk;by_cases e2:c.cr=k
    ·rw[if_pos e2,h.rook]at hk;exact .inr (.inr ⟨c,rfl,h.mem,.inr ⟨e2.symm,hk,by rw[←e2];exact h.cr⟩⟩)
    ·rw[if_neg e2,if_neg (fun h=>k2 h.symm),if_neg (fun h=>k1 h.symm)]at hk;exact .inl hk
theorem sD{P:Pos}{a b:Nat}{pr:Int}{way:Option Cas}(ho:aF P.F P.R P.xs=true)(hw:isW (gx P.xs a) P.bl=true)(hp:pr=0∨(2≤pr∧pr≤5))(h:iq P a b pr way):isW (gH P a pr) P.bl=true∧(-6≤gH P a pr∧gH P a pr≤6)∧(gH P a pr=6*sdI P.bl↔gx P.xs a=6*sdI P.bl)∧(kindI (gH P a pr)=1→pr=0∧gx P.xs a=pcI 1 P.bl):=by
 have h6:=kD ho a;unfold gH;by_cases e:pr≠0
 ·have hg:gx P.xs a=pcI 1 P.bl:=by
   cases h with
   | go h _=>exact h.pr e
   | cas c h _ _ h3=>exact absurd h3 e
  rw[if_pos e,hg];unfold isW kindI pcI sdI;cases P.bl<;>simp<;>omega
 ·rw[if_neg e];exact⟨hw,h6,Iff.rfl,fun hk=>⟨by omega,qZ hw hk⟩⟩
theorem lU(b d:Bool):pcI 1 b≠6*sdI d∧pcI 4 b≠6*sdI d:=by cases b<;>cases d<;>decide
theorem vz{P:Pos}{a b k:Nat}{way:Option Cas}{t:Int}{Y:List Int}(hX:gx Y b=6*sdI P.bl↔gx P.xs a=6*sdI P.bl)(hb:isW (gx P.xs b) P.bl=false)(hYa:gx Y a=0)(hY:∀ j,j≠a→j≠b→Chg P way t Y j)(hk:KG P.xs P.bl k):KG Y P.bl (if a=k then b else k):=by
 have h6:=sd6 P.bl;have hkk:isW (6*sdI P.bl) P.bl=true:=by cases P.bl<;>decide
 have hkb:k≠b:=by rintro rfl;rw[hk.1,hkk]at hb;cases hb
 have hold:∀ j,j≠b→gx Y j=6*sdI P.bl→j=k∧j≠a:=by
  intro j hjb hj;have hja:j≠a:=by rintro rfl;rw[hYa]at hj;exact h6 hj.symm
  refine⟨?_,hja⟩;rcases hY j hja hjb with h|⟨h,_,_⟩|⟨c,_,_,⟨_,h,_⟩|⟨_,h,_⟩⟩
  ·exact hk.2 j (by rw[←h];exact hj)
  ·rw[h]at hj;exact absurd hj.symm h6
  ·rw[h]at hj;exact absurd hj.symm h6
  ·rw[h]at hj;exact absurd hj (lU _ _).2
 by_cases e:a=k
 ·rw[if_pos e];refine⟨hX.2 (by rw[e];exact hk.1),fun j hj=>?_⟩;by_cases hjb:j=b
  ·exact hjb
  ·have:=hold j hjb hj;omega
 ·rw[if_neg e];constructor
  ·rcases hY k (fun h=>e h.symm) hkb with h|⟨_,h,_⟩|⟨c,_,_,⟨_,_,h⟩|⟨_,_,h⟩⟩
   ·rw[h];exact hk.1
   ·rw[hk.1]at h;exact absurd h.symm (lU _ _).1
   ·rw[hk.1]at h;exact absurd h.symm (lU _ _).2
   ·rw[hk.1]at h;exact absurd h h6
  ·intro j hj;by_cases hjb:j=b
   ·subst hjb;exact absurd (hk.2 a (hX.1 hj)) e
   ·exact(hold j hjb hj).1
theorem Ak(F:Nat)(a b:Nat):(b:Int)=a+dF F a b+dR F a b*F:=by
 unfold dF dR;have h1:=Nat.div_add_mod' a F;have h2:=Nat.div_add_mod' b F;have h3:((a/F*F:Nat):Int)+((a%F:Nat):Int)=a:=by rw[←Int.natCast_add,h1]
 have h4:((b/F*F:Nat):Int)+((b%F:Nat):Int)=b:=by rw[←Int.natCast_add,h2]
 rw[Int.natCast_mul]at h3 h4;rw[Int.sub_mul];omega
end Go.Proofs.YtefmplccbkmalaaGreatDoor
