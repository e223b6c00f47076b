import Derived.Test.YtefmplccbkmalaaGreatDoorB04
set_option maxRecDepth 100000
set_option maxHeartbeats 12800000
namespace Go.Proofs.YtefmplccbkmalaaGreatDoor
open Go.RowKit Go.Sort Go.BigFrame

def dP(F:Nat)(bl:Bool)(a b:Nat):Bool:=(dR F a b==sdI bl)&&((dF F a b==1)||(-(dF F a b)==1))
def pawnL(F:Nat)(bl:Bool)(a:Nat):Nat→List Int
 | 0=>[]
 | k+1=>if dP F bl a k then pawnL F bl a k++[(k:Int)]else pawnL F bl a k
theorem iQ(F:Nat)(bl:Bool)(a k:Nat):(pawnL F bl a k).length≤k:=by
 induction k with
 | zero=>simp[pawnL]
 | succ k ih =>
  simp only[pawnL];split
  ·simp;omega
  ·omega
def pwR(w4:World)(F:Nat)(bl:Bool)(a N:Nat)(b:Nat)(lv bv:Value)(wr:World):Prop :=
 b≤N∧bv=.int .i64 b∧wr.ownsRow w4.heap.size 3 1 lv (pawnL F bl a b).length ((pawnL F bl a b).map (.int .i64))∧Below w4.heap.size w4 wr
theorem jM(F R:Nat)(bl:Bool)(a:Nat)(hF:3≤F∧F≤8)(hR:3≤R∧R≤8)(ha:a<F*R)(w:World):
  Clz 191 #[.agg #[.int .i64 F,.int .i64 R],.bool bl,.int .i64 a] w fun e w'=>(∃ v,e=.returned v∧w'.ownsRow w.heap.size 3 1 v (pawnL F bl a (F*R)).length ((pawnL F bl a (F*R)).map (.int .i64)))∧Below w.heap.size w w':=by
 obtain⟨i3,hi3,hz3,hs3,hy3⟩:=info_parts Tryz.info3;have hA:=ac.new w (.cells [.int .i64 (F:Int),.int .i64 (R:Int)].toArray 23);have hB:=ae w (.cells [.int .i64 (F:Int),.int .i64 (R:Int)].toArray 23);obtain⟨ha64,ha0,ha1⟩:=bU hF hR ha;obtain⟨N,hN⟩:∃ N,N=F*R:=⟨_,rfl⟩;have hN64:N≤64:=by rw[hN];exact Nat.mul_le_mul hF.2 hR.2
 have hw:wrap64 ((F:Int)*(R:Int))=(N:Int):=by rw[hN,Int.natCast_mul];exact IntWalk.wrap64_in _ (by rw[←Int.natCast_mul,←hN];omega)
 rw[←hN];go_enter Tryz.func191,Tryz.ntmps191;go_wp2_with fail;show Code.wp _ _ _ _ (w.alloc (.cells [.int .i64 (F:Int),.int .i64 (R:Int)].toArray 23));obtain⟨w1,hw1⟩:∃ x,x=w.alloc (.cells [.int .i64 (F:Int),.int .i64 (R:Int)].toArray 23):=⟨_,rfl⟩;rw[←hw1]at hA hB ⊢;clear hw1;replace hN:=zhd hN;go_loopg [7,8] 65 (fun q lv bv wr=>∃ b:Nat,q+b=65∧pwR w1 F bl a N b lv bv wr)
 case atStart=>exact⟨0,rfl,⟨Nat.zero_le _,rfl,World.ownsRow_nil _ _ _ _,Below.refl _ _⟩⟩
 case round =>
  obtain⟨b,hq,⟨hbN,rfl,hown,hbr⟩⟩:=hrel;have hAr:=hA.call hbr;have⟨hcr,hlr⟩:=hAr.cl;have hBr:=zbc hB hbr;by_cases hlt:b<N
  ·have hii:(b:Int)<N:=by omega
   obtain⟨hb64,hb0,hb1⟩:=bU hF hR (show b<F*R by rw[←hN.out];exact hlt);have hdb:=ww (a:=a) (b:=b) hF;have hrb:=wB (a:=a) (b:=b) hR ha1 hb1;have hdf:dF F a b=((b%F:Nat):Int)-((a%F:Nat):Int):=rfl;have hdr:dR F a b=((b/F:Nat):Int)-((a/F:Nat):Int):=rfl;have hlen:=iQ F bl a b;have hnx:pawnL F bl a (b+1)=if dP F bl a b then pawnL F bl a b++[(b:Int)]else pawnL F bl a b:=rfl
   have hhit:dP F bl a b=((dR F a b==sdI bl)&&((dF F a b==1)||(-(dF F a b)==1))):=rfl;generalize dF F a b=df,dR F a b=dr at hdb hrb hdf hdr hhit;go_wp2_with fail;refine bE (by kernel_rfl) (by kernel_rfl) [some 20,some 21,some 22,some 23,some 24,some 25,some 9,some 10,none,none] (by rfl) (by rfl) (dS wr [.int .i64 (F:Int),.int .i64 (R:Int)].toArray a b #[.int .i64 (a%F:Nat),.int .i64 (a/F:Nat)] #[.int .i64 (b%F:Nat),.int .i64 (b/F:Nat)]) (fun S S9 f9 W h hR=>fF S S9 f9 W h hR) (fun f9=>ge f9) ?hstep ?hend
   case hstep =>
    intro S i9 o9 f9 W ho hi hSj hpre hcl hR K hK;have hi:i9<10:=hi;have hR0:=hR;obtain⟨hC,h0,h1,h2,h3,h4,h5,h6,h7,h8⟩:=hR0;have hsz:=hAr.call hC;rcases i9 with _|_|_|_|_|_|_|_|_|_|i9
    ·exact ay (og ho) 23 (.tmp 3) (oo ho) (ah rfl rfl) [.int .i64 (F:Int),.int .i64 (R:Int)] (by kernel_rfl) (fun j v hv=>by rw[Nat.zero_add,hsz.cells j];simpa using hv) (hK _ _ (aS hR 0 _ (Below.refl _ _) (by decide) (by refine⟨?_,?_,?_,?_,?_,?_⟩<;>intro h<;>first|rfl|(cases h))))
    ·exact al (og ho) (.tmp 2) (oo ho) (ah rfl rfl) (hK _ _ (aS hR 1 _ (Below.refl _ _) (by decide) (by refine⟨?_,?_,?_,?_,?_,?_⟩<;>intro h<;>first|rfl|(cases h))))
    ·exact aH (og ho) 40 (.tmp 20) (.tmp 21) #[23,3] (oo ho) (ri 0 (h0 (da ho hpre 0))) (ri 1 (h1 (da ho hpre 1))) (fun _ _=>rfl) (aO F R a hF (by omega) W) (by rintro u w9 ⟨h9,hb9⟩;injection h9 with h9;subst h9;exact hK _ _ (aS hR 2 _ hb9 (by decide) (by refine⟨?_,?_,?_,?_,?_,?_⟩<;>intro h<;>first|rfl|(cases h)))) (by rintro ch w9 ⟨h9,_⟩;cases h9) (by rintro w9 ⟨h9,_⟩;cases h9)
    ·exact ay (og ho) 23 (.tmp 3) (oo ho) (ah rfl rfl) [.int .i64 (F:Int),.int .i64 (R:Int)] (by kernel_rfl) (fun j v hv=>by rw[Nat.zero_add,hsz.cells j];simpa using hv) (hK _ _ (aS hR 3 _ (Below.refl _ _) (by decide) (by refine⟨?_,?_,?_,?_,?_,?_⟩<;>intro h<;>first|rfl|(cases h))))
    ·exact al (og ho) (.tmp 8) (oo ho) (ah rfl rfl) (hK _ _ (aS hR 4 _ (Below.refl _ _) (by decide) (by refine⟨?_,?_,?_,?_,?_,?_⟩<;>intro h<;>first|rfl|(cases h))))
    ·exact aH (og ho) 40 (.tmp 23) (.tmp 24) #[23,3] (oo ho) (ri 3 (h3 (da ho hpre 3))) (ri 4 (h4 (da ho hpre 4))) (fun _ _=>rfl) (aO F R b hF (by omega) W) (by rintro u w9 ⟨h9,hb9⟩;injection h9 with h9;subst h9;exact hK _ _ (aS hR 5 _ hb9 (by decide) (by refine⟨?_,?_,?_,?_,?_,?_⟩<;>intro h<;>first|rfl|(cases h)))) (by rintro ch w9 ⟨h9,_⟩;cases h9) (by rintro w9 ⟨h9,_⟩;cases h9)
    ·have hS8:S 8=false:=by
      rcases h:S 8 with _|_
      ·rfl
      ·have:=hcl 8 _ h rfl ⟨6,.data⟩ (by simp) rfl;rw[hSj]at this;cases this
     exact bV (og ho) 85 (oo ho) (ej W) (hK _ _ (dA hR 6 (.inl rfl) hS8))
    ·have hS9:S 9=false:=by
      rcases h:S 9 with _|_
      ·rfl
      ·have:=hcl 9 _ h rfl ⟨7,.data⟩ (by simp) rfl;rw[hSj]at this;cases this
     exact bV (og ho) 85 (oo ho) (ej W) (hK _ _ (dA hR 7 (.inr rfl) hS9))
    ·have hSi:=(da ho hpre 6);obtain⟨q,e1,e2,old,e3,e4,e5⟩:=h6 hSi;exact bI (og ho) 85 (.tmp 9) (.tmp 22) (oo ho) (ri 6 e1) _ old 85 (ri 2 (h2 (da ho hpre 2))) e3 (by kernel_rfl) e4 (by simp[Value.oneCell']) (hK _ _ (gp hR hSi rfl _ e1))
    ·have hSi:=(da ho hpre 7);obtain⟨q,e1,e2,old,e3,e4,e5⟩:=h7 hSi;exact bI (og ho) 85 (.tmp 10) (.tmp 25) (oo ho) (ri 7 e1) _ old 85 (ri 5 (h5 (da ho hpre 5))) e3 (by kernel_rfl) e4 (by simp[Value.oneCell']) (hK _ _ (gr hR hSi rfl _ e1))
    ·omega
   case hend =>
    intro S f9 W hS hR;obtain⟨hC,_,_,_,_,_,_,h6,h7,h8⟩:=hR;obtain⟨q1,e1,l1,o1,hO1,_,z1⟩:=h6 (hS 6 (by decide));obtain⟨q2,e2,l2,o2,hO2,_,z2⟩:=h7 (hS 7 (by decide));replace z1:=z1 (hS 8 (by decide));replace z2:=z2 (hS 9 (by decide));subst z1 z2;clear h6 h7 h8;simp only[ao,Act.put,List.setIfInBounds_toArray,List.set_cons_succ,List.set_cons_zero];rw[e1,e2];clear e1 e2 hS;generalize f9 0=u0,f9 1=u1,f9 2=u2,f9 3=u3,f9 4=u4,f9 5=u5,f9 8=u8,f9 9=u9;have hbW:=zbc hbr hC;have hownW:=aA hown hC;have hBW:=zbc hBr hC;generalize a%F=a0,a/F=a1,b%F=b0,b/F=b1' at *;clear hAr hcr hlr hbr hown hBr;have hwf:IntKind.i64.wrap ((b0:Int)-(a0:Int))=df:=by rw[←hdf];exact IntWalk.i64_in _ (by omega)
    have hwg:IntKind.i64.wrap ((a0:Int)-(b0:Int))=-df:=by rw[show(a0:Int)-(b0:Int)=-df by omega];exact IntWalk.i64_in _ (by omega)
    have hwr:IntKind.i64.wrap ((b1':Int)-(a1:Int))=dr:=by rw[←hdr];exact IntWalk.i64_in _ (by omega)
    replace hdf:=zhd hdf;replace hdr:=zhd hdr;go_wp2_with fail;rcases c8:(dr==sdI bl)with _|_
    ·rw[c8]at hhit;have m1:=am hO1;have m2:=am hO2;have t1:=aJ (w:=W) (fun W=>cV bl W);refine ag (by kernel_rfl) (by kernel_rfl) ?_;repeat(go_big_quiet_step (first|with_reducible exact t1 _ _|fail))
     refine wpQuiet_nil ?_;intro W2 hC2;clear m1 m2 t1;have hbW2:=zbc hbW hC2;have hownW2:=aA hownW hC2;have hBW2:=zbc hBW hC2;clear hwf hwr hwg hC hC2 hbW hownW hBW;replace hnx:=zhd (hnx.trans (if_neg (by rw[hhit];simp)));go_wp2_with fail;go_roundg (gk-1)
     case measure=>omega
     case rel=>exact⟨b+1,by omega,⟨by omega,by go_num,by rw[hnx.out];exact hownW2,hbW2⟩⟩
    ·rcases c15:(df==1)with _|_
     ·rcases c21:(-df==1)with _|_
      ·rw[c8,c15,c21]at hhit;have m1:=am hO1;have m2:=am hO2;have t1:=aJ (w:=W) (fun W=>cV bl W);refine ag (by kernel_rfl) (by kernel_rfl) ?_;repeat(go_big_quiet_step (first|with_reducible exact t1 _ _|fail))
       refine wpQuiet_nil ?_;intro W2 hC2;clear m1 m2 t1;have hbW2:=zbc hbW hC2;have hownW2:=aA hownW hC2;have hBW2:=zbc hBW hC2;clear hwf hwr hwg hC hC2 hbW hownW hBW;replace hnx:=zhd (hnx.trans (if_neg (by rw[hhit];simp)));go_wp2_with fail;go_roundg (gk-1)
       case measure=>omega
       case rel=>exact⟨b+1,by omega,⟨by omega,by go_num,by rw[hnx.out];exact hownW2,hbW2⟩⟩
      ·rw[c8,c15,c21]at hhit;have m1:=am hO1;have m2:=am hO2;have t1:=aJ (w:=W) (fun W=>cV bl W);refine ag (by kernel_rfl) (by kernel_rfl) ?_;repeat(go_big_quiet_step (first|with_reducible exact t1 _ _|fail))
       refine wpQuiet_nil ?_;intro W2 hC2;clear m1 m2 t1;have hbW2:=zbc hbW hC2;have hownW2:=aA hownW hC2;have hBW2:=zbc hBW hC2;clear hwf hwr hwg hC hC2 hbW hownW hBW;replace hnx:=zhd (hnx.trans (if_pos (by rw[hhit];simp)));go_wp2_with (at_builtin;refine bD rfl (.tmp 50) (.tmp 52) 136 rfl w1.heap.size 3 i3 (.int .i64 0) 8 Tryz.underlying136 hi3 hz3 hs3 hy3 rfl _ (pawnL F bl a b).length ((pawnL F bl a b).map (.int .i64)) rfl hownW2 1 [.int .i64 (b:Int)] rfl (by intro u hu;simp at hu;subst hu;rfl) _ rfl rfl (by omega) hbW2.size ?_);intro v' w9 hown9 hg9 _;have hb9:=(hbW2.alloc hbW2.size (.cells #[.int .i64 (b:Int)] 3)).grown hg9 (Nat.le_trans hbW2.size (by simp)) (fun j e=>(hownW2.lt j e).1);replace hown9:w9.ownsRow w1.heap.size 3 1 v' (pawnL F bl a (b+1)).length ((pawnL F bl a (b+1)).map (.int .i64)):=by rw[hnx.out];simpa using hown9
       clear hownW2 hg9;go_wp2_with fail;go_roundg (gk-1)
       case measure=>omega
       case rel=>exact⟨b+1,by omega,⟨by omega,by go_num,hown9,hb9⟩⟩
     ·rw[c8,c15]at hhit;have m1:=am hO1;have m2:=am hO2;have t1:=aJ (w:=W) (fun W=>cV bl W);refine ag (by kernel_rfl) (by kernel_rfl) ?_;repeat(go_big_quiet_step (first|with_reducible exact t1 _ _|fail))
      refine wpQuiet_nil ?_;intro W2 hC2;clear m1 m2 t1;have hbW2:=zbc hbW hC2;have hownW2:=aA hownW hC2;have hBW2:=zbc hBW hC2;clear hwf hwr hwg hC hC2 hbW hownW hBW;replace hnx:=zhd (hnx.trans (if_pos (by rw[hhit];simp)));go_wp2_with (at_builtin;refine bD rfl (.tmp 50) (.tmp 52) 136 rfl w1.heap.size 3 i3 (.int .i64 0) 8 Tryz.underlying136 hi3 hz3 hs3 hy3 rfl _ (pawnL F bl a b).length ((pawnL F bl a b).map (.int .i64)) rfl hownW2 1 [.int .i64 (b:Int)] rfl (by intro u hu;simp at hu;subst hu;rfl) _ rfl rfl (by omega) hbW2.size ?_);intro v' w9 hown9 hg9 _;have hb9:=(hbW2.alloc hbW2.size (.cells #[.int .i64 (b:Int)] 3)).grown hg9 (Nat.le_trans hbW2.size (by simp)) (fun j e=>(hownW2.lt j e).1);replace hown9:w9.ownsRow w1.heap.size 3 1 v' (pawnL F bl a (b+1)).length ((pawnL F bl a (b+1)).map (.int .i64)):=by rw[hnx.out];simpa using hown9
      clear hownW2 hg9;go_wp2_with fail;go_roundg (gk-1)
      case measure=>omega
      case rel=>exact⟨b+1,by omega,⟨by omega,by go_num,hown9,hb9⟩⟩
  ·have hii:¬(b:Int)<N:=by omega
   obtain rfl:b=N:=by omega
   go_wp2_with fail;go_ret;exact⟨⟨_,rfl,bC hown hB.size⟩,hBr⟩
end Go.Proofs.YtefmplccbkmalaaGreatDoor
namespace Go.Proofs.YtefmplccbkmalaaGreatDoor
open Go.RowKit

def ke(base:Nat)(vals:Nat→Value)(ol:Nat→Option (List Int))(i:Nat)(v:Value)(W:World):Prop :=
 match ol i with
 | some L=>W.ownsRow base 3 1 v L.length (L.map (.int .i64))
 | none=>v=vals i
theorem sM{base:Nat}{vals:Nat→Value}{ol:Nat→Option (List Int)}{i:Nat}{v:Value}{W W':World}(hb:Below W.heap.size W W')(h:ke base vals ol i v W):ke base vals ol i v W':=by
 unfold ke at h ⊢;cases e:ol i with
 | none=>rw[e]at h;exact h
 | some L=>rw[e]at h;exact aA h hb
theorem bc{P:Program}{id:Nat}{ops:Array Oper}{Q:Exit→Act→World→Prop}{a:Act}{w:World}(hm:P.follows .mixedOrders=true)(hb:aW .any ops=true)
  (ds:List (Option Tmp)) (hds:ops.toList.map (·.dst)=ds) (hok:bn ds=true) (base:Nat) (vals:Nat→Value) (ol:Nat→Option (List Int))
  (hstep:∀ i o f W,ops[i]? = some o→i<ops.size→Below w.heap.size w W→(∀ e∈o.after,Region.binds .any e=true→ke base vals ol e.on (f e.on) W)→∀ K:Act→World→Prop,(∀ u W',Below W.heap.size W W'→ke base vals ol i u W'→K ((ao ds f 0 a).put o.dst u) W') →
   if Region.wanted o (yielded ops (ao ds f 0 a).tmps)=true then o.wp P (ao ds f 0 a) W K Q else K ((ao ds f 0 a).put o.dst undef) W)
  (hend:∀ f W,Below w.heap.size w W→(∀ i,i<ops.size→ke base vals ol i (f i) W)→Q .normal (ao ds f 0 a) W):(Code.region id ops true).wp P Q a w:=by
 refine dl hm hb ds hds hok (fun W=>Below w.heap.size w W) (fun W W'=>Below W.heap.size W W') (ke base vals ol) (fun i v W W' _ h h2=>sM h h2) (Below.refl _ _).drew ?_ hend;intro i o f W ho hi hC hf K hK;exact hstep i o f W ho hi hC hf K (fun u W' h1 h2=>hK u W' (zbc hC h1) h1 h2)

theorem y6{S n:Nat}(h:S.testBit n=false):S|||2^n=S+2^n:=by
 have h1:S=2^n*(S/2^n)+S%2^n:=(Nat.div_add_mod S (2^n)).symm;obtain⟨q,hq⟩:∃ q,q=S/2^n:=⟨_,rfl⟩;obtain⟨m,hm⟩:∃ m,m=S%2^n:=⟨_,rfl⟩;have hml:m<2^n:=by rw[hm];exact Nat.mod_lt _ (Nat.two_pow_pos n)
 rw[←hq,←hm]at h1;have hq2:q%2=0:=by rw[Nat.testBit_eq_decide_div_mod_eq,←hq]at h;simp at h;omega
 obtain⟨k,hk⟩:∃ k,q=2*k:=⟨q/2,by omega⟩;have e1:S=2^(n+1)*k+m:=by rw[h1,hk,Nat.pow_succ,Nat.mul_assoc]
 have hm1:m<2^(n+1):=Nat.lt_of_lt_of_le hml (Nat.pow_le_pow_right (by decide) (by omega));have hm2:2^n+m<2^(n+1):=by rw[Nat.pow_succ];omega
 have e2:2^n*1+m=2^n*1|||m:=Nat.two_pow_add_eq_or_of_lt hml 1
 have e3:2^(n+1)*k+m=2^(n+1)*k|||m:=Nat.two_pow_add_eq_or_of_lt hm1 k
 have e4:2^(n+1)*k+(2^n+m)=2^(n+1)*k|||(2^n+m):=Nat.two_pow_add_eq_or_of_lt hm2 k
 rw[Nat.mul_one]at e2;rw[e1];rw[show 2^(n+1)*k+m+2^n=2^(n+1)*k+(2^n+m) by omega,e4,e3,e2,Nat.or_assoc,Nat.or_comm m]
def ofL(L:List Int):Nat→Nat
 | 0=>0
 | k+1=>if cF (ofL L k) (L[k]?.getD 0)then ofL L k else ofL L k|||2^(L[k]?.getD 0).toNat
def sqL(L:List Int):Prop:=∀ k,k<L.length→0≤L[k]?.getD 0∧L[k]?.getD 0<64
theorem zd{L:List Int}(h:sqL L):∀ k,k≤L.length→ofL L k<2^64:=by
 intro k;induction k with
 | zero=>intro _;simp[ofL]
 | succ k ih =>
  intro hk;have h1:=h k (by omega);have h2:=ih (by omega);simp only[ofL];split
  ·exact h2
  ·exact Nat.or_lt_two_pow h2 (Nat.pow_lt_pow_right (by decide) (by omega))
theorem xy{L:List Int}(h:sqL L)(i:Nat):∀ k,k≤L.length→((ofL L k).testBit i=true↔∃ j,j<k∧L[j]?.getD 0=i):=by
 intro k;induction k with
 | zero=>intro _;simp[ofL]
 | succ k ih =>
  intro hk;obtain⟨h1,h2⟩:=h k (by omega);have ih:=ih (by omega);obtain⟨n,hn⟩:∃ n:Nat,L[k]?.getD 0=n:=⟨(L[k]?.getD 0).toNat,by omega⟩;simp only[ofL,hn];rw[dz _ _ (by omega)];have hs:(∃ j,j<k+1∧L[j]?.getD 0=i)↔((∃ j,j<k∧L[j]?.getD 0=i)∨n=i):=by
   constructor
   ·rintro⟨j,hj,e⟩;by_cases hjk:j=k
    ·subst hjk;right;rw[hn]at e;omega
    ·left;exact⟨j,by omega,e⟩
   ·rintro(⟨j,hj,e⟩|e)
    ·exact⟨j,by omega,e⟩
    ·exact⟨k,by omega,by rw[hn,e]⟩
  rw[hs];by_cases hb:(ofL L k).testBit n=true
  ·rw[if_pos hb,ih];constructor
   ·exact .inl
   ·rintro(h|h)
    ·exact h
    ·rw[←ih,←h];exact hb
  ·rw[if_neg hb,Nat.testBit_or,Nat.testBit_two_pow,Bool.or_eq_true,ih,Int.toNat_natCast];simp
theorem uY{n:Nat}(h:n<2^64):IntKind.u64.wrap ((n:Nat):Int)=n:=by simp only[IntKind.wrap,IntKind.bits,IntKind.signed];simp;omega
theorem rP(p:Option Addr)(c:Nat)(L:List Int)(w:World)(hx:Arr .i64 w p L)(hl:L.length≤1000)(hs:sqL L):
  Clz 189 #[.slice p L.length c] w fun e w'=>e=.returned (.int .u64 (ofL L L.length:Nat))∧Below w.heap.size w w':=by
 go_enter Tryz.func189,Tryz.ntmps189;go_wp2_with fail;go_loopg [3,4] 1001 (fun q sv iv wr=>∃ i:Nat,q+i=1001∧i≤L.length∧iv=.int .i64 i∧sv=.int .u64 (ofL L i:Nat)∧Below w.heap.size w wr)
 case atStart=>exact⟨0,rfl,Nat.zero_le _,rfl,rfl,Below.refl _ _⟩
 case round =>
  obtain⟨i,hq,hi,rfl,rfl,hb⟩:=hrel;by_cases hlt:i<L.length
  ·have hii:(i:Int)<L.length:=by omega
   obtain⟨b,o,rfl,hbl,hc⟩:=(hx.call hb).at hlt;have hci:=hc i hlt;obtain⟨h1,h2⟩:=hs i hlt;obtain⟨n,hn⟩:∃ n:Nat,L[i]?.getD 0=n:=⟨(L[i]?.getD 0).toNat,by omega⟩;have hlt64:=zd hs i (by omega);have hnx:ofL L (i+1)=if cF (ofL L i) (L[i]?.getD 0)then ofL L i else ofL L i|||2^(L[i]?.getD 0).toNat:=rfl
   rw[hn]at hci h1 h2 hnx;replace hn:=zhd hn;clear hc;generalize ofL L i=S at hlt64 hnx ⊢;go_wp2_with fail;refine(fG S n _).mono ?_;rintro e w2 ⟨rfl,rfl⟩;rcases hyx:cF S n with _|_
   ·have hnb:S.testBit n=false:=by rw[←dz S n (by omega)];exact hyx
    have hsum:=y6 hnb;have e1:S+2^n<2^64:=by rw[←hsum];exact Nat.or_lt_two_pow hlt64 (Nat.pow_lt_pow_right (by decide) (by omega))
    rw[hyx,Int.toNat_natCast]at hnx;replace hnx:Hid (ofL L (i+1)=S+2^n):=zhd (by rw[hnx,←hsum];rfl);replace hsum:=zhd hsum;have hnn:n<64:=by omega
    go_wp2_with fail;go_roundg (gk-1)
    case measure=>omega
    case rel=>refine⟨i+1,by omega,by omega,by go_num,?_,hb⟩;rw[qP hnn,hnx.out,←Int.natCast_add,uY e1]
   ·rw[hyx]at hnx;replace hnx:Hid (ofL L (i+1)=S):=zhd hnx;go_wp2_with fail;go_roundg (gk-1)
    case measure=>omega
    case rel=>exact⟨i+1,by omega,by omega,by go_num,by rw[hnx.out],hb⟩
  ·have hii:¬(i:Int)<L.length:=by omega
   obtain rfl:i=L.length:=by omega
   go_wp2_with fail;go_ret;exact⟨rfl,hb⟩
theorem jV{W:World}{base:Nat}{t:TypeId}{v:Value}{k:IntKind}{xs:List Int}(h:W.ownsRow base t 1 v xs.length (xs.map (.int k))):∃ p c,v=.slice p xs.length c∧xs.length≤c∧Arr k W p xs∧(p=none→c=0):=by
 obtain⟨p,c,e,hc,hA⟩:=dO h;refine⟨p,c,e,hc,hA,fun hp=>?_⟩;rcases h.2 with⟨h1,_⟩|⟨g,cap,cur,h1,_⟩
 ·rw[e]at h1;injection h1
 ·rw[e]at h1;injection h1 with h2;rw[hp]at h2;cases h2
section ops
variable {P:Program} {o:Oper} {a:Act} {w:World} {K:Act→World→Prop} {Q:Exit→Act→World→Prop} {t:Nat→Option Bool} {X:Prop}
theorem pt(hg:o.guard=none)(s x:Operand)(ty:TypeId)(ho:o.op=.call {callee:=.builtin .append,args:=#[s,x],argTypes:=#[ty,ty]})
  (base:Nat) (e:TypeId) (i:TypeInfo) (z:Value) (bytes:Nat) (ht:P.underlying ty=some (.slice e)) (hi:P.info? e=some i) (hz:i.zero=some z)
  (hsize:i.size=1) (hby:i.bytes=bytes) (hzs:z.cells.size=1) (k:IntKind) {p:Option Addr} {c:Nat} {xs:List Int} {v:Value} {n:Nat} {ys:List Value}
  (hs:a.eval s=v) (hown:w.ownsRow base e 1 v n ys) (hx:a.eval x=.slice p xs.length c) (hp:p=none→c=0) (hA:Arr k w p xs)
  (hbytes:(n+xs.length)*(bytes+1)≤140737488355328) (hbase:base≤w.heap.size)
  (h:∀ v' w',w'.ownsRow base e 1 v' (n+xs.length) (ys++xs.map (.int k))→Below base w w'→K (a.put o.dst v') w'):if Region.wanted o t=true then o.wp P a w K Q else X:=by
 rcases p with _|ad
 ·rcases hA with rfl|⟨b,o',e',_⟩
  ·rw[hp rfl]at hx;refine bm hg ?_;have hr:=run_append_owned_none (P:=P) (w:=w) base ty o.type e i 1 ht hi v n ys hown;unfold Oper.wp execOp;have hx':a.eval x=.slice none 0 0:=hx;simp only[ho,resolve,invoke,builtin,Sem.run_bind,Sem.run_pure,Result.andThen_ok,List.map_toArray,List.map_cons,List.map_nil,hs,hx',hr];exact h _ _ (by simpa using hown) (Below.refl _ _)
  ·cases e'
 ·refine mq hg s x ty ho base e i z 1 bytes ht hi hz hsize hby hzs (by decide) v n ys hs hown ad xs.length c (xs.map (.int k)) hx (by simp) ?_ ?_ hbytes hbase ?_
  ·intro j u hu;have hj:j<xs.length:=by have:=(List.getElem?_eq_some_iff.1 hu).1;simpa using this
   obtain⟨b,o',e',hb,hc⟩:=hA.at (i:=j) hj;injection e' with e';subst e';rw[Addr.add_lit,hc j hj];simp[hj]at hu ⊢;exact hu
  ·intro u hu;obtain⟨y,_,rfl⟩:=List.mem_map.1 hu;rfl
  ·intro v' w' h1 h2 h3;exact h v' w' h1 ((Below.refl base w).grown h2 hbase (fun j e=>(hown.lt j e).1))
end ops
theorem idxs_mem(g:Int→Bool)(xs:List Int)(i:Int):∀ k,i∈idxs g xs k↔∃ j:Nat,j<k∧g (xs[j]?.getD 0)=true∧i=j:=by
 intro k;induction k with
 | zero=>simp[idxs]
 | succ k ih =>
  simp only[idxs];have hs:(∃ j:Nat,j<k+1∧g (xs[j]?.getD 0)=true∧i=j)↔((∃ j:Nat,j<k∧g (xs[j]?.getD 0)=true∧i=j)∨(g (xs[k]?.getD 0)=true∧i=k)):=by
   constructor
   ·rintro⟨j,hj,e⟩;by_cases hjk:j=k
    ·subst hjk;exact .inr e
    ·exact .inl ⟨j,by omega,e⟩
   ·rintro(⟨j,hj,e⟩|e)
    ·exact⟨j,by omega,e⟩
    ·exact⟨k,by omega,e⟩
  rw[hs];split
  ·rename_i h;rw[List.mem_append,ih];simp[h]
  ·rename_i h;rw[ih];simp[h]
theorem kG{L:List Int}(h:∀ x∈L,0≤x∧x<64):sqL L:=by
 intro k hk;have:L[k]?.getD 0=L[k]:=by simp[hk]
 rw[this];exact h _ (List.getElem_mem hk)
theorem lK(g:Int→Bool)(xs:List Int)(hl:xs.length≤64):∀ x∈idxs g xs xs.length,0≤x∧x<64:=by intro x hx;rw[idxs_mem]at hx;obtain⟨j,hj,_,rfl⟩:=hx;omega
def sWh(x:Int):Bool:=sgnI x==1
def sBl(x:Int):Bool:=sgnI x==-1
theorem yE(xs:List Int)(hl:xs.length≤64):ofL (idxs sWh xs xs.length++idxs sBl xs xs.length) (idxs sWh xs xs.length++idxs sBl xs xs.length).length=setW gNon xs xs.length:=by
 have hs:sqL (idxs sWh xs xs.length++idxs sBl xs xs.length):=kG (by
  intro x hx;rcases List.mem_append.1 hx with h|h
  ·exact lK _ _ hl x h
  ·exact lK _ _ hl x h)
 apply Nat.eq_of_testBit_eq
 intro i;rw[setW_bit,Bool.eq_iff_iff,xy hs i _ (Nat.le_refl _)];have h1:(∃ j,j<(idxs sWh xs xs.length++idxs sBl xs xs.length).length∧(idxs sWh xs xs.length++idxs sBl xs xs.length)[j]?.getD 0=(i:Int))↔(i:Int)∈idxs sWh xs xs.length++idxs sBl xs xs.length:=by
  rw[List.mem_iff_getElem];constructor
  ·rintro⟨j,hj,e⟩;rw[List.getElem?_eq_getElem hj]at e;exact⟨j,hj,e⟩
  ·rintro⟨j,hj,e⟩;exact⟨j,hj,by rw[List.getElem?_eq_getElem hj];exact e⟩
 rw[h1,List.mem_append,idxs_mem,idxs_mem];simp only[Bool.and_eq_true,decide_eq_true_eq];have h2:∀ x,gNon x=true↔(sWh x=true∨sBl x=true):=by
  intro x;unfold gNon sWh sBl sgnI;by_cases h3:x<0
  ·have:x≠0:=by omega
   simp[h3,this]
  ·by_cases h4:0<x
   ·have:x≠0:=by omega
    simp[h3,h4,this]
   ·have:x=0:=by omega
    simp[this]
 rw[h2];constructor
 ·rintro(⟨j,hj,h,e⟩|⟨j,hj,h,e⟩)
  ·have:i=j:=by omega
   subst this;exact⟨hj,.inl h⟩
  ·have:i=j:=by omega
   subst this;exact⟨hj,.inr h⟩
 ·rintro⟨hi,h|h⟩
  ·exact .inl ⟨i,hi,h,rfl⟩
  ·exact .inr ⟨i,hi,h,rfl⟩
def zi(w1:World)(B:Array Value)(L1 L2:List Int)(V:Nat)(S:Nat→Bool)(f:Nat→Value)(W:World):Prop :=
 Below w1.heap.size w1 W∧(S 0=true→f 0=.agg B)∧(S 3=true→f 3=.agg B) ∧
 (S 5=false→(S 1=true→W.ownsRow w1.heap.size 3 1 (f 1) L1.length (L1.map (.int .i64)))∧(S 2=true→W.ownsRow w1.heap.size 3 1 (f 2) L1.length (L1.map (.int .i64)))∧(S 4=true→W.ownsRow w1.heap.size 3 1 (f 4) L2.length (L2.map (.int .i64)))) ∧
 (S 5=true→W.ownsRow w1.heap.size 3 1 (f 5) (L1++L2).length ((L1++L2).map (.int .i64)))∧(S 6=true→f 6=.int .u64 (V:Nat))∧(S 7=true→f 7=.int .u64 (V:Nat))
theorem ey(f r:Int)(p:Option Addr)(c:Nat)(xs:List Int)(w:World)(hx:Arr .i8 w p xs)(hl:xs.length≤64):
  Clz 159 #[.agg (ar f r p xs.length c).toArray] w fun e w'=>e=.returned (.int .u64 (setW gNon xs xs.length:Nat))∧Below w.heap.size w w':=by
 obtain⟨i3,hi3,hz3,hs3,hy3⟩:=info_parts Tryz.info3;have hb:=ae w (.cells (ar f r p xs.length c).toArray 68);have hA:=ac.new w (.cells (ar f r p xs.length c).toArray 68);have hoc:=yE xs hl;have hl1:=ff sWh xs xs.length;have hl2:=ff sBl xs xs.length;have hq1:∀ x∈idxs sWh xs xs.length++idxs sBl xs xs.length,0≤x∧x<64:=by
  intro x hx;rcases List.mem_append.1 hx with h|h
  iterate 2 exact lK _ _ hl x h
 have hSd1:=fun W h=>fL f r 1 p c xs W h hl
 have hSd2:=fun W h=>fL f r (-1) p c xs W h hl
 have e1:(fun z=>sgnI z==1)=sWh:=rfl;have e2:(fun z=>sgnI z==-1)=sBl:=rfl;rw[e1]at hSd1;rw[e2]at hSd2;generalize idxs sWh xs xs.length=L1,idxs sBl xs xs.length=L2 at *;generalize setW gNon xs xs.length=V at *;go_enter Tryz.func159,Tryz.ntmps159;go_wp2_with fail;show Code.wp _ _ _ _ (w.alloc (.cells (ar f r p xs.length c).toArray 68));obtain⟨w1,hw1⟩:∃ x,x=w.alloc (.cells (ar f r p xs.length c).toArray 68):=⟨_,rfl⟩;have hx1:=hx.call hb;rw[←hw1]at hA hb hx1 ⊢;clear hw1 hx;refine bE (by kernel_rfl) (by kernel_rfl) [some 3,some 4,some 5,some 6,some 7,some 8,some 9,some 2] (by rfl) (by rfl) (zi w1 (ar f r p xs.length c).toArray L1 L2 V) ?hcong ?h0 ?hstep ?hend
 case hcong=>intro S S' f W h hR;unfold zi at hR ⊢;rw[←h 0 (by decide),←h 1 (by decide),←h 2 (by decide),←h 3 (by decide),←h 4 (by decide),←h 5 (by decide),←h 6 (by decide),←h 7 (by decide)];exact hR
 case h0=>intro f;exact⟨(Below.refl _ _).drew,(fun h=>by cases h),(fun h=>by cases h),fun _=>⟨(fun h=>by cases h),(fun h=>by cases h),(fun h=>by cases h)⟩,(fun h=>by cases h),(fun h=>by cases h),(fun h=>by cases h)⟩
 case hstep =>
  intro S i9 o9 f9 W ho hi hSj hpre hcl hR K hK;have hi:i9<8:=hi;obtain⟨hC,h0,h3,h124,h5,h6,h7⟩:=id hR;have hsz:=hA.call hC;have hxW:=hx1.call hC;have hkeep:∀ {W':World},Below W.heap.size W W'→(S 5=true→W'.ownsRow w1.heap.size 3 1 (f9 5) (L1++L2).length ((L1++L2).map (.int .i64))):=fun hb h=>aA (h5 h) hb
  have hno5:∀ j,j<5→S j=false→(j=2∨j=4)→S 5=false:=by
   intro j _ hj hjj;rcases h:S 5 with _|_
   ·rfl
   ·rcases hjj with rfl|rfl
    ·have:=hcl 5 _ h rfl ⟨2,.data⟩ (by simp) rfl;rw[hj]at this;cases this
    ·have:=hcl 5 _ h rfl ⟨4,.data⟩ (by simp) rfl;rw[hj]at this;cases this
  rcases i9 with _|_|_|_|_|_|_|_|i9
  ·exact ay (og ho) 68 (.tmp 1) (oo ho) (ah rfl rfl) (ar f r p xs.length c) (by kernel_rfl) (fun j v hv=>by rw[Nat.zero_add,hsz.cells j];simpa using hv) (hK _ _ ⟨hC,fun _=>rfl,h3,h124,h5,h6,h7⟩)
  ·refine aH (og ho) 158 (.tmp 3) (.const (.int .i64 1)) #[68,3] (oo ho) (ri 0 (h0 (da ho hpre 0))) rfl (fun _ _=>rfl) (hSd1 W hxW) ?_ (by rintro ch w9 ⟨⟨_,h9,_⟩,_⟩;cases h9) (by rintro w9 ⟨⟨_,h9,_⟩,_⟩;cases h9);rintro u w9 ⟨⟨v9,h9,hown9⟩,hb9⟩;injection h9 with h9;subst h9;refine hK _ _ ⟨zbc hC hb9,h0,h3,fun h=>?_,fun h=>hkeep hb9 h,h6,h7⟩;have⟨_,g2,g4⟩:=h124 h;exact⟨fun _=>bC hown9 hC.size,fun h=>aA (g2 h) hb9,fun h=>aA (g4 h) hb9⟩
  ·have hS5:=hno5 2 (by decide) hSj (.inl rfl);obtain⟨g1,g2,g4⟩:=h124 hS5;obtain⟨p1,c1,q1,_,hA1,hp1⟩:=jV (g1 (da ho hpre 1));refine nl (og ho) (.const (.slice none 0 0)) (.tmp 4) 136 (oo ho) w1.heap.size 3 i3 (.int .i64 0) 8 Tryz.underlying136 hi3 hz3 hs3 hy3 rfl .i64 rfl (ri 1 q1) hp1 hA1 (by omega) hC.size ?_;intro v' w' hown' hb' _;refine hK _ _ ⟨zbc hC hb',h0,h3,fun _=>⟨fun h=>aA (g1 h) hb',fun _=>hown',fun h=>aA (g4 h) hb'⟩,fun h=>?_,h6,h7⟩;have h:S 5=true:=h;rw[hS5]at h;cases h
  ·exact ay (og ho) 68 (.tmp 1) (oo ho) (ah rfl rfl) (ar f r p xs.length c) (by kernel_rfl) (fun j v hv=>by rw[Nat.zero_add,hsz.cells j];simpa using hv) (hK _ _ ⟨hC,h0,fun _=>rfl,h124,h5,h6,h7⟩)
  ·refine aH (og ho) 158 (.tmp 6) (.const (.int .i64 (-1))) #[68,3] (oo ho) (ri 3 (h3 (da ho hpre 3))) rfl (fun _ _=>rfl) (hSd2 W hxW) ?_ (by rintro ch w9 ⟨⟨_,h9,_⟩,_⟩;cases h9) (by rintro w9 ⟨⟨_,h9,_⟩,_⟩;cases h9);rintro u w9 ⟨⟨v9,h9,hown9⟩,hb9⟩;injection h9 with h9;subst h9;refine hK _ _ ⟨zbc hC hb9,h0,h3,fun h=>?_,fun h=>hkeep hb9 h,h6,h7⟩;have⟨g1,g2,_⟩:=h124 h;exact⟨fun h=>aA (g1 h) hb9,fun h=>aA (g2 h) hb9,fun _=>bC hown9 hC.size⟩
  ·obtain⟨_,g2,g4⟩:=h124 hSj;obtain⟨p1,c1,q1,_,hA1,hp1⟩:=jV (g4 (da ho hpre 4));refine pt (og ho) (.tmp 5) (.tmp 7) 136 (oo ho) w1.heap.size 3 i3 (.int .i64 0) 8 Tryz.underlying136 hi3 hz3 hs3 hy3 rfl .i64 (ri 2 rfl) (g2 (da ho hpre 2)) (ri 4 q1) hp1 hA1 (by omega) hC.size ?_;intro v' w' hown' hb';exact hK _ _ ⟨hC.trans hb',h0,h3,(fun h=>by cases h),fun _=>by simpa using hown',h6,h7⟩
  ·obtain⟨p1,c1,q1,_,hA1,_⟩:=jV (h5 (da ho hpre 5));refine aQ (og ho) 189 (.tmp 8) #[136] (oo ho) (ri 5 q1) (fun _ _=>rfl) (rP p1 c1 (L1++L2) W hA1 (by simp;omega) (kG hq1)) ?_ (by rintro ch w9 ⟨h9,_⟩;cases h9) (by rintro w9 ⟨h9,_⟩;cases h9);rintro u w9 ⟨h9,hb9⟩;injection h9 with h9;subst h9;refine hK _ _ ⟨zbc hC hb9,h0,h3,fun h=>?_,fun h=>hkeep hb9 h,fun _=>by rw[hoc];rfl,h7⟩;have⟨g1,g2,g4⟩:=h124 h;exact⟨fun h=>aA (g1 h) hb9,fun h=>aA (g2 h) hb9,fun h=>aA (g4 h) hb9⟩
  ·exact aE (og ho) (.tmp 9) (oo ho) (ri 6 (h6 (da ho hpre 6))) (hK _ _ ⟨hC,h0,h3,h124,h5,h6,fun _=>rfl⟩)
  ·omega
 case hend=>intro S f9 W hS hR;obtain⟨hC,h0,h3,h124,h5,h6,h7⟩:=hR;go_wp2_with fail;refine bodyPost_ret (results_tmp (fn:=Tryz.f159) Tryz.results159 _ _ _) (by rw[ce]) ?_;refine⟨?_,zbc hb hC⟩;rw[ck rfl 7 rfl (by simp) (h7 (hS 7 (by decide)))]
section ops
variable {P:Program} {o:Oper} {a:Act} {w:World} {K:Act→World→Prop} {Q:Exit→Act→World→Prop} {t:Nat→Option Bool} {X:Prop}
theorem eX(hg:o.guard=none)(fid:Nat)(x1 x2 x3 x4:Operand)(ts:Array TypeId)(ho:o.op=.call {callee:=.value (.func fid),args:=#[x1,x2,x3,x4],argTypes:=ts}){v1 v2 v3 v4:Value}(h1:a.eval x1=v1)(h2:a.eval x2=v2)(h3:a.eval x3=v3)(h4:a.eval x4=v4)
  (he:∀ args w,(callFunc fid args).run P w=.ok (.enter fid args) w) {R:Ending→World→Prop} (hc:Calls P fid #[v1,v2,v3,v4] w R) (hret:∀ u w',R (.returned u) w'→K (a.put o.dst u) w') (hpan:∀ ch w',R (.panicked ch) w'→Q (.panic ch) a w') (hout:∀ w',¬R .outgrown w') :
  if Region.wanted o t=true then o.wp P a w K Q else X:=by
 refine bm hg ?_;have hr:(execOp a.eval o).run P w=.ok (.enter fid #[v1,v2,v3,v4]) w:=by have hf:a.eval (.func fid)=.func (.func fid) #[] #[]:=rfl;unfold execOp;simp[ho,resolve,hf,h1,h2,h3,h4,Deferred.ofValue,invoke,he]
 unfold Oper.wp;rw[hr,Oper.upon_enter];refine hc.mono ?_;intro e w' h;cases e with
 | returned u=>exact hret u w' h
 | panicked ch=>exact hpan ch w' h
 | outgrown=>exact absurd h (hout w')
theorem uX(hg:o.guard=none)(fid:Nat)(x1 x2 x3 x4 x5:Operand)(ts:Array TypeId)(ho:o.op=.call {callee:=.value (.func fid),args:=#[x1,x2,x3,x4,x5],argTypes:=ts}){v1 v2 v3 v4 v5:Value}(h1:a.eval x1=v1)(h2:a.eval x2=v2)(h3:a.eval x3=v3)(h4:a.eval x4=v4)(h5:a.eval x5=v5)
  (he:∀ args w,(callFunc fid args).run P w=.ok (.enter fid args) w) {R:Ending→World→Prop} (hc:Calls P fid #[v1,v2,v3,v4,v5] w R) (hret:∀ u w',R (.returned u) w'→K (a.put o.dst u) w') (hpan:∀ ch w',R (.panicked ch) w'→Q (.panic ch) a w') (hout:∀ w',¬R .outgrown w') :
  if Region.wanted o t=true then o.wp P a w K Q else X:=by
 refine bm hg ?_;have hr:(execOp a.eval o).run P w=.ok (.enter fid #[v1,v2,v3,v4,v5]) w:=by have hf:a.eval (.func fid)=.func (.func fid) #[] #[]:=rfl;unfold execOp;simp[ho,resolve,hf,h1,h2,h3,h4,h5,Deferred.ofValue,invoke,he]
 unfold Oper.wp;rw[hr,Oper.upon_enter];refine hc.mono ?_;intro e w' h;cases e with
 | returned u=>exact hret u w' h
 | panicked ch=>exact hpan ch w' h
 | outgrown=>exact absurd h (hout w')
end ops
theorem oh{x y:Int}{d:Bool}{W:World}(h:(x != y)=d):(binOp .neq 3 (.int .i64 x) (.int .i64 y)).run Tryz.prog W=.ok (.bool d) W:=by rw[yb,h]
def attB(F R:Nat)(xs:List Int)(a b oc:Nat):Bool :=
 if kindI (xs[a]?.getD 0)=1 then elI (pawnL F (decide (xs[a]?.getD 0<0)) a (F*R)) b else !decide (a=b)&&reachB F R (kindI (xs[a]?.getD 0)) a b oc
theorem tK{x:Int}(h:pOk x=true):-15≤x∧x≤15:=by unfold pOk at h;simp at h;exact h
theorem lJ(F R:Nat)(p:Option Addr)(c:Nat)(xs:List Int)(a b oc:Nat)(hF:3≤F∧F≤8)(hR:3≤R∧R≤8)(hlen:xs.length=F*R)(ha:a<F*R)(hb:b<F*R)(hok:∀ x∈xs,pOk x=true)(w:World)(hx:Arr .i8 w p xs):
  Clz 160 #[.agg (ar F R p xs.length c).toArray,.int .i64 a,.int .i64 b,.int .u64 (oc:Nat)] w fun e w'=>e=.returned (.bool (attB F R xs a b oc))∧Below w.heap.size w w':=by
 have hA:=ac.new w (.cells (ar F R p xs.length c).toArray 68);have hB:=ae w (.cells (ar F R p xs.length c).toArray 68);have hlt:a<xs.length:=by omega
 have hii:(a:Int)<xs.length:=by omega
 obtain⟨g,o,rfl,hgl,hcc⟩:=(hx.call hB).at hlt;have hcx:=hcc a hlt;obtain⟨x,hxv⟩:∃ x,x=xs[a]?.getD 0:=⟨_,rfl⟩;have hxk:pOk x=true:=by rw[hxv,List.getElem?_eq_getElem hlt];exact hok _ (List.getElem_mem hlt)
 have hxb:=tK hxk;obtain⟨V,hV⟩:∃ V,V=attB F R xs a b oc:=⟨_,rfl⟩;have hVV:V=if kindI x=1 then elI (pawnL F (decide (x<0)) a (F*R)) b else !decide (a=b)&&reachB F R (kindI x) a b oc:=by rw[hV,hxv];rfl
 rw[←hV];rw[←hxv]at hcx;clear hV hxv hcc hok hxk;have hpl:=iQ F (decide (x<0)) a (F*R);have hFR:F*R≤64:=Nat.mul_le_mul hF.2 hR.2;have hpw:=fun W=>jM F R (decide (x<0)) a hF hR ha W
 have hre:=fun W=>gT F R (kindI x) a b oc hF hR ha hb W
 generalize pawnL F (decide (x<0)) a (F*R)=L at hpl hpw hVV;generalize reachB F R (kindI x) a b oc=rb at hre hVV;have⟨hc0,hl0⟩:=hA.cl;replace hVV:=zhd hVV;replace hlen:=zhd hlen;have hkx:=cL x ⟨by omega,by omega⟩;obtain⟨kx,hk⟩:∃ k,k=kindI x:=⟨_,rfl⟩;rw[←hk]at hkx hVV hre;go_enter Tryz.func160,Tryz.ntmps160;go_wp2_with fail;refine(hkx _).mono ?_;rintro e w' ⟨rfl,rfl⟩;by_cases h1:kx=1
 ·have e0:Hid (V=elI L b):=zhd (by rw[hVV.out,if_pos h1]);have c1:(kx==1)=true:=by simp[h1]
  replace h1:=zhd h1;replace hk:=zhd hk;go_wp2_with fail;refine(hpw _).mono ?_;rintro e w2 ⟨⟨v,rfl,hown⟩,hb2⟩;have hB2:=zbc hB hb2;obtain⟨p1,c1',rfl,_,hArr⟩:=dO hown;clear hown hc0 hl0 hA hpw hre;go_wp2_with fail;refine(px p1 c1' L b w2 hArr (by omega)).mono ?_;rintro e w3 ⟨rfl,hb3⟩;go_wp2_with fail;go_ret;exact⟨by rw[e0.out];rfl,zbc hB2 hb3⟩
 ·have e1:Hid (V=(!decide (a=b)&&rb)):=zhd (by rw[hVV.out,if_neg h1]);have c1:(kx==1)=false:=by simp[h1]
  replace h1:=zhd h1;replace hk:=zhd hk;go_wp2_with fail;show Code.wp _ _ _ _ (w.alloc (.cells (ar F R (some ⟨g,o,none⟩) xs.length c).toArray 68));obtain⟨w1,hw1⟩:∃ x,x=w.alloc (.cells (ar F R (some ⟨g,o,none⟩) xs.length c).toArray 68):=⟨_,rfl⟩;rw[←hw1]at hA hB ⊢;clear hw1 hc0 hl0 hcx hgl;by_cases hab:a=b
  ·have e2:Hid (V=false):=zhd (by rw[e1.out];simp[hab]);have c2:((a:Int) != (b:Int))=false:=by simp[hab]
   replace hab:=zhd hab;refine bc (by kernel_rfl) (by kernel_rfl) [some 26,some 27,some 28,some 29,some 30,some 31,some 32,some 33,some 34,some 35,some 36,some 37,some 38,some 8] (by rfl) (by rfl) w1.heap.size (fun i=>match i with|0=>.int .i64 ((a:Nat):Int)|1=>.int .i64 ((b:Nat):Int)|2=>.bool false|3=>.bool false|12=>.bool false|13=>.bool false|_=>undef) (fun _=>none) ?hstep ?hend
   case hstep =>
    intro i9 o9 f9 W ho hi hC hf K hK;have hi:i9<14:=hi;rcases i9 with _|_|_|_|_|_|_|_|_|_|_|_|_|_|i9
    ·exact al (og ho) (.tmp 1) (oo ho) (ah rfl rfl) (kk hK)
    ·exact al (og ho) (.tmp 2) (oo ho) (ah rfl rfl) (kk hK)
    ·exact aK (og ho) .neq 3 3 (.tmp 26) (.tmp 27) (oo ho) (ri 0 (da ho hf 0)) (ri 1 (da ho hf 1)) (bM _ _ _ _ _ _ _ _) (oh c2) (kk hK)
    ·exact al (og ho) (.tmp 28) (oo ho) (ri 2 (da ho hf 2)) (kk hK)
    iterate 8 exact bt (uw ho (dg ho hf 3)) (kk hK)
    ·exact fN (og ho) (.tmp 29) (.tmp 37) (.const (.bool false)) (oo ho) (ri 3 (da ho hf 3)) rfl (kk hK)
    ·exact aE (og ho) (.tmp 38) (oo ho) (ri 12 (da ho hf 12)) (kk hK)
    ·omega
   case hend=>intro f9 W hC hf;go_wp2_with fail;refine bodyPost_ret (results_tmp (fn:=Tryz.f160) Tryz.results160 _ _ _) (by rw[ce]) ?_;refine⟨?_,zbc hB hC⟩;rw[ck rfl 13 rfl (by simp) (hf 13 (by decide)),e2.out];rfl
  ·have e2:Hid (V=rb):=zhd (by rw[e1.out];simp[hab]);have c2:((a:Int) != (b:Int))=true:=by simp;omega
   replace hab:=zhd hab;refine bc (by kernel_rfl) (by kernel_rfl) [some 26,some 27,some 28,some 29,some 30,some 31,some 32,some 33,some 34,some 35,some 36,some 37,some 38,some 8] (by rfl) (by rfl) w1.heap.size (fun i=>match i with|0=>.int .i64 ((a:Nat):Int)|1=>.int .i64 ((b:Nat):Int)|2=>.bool true|3=>.bool true|4=>.pointer (some ⟨w.heap.size,0,none⟩)|5=>.agg [.int .i64 (F:Int),.int .i64 (R:Int)].toArray|6=>.int .i8 x|7=>.int .i8 kx|8=>.int .i64 ((a:Nat):Int)|9=>.int .i64 ((b:Nat):Int)|10=>.int .u64 (oc:Nat)|11=>.bool rb|12=>.bool rb|13=>.bool rb|_=>undef) (fun _=>none) ?hstep ?hend
   case hstep =>
    intro i9 o9 f9 W ho hi hC hf K hK;have hi:i9<14:=hi;rcases i9 with _|_|_|_|_|_|_|_|_|_|_|_|_|_|i9
    ·exact al (og ho) (.tmp 1) (oo ho) (ah rfl rfl) (kk hK)
    ·exact al (og ho) (.tmp 2) (oo ho) (ah rfl rfl) (kk hK)
    ·exact aK (og ho) .neq 3 3 (.tmp 26) (.tmp 27) (oo ho) (ri 0 (da ho hf 0)) (ri 1 (da ho hf 1)) (bM _ _ _ _ _ _ _ _) (oh c2) (kk hK)
    ·exact al (og ho) (.tmp 28) (oo ho) (ri 2 (da ho hf 2)) (kk hK)
    ·exact gd (wo ho (dg ho hf 3)) (au rfl 68 (.tmp 4) 0 (oo ho) (ah rfl rfl) (n:=0) (by kernel_rfl) (kk hK))
    ·exact gd (wo ho (dg ho hf 3)) (ay rfl 23 (.tmp 30) (oo ho) (ri 4 (da ho hf 4)) [.int .i64 (F:Int),.int .i64 (R:Int)] (by kernel_rfl) (fun j v hv=>by rw[Nat.zero_add,(hA.call hC).cells j];rcases(by have:=(List.getElem?_eq_some_iff.1 hv).1;simp at this;omega:j=0∨j=1)with rfl|rfl<;>simpa using hv) (kk hK))
    ·exact gd (wo ho (dg ho hf 3)) (al rfl (.tmp 9) (oo ho) (ah rfl rfl) (kk hK))
    ·exact gd (wo ho (dg ho hf 3)) (aQ rfl 39 (.tmp 32) #[38] (oo ho) (ri 6 (da ho hf 6)) (fun _ _=>rfl) (hkx W) (by rintro u w9 ⟨h9,h10⟩;injection h9 with h9;subst h9;subst h10;exact hK _ _ (Below.refl _ _) rfl) (fun _ _ h=>nomatch h.1) (fun _ h=>nomatch h.1))
    ·exact gd (wo ho (dg ho hf 3)) (al rfl (.tmp 1) (oo ho) (ah rfl rfl) (kk hK))
    ·exact gd (wo ho (dg ho hf 3)) (al rfl (.tmp 2) (oo ho) (ah rfl rfl) (kk hK))
    ·exact gd (wo ho (dg ho hf 3)) (al rfl (.tmp 3) (oo ho) (ah rfl rfl) (kk hK))
    ·exact gd (wo ho (dg ho hf 3)) (uX rfl 165 (.tmp 31) (.tmp 33) (.tmp 34) (.tmp 35) (.tmp 36) #[23,38,3,3,64] (oo ho) (ri 5 (da ho hf 5)) (ri 7 (da ho hf 7)) (ri 8 (da ho hf 8)) (ri 9 (da ho hf 9)) (ri 10 (da ho hf 10)) (fun _ _=>rfl) (hre W) (by rintro u w9 ⟨h9,hb9⟩;injection h9 with h9;subst h9;exact hK _ _ hb9 rfl) (fun _ _ h=>nomatch h.1) (fun _ h=>nomatch h.1))
    ·exact cx (og ho) (.tmp 29) (.tmp 37) (.const (.bool false)) (oo ho) (ri 3 (da ho hf 3)) (ri 11 (da ho hf 11)) (kk hK)
    ·exact aE (og ho) (.tmp 38) (oo ho) (ri 12 (da ho hf 12)) (kk hK)
    ·omega
   case hend=>intro f9 W hC hf;go_wp2_with fail;refine bodyPost_ret (results_tmp (fn:=Tryz.f160) Tryz.results160 _ _ _) (by rw[ce]) ?_;refine⟨?_,zbc hB hC⟩;rw[ck rfl 13 rfl (by simp) (hf 13 (by decide)),e2.out];rfl
def kgL(xs:List Int)(bl:Bool):List Int:=idxs (·==6*sdI bl) xs xs.length
def kgI(xs:List Int)(bl:Bool):Int:=if(kgL xs bl).length=1 then(kgL xs bl)[0]?.getD 0 else -1
theorem gD(f r:Int)(bl:Bool)(p:Option Addr)(c:Nat)(xs:List Int)(w:World)(hx:Arr .i8 w p xs)(hl:xs.length≤64):
  Clz 37 #[.agg (ar f r p xs.length c).toArray,.bool bl] w fun e w'=>e=.returned (.int .i64 (kgI xs bl))∧Below w.heap.size w w':=by
 have hB:=ae w (.cells (ar f r p xs.length c).toArray 68);have hA:=ac.new w (.cells (ar f r p xs.length c).toArray 68);have hls:=fun W h=>pU f r (6*sdI bl) p c xs W h hl
 have e1:idxs (fun z=>z==6*sdI bl) xs xs.length=kgL xs bl:=rfl;rw[e1]at hls;have hkl:(kgL xs bl).length≤64:=Nat.le_trans (ff _ _ _) hl;obtain⟨V,hV⟩:∃ V,V=kgI xs bl:=⟨_,rfl⟩;have hVV:V=if(kgL xs bl).length=1 then(kgL xs bl)[0]?.getD 0 else -1:=hV
 rw[←hV];generalize kgL xs bl=L at hls hkl hVV;clear hV e1;have hwm:IntKind.i64.wrap (6*sdI bl)=6*sdI bl:=IntWalk.i64_in _ (by unfold sdI;cases bl<;>simp);have hcv:∀ W,(convert 3 38 (.int .i64 (6*sdI bl))).run Tryz.prog W=.ok (.int .i8 (6*sdI bl)) W:=by intro W;cases bl<;>kernel_rfl
 go_enter Tryz.func37,Tryz.ntmps37;go_wp2_with fail;show Code.wp _ _ _ _ (w.alloc (.cells (ar f r p xs.length c).toArray 68));obtain⟨w1,hw1⟩:∃ x,x=w.alloc (.cells (ar f r p xs.length c).toArray 68):=⟨_,rfl⟩;have hx1:=hx.call hB;rw[←hw1]at hA hB hx1 ⊢;clear hw1 hx;refine bc (by kernel_rfl) (by kernel_rfl) [some 6,some 7,some 8,some 9,some 10,some 11,some 5] (by rfl) (by rfl) w1.heap.size (fun i8=>match i8 with|0=>.agg (ar f r p xs.length c).toArray|1=>.bool bl|2=>.int .i64 (sdI bl)|3=>.int .i64 (6*sdI bl)|4=>.int .i8 (6*sdI bl)|_=>undef) (fun i8=>match i8 with|5=>some (L)|6=>some (L)|_=>none) ?hstep ?hend
 case hstep =>
  intro i9 o9 f9 W ho hi hC hf K hK;have hi:i9<7:=hi;rcases i9 with _|_|_|_|_|_|_|i9
  ·exact ay (og ho) 68 (.tmp 2) (oo ho) (ah rfl rfl) (ar f r p xs.length c) (by kernel_rfl) (fun j v hv=>by rw[Nat.zero_add,(hA.call hC).cells j];simpa using hv) (kk hK)
  ·exact al (og ho) (.tmp 1) (oo ho) (ah rfl rfl) (kk hK)
  ·exact aQ (og ho) 99 (.tmp 7) #[4] (oo ho) (ri 1 (da ho hf 1)) (fun _ _=>rfl) (mh bl W) (by rintro u w9 ⟨h9,h10⟩;injection h9 with h9;subst h9;subst h10;exact hK _ _ (Below.refl _ _) rfl) (by rintro ch w9 h9;revert h9;rintro⟨h9,_⟩;first|(cases h9;done)|(obtain⟨_,h9,_⟩:=h9;cases h9)) (by rintro w9 h9;revert h9;rintro⟨h9,_⟩;first|(cases h9;done)|(obtain⟨_,h9,_⟩:=h9;cases h9))
  ·exact aK (og ho) .mul 3 3 (.const (.int .i64 6)) (.tmp 8) (oo ho) rfl (ri 2 (da ho hf 2)) (bM _ _ _ _ _ _ _ _) (vh hwm) (kk hK)
  ·exact rD (og ho) 3 38 (.tmp 9) (oo ho) (ri 3 (da ho hf 3)) (hcv W) (kk hK)
  ·exact aH (og ho) 98 (.tmp 6) (.tmp 10) #[68,38] (oo ho) (ri 0 (da ho hf 0)) (ri 4 (da ho hf 4)) (fun _ _=>rfl) (hls W (hx1.call hC)) (by rintro u w9 ⟨⟨v9,h9,hown9⟩,hb9⟩;injection h9 with h9;subst h9;exact hK _ _ hb9 (bC hown9 hC.size)) (by rintro ch w9 h9;revert h9;rintro⟨h9,_⟩;first|(cases h9;done)|(obtain⟨_,h9,_⟩:=h9;cases h9)) (by rintro w9 h9;revert h9;rintro⟨h9,_⟩;first|(cases h9;done)|(obtain⟨_,h9,_⟩:=h9;cases h9))
  ·exact aE (og ho) (.tmp 11) (oo ho) (ri 5 rfl) (hK _ _ (Below.refl _ _) (da ho hf 5))
  ·omega
 case hend =>
  intro f9 W hC hf;have hown:=hf 6 (by decide);replace hown:W.ownsRow w1.heap.size 3 1 (f9 6) L.length (L.map (.int .i64)):=hown;obtain⟨p1,c1,q1,_,hArr⟩:=dO hown;have hBW:=zbc hB hC;clear hf hown hA hls;simp only[ao,Act.put,List.setIfInBounds_toArray,List.set_cons_succ,List.set_cons_zero];rw[q1];by_cases h1:L.length=1
  ·obtain⟨g,o,rfl,hgl,hcc⟩:=hArr.at (i:=0) (by omega);have hc:=hcc 0 (by omega);have e0:Hid (V=L[0]?.getD 0):=zhd (by rw[hVV,if_pos h1]);have c2:((L.length:Int) != 1)=false:=by simp[h1]
   have c3:(0:Int)<(L.length:Int):=by omega
   rw[Nat.add_zero]at hc;generalize L[0]?.getD 0=y at hc e0;replace h1:=zhd h1;replace hVV:=zhd hVV;clear hcc;go_wp2_with fail;go_ret;exact⟨by rw[e0.out];rfl,hBW⟩
  ·have e0:Hid (V=-1):=zhd (by rw[hVV,if_neg h1]);have c2:((L.length:Int) != 1)=true:=by simp;omega
   replace h1:=zhd h1;replace hVV:=zhd hVV;go_wp2_with fail;go_ret;exact⟨by rw[e0.out];rfl,hBW⟩
theorem xH(W:World)(g o N cap k:Nat)(hk:k<N):(Instr.indexAt 136 (.slice (some ⟨g,o,none⟩) N cap) (.int .i64 k)).run Tryz.prog W=.ok (.pointer (some ⟨g,o+k,none⟩)) W:=by simp[Instr.indexAt,go_sem,run_underlying Tryz.underlying136,hk]
def cZ(F R:Nat)(xs:List Int)(oc at_:Nat)(own:List Int):Nat→List Int
 | 0=>[]
 | k+1=>if attB F R xs (own[k]?.getD 0).toNat at_ oc then cZ F R xs oc at_ own k++[own[k]?.getD 0]else cZ F R xs oc at_ own k
theorem uR(F R:Nat)(xs:List Int)(oc at_:Nat)(own:List Int)(k:Nat):(cZ F R xs oc at_ own k).length≤k:=by
 induction k with
 | zero=>simp[cZ]
 | succ k ih =>
  simp only[cZ];split
  ·simp;omega
  ·omega
def sideL_(xs:List Int)(bl:Bool):List Int:=idxs (fun z=>sgnI z==sdI bl) xs xs.length
def attrL(F R:Nat)(xs:List Int)(at_:Nat)(bl:Bool):List Int:=cZ F R xs (setW gNon xs xs.length) at_ (sideL_ xs bl) (sideL_ xs bl).length
theorem fM(F R:Nat)(p:Option Addr)(c:Nat)(xs:List Int)(at_:Nat)(bl:Bool)(hF:3≤F∧F≤8)(hR:3≤R∧R≤8)(hlen:xs.length=F*R)(ha:at_<F*R)(hok:∀ x∈xs,pOk x=true)(w:World)(hx:Arr .i8 w p xs):
  Clz 100 #[.agg (ar F R p xs.length c).toArray,.int .i64 at_,.bool bl] w fun e w'=>(∃ v,e=.returned v∧w'.ownsRow w.heap.size 3 1 v (attrL F R xs at_ bl).length ((attrL F R xs at_ bl).map (.int .i64)))∧Below w.heap.size w w':=by
 obtain⟨i3,hi3,hz3,hs3,hy3⟩:=info_parts Tryz.info3;have hB:=ae w (.cells (ar F R p xs.length c).toArray 68);have hA:=ac.new w (.cells (ar F R p xs.length c).toArray 68);have hl64:xs.length≤64:=by rw[hlen];exact Nat.mul_le_mul hF.2 hR.2
 have hat2:=fun a W h hx=>lJ F R p c xs a at_ (setW gNon xs xs.length) hF hR hlen h ha hok W hx
 have hsd:=fun W h=>fL F R (sdI bl) p c xs W h hl64
 have hocc:=fun W h=>ey F R p c xs W h hl64
 have e1:idxs (fun z=>sgnI z==sdI bl) xs xs.length=sideL_ xs bl:=rfl;rw[e1]at hsd;have hsq:∀ x∈sideL_ xs bl,0≤x∧x<F*R:=by intro x hx;rw[←e1,idxs_mem]at hx;obtain⟨j,hj,_,rfl⟩:=hx;rw[←Int.natCast_mul,←hlen];omega
 have hsl:(sideL_ xs bl).length≤64:=Nat.le_trans (ff _ _ _) hl64;have hL:attrL F R xs at_ bl=cZ F R xs (setW gNon xs xs.length) at_ (sideL_ xs bl) (sideL_ xs bl).length:=rfl;rw[hL];generalize sideL_ xs bl=O at *;generalize setW gNon xs xs.length=oc at *;clear e1 hL;replace hlen:=zhd hlen;go_enter Tryz.func100,Tryz.ntmps100;go_wp2_with fail;show Code.wp _ _ _ _ (w.alloc (.cells (ar F R p xs.length c).toArray 68));obtain⟨w1,hw1⟩:∃ x,x=w.alloc (.cells (ar F R p xs.length c).toArray 68):=⟨_,rfl⟩;have hx1:=hx.call hB;rw[←hw1]at hA hB hx1 ⊢;clear hw1 hx;refine bc (by kernel_rfl) (by kernel_rfl) [some 11,some 12,some 13,some 14,some 15,some 16,some 8,some 9] (by rfl) (by rfl) w1.heap.size (fun i8=>match i8 with|0=>.agg (ar F R p xs.length c).toArray|1=>.bool bl|2=>.int .i64 (sdI bl)|4=>.agg (ar F R p xs.length c).toArray|5=>.int .u64 (oc:Nat)|7=>.int .u64 (oc:Nat)|_=>undef) (fun i8=>match i8 with|3=>some (O)|6=>some (O)|_=>none) ?hstep ?hend
 case hstep =>
  intro i9 o9 f9 W ho hi hC hf K hK;have hi:i9<8:=hi;rcases i9 with _|_|_|_|_|_|_|_|i9
  ·exact ay (og ho) 68 (.tmp 3) (oo ho) (ah rfl rfl) (ar F R p xs.length c) (by kernel_rfl) (fun j v hv=>by rw[Nat.zero_add,(hA.call hC).cells j];simpa using hv) (kk hK)
  ·exact al (og ho) (.tmp 2) (oo ho) (ah rfl rfl) (kk hK)
  ·exact aQ (og ho) 99 (.tmp 12) #[4] (oo ho) (ri 1 (da ho hf 1)) (fun _ _=>rfl) (mh bl W) (by rintro u w9 ⟨h9,h10⟩;injection h9 with h9;subst h9;subst h10;exact hK _ _ (Below.refl _ _) rfl) (by rintro ch w9 h9;revert h9;rintro⟨h9,_⟩;first|(cases h9;done)|(obtain⟨_,h9,_⟩:=h9;cases h9)) (by rintro w9 h9;revert h9;rintro⟨h9,_⟩;first|(cases h9;done)|(obtain⟨_,h9,_⟩:=h9;cases h9))
  ·exact aH (og ho) 158 (.tmp 11) (.tmp 13) #[68,3] (oo ho) (ri 0 (da ho hf 0)) (ri 2 (da ho hf 2)) (fun _ _=>rfl) (hsd W (hx1.call hC)) (by rintro u w9 ⟨⟨v9,h9,hown9⟩,hb9⟩;injection h9 with h9;subst h9;exact hK _ _ hb9 (bC hown9 hC.size)) (by rintro ch w9 h9;revert h9;rintro⟨h9,_⟩;first|(cases h9;done)|(obtain⟨_,h9,_⟩:=h9;cases h9)) (by rintro w9 h9;revert h9;rintro⟨h9,_⟩;first|(cases h9;done)|(obtain⟨_,h9,_⟩:=h9;cases h9))
  ·exact ay (og ho) 68 (.tmp 3) (oo ho) (ah rfl rfl) (ar F R p xs.length c) (by kernel_rfl) (fun j v hv=>by rw[Nat.zero_add,(hA.call hC).cells j];simpa using hv) (kk hK)
  ·exact aQ (og ho) 159 (.tmp 15) #[68] (oo ho) (ri 4 (da ho hf 4)) (fun _ _=>rfl) (hocc W (hx1.call hC)) (by rintro u w9 ⟨h9,hb9⟩;injection h9 with h9;subst h9;exact hK _ _ hb9 rfl) (by rintro ch w9 h9;revert h9;rintro⟨h9,_⟩;first|(cases h9;done)|(obtain⟨_,h9,_⟩:=h9;cases h9)) (by rintro w9 h9;revert h9;rintro⟨h9,_⟩;first|(cases h9;done)|(obtain⟨_,h9,_⟩:=h9;cases h9))
  ·exact aE (og ho) (.tmp 14) (oo ho) (ri 3 rfl) (hK _ _ (Below.refl _ _) (da ho hf 3))
  ·exact aE (og ho) (.tmp 16) (oo ho) (ri 5 (da ho hf 5)) (kk hK)
  ·omega
 case hend =>
  intro f9 W hC hf;have hown:=hf 6 (by decide);replace hown:W.ownsRow w1.heap.size 3 1 (f9 6) O.length (O.map (.int .i64)):=hown;have hv7:f9 7=.int .u64 (oc:Nat):=hf 7 (by decide);obtain⟨pO,cO,qO,_,hArr⟩:=dO hown;have hBW:=zbc hB hC;have hAW:=hA.call hC;have hxW:=hx1.call hC;clear hf hown hA hx1 hsd hocc hB;simp only[ao,Act.put,List.setIfInBounds_toArray,List.set_cons_succ,List.set_cons_zero];rw[qO,hv7];clear qO hv7;generalize f9 0=u0,f9 1=u1,f9 2=u2,f9 3=u3,f9 4=u4,f9 5=u5;go_wp2_with fail;go_loopg [7,10] 65 (fun q lv iv wr=>∃ i:Nat,q+i=65∧i≤O.length∧iv=.int .i64 i∧wr.ownsRow W.heap.size 3 1 lv (cZ F R xs oc at_ O i).length ((cZ F R xs oc at_ O i).map (.int .i64))∧Below W.heap.size W wr)
  case atStart=>exact⟨0,rfl,Nat.zero_le _,rfl,World.ownsRow_nil _ _ _ _,Below.refl _ _⟩
  case round =>
   obtain⟨i,hq,hi,rfl,hown,hbr⟩:=hrel;have hBr:=zbc hBW hbr;by_cases hlt:i<O.length
   ·have hii:(i:Int)<O.length:=by omega
    obtain⟨g,o,rfl,hgl,hcc⟩:=(hArr.call hbr).at hlt;have hci:=hcc i hlt;have hy:O[i]?.getD 0=O[i]:=by simp[hlt]
    have hyq:=hsq _ (List.getElem_mem hlt);rw[←hy]at hyq;obtain⟨y,hyn⟩:∃ y:Nat,O[i]?.getD 0=y:=⟨(O[i]?.getD 0).toNat,by omega⟩;have hnx:cZ F R xs oc at_ O (i+1)=if attB F R xs (O[i]?.getD 0).toNat at_ oc then cZ F R xs oc at_ O i++[O[i]?.getD 0]else cZ F R xs oc at_ O i:=rfl
    rw[hyn,Int.toNat_natCast]at hnx;rw[hyn]at hci hyq;have hyFR:y<F*R:=by have:=hyq.2;rw[←Int.natCast_mul]at this;omega
    have hal:=uR F R xs oc at_ O i;have hAr:=hAW.call hbr;have hxr:=hxW.call hbr;have hat3:=fun W hx=>hat2 y W hyFR hx
    clear hcc hy;replace hyn:=zhd hyn;generalize attB F R xs y at_ oc=hit at hat3 hnx;go_wp2_with fail;refine bc (by kernel_rfl) (by kernel_rfl) [some 23,some 24,some 25,some 26,some 27,some 28,some 29,some 30] (by rfl) (by rfl) wr.heap.size (fun i8=>match i8 with|0=>.agg (ar F R p xs.length c).toArray|1=>.slice (some ⟨g,o,none⟩) O.length cO|2=>.int .i64 ((i:Nat):Int)|3=>.pointer (some ⟨g,o+i,none⟩)|4=>.int .i64 ((y:Nat):Int)|5=>.int .i64 ((at_:Nat):Int)|6=>.int .u64 (oc:Nat)|7=>.bool hit|_=>undef) (fun _=>none) ?hstep ?hend
    case hstep =>
     intro i9 o9 f9 W2 ho hi hC hf K hK;have hi:i9<8:=hi;rcases i9 with _|_|_|_|_|_|_|_|i9
     ·exact ay (og ho) 68 (.tmp 3) (oo ho) (ah rfl rfl) (ar F R p xs.length c) (by kernel_rfl) (fun j v hv=>by rw[Nat.zero_add,(hAr.call hC).cells j];simpa using hv) (kk hK)
     ·exact al (og ho) (.tmp 8) (oo ho) (ah rfl rfl) (kk hK)
     ·exact al (og ho) (.tmp 10) (oo ho) (ah rfl rfl) (kk hK)
     ·exact aT (og ho) 136 (.tmp 24) (.tmp 25) (oo ho) (ri 1 (da ho hf 1)) (ri 2 (da ho hf 2)) (xH W2 g o O.length cO i hlt) (kk hK)
     ·exact ap (og ho) 3 (.tmp 26) (oo ho) (ri 3 (da ho hf 3)) (by kernel_rfl) ((hC.cell (p:=⟨g,o+i,none⟩) hgl).trans hci) (kk hK)
     ·exact al (og ho) (.tmp 1) (oo ho) (ah rfl rfl) (kk hK)
     ·exact al (og ho) (.tmp 9) (oo ho) (ah rfl rfl) (kk hK)
     ·exact eX (og ho) 160 (.tmp 23) (.tmp 27) (.tmp 28) (.tmp 29) #[68,3,3,64] (oo ho) (ri 0 (da ho hf 0)) (ri 4 (da ho hf 4)) (ri 5 (da ho hf 5)) (ri 6 (da ho hf 6)) (fun _ _=>rfl) (hat3 W2 (hxr.call hC)) (by rintro u w9 ⟨h9,hb9⟩;injection h9 with h9;subst h9;exact hK _ _ hb9 rfl) (fun _ _ h=>nomatch h.1) (fun _ h=>nomatch h.1)
     ·omega
    case hend =>
     intro f9 W2 hC2 hf;have hv7:f9 7=.bool hit:=hf 7 (by decide);have hb2:=zbc hbr hC2;have hown2:=aA hown hC2;have hBW2:=zbc hBr hC2;have hci2:=(hC2.cell (p:=⟨g,o+i,none⟩) hgl).trans hci;have hgl2:g<W2.heap.size:=Nat.lt_of_lt_of_le hgl hC2.size;clear hf hown hAr hxr hat3;simp only[ao,Act.put,List.setIfInBounds_toArray,List.set_cons_succ,List.set_cons_zero];rw[hv7];generalize f9 0=v0,f9 1=v1,f9 2=v2,f9 3=v3,f9 4=v4,f9 5=v5,f9 6=v6;rcases hit with _|_
     ·replace hnx:=zhd (hnx.trans (if_neg (by simp)));go_wp2_with fail;go_roundg (gk-1)
      case measure=>omega
      case rel=>exact⟨i+1,by omega,by omega,by go_num,by rw[hnx.out];exact hown2,hb2⟩
     ·replace hnx:=zhd (hnx.trans (if_pos rfl));go_wp2_with (at_builtin;refine bD rfl (.tmp 31) (.tmp 36) 136 rfl W.heap.size 3 i3 (.int .i64 0) 8 Tryz.underlying136 hi3 hz3 hs3 hy3 rfl _ (cZ F R xs oc at_ O i).length ((cZ F R xs oc at_ O i).map (.int .i64)) rfl hown2 1 [.int .i64 (y:Int)] rfl (by intro u hu;simp at hu;subst hu;rfl) _ rfl rfl (by omega) hb2.size ?_);intro v' w9 hown9 hg9 _;have hb9:=(hb2.alloc hb2.size (.cells #[.int .i64 (y:Int)] 3)).grown hg9 (Nat.le_trans hb2.size (by simp)) (fun j e=>(hown2.lt j e).1);replace hown9:w9.ownsRow W.heap.size 3 1 v' (cZ F R xs oc at_ O (i+1)).length ((cZ F R xs oc at_ O (i+1)).map (.int .i64)):=by rw[hnx.out];simpa using hown9
      clear hown2 hg9;go_wp2_with fail;go_roundg (gk-1)
      case measure=>omega
      case rel=>exact⟨i+1,by omega,by omega,by go_num,hown9,hb9⟩
   ·have hii:¬(i:Int)<O.length:=by omega
    obtain rfl:i=O.length:=by omega
    go_wp2_with fail;go_ret;exact⟨⟨_,rfl,bC hown hBW.size⟩,hBr⟩
end Go.Proofs.YtefmplccbkmalaaGreatDoor
