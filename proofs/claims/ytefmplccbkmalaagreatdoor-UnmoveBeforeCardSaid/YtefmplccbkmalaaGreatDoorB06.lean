import Derived.Test.YtefmplccbkmalaaGreatDoorB04
import Derived.Test.YtefmplccbkmalaaGreatDoorB05
set_option maxRecDepth 100000
set_option maxHeartbeats 12800000
namespace Go.Proofs.YtefmplccbkmalaaGreatDoor
open Go.RowKit

section ops
variable {P:Program} {o:Oper} {a:Act} {w:World} {K:Act→World→Prop} {Q:Exit→Act→World→Prop} {t:Nat→Option Bool} {X:Prop}
theorem de(hg:o.guard=none)(ty:TypeId)(x:Operand)(lo hi mx:Option Operand)(ho:o.op=.slice ty x lo hi mx){v u:Value}{l h m:Option Value}(hx:a.eval x=v)(h1:lo.map a.eval=l)(h2:hi.map a.eval=h)(h3:mx.map a.eval=m)(hr:(Instr.sliceAt ty v l h m).run P w=.ok u w)(hk:K (a.put o.dst u) w):if Region.wanted o t=true then o.wp P a w K Q else X:=by refine bm hg ?_;unfold Oper.wp execOp;simp only[ho,hx,h1,h2,h3,Sem.run_bind,hr,Result.andThen_ok,Sem.run_pure];exact hk
end ops
theorem vC{x y:Int}{d:Bool}{W:World}(h:decide (y<x)=d):(binOp .gtr 3 (.int .i64 x) (.int .i64 y)).run Tryz.prog W=.ok (.bool d) W:=by rw[rc,h]
def chkB(F R:Nat)(xs:List Int)(k:Nat)(bl:Bool):Bool:=decide ((0:Int)<((attrL F R xs k (!bl)).length:Nat))
theorem fP(F R:Nat)(p:Option Addr)(c:Nat)(xs:List Int)(k:Nat)(bl:Bool)(hF:3≤F∧F≤8)(hR:3≤R∧R≤8)(hlen:xs.length=F*R)(hk:kgI xs bl=k)(hkl:k<F*R)(hok:∀ x∈xs,pOk x=true)(w:World)(hx:Arr .i8 w p xs):
  Clz 38 #[.agg (ar F R p xs.length c).toArray,.bool bl] w fun e w'=>e=.returned (.bool (chkB F R xs k bl))∧Below w.heap.size w w':=by
 have hB:=ae w (.cells (ar F R p xs.length c).toArray 68);have hA:=ac.new w (.cells (ar F R p xs.length c).toArray 68);have hl64:xs.length≤64:=by rw[hlen];exact Nat.mul_le_mul hF.2 hR.2
 have hkg:=fun W h=>gD F R bl p c xs W h hl64
 rw[hk]at hkg;have hat:=fun W h=>fM F R p c xs k (!bl) hF hR hlen hkl hok W h
 obtain⟨V,hV⟩:∃ V,V=chkB F R xs k bl:=⟨_,rfl⟩;have hVV:V=decide ((0:Int)<((attrL F R xs k (!bl)).length:Nat)):=hV;rw[←hV];generalize attrL F R xs k (!bl)=L at hat hVV;clear hV;replace hlen:=zhd hlen;go_enter Tryz.func38,Tryz.ntmps38;go_wp2_with fail;show Code.wp _ _ _ _ (w.alloc (.cells (ar F R p xs.length c).toArray 68));obtain⟨w1,hw1⟩:∃ x,x=w.alloc (.cells (ar F R p xs.length c).toArray 68):=⟨_,rfl⟩;have hx1:=hx.call hB;rw[←hw1]at hA hB hx1 ⊢;clear hw1 hx;refine bc (by kernel_rfl) (by kernel_rfl) [some 5,some 6,some 7,some 8,some 9,some 10,some 11,some 12,some 13,some 4] (by rfl) (by rfl) w1.heap.size (fun i8=>match i8 with|0=>.agg (ar F R p xs.length c).toArray|1=>.agg (ar F R p xs.length c).toArray|2=>.bool bl|3=>.int .i64 ((k:Nat):Int)|4=>.bool bl|5=>.bool (!bl)|7=>.int .i64 ((L.length:Nat):Int)|8=>.bool V|9=>.bool V|_=>undef) (fun i8=>match i8 with|6=>some (L)|_=>none) ?hstep ?hend
 case hstep =>
  intro i9 o9 f9 W ho hi hC hf K hK;have hi:i9<10:=hi;rcases i9 with _|_|_|_|_|_|_|_|_|_|i9
  iterate 2 exact ay (og ho) 68 (.tmp 2) (oo ho) (ah rfl rfl) (ar F R p xs.length c) (by kernel_rfl) (fun j v hv=>by rw[Nat.zero_add,(hA.call hC).cells j];simpa using hv) (kk hK)
  ·exact al (og ho) (.tmp 1) (oo ho) (ah rfl rfl) (kk hK)
  ·exact aH (og ho) 37 (.tmp 6) (.tmp 7) #[68,4] (oo ho) (ri 1 (da ho hf 1)) (ri 2 (da ho hf 2)) (fun _ _=>rfl) (hkg W (hx1.call hC)) (by rintro u w9 ⟨h9,hb9⟩;injection h9 with h9;subst h9;exact hK _ _ hb9 rfl) (by rintro ch w9 h9;revert h9;rintro⟨h9,_⟩;first|(cases h9;done)|(obtain⟨_,h9,_⟩:=h9;cases h9)) (by rintro w9 h9;revert h9;rintro⟨h9,_⟩;first|(cases h9;done)|(obtain⟨_,h9,_⟩:=h9;cases h9))
  ·exact al (og ho) (.tmp 1) (oo ho) (ah rfl rfl) (kk hK)
  ·exact js (og ho) .not 4 (.tmp 9) (oo ho) (ri 4 (da ho hf 4)) (rj _ _) (kk hK)
  ·exact ee (og ho) 100 (.tmp 5) (.tmp 8) (.tmp 10) #[68,3,4] (oo ho) (ri 0 (da ho hf 0)) (ri 3 (da ho hf 3)) (ri 5 (da ho hf 5)) (fun _ _=>rfl) (hat W (hx1.call hC)) (by rintro u w9 ⟨⟨v9,h9,hown9⟩,hb9⟩;injection h9 with h9;subst h9;exact hK _ _ hb9 (bC hown9 hC.size)) (by rintro ch w9 h9;revert h9;rintro⟨h9,_⟩;first|(cases h9;done)|(obtain⟨_,h9,_⟩:=h9;cases h9)) (by rintro w9 h9;revert h9;rintro⟨h9,_⟩;first|(cases h9;done)|(obtain⟨_,h9,_⟩:=h9;cases h9))
  ·obtain⟨p1,c1,q1,_,_⟩:=dO (show W.ownsRow w1.heap.size 3 1 (f9 6) L.length (L.map (.int .i64))from(da ho hf 6));exact lg (og ho) (.tmp 11) 136 (oo ho) Tryz.underlying136 (ri 6 q1) (kk hK)
  ·exact aK (og ho) .gtr 3 3 (.tmp 12) (.const (.int .i64 0)) (oo ho) (ri 7 (da ho hf 7)) rfl (bM _ _ _ _ _ _ _ _) (vC hVV.symm) (kk hK)
  ·exact aE (og ho) (.tmp 13) (oo ho) (ri 8 (da ho hf 8)) (kk hK)
  ·omega
 case hend=>intro f9 W hC hf;go_wp2_with fail;refine bodyPost_ret (results_tmp (fn:=Tryz.f38) Tryz.results38 _ _ _) (by rw[ce]) ?_;refine⟨?_,zbc hB hC⟩;rw[ck rfl 9 rfl (by simp) (hf 9 (by decide))];rfl
def nmL(k:Nat):List UInt8:=[UInt8.ofNat (97+k%8),UInt8.ofNat (49+k/8)]
theorem uK(f:Nat)(hf:f<8)(W:World):(Instr.sliceAt 9 (.string {data:=#[97,98,99,100,101,102,103,104]}) (some (.int .i64 f)) (some (.int .i64 ((f:Int)+1))) none).run Tryz.prog W=.ok (.string (str [UInt8.ofNat (97+f)])) W:=by rcases(by omega:f=0∨f=1∨f=2∨f=3∨f=4∨f=5∨f=6∨f=7)with rfl|rfl|rfl|rfl|rfl|rfl|rfl|rfl<;>kernel_rfl
theorem vH(f:Nat)(hf:f<8)(W:World):(Instr.sliceAt 9 (.string {data:=#[49,50,51,52,53,54,55,56]}) (some (.int .i64 f)) (some (.int .i64 ((f:Int)+1))) none).run Tryz.prog W=.ok (.string (str [UInt8.ofNat (49+f)])) W:=by rcases(by omega:f=0∨f=1∨f=2∨f=3∨f=4∨f=5∨f=6∨f=7)with rfl|rfl|rfl|rfl|rfl|rfl|rfl|rfl<;>kernel_rfl
theorem wI(x y:UInt8)(W:World):(binOp .add 9 (.string (str [x])) (.string (str [y]))).run Tryz.prog W=.ok (.string (str [x,y])) W:=by kernel_rfl
theorem ny(b:BinOp)(t:TypeId)(x y:Operand)(u v:ByteArray)(W:World):(eqGuard b t x y (.string u) (.string v)).run Tryz.prog W=.ok () W:=by unfold eqGuard;cases b<;>simp[go_sem]
theorem qd(k:Nat)(hk:k<64)(w:World):
  Clz 179 #[.agg #[.int .i64 8,.int .i64 8],.int .i64 k] w fun e w'=>e=.returned (.string (str (nmL k)))∧Below w.heap.size w w':=by
 have hA:=ac.new w (.cells [.int .i64 8,.int .i64 8].toArray 23);have hB:=ae w (.cells [.int .i64 8,.int .i64 8].toArray 23);have hpl:=fun W=>aO 8 8 k (by decide) (by omega) W
 obtain⟨f0,hf0⟩:∃ x,x=k%8:=⟨_,rfl⟩;obtain⟨r0,hr0⟩:∃ x,x=k/8:=⟨_,rfl⟩;have hnm:nmL k=[UInt8.ofNat (97+f0),UInt8.ofNat (49+r0)]:=by rw[hf0,hr0];rfl
 rw[hnm];rw[←hf0,←hr0]at hpl;have hf8:f0<8:=by omega
 have hr8:r0<8:=by omega
 have hw1:IntKind.i64.wrap ((f0:Int)+1)=(f0:Int)+1:=IntWalk.i64_in _ (by omega);have hw2:IntKind.i64.wrap ((r0:Int)+1)=(r0:Int)+1:=IntWalk.i64_in _ (by omega);replace hf0:=zhd hf0;replace hr0:=zhd hr0;replace hnm:=zhd hnm;have⟨hc0,hl0⟩:=hA.cl;go_enter Tryz.func179,Tryz.ntmps179;go_wp2_with fail;refine(hpl _).mono ?_;rintro e w2 ⟨rfl,hb2⟩;have hB2:=zbc hB hb2;clear hpl hc0 hl0 hA hB;have hQ:=ac.new w2 (.cells #[.int .i64 (f0:Int),.int .i64 (r0:Int)] 85);have hB3:=zbc hB2 (ae w2 (.cells #[.int .i64 (f0:Int),.int .i64 (r0:Int)] 85));go_wp2_with fail;show Code.wp _ _ _ _ (w2.alloc (.cells #[.int .i64 (f0:Int),.int .i64 (r0:Int)] 85));obtain⟨w3,hw3⟩:∃ x,x=w2.alloc (.cells #[.int .i64 (f0:Int),.int .i64 (r0:Int)] 85):=⟨_,rfl⟩;obtain⟨q1,hq1⟩:∃ x,x=w2.heap.size:=⟨_,rfl⟩;rw[←hw3]at hQ hB3 ⊢;rw[←hq1]at hQ ⊢;clear hw3 hq1;refine bc (by kernel_rfl) (by kernel_rfl) [some 9,some 10,some 11,some 12,some 13,some 14,some 15,some 16,some 17,some 18,some 19,some 20,some 21,some 4] (by rfl) (by rfl) w3.heap.size (fun i8=>match i8 with|0=>.pointer (some ⟨q1,0,none⟩)|1=>.int .i64 (f0:Int)|2=>.pointer (some ⟨q1,0,none⟩)|3=>.int .i64 (f0:Int)|4=>.int .i64 ((f0:Int)+1)|5=>.string (str [UInt8.ofNat (97+f0)])|6=>.pointer (some ⟨q1,1,none⟩)|7=>.int .i64 (r0:Int)|8=>.pointer (some ⟨q1,1,none⟩)|9=>.int .i64 (r0:Int)|10=>.int .i64 ((r0:Int)+1)|11=>.string (str [UInt8.ofNat (49+r0)])|12=>.string (str [UInt8.ofNat (97+f0),UInt8.ofNat (49+r0)])|13=>.string (str [UInt8.ofNat (97+f0),UInt8.ofNat (49+r0)])|_=>undef) (fun _=>none) ?hstep ?hend
 case hstep =>
  intro i9 o9 f9 W ho hi hC hf K hK;have hi:i9<14:=hi;rcases i9 with _|_|_|_|_|_|_|_|_|_|_|_|_|_|i9
  ·exact au (og ho) 85 (.tmp 5) 0 (oo ho) (ah rfl rfl) (n:=0) (by kernel_rfl) (kk hK)
  ·exact ap (og ho) 3 (.tmp 9) (oo ho) (ri 0 (da ho hf 0)) (by kernel_rfl) (((hQ.call hC).cells 0)) (kk hK)
  ·exact au (og ho) 85 (.tmp 5) 0 (oo ho) (ah rfl rfl) (n:=0) (by kernel_rfl) (kk hK)
  ·exact ap (og ho) 3 (.tmp 11) (oo ho) (ri 2 (da ho hf 2)) (by kernel_rfl) (((hQ.call hC).cells 0)) (kk hK)
  ·exact aK (og ho) .add 3 3 (.tmp 12) (.const (.int .i64 1)) (oo ho) (ri 3 (da ho hf 3)) rfl (bM _ _ _ _ _ _ _ _) (oF hw1) (kk hK)
  ·exact de (og ho) 9 (.const (.string {data:=#[97,98,99,100,101,102,103,104]})) (some (.tmp 10)) (some (.tmp 13)) none (oo ho) rfl (congrArg some (ri 1 (da ho hf 1))) (congrArg some (ri 4 (da ho hf 4))) rfl (uK _ hf8 W) (kk hK)
  ·exact au (og ho) 85 (.tmp 5) 1 (oo ho) (ah rfl rfl) (n:=1) (by kernel_rfl) (kk hK)
  ·exact ap (og ho) 3 (.tmp 15) (oo ho) (ri 6 (da ho hf 6)) (by kernel_rfl) (((hQ.call hC).cells 1)) (kk hK)
  ·exact au (og ho) 85 (.tmp 5) 1 (oo ho) (ah rfl rfl) (n:=1) (by kernel_rfl) (kk hK)
  ·exact ap (og ho) 3 (.tmp 17) (oo ho) (ri 8 (da ho hf 8)) (by kernel_rfl) (((hQ.call hC).cells 1)) (kk hK)
  ·exact aK (og ho) .add 3 3 (.tmp 18) (.const (.int .i64 1)) (oo ho) (ri 9 (da ho hf 9)) rfl (bM _ _ _ _ _ _ _ _) (oF hw2) (kk hK)
  ·exact de (og ho) 9 (.const (.string {data:=#[49,50,51,52,53,54,55,56]})) (some (.tmp 16)) (some (.tmp 19)) none (oo ho) rfl (congrArg some (ri 7 (da ho hf 7))) (congrArg some (ri 10 (da ho hf 10))) rfl (vH _ hr8 W) (kk hK)
  ·exact aK (og ho) .add 9 9 (.tmp 14) (.tmp 20) (oo ho) (ri 5 (da ho hf 5)) (ri 11 (da ho hf 11)) (ny _ _ _ _ _ _ _) (wI _ _ _) (kk hK)
  ·exact aE (og ho) (.tmp 21) (oo ho) (ri 12 (da ho hf 12)) (kk hK)
  ·omega
 case hend=>intro f9 W hC hf;go_wp2_with fail;refine bodyPost_ret (results_tmp (fn:=Tryz.f179) Tryz.results179 _ _ _) (by rw[ce]) ?_;refine⟨?_,zbc hB3 hC⟩;rw[ck rfl 13 rfl (by simp) (hf 13 (by decide))];rfl
theorem yg{i k:Nat}(hi:i<64)(hk:k<64)(h:nmL i=nmL k):i=k:=by
 have h1:∀ i,i<64→∀ k,k<64→nmL i=nmL k→i=k:=by decide +kernel
 exact h1 i hi k hk h
theorem aG(k:Nat)(hk:k<64)(w:World):
  Clz 131 #[.agg #[.int .i64 8,.int .i64 8],.string (str (nmL k))] w fun e w'=>e=.returned (.int .i64 k)∧Below w.heap.size w w':=by
 have hA:=ac.new w (.cells #[.int .i64 8,.int .i64 8] 23);have hB:=ae w (.cells #[.int .i64 8,.int .i64 8] 23);go_enter Tryz.func131,Tryz.ntmps131;go_wp2_with fail;show Code.wp _ _ _ _ (w.alloc (.cells #[.int .i64 8,.int .i64 8] 23));obtain⟨w1,hw1⟩:∃ x,x=w.alloc (.cells #[.int .i64 8,.int .i64 8] 23):=⟨_,rfl⟩;rw[←hw1]at hA hB ⊢;clear hw1;go_loopg [5] 65 (fun q iv wr=>∃ i:Nat,q+i=65∧i≤k∧iv=.int .i64 i∧Below w1.heap.size w1 wr)
 case atStart=>exact⟨0,rfl,Nat.zero_le _,rfl,Below.refl _ _⟩
 case round =>
  obtain⟨i,hq,hi,rfl,hbr⟩:=hrel;have hBr:=zbc hB hbr;have hcr:=(hA.call hbr).cells;have hlr:=(hA.call hbr).lt;have hi64:(i:Int)<64:=by omega
  go_wp2_with fail;refine(qd i (by omega) _).mono ?_;rintro e w2 ⟨rfl,hb2⟩;have hb3:=zbc hbr hb2;have hB3:=zbc hBr hb2;clear hbr hcr hlr hBr;by_cases hik:i=k
  ·have c1:((str (nmL i)).toList==(str (nmL k)).toList)=true:=by simp[hik]
   replace hik:=zhd hik;go_wp2_with fail;go_ret;exact⟨by rw[←hik.out];rfl,hB3⟩
  ·have hne:¬nmL i=nmL k:=fun h=>hik (yg (by omega) hk h)
   have c1:((str (nmL i)).toList==(str (nmL k)).toList)=false:=by rw[xA];simp[hne]
   replace hne:=zhd hne;go_wp2_with fail;go_roundg (gk-1)
   case measure=>omega
   case rel=>exact⟨i+1,by omega,by omega,by go_num,hb3⟩
theorem qW(W:World)(g o N cap k:Nat)(hk:k<N):(Instr.indexAt 24 (.slice (some ⟨g,o,none⟩) N cap) (.int .i64 k)).run Tryz.prog W=.ok (.pointer (some ⟨g,o+k,none⟩)) W:=by simp[Instr.indexAt,go_sem,run_underlying Tryz.underlying24,hk]
theorem ef(f r ca pa ha fu:Int)(bl:Bool)(p:Option Addr)(c:Nat)(xs:List Int)(k:Nat)(hk:k<64)(hlen:xs.length=64)(w:World)(hx:Arr .i8 w p xs):
  Clz 161 #[.agg (aa f r p xs.length c bl ca pa ha fu).toArray,.string (str (nmL k))] w fun e w'=>e=.returned (.int .i8 (xs[k]?.getD 0))∧Below w.heap.size w w':=by
 have hB:=ae w (.cells (aa f r p xs.length c bl ca pa ha fu).toArray 26);have hA:=ac.new w (.cells (aa f r p xs.length c bl ca pa ha fu).toArray 26);have hlt:k<xs.length:=by omega
 obtain⟨g,o,rfl,hgl,hcc⟩:=(hx.call hB).at hlt;have hcx:=hcc k hlt;have hpa:=fun W=>aG k hk W
 generalize xs[k]?.getD 0=x at hcx ⊢;generalize nmL k=nm at hpa ⊢;replace hlen:=zhd hlen;clear hcc hx;go_enter Tryz.func161,Tryz.ntmps161;go_wp2_with fail;show Code.wp _ _ _ _ (w.alloc (.cells (aa f r (some ⟨g,o,none⟩) xs.length c bl ca pa ha fu).toArray 26));obtain⟨w1,hw1⟩:∃ x,x=w.alloc (.cells (aa f r (some ⟨g,o,none⟩) xs.length c bl ca pa ha fu).toArray 26):=⟨_,rfl⟩;rw[←hw1]at hA hB hcx hgl ⊢;clear hw1;refine bc (by kernel_rfl) (by kernel_rfl) [some 5,some 6,some 7,some 8,some 9,some 10,some 11,some 4] (by rfl) (by rfl) w1.heap.size (fun i8=>match i8 with|0=>.pointer (some ⟨w.heap.size,2,none⟩)|1=>.slice (some ⟨g,o,none⟩) xs.length c|2=>.agg #[.int .i64 8,.int .i64 8] | 3=>.string (str nm)|4=>.int .i64 ((k:Nat):Int)|5=>.pointer (some ⟨g,o+k,none⟩)|6=>.int .i8 x|7=>.int .i8 x|_=>undef) (fun _=>none) ?hstep ?hend
 case hstep =>
  intro i9 o9 f9 W ho hi hC hf K hK;have hi:i9<8:=hi;rcases i9 with _|_|_|_|_|_|_|_|i9
  ·exact au (og ho) 26 (.tmp 2) 1 (oo ho) (ah rfl rfl) (n:=2) (by kernel_rfl) (kk hK)
  ·exact ap (og ho) 24 (.tmp 5) (oo ho) (ri 0 (da ho hf 0)) (by kernel_rfl) (((hA.call hC).cells 2)) (kk hK)
  ·exact mm (og ho) 23 0 1 (.const (.int .i64 8)) (.const (.int .i64 8)) (oo ho) rfl rfl (by kernel_rfl) (kk hK)
  ·exact al (og ho) (.tmp 1) (oo ho) (ah rfl rfl) (kk hK)
  ·exact aH (og ho) 131 (.tmp 7) (.tmp 8) #[23,9] (oo ho) (ri 2 (da ho hf 2)) (ri 3 (da ho hf 3)) (fun _ _=>rfl) (hpa W) (by rintro u w9 ⟨h9,hb9⟩;injection h9 with h9;subst h9;exact hK _ _ hb9 rfl) (fun _ _ h=>nomatch h.1) (fun _ h=>nomatch h.1)
  ·exact aT (og ho) 24 (.tmp 6) (.tmp 9) (oo ho) (ri 1 (da ho hf 1)) (ri 4 (da ho hf 4)) (qW W g o xs.length c k hlt) (kk hK)
  ·exact ap (og ho) 38 (.tmp 10) (oo ho) (ri 5 (da ho hf 5)) (by kernel_rfl) ((hC.cell (p:=⟨g,o+k,none⟩) hgl).trans hcx) (kk hK)
  ·exact aE (og ho) (.tmp 11) (oo ho) (ri 6 (da ho hf 6)) (kk hK)
  ·omega
 case hend=>intro f9 W hC hf;go_wp2_with fail;refine bodyPost_ret (results_tmp (fn:=Tryz.f161) Tryz.results161 _ _ _) (by rw[ce]) ?_;refine⟨?_,zbc hB hC⟩;rw[ck rfl 7 rfl (by simp) (hf 7 (by decide))];rfl
def homeV(xs:List Int)(bit:Int):Bool :=
 if bit=1 then(xs[4]?.getD 0==6)&&(xs[7]?.getD 0==4)else if bit=2 then(xs[4]?.getD 0==6)&&(xs[0]?.getD 0==4)
 else if bit=4 then(xs[60]?.getD 0==-6)&&(xs[63]?.getD 0==-4)else(xs[60]?.getD 0==-6)&&(xs[56]?.getD 0==-4)
def bB(f r:Int)(xs:List Int)(bit:Int):Bool:=(f==8)&&((r==8)&&homeV xs bit)
theorem pT(f r ca pa ha fu:Int)(bl:Bool)(p:Option Addr)(c:Nat)(xs:List Int)(bit:Int)(hbit:bit=1∨bit=2∨bit=4∨bit=8)(hlen:(xs.length:Int)=f*r)(w:World)(hx:Arr .i8 w p xs):
  Clz 101 #[.agg (aa f r p xs.length c bl ca pa ha fu).toArray,.int .u8 bit] w fun e w'=>e=.returned (.bool (bB f r xs bit))∧Below w.heap.size w w':=by
 have hB:=ae w (.cells (aa f r p xs.length c bl ca pa ha fu).toArray 26);have hA:=ac.new w (.cells (aa f r p xs.length c bl ca pa ha fu).toArray 26);have⟨hc0,hl0⟩:=hA.cl;by_cases h8:f=8
 ·by_cases r8:r=8
  ·subst h8;subst r8;have hl64:xs.length=64:=by omega
   have at4:=fun W h=>ef 8 8 ca pa ha fu bl p c xs 4 (by decide) hl64 W h
   rw[show str (nmL 4)={ data:=#[101,49]} by rfl]at at4;have at7:=fun W h=>ef 8 8 ca pa ha fu bl p c xs 7 (by decide) hl64 W h
   rw[show str (nmL 7)={ data:=#[104,49]} by rfl]at at7;have at0:=fun W h=>ef 8 8 ca pa ha fu bl p c xs 0 (by decide) hl64 W h
   rw[show str (nmL 0)={ data:=#[97,49]} by rfl]at at0;have at60:=fun W h=>ef 8 8 ca pa ha fu bl p c xs 60 (by decide) hl64 W h
   rw[show str (nmL 60)={ data:=#[101,56]} by rfl]at at60;have at63:=fun W h=>ef 8 8 ca pa ha fu bl p c xs 63 (by decide) hl64 W h
   rw[show str (nmL 63)={ data:=#[104,56]} by rfl]at at63;have at56:=fun W h=>ef 8 8 ca pa ha fu bl p c xs 56 (by decide) hl64 W h
   rw[show str (nmL 56)={ data:=#[97,56]} by rfl]at at56;have hv:bB 8 8 xs bit=homeV xs bit:=rfl;rw[hv];have hvv:homeV xs bit=if bit=1 then(xs[4]?.getD 0==6)&&(xs[7]?.getD 0==4)else if bit=2 then(xs[4]?.getD 0==6)&&(xs[0]?.getD 0==4)
    else if bit=4 then(xs[60]?.getD 0==-6)&&(xs[63]?.getD 0==-4)else(xs[60]?.getD 0==-6)&&(xs[56]?.getD 0==-4):=rfl
   generalize homeV xs bit=V at hvv ⊢;clear hlen hv;have hx1:=hx.call hB;generalize xs[4]?.getD 0=y4,xs[7]?.getD 0=y7,xs[0]?.getD 0=y0,xs[60]?.getD 0=y60,xs[63]?.getD 0=y63,xs[56]?.getD 0=y56 at *;replace hl64:=zhd hl64;clear hx;rcases hbit with rfl|rfl|rfl|rfl
   ·have e0:Hid (V=((y4==6)&&(y7==4))):=zhd (by rw[hvv];rfl);clear hvv;go_enter Tryz.func101,Tryz.ntmps101;go_wp2_with fail;refine(at4 _ hx1).mono ?_;rintro e w2 ⟨rfl,hb2⟩;have hB2:=zbc hB hb2;have hc2:=(hA.call hb2).cells;have hl2:=(hA.call hb2).lt;have hx2:=hx1.call hb2;clear hc0 hl0 hB hA hx1;rcases d1:(y4==6)with _|_
    ·rw[d1]at e0;go_wp2_with fail;go_ret;exact⟨by rw[e0.out];rfl,hB2⟩
    ·rw[d1]at e0;go_wp2_with fail;refine(at7 _ hx2).mono ?_;rintro e w3 ⟨rfl,hb3⟩;go_wp2_with fail;go_ret;exact⟨by rw[e0.out];rfl,zbc hB2 hb3⟩
   ·have e0:Hid (V=((y4==6)&&(y0==4))):=zhd (by rw[hvv];rfl);clear hvv;go_enter Tryz.func101,Tryz.ntmps101;go_wp2_with fail;refine(at4 _ hx1).mono ?_;rintro e w2 ⟨rfl,hb2⟩;have hB2:=zbc hB hb2;have hc2:=(hA.call hb2).cells;have hl2:=(hA.call hb2).lt;have hx2:=hx1.call hb2;clear hc0 hl0 hB hA hx1;rcases d1:(y4==6)with _|_
    ·rw[d1]at e0;go_wp2_with fail;go_ret;exact⟨by rw[e0.out];rfl,hB2⟩
    ·rw[d1]at e0;go_wp2_with fail;refine(at0 _ hx2).mono ?_;rintro e w3 ⟨rfl,hb3⟩;go_wp2_with fail;go_ret;exact⟨by rw[e0.out];rfl,zbc hB2 hb3⟩
   ·have e0:Hid (V=((y60==(-6))&&(y63==(-4)))):=zhd (by rw[hvv];rfl);clear hvv;go_enter Tryz.func101,Tryz.ntmps101;go_wp2_with fail;refine(at60 _ hx1).mono ?_;rintro e w2 ⟨rfl,hb2⟩;have hB2:=zbc hB hb2;have hc2:=(hA.call hb2).cells;have hl2:=(hA.call hb2).lt;have hx2:=hx1.call hb2;clear hc0 hl0 hB hA hx1;rcases d1:(y60==(-6))with _|_
    ·rw[d1]at e0;go_wp2_with fail;go_ret;exact⟨by rw[e0.out];rfl,hB2⟩
    ·rw[d1]at e0;go_wp2_with fail;refine(at63 _ hx2).mono ?_;rintro e w3 ⟨rfl,hb3⟩;go_wp2_with fail;go_ret;exact⟨by rw[e0.out];rfl,zbc hB2 hb3⟩
   ·have e0:Hid (V=((y60==(-6))&&(y56==(-4)))):=zhd (by rw[hvv];rfl);clear hvv;go_enter Tryz.func101,Tryz.ntmps101;go_wp2_with fail;refine(at60 _ hx1).mono ?_;rintro e w2 ⟨rfl,hb2⟩;have hB2:=zbc hB hb2;have hc2:=(hA.call hb2).cells;have hl2:=(hA.call hb2).lt;have hx2:=hx1.call hb2;clear hc0 hl0 hB hA hx1;rcases d1:(y60==(-6))with _|_
    ·rw[d1]at e0;go_wp2_with fail;go_ret;exact⟨by rw[e0.out];rfl,hB2⟩
    ·rw[d1]at e0;go_wp2_with fail;refine(at56 _ hx2).mono ?_;rintro e w3 ⟨rfl,hb3⟩;go_wp2_with fail;go_ret;exact⟨by rw[e0.out];rfl,zbc hB2 hb3⟩
  ·have e0:Hid (bB f r xs bit=false):=zhd (by simp[bB,r8]);have d1:(f != 8)=false:=by simp[h8]
   have d2:(r != 8)=true:=by simp[r8]
   replace hlen:=zhd hlen;replace h8:=zhd h8;clear hbit;go_enter Tryz.func101,Tryz.ntmps101;go_wp2_with fail;go_ret;exact⟨by rw[e0.out];rfl,hB⟩
 ·have e0:Hid (bB f r xs bit=false):=zhd (by simp[bB,h8]);have d1:(f != 8)=true:=by simp[h8]
  replace hlen:=zhd hlen;clear hbit;go_enter Tryz.func101,Tryz.ntmps101;go_wp2_with fail;go_ret;exact⟨by rw[e0.out];rfl,hB⟩
def bitI:Nat→Int|0=>1|1=>2|2=>4|_=>8
def bJ(f r:Int)(xs:List Int)(ca:Int):Nat→Bool
 | 0=>true
 | k+1=>bJ f r xs ca k&&(!(ca/bitI k%2==1)||bB f r xs (bitI k))
def cstB(f r:Int)(xs:List Int)(ca:Int):Bool:=!decide (15<ca)&&bJ f r xs ca 4
theorem fc{f r:Int}{xs:List Int}{ca:Int}{k:Nat}(h:bJ f r xs ca k=false):∀ n,bJ f r xs ca (k+n)=false:=by
 intro n;induction n with
 | zero=>exact h
 | succ n ih=>rw[←Nat.add_assoc];simp only[bJ,ih];rfl
theorem nc(f r ca pa ha fu:Int)(bl:Bool)(p:Option Addr)(c:Nat)(xs:List Int)(hca:0≤ca)(hlen:(xs.length:Int)=f*r)(w:World)(hx:Arr .i8 w p xs):
  Clz 42 #[.agg (aa f r p xs.length c bl ca pa ha fu).toArray] w fun e w'=>e=.returned (.bool (cstB f r xs ca))∧Below w.heap.size w w':=by
 have hB:=ae w (.cells (aa f r p xs.length c bl ca pa ha fu).toArray 26);have hA:=ac.new w (.cells (aa f r p xs.length c bl ca pa ha fu).toArray 26);have hho:=fun bit hb W h=>pT f r ca pa ha fu bl p c xs bit hb hlen W h
 replace hlen:=zhd hlen;by_cases h15:15<ca
 ·have e0:Hid (cstB f r xs ca=false):=zhd (by simp[cstB,h15]);go_enter Tryz.func42,Tryz.ntmps42;go_wp2_with fail;go_ret;exact⟨by rw[e0.out];rfl,hB⟩
 ·have e0:Hid (cstB f r xs ca=bJ f r xs ca 4):=zhd (by simp[cstB,h15]);go_enter Tryz.func42,Tryz.ntmps42;go_wp2_with fail;show Code.wp _ _ _ _ ((w.alloc (.cells (aa f r p xs.length c bl ca pa ha fu).toArray 26)).alloc (.cells #[.int .u8 1,.int .u8 2,.int .u8 4,.int .u8 8] 5));have hQ:=ac.new (w.alloc (.cells (aa f r p xs.length c bl ca pa ha fu).toArray 26)) (.cells #[.int .u8 1,.int .u8 2,.int .u8 4,.int .u8 8] 5);have hA1:=hA.alloc (.cells #[.int .u8 1,.int .u8 2,.int .u8 4,.int .u8 8] 5);have hB1:=hB.alloc hB.size (.cells #[.int .u8 1,.int .u8 2,.int .u8 4,.int .u8 8] 5);obtain⟨w1,hw1⟩:∃ x,x=(w.alloc (.cells (aa f r p xs.length c bl ca pa ha fu).toArray 26)).alloc (.cells #[.int .u8 1,.int .u8 2,.int .u8 4,.int .u8 8] 5):=⟨_,rfl⟩;rw[←hw1]at hQ hA1 hB1 ⊢;have hx1:=hx.call hB1;clear hw1 hA hB hx;have hqe:(w.alloc (.cells (aa f r p xs.length c bl ca pa ha fu).toArray 26)).heap.size=w.heap.size+1:=by simp
  rw[hqe]at hQ;clear hqe;go_loopg [10] 5 (fun q iv wr=>∃ i:Nat,q+i=5∧i≤4∧iv=.int .i64 i∧bJ f r xs ca i=true∧Below w1.heap.size w1 wr)
  case atStart=>exact⟨0,rfl,Nat.zero_le _,rfl,rfl,Below.refl _ _⟩
  case round =>
   obtain⟨i,hq,hi,rfl,hok,hbr⟩:=hrel;have hAr:=hA1.call hbr;have hQr:=hQ.call hbr;have⟨hcr,hlr⟩:=hAr.cl;have⟨hdr,hmr⟩:=hQr.cl;have hBr:=zbc hB1 hbr;have hxr:=hx1.call hbr;replace hok:=zhd hok;by_cases hlt:i<4
   ·have hnx:bJ f r xs ca (i+1)=(bJ f r xs ca i&&(!(ca/bitI i%2==1)||bB f r xs (bitI i))):=rfl;rw[hok.out,Bool.true_and]at hnx;replace hnx:=zhd hnx;rcases(by omega:i=0∨i=1∨i=2∨i=3)with rfl|rfl|rfl|rfl
    ·have hc0:=hdr 0;have hh:=hho 1 (by decide) wr hxr;have hbi:bitI 0=1:=rfl;rw[hbi]at hnx;clear hdr hho;rw[Int.ediv_one]at hnx;rcases d1:(ca%2==1)with _|_
     ·have hn1:Hid (bJ f r xs ca (0+1)=true):=zhd (by rw[hnx.out,d1];rfl);go_wp2_with fail;go_roundg (gk-1)
      case measure=>omega
      case rel=>exact⟨0+1,by omega,by omega,by go_num,hn1.out,hbr⟩
     ·go_wp2_with fail;refine hh.mono ?_;rintro e w2 ⟨rfl,hb2⟩;have hb3:=zbc hbr hb2;have hB3:=zbc hBr hb2;clear hcr hlr hmr hc0 hAr hQr hxr hbr hBr;rcases d2:bB f r xs 1 with _|_
      ·have hn1:bJ f r xs ca (0+1)=false:=by rw[hnx.out,d1,d2];rfl
       have hn2:Hid (cstB f r xs ca=false):=zhd (by rw[e0.out];exact fc hn1 3);clear hn1;go_wp2_with fail;go_ret;exact⟨by rw[hn2.out];rfl,hB3⟩
      ·have hn1:Hid (bJ f r xs ca (0+1)=true):=zhd (by rw[hnx.out,d1,d2];rfl);go_wp2_with fail;go_roundg (gk-1)
       case measure=>omega
       case rel=>exact⟨0+1,by omega,by omega,by go_num,hn1.out,hb3⟩
    ·have hc1:=hdr 1;have hh:=hho 2 (by decide) wr hxr;have hbi:bitI 1=2:=rfl;rw[hbi]at hnx;clear hdr hho;skip
     rcases d1:(ca/2%2==1)with _|_
     ·have hn1:Hid (bJ f r xs ca (1+1)=true):=zhd (by rw[hnx.out,d1];rfl);go_wp2_with fail;go_roundg (gk-1)
      case measure=>omega
      case rel=>exact⟨1+1,by omega,by omega,by go_num,hn1.out,hbr⟩
     ·go_wp2_with fail;refine hh.mono ?_;rintro e w2 ⟨rfl,hb2⟩;have hb3:=zbc hbr hb2;have hB3:=zbc hBr hb2;clear hcr hlr hmr hc1 hAr hQr hxr hbr hBr;rcases d2:bB f r xs 2 with _|_
      ·have hn1:bJ f r xs ca (1+1)=false:=by rw[hnx.out,d1,d2];rfl
       have hn2:Hid (cstB f r xs ca=false):=zhd (by rw[e0.out];exact fc hn1 2);clear hn1;go_wp2_with fail;go_ret;exact⟨by rw[hn2.out];rfl,hB3⟩
      ·have hn1:Hid (bJ f r xs ca (1+1)=true):=zhd (by rw[hnx.out,d1,d2];rfl);go_wp2_with fail;go_roundg (gk-1)
       case measure=>omega
       case rel=>exact⟨1+1,by omega,by omega,by go_num,hn1.out,hb3⟩
    ·have hc2:=hdr 2;have hh:=hho 4 (by decide) wr hxr;have hbi:bitI 2=4:=rfl;rw[hbi]at hnx;clear hdr hho;skip
     rcases d1:(ca/4%2==1)with _|_
     ·have hn1:Hid (bJ f r xs ca (2+1)=true):=zhd (by rw[hnx.out,d1];rfl);go_wp2_with fail;go_roundg (gk-1)
      case measure=>omega
      case rel=>exact⟨2+1,by omega,by omega,by go_num,hn1.out,hbr⟩
     ·go_wp2_with fail;refine hh.mono ?_;rintro e w2 ⟨rfl,hb2⟩;have hb3:=zbc hbr hb2;have hB3:=zbc hBr hb2;clear hcr hlr hmr hc2 hAr hQr hxr hbr hBr;rcases d2:bB f r xs 4 with _|_
      ·have hn1:bJ f r xs ca (2+1)=false:=by rw[hnx.out,d1,d2];rfl
       have hn2:Hid (cstB f r xs ca=false):=zhd (by rw[e0.out];exact fc hn1 1);clear hn1;go_wp2_with fail;go_ret;exact⟨by rw[hn2.out];rfl,hB3⟩
      ·have hn1:Hid (bJ f r xs ca (2+1)=true):=zhd (by rw[hnx.out,d1,d2];rfl);go_wp2_with fail;go_roundg (gk-1)
       case measure=>omega
       case rel=>exact⟨2+1,by omega,by omega,by go_num,hn1.out,hb3⟩
    ·have hc3:=hdr 3;have hh:=hho 8 (by decide) wr hxr;have hbi:bitI 3=8:=rfl;rw[hbi]at hnx;clear hdr hho;skip
     rcases d1:(ca/8%2==1)with _|_
     ·have hn1:Hid (bJ f r xs ca (3+1)=true):=zhd (by rw[hnx.out,d1];rfl);go_wp2_with fail;go_roundg (gk-1)
      case measure=>omega
      case rel=>exact⟨3+1,by omega,by omega,by go_num,hn1.out,hbr⟩
     ·go_wp2_with fail;refine hh.mono ?_;rintro e w2 ⟨rfl,hb2⟩;have hb3:=zbc hbr hb2;have hB3:=zbc hBr hb2;clear hcr hlr hmr hc3 hAr hQr hxr hbr hBr;rcases d2:bB f r xs 8 with _|_
      ·have hn1:bJ f r xs ca (3+1)=false:=by rw[hnx.out,d1,d2];rfl
       have hn2:Hid (cstB f r xs ca=false):=zhd (by rw[e0.out];exact fc hn1 0);clear hn1;go_wp2_with fail;go_ret;exact⟨by rw[hn2.out];rfl,hB3⟩
      ·have hn1:Hid (bJ f r xs ca (3+1)=true):=zhd (by rw[hnx.out,d1,d2];rfl);go_wp2_with fail;go_roundg (gk-1)
       case measure=>omega
       case rel=>exact⟨3+1,by omega,by omega,by go_num,hn1.out,hb3⟩
   ·have hn4:¬(i:Int)<4:=by omega
    obtain rfl:i=4:=by omega
    go_wp2_with fail;go_ret;exact⟨by rw[e0.out,hok.out];rfl,hBr⟩
end Go.Proofs.YtefmplccbkmalaaGreatDoor
namespace Go.Proofs.YtefmplccbkmalaaGreatDoor
open Go.RowKit Go.Sort Go.BigFrame

def rankI(r:Int)(b:Bool)(k:Int):Int:=if b then r-k else k-1
theorem mi(f r k:Int)(b:Bool)(hr:0≤r∧r≤1000)(hk:0≤k∧k≤1000)(w:World):Clz 102 #[.agg #[.int .i64 f,.int .i64 r],.bool b,.int .i64 k] w fun e w'=>e=.returned (.int .i64 (rankI r b k))∧Below w.heap.size w w':=pJ f r k b hr hk w
def lastI(r:Int)(b:Bool):Int:=if b then 0 else r-1
theorem mj(f r:Int)(b:Bool)(hr:0≤r∧r≤1000)(w:World):Clz 41 #[.agg #[.int .i64 f,.int .i64 r],.bool b] w fun e w'=>e=.returned (.int .i64 (lastI r b))∧Below w.heap.size w w':=pH f r b hr w
def sqN(F:Nat)(f0:Nat)(k:Int):Nat:=k.toNat*F+f0
def psB(F R:Nat)(xs:List Int)(bl:Bool)(a:Nat):Bool :=
 (2*((a/F:Nat):Int)==rankI R (!bl) 2+rankI R (!bl) 4)&&((xs[a]?.getD 0==0)&&((xs[sqN F (a%F) (rankI R (!bl) 2)]?.getD 0==0)&&(xs[sqN F (a%F) (rankI R (!bl) 4)]?.getD 0==pcI 1 (!bl))))
def passB(F R:Nat)(xs:List Int)(bl:Bool)(pa ha:Int):Bool :=
 (pa==-1)||(!decide ((R:Int)<6)&&((ha==0)&&(sqB F R pa&&psB F R xs bl pa.toNat)))
theorem nR{R:Nat}(hR:6≤R∧R≤8)(b:Bool)(k:Int)(hk:k=2∨k=4):0≤rankI R b k∧rankI R b k<R:=by unfold rankI;cases b<;>rcases hk with rfl|rfl<;>simp<;>omega
theorem fJ{F R f0:Nat}{k:Int}(hf:f0<F)(hk:0≤k∧k<R):numI F R f0 k=(sqN F f0 k:Nat):=by unfold numI sqN;rw[if_neg (by omega)];obtain⟨n,rfl⟩:∃ n:Nat,k=n:=⟨k.toNat,by omega⟩;simp
theorem tc{F R f0:Nat}{k:Int}(hf:f0<F)(hk:0≤k∧k<R):sqN F f0 k<F*R:=by
 unfold sqN;have h1:k.toNat+1≤R:=by omega
 have h2:=Nat.mul_le_mul_right F h1;rw[Nat.add_mul,Nat.one_mul,Nat.mul_comm R F]at h2;omega
theorem lY(F R:Nat)(ca pa ha fu:Int)(bl:Bool)(p:Option Addr)(c:Nat)(xs:List Int)(hF:3≤F∧F≤8)(hR:3≤R∧R≤8)(hlen:xs.length=F*R)(w:World)(hx:Arr .i8 w p xs):
  Clz 43 #[.agg (aa F R p xs.length c bl ca pa ha fu).toArray] w fun e w'=>e=.returned (.bool (passB F R xs bl pa ha))∧Below w.heap.size w w':=by
 have hB:=ae w (.cells (aa F R p xs.length c bl ca pa ha fu).toArray 26);have hA:=ac.new w (.cells (aa F R p xs.length c bl ca pa ha fu).toArray 26);have⟨hc0,hl0⟩:=hA.cl;by_cases h1:pa=-1
 ·have e0:Hid (passB F R xs bl pa ha=true):=zhd (by simp[passB,h1]);have d1:(pa==-1)=true:=by simp[h1]
  replace h1:=zhd h1;replace hlen:=zhd hlen;go_enter Tryz.func43,Tryz.ntmps43;go_wp2_with fail;go_ret;exact⟨by rw[e0.out];rfl,hB⟩
 have d1:(pa==-1)=false:=by simp[h1]
 by_cases h2:(R:Int)<6
 ·have e0:Hid (passB F R xs bl pa ha=false):=zhd (by simp[passB,h1,h2]);replace hlen:=zhd hlen;go_enter Tryz.func43,Tryz.ntmps43;go_wp2_with fail;go_ret;exact⟨by rw[e0.out];rfl,hB⟩
 by_cases h3:ha=0
 rotate_left
 ·have e0:Hid (passB F R xs bl pa ha=false):=zhd (by simp[passB,h1,h3]);have d3:(ha != 0)=true:=by simp[h3]
  replace hlen:=zhd hlen;go_enter Tryz.func43,Tryz.ntmps43;go_wp2_with fail;go_ret;exact⟨by rw[e0.out];rfl,hB⟩
 have d3:(ha != 0)=false:=by simp[h3]
 have hsv:=fun W=>eV F R pa W
 rcases h4:sqB F R pa with _|_
 ·have e0:Hid (passB F R xs bl pa ha=false):=zhd (by simp[passB,h1,h4]);rw[h4]at hsv;replace hlen:=zhd hlen;replace h3:=zhd h3;go_enter Tryz.func43,Tryz.ntmps43;go_wp2_with fail;refine(hsv _).mono ?_;rintro e w2 ⟨rfl,hb2⟩;go_wp2_with fail;go_ret;exact⟨by rw[e0.out];rfl,zbc hB hb2⟩
 obtain⟨a,rfl⟩:∃ a:Nat,pa=a:=⟨pa.toNat,by simp[sqB]at h4;omega⟩;have haF:a<F*R:=by simp[sqB]at h4;have:=h4.2;rw[←Int.natCast_mul]at this;omega
 have hV:passB F R xs bl a ha=psB F R xs bl a:=by have:¬((R:Int)<6):=h2;unfold passB;rw[d1,h4,Int.toNat_natCast,h3];simp[this]
 rw[h4]at hsv;rw[hV];subst h3;obtain⟨ha64,ha0,ha1⟩:=bU hF hR haF;have hR6:6≤R∧R≤8:=by omega
 have hr2:=nR hR6 (!bl) 2 (.inl rfl);have hr4:=nR hR6 (!bl) 4 (.inr rfl);have n2:=fJ ha0 hr2;have n4:=fJ ha0 hr4;have m2:=tc ha0 hr2;have m4:=tc ha0 hr4;rw[←hlen]at m2 m4;have m0:a<xs.length:=by omega
 obtain⟨V,hVV⟩:∃ V,V=psB F R xs bl a:=⟨_,rfl⟩;have hVd:V=((2*((a/F:Nat):Int)==rankI R (!bl) 2+rankI R (!bl) 4)&&((xs[a]?.getD 0==0)&&((xs[sqN F (a%F) (rankI R (!bl) 2)]?.getD 0==0)&&(xs[sqN F (a%F) (rankI R (!bl) 4)]?.getD 0==pcI 1 (!bl))))):=hVV;rw[←hVV];obtain⟨g,o,rfl,hgl,hcc⟩:=(hx.call hB).at m0;have hc1:=hcc _ m0;have hc2:=hcc _ m2;have hc4:=hcc _ m4;have hpl:=fun W=>aO F R a hF (by omega) W
 have hk2:=fun W=>mi F R 2 (!bl) (by omega) (by omega) W
 have hk4:=fun W=>mi F R 4 (!bl) (by omega) (by omega) W
 have hn2:=fun W=>cN F R ((a%F:Nat):Int) (rankI R (!bl) 2) W (by omega) (by omega) (by omega)
 have hn4:=fun W=>cN F R ((a%F:Nat):Int) (rankI R (!bl) 4) W (by omega) (by omega) (by omega)
 have hpc:=fun W=>nU 1 (!bl) (by omega) W
 rw[n2]at hn2;rw[n4]at hn4;clear hVV hV n2 n4 hcc h4 hx;generalize xs[a]?.getD 0=y0,xs[sqN F (a%F) (rankI R (!bl) 2)]?.getD 0=y2,xs[sqN F (a%F) (rankI R (!bl) 4)]?.getD 0=y4 at *;generalize sqN F (a%F) (rankI R (!bl) 2)=s2,sqN F (a%F) (rankI R (!bl) 4)=s4 at *;generalize rankI R (!bl) 2=k2,rankI R (!bl) 4=k4 at *;generalize a%F=f0 at *;have hr0n:(0:Int)≤((a/F:Nat):Int):=Int.natCast_nonneg _;have hr0b:((a/F:Nat):Int)<R:=by omega
 generalize a/F=r0 at *;generalize pcI 1 (!bl)=pc at *;have w1':wrap64 (2*(r0:Int))=2*r0:=IntWalk.wrap64_in _ (by omega);have w2':wrap64 (k2+k4)=k2+k4:=IntWalk.wrap64_in _ (by omega);replace hlen:=zhd hlen;go_enter Tryz.func43,Tryz.ntmps43;go_wp2_with fail;refine(hsv _).mono ?_;rintro e w2 ⟨rfl,hb2⟩;have hA2:=hA.call hb2;have hB2:=zbc hB hb2;have hgl2:g<w2.heap.size:=Nat.lt_of_lt_of_le hgl hb2.size;have q1:=(hb2.cell (p:=⟨g,o+a,none⟩) hgl).trans hc1;have q2:=(hb2.cell (p:=⟨g,o+s2,none⟩) hgl).trans hc2;have q4:=(hb2.cell (p:=⟨g,o+s4,none⟩) hgl).trans hc4;clear hA hB hgl hc1 hc2 hc4 hc0 hl0 hsv;have⟨hcA,hlA⟩:=hA2.cl;go_wp2_with fail;refine(hpl _).mono ?_;rintro e w3 ⟨rfl,hb3⟩;have hA3:=hA2.call hb3;have hB3:=zbc hB2 hb3;have hgl3:g<w3.heap.size:=Nat.lt_of_lt_of_le hgl2 hb3.size;have p1:=(hb3.cell (p:=⟨g,o+a,none⟩) hgl2).trans q1;have p2:=(hb3.cell (p:=⟨g,o+s2,none⟩) hgl2).trans q2;have p4:=(hb3.cell (p:=⟨g,o+s4,none⟩) hgl2).trans q4;clear hgl2 q1 q2 q4 hcA hlA hpl;go_wp2_with fail;show Code.wp _ _ _ _ (w3.alloc (.cells #[.int .i64 (f0:Int),.int .i64 (r0:Int)] 85));have hb4:=ae w3 (.cells #[.int .i64 (f0:Int),.int .i64 (r0:Int)] 85);have hQ4:=ac.new w3 (.cells #[.int .i64 (f0:Int),.int .i64 (r0:Int)] 85);obtain⟨w4,hw4⟩:∃ x,x=w3.alloc (.cells #[.int .i64 (f0:Int),.int .i64 (r0:Int)] 85):=⟨_,rfl⟩;rw[←hw4]at hb4 hQ4 ⊢;clear hw4;have hA4:=hA3.call hb4;have hB4:=zbc hB3 hb4;have hgl4:g<w4.heap.size:=Nat.lt_of_lt_of_le hgl3 hb4.size;have o1:=(hb4.cell (p:=⟨g,o+a,none⟩) hgl3).trans p1;have o2:=(hb4.cell (p:=⟨g,o+s2,none⟩) hgl3).trans p2;have o4:=(hb4.cell (p:=⟨g,o+s4,none⟩) hgl3).trans p4;clear hgl3 p1 p2 p4;obtain⟨qp,hqp⟩:∃ x,x=w3.heap.size:=⟨_,rfl⟩;rw[←hqp]at hQ4 ⊢;clear hqp;have m1:=am hA4;have m3:=am hQ4;have t1:=ax (w:=w4) (fun W _=>hk2 W);have t2:=ax (w:=w4) (fun W _=>hk4 W);refine ag (by kernel_rfl) (by kernel_rfl) ?_;repeat(go_big_quiet_step (first|with_reducible exact t1 _ _|with_reducible exact t2 _ _|fail))
 refine wpQuiet_nil ?_;intro W hC;clear m1 m3 t1 t2;have hA5:=hA4.call hC;have hQ5:=hQ4.call hC;have hB5:=zbc hB4 hC;have hgl5:g<W.heap.size:=Nat.lt_of_lt_of_le hgl4 hC.size;have r1:=(hC.cell (p:=⟨g,o+a,none⟩) hgl4).trans o1;have r2:=(hC.cell (p:=⟨g,o+s2,none⟩) hgl4).trans o2;have r4:=(hC.cell (p:=⟨g,o+s4,none⟩) hgl4).trans o4;have⟨hcA,hlA⟩:=hA5.cl;have⟨hcQ,hlQ⟩:=hQ5.cl;clear hgl4 o1 o2 o4 hC hk2 hk4;rcases c0:(2*(r0:Int)==k2+k4)with _|_
 ·have e0:Hid (V=false):=zhd (by rw[hVd,c0];rfl);have c0':(2*(r0:Int) != k2+k4)=true:=by simp only[bne,c0];rfl
  go_wp2_with fail;go_ret;exact⟨by rw[e0.out];rfl,hB5⟩
 have c0':(2*(r0:Int) != k2+k4)=false:=by simp only[bne,c0];rfl
 rw[c0,Bool.true_and]at hVd;replace hVd:=zhd hVd;clear w1' w2';replace c0:=zhd c0;go_wp2_with fail;replace c0':=zhd c0';clear hcA hlA hcQ hlQ;rcases c1:(y0==0)with _|_
 ·have e0:Hid (V=false):=zhd (by rw[hVd.out,c1];rfl);have n1:=am hA5;have n2:=am hQ5;have n3:=cell_regrown r1;have n4:=cell_regrown r2;have n5:=cell_regrown r4;have t1:=ax (w:=W) (fun W _=>hn2 W);have t2:=ax (w:=W) (fun W _=>hn4 W);have t3:=aJ (w:=W) (fun W=>hpc W);refine ag (by kernel_rfl) (by kernel_rfl) ?_;repeat(go_big_quiet_step (first|with_reducible exact t1 _ _|with_reducible exact t2 _ _|with_reducible exact t3 _ _|fail))
  refine wpQuiet_nil ?_;intro W2 hC;clear n1 n2 n3 n4 n5 t1 t2 t3;go_wp2_with fail;go_ret;exact⟨by rw[e0.out];rfl,zbc hB5 hC⟩
 rcases c2:(y2==0)with _|_
 ·have e0:Hid (V=false):=zhd (by rw[hVd.out,c1,c2];rfl);have n1:=am hA5;have n2:=am hQ5;have n3:=cell_regrown r1;have n4:=cell_regrown r2;have n5:=cell_regrown r4;have t1:=ax (w:=W) (fun W _=>hn2 W);have t2:=ax (w:=W) (fun W _=>hn4 W);have t3:=aJ (w:=W) (fun W=>hpc W);refine ag (by kernel_rfl) (by kernel_rfl) ?_;repeat(go_big_quiet_step (first|with_reducible exact t1 _ _|with_reducible exact t2 _ _|with_reducible exact t3 _ _|fail))
  refine wpQuiet_nil ?_;intro W2 hC;clear n1 n2 n3 n4 n5 t1 t2 t3;go_wp2_with fail;go_ret;exact⟨by rw[e0.out];rfl,zbc hB5 hC⟩
 ·obtain⟨d,c3⟩:∃ d,(y4==pc)=d:=⟨_,rfl⟩;have e0:Hid (V=d):=zhd (by rw[hVd.out,c1,c2,c3];rfl);have n1:=am hA5;have n2:=am hQ5;have n3:=cell_regrown r1;have n4:=cell_regrown r2;have n5:=cell_regrown r4;have t1:=ax (w:=W) (fun W _=>hn2 W);have t2:=ax (w:=W) (fun W _=>hn4 W);have t3:=aJ (w:=W) (fun W=>hpc W);refine ag (by kernel_rfl) (by kernel_rfl) ?_;repeat(go_big_quiet_step (first|with_reducible exact t1 _ _|with_reducible exact t2 _ _|with_reducible exact t3 _ _|fail))
  refine wpQuiet_nil ?_;intro W2 hC;clear n1 n2 n3 n4 n5 t1 t2 t3;go_wp2_with fail;go_ret;exact⟨by rw[e0.out];rfl,zbc hB5 hC⟩
section ops
variable {P:Program} {o:Oper} {a:Act} {w:World} {K:Act→World→Prop} {Q:Exit→Act→World→Prop} {t:Nat→Option Bool} {X:Prop}
end ops
theorem jq(x y:Int)(W:World):(Instr.field 85 (.agg #[.int .i64 x,.int .i64 y]) 1).run Tryz.prog W=.ok (.int .i64 y) W:=by kernel_rfl
def du(F R:Nat)(xs:List Int):Nat→Bool
 | 0=>true
 | k+1=>du F R xs k&&!((kindI (xs[k]?.getD 0)==1)&&(((k/F:Nat):Int)==lastI R (decide (xs[k]?.getD 0<0))))
theorem vD{F R:Nat}{xs:List Int}{k:Nat}(h:du F R xs k=false):∀ n,du F R xs (k+n)=false:=by
 intro n;induction n with
 | zero=>exact h
 | succ n ih=>rw[←Nat.add_assoc];simp only[du,ih];rfl
def pvN(F R:Nat)(xs:List Int)(bl:Bool)(ca pa ha fu:Int):Bool :=
 !decide (kgI xs false<0)&&(!decide (kgI xs true<0)&&(!chkB F R xs (kgI xs (!bl)).toNat (!bl)&&(du F R xs xs.length&&(cstB F R xs ca&&(passB F R xs bl pa ha&&(decide (0≤ha)&&(decide (ha≤10000)&&(decide (1≤fu)&&decide (fu≤10000)))))))))
def pvB(f r:Int)(xs:List Int)(bl:Bool)(ca pa ha fu:Int):Bool:=aF f r xs&&pvN f.toNat r.toNat xs bl ca pa ha fu
theorem nJ(xs:List Int)(bl:Bool):kgI xs bl=-1∨∃ k:Nat,kgI xs bl=k∧k<xs.length:=by
 unfold kgI;split
 ·rename_i h;right;have h0:(kgL xs bl)[0]?.getD 0∈kgL xs bl:=by
   rw[List.getElem?_eq_getElem (by omega)];exact List.getElem_mem _
  unfold kgL at h0 ⊢;rw[idxs_mem]at h0;obtain⟨j,hj,_,e⟩:=h0;exact⟨j,e,hj⟩
 ·left;rfl
theorem dJ{f r:Int}{xs:List Int}(h:aF f r xs=true):∃ F R:Nat,f=F∧r=R∧(3≤F∧F≤8)∧(3≤R∧R≤8)∧xs.length=F*R∧(∀ x∈xs,pOk x=true)∧∀ x∈xs,-6≤x∧x≤6:=by
 unfold aF at h;rw[Bool.and_eq_true]at h;obtain⟨h1,h2,h3⟩:=cK h.1;obtain⟨b1,b2,b3,b4⟩:=qm h1;refine⟨f.toNat,r.toNat,by omega,by omega,by omega,by omega,?_,h3,?_⟩
 ·have e1:f=(f.toNat:Int):=by omega
  have e2:r=(r.toNat:Int):=by omega
  rw[e1,e2,←Int.natCast_mul]at h2;omega
 ·intro x hx;have:=(List.all_eq_true.1 h.2) x hx;simp[orB]at this;exact this
theorem pX(F R:Nat)(ca pa ha fu:Int)(bl:Bool)(p:Option Addr)(c:Nat)(xs:List Int)(hF:3≤F∧F≤8)(hR:3≤R∧R≤8)(hlen:xs.length=F*R)(hok:∀ x∈xs,pOk x=true)(hor:aF F R xs=true)(hca:0≤ca)(w:World)(hx:Arr .i8 w p xs):
  Clz 13 #[.agg (aa F R p xs.length c bl ca pa ha fu).toArray] w fun e w'=>e=.returned (.bool (pvN F R xs bl ca pa ha fu))∧Below w.heap.size w w':=by
 have hB:=ae w (.cells (aa F R p xs.length c bl ca pa ha fu).toArray 26);have hA:=ac.new w (.cells (aa F R p xs.length c bl ca pa ha fu).toArray 26);have hl64:xs.length≤64:=by rw[hlen];exact Nat.mul_le_mul hF.2 hR.2
 have hof:=fun W=>cX F R ca pa ha fu bl p xs.length c W
 have horb:=fun W h=>i7 F R p c xs W h
 rw[hor]at horb;have hk0:=fun W h=>gD F R false p c xs W h hl64
 have hk1:=fun W h=>gD F R true p c xs W h hl64
 have hch:=fun k h1 h2 W h=>fP F R p c xs k (!bl) hF hR hlen h1 h2 hok W h
 have hcs:=fun W h=>nc F R ca pa ha fu bl p c xs hca (by rw[hlen,Int.natCast_mul]) W h
 have hps:=fun W h=>lY F R ca pa ha fu bl p c xs hF hR hlen W h
 have hkb:=nJ xs (!bl);obtain⟨V,hVV⟩:∃ V,V=pvN F R xs bl ca pa ha fu:=⟨_,rfl⟩;have hVd:V=(!decide (kgI xs false<0)&&(!decide (kgI xs true<0)&&(!chkB F R xs (kgI xs (!bl)).toNat (!bl)&&(du F R xs xs.length&&(cstB F R xs ca&&(passB F R xs bl pa ha&&(decide (0≤ha)&&(decide (ha≤10000)&&(decide (1≤fu)&&decide (fu≤10000)))))))))):=hVV;rw[←hVV];clear hVV;generalize cstB F R xs ca=vcs at *;generalize passB F R xs bl pa ha=vps at *;have⟨hc0,hl0⟩:=hA.cl;replace hlen:=zhd hlen;go_enter Tryz.func13,Tryz.ntmps13;go_wp2_with fail;refine(hof _).mono ?_;rintro e w2 ⟨rfl,hb2⟩;have hA2:=hA.call hb2;have hB2:=zbc hB hb2;have hx2:=hx.call hB2;clear hA hB hc0 hl0 hof hx;have hb3:=ae w2 (.cells (ar F R p xs.length c).toArray 68);have hQ3:=ac.new w2 (.cells (ar F R p xs.length c).toArray 68);have hA3:=hA2.call hb3;have hB3:=zbc hB2 hb3;have hx3:=hx2.call hb3;obtain⟨qb,hqb⟩:∃ x,x=w2.heap.size:=⟨_,rfl⟩;rw[←hqb]at hQ3;have⟨hcq,hlq⟩:=hQ3.cl;rw[hqb]at hcq hlq;go_wp2_with fail;show Clz 36 _ (w2.alloc (.cells (ar F R p xs.length c).toArray 68)) _;rw[←hqb];clear hcq hlq;generalize w2.alloc (.cells (ar F R p xs.length c).toArray 68)=w3 at *;clear hx2 hqb;refine(horb _ hx3).mono ?_;rintro e w4 ⟨rfl,hb4⟩;have hA4:=hA3.call hb4;have hB4:=zbc hB3 hb4;have hx4:=hx3.call hb4;have hQ4:=hQ3.call hb4;have⟨hcq,hlq⟩:=hQ4.cl;clear hx3 horb;go_wp2_with fail;refine(hk0 _ hx4).mono ?_;rintro e w5 ⟨rfl,hb5⟩;have hA5:=hA4.call hb5;have hB5:=zbc hB4 hb5;have hx5:=hx4.call hb5;have hQ5:=hQ4.call hb5;clear hcq hlq;have⟨hcq,hlq⟩:=hQ5.cl;clear hx4 hk0;by_cases n0:kgI xs false<0
 ·have e0:Hid (V=false):=zhd (by rw[hVd];simp[n0]);replace hVd:=zhd hVd;go_wp2_with fail;go_ret;exact⟨by rw[e0.out];rfl,hB5⟩
 go_wp2_with fail;refine(hk1 _ hx5).mono ?_;rintro e w6 ⟨rfl,hb6⟩;have hA6:=hA5.call hb6;have hB6:=zbc hB5 hb6;have hx6:=hx5.call hb6;have hQ6:=hQ5.call hb6;clear hcq hlq;have⟨hcq,hlq⟩:=hQ6.cl;have⟨hcA,hlA⟩:=hA6.cl;clear hx5 hk1;by_cases n1:kgI xs true<0
 ·have e0:Hid (V=false):=zhd (by rw[hVd];simp[n1]);replace hVd:=zhd hVd;go_wp2_with fail;go_ret;exact⟨by rw[e0.out];rfl,hB6⟩
 obtain⟨k,hkk,hkl⟩:∃ k:Nat,kgI xs (!bl)=k∧k<F*R:=by
  rcases hkb with h|⟨k,h1,h2⟩
  ·exfalso;cases bl
   ·have h:kgI xs true=-1:=h;omega
   ·have h:kgI xs false=-1:=h;omega
  ·exact⟨k,h1,by have:=hlen.out;omega⟩
 have hch2:=hch k hkk hkl;have hVd2:V=(!chkB F R xs k (!bl)&&(du F R xs xs.length&&(vcs&&(vps&&(decide (0≤ha)&&(decide (ha≤10000)&&(decide (1≤fu)&&decide (fu≤10000)))))))):=by rw[hVd,hkk];simp[n0,n1]
 clear hVd hkb hch hkk;generalize chkB F R xs k (!bl)=vch at hch2 hVd2;replace hVd2:=zhd hVd2;go_wp2_with fail;refine(hch2 _ hx6).mono ?_;rintro e w7 ⟨rfl,hb7⟩;have hA7:=hA6.call hb7;have hB7:=zbc hB6 hb7;have hx7:=hx6.call hb7;clear hcq hlq hcA hlA hx6 hch2;rcases vch with _|_
 rotate_left
 ·have e0:Hid (V=false):=zhd (by rw[hVd2.out];rfl);go_wp2_with fail;go_ret;exact⟨by rw[e0.out];rfl,hB7⟩
 have hVd3:=hVd2.out;simp only[Bool.not_false,Bool.true_and]at hVd3;clear hVd2;replace hVd3:=zhd hVd3;go_wp2_with fail;go_loopg [4] 65 (fun q iv wr=>∃ i:Nat,q+i=65∧i≤xs.length∧iv=.int .i64 i∧du F R xs i=true∧Below w7.heap.size w7 wr)
 case atStart=>exact⟨0,rfl,Nat.zero_le _,rfl,rfl,Below.refl _ _⟩
 case round =>
  obtain⟨i,hq,hi,rfl,hlo,hbr⟩:=hrel;have hAr:=hA7.call hbr;have hBr:=zbc hB7 hbr;have hxr:=hx7.call hbr;have⟨hcA,hlA⟩:=hAr.cl;replace hlo:=zhd hlo;by_cases hlt:i<xs.length
  ·have hii:(i:Int)<xs.length:=by omega
   have hiF:i<F*R:=by have:=hlen.out;omega
   obtain⟨hi64,hi0,hi1⟩:=bU hF hR hiF;obtain⟨g,o,rfl,hgl,hcc⟩:=hxr.at hlt;have hci:=hcc i hlt;have hy1:pOk (xs[i]?.getD 0)=true:=by rw[List.getElem?_eq_getElem hlt];exact hok _ (List.getElem_mem hlt)
   have hyb:=tK hy1;have hnx:du F R xs (i+1)=(du F R xs i&&!((kindI (xs[i]?.getD 0)==1)&&(((i/F:Nat):Int)==lastI R (decide (xs[i]?.getD 0<0))))):=rfl;rw[hlo.out,Bool.true_and]at hnx;obtain⟨y,hy⟩:∃ y,y=xs[i]?.getD 0:=⟨_,rfl⟩;rw[←hy]at hci hnx hyb;have hkd:=fun W=>cL y ⟨by omega,by omega⟩ W
   have hpl:=fun W=>aO F R i hF (by omega) W
   have hla:=fun W=>mj F R (decide (y<0)) (by omega) W
   clear hcc hy hy1;generalize i/F=r0 at *;generalize i%F=f0 at *;generalize lastI R (decide (y<0))=l0 at *;go_wp2_with fail;clear hcA hlA;rcases c1:(kindI y==1)with _|_
   ·rw[c1]at hnx;simp only[Bool.false_and,Bool.not_false]at hnx;have m1:=am hAr;have m2:=cell_regrown hci;have t1:=aJ (w:=wr) (fun W=>hkd W);refine ag (by kernel_rfl) (by kernel_rfl) ?_;repeat(go_big_quiet_step (first|with_reducible exact t1 _ _|fail))
    refine wpQuiet_nil ?_;intro W2 hC;clear m1 m2 t1;have hb2:=zbc hbr hC;have hBW:=zbc hBr hC;clear hAr hBr hxr hbr hC hci hgl;replace hnx:=zhd hnx;go_wp2_with fail;go_roundg (gk-1)
    case measure=>omega
    case rel=>exact⟨i+1,by omega,by omega,by go_num,hnx.out,hb2⟩
   rcases c2:((r0:Int)==l0)with _|_
   ·rw[c1,c2]at hnx;simp only[Bool.true_and,Bool.not_false]at hnx;have m1:=am hAr;have m2:=cell_regrown hci;have t1:=aJ (w:=wr) (fun W=>hkd W);have t2:=ax (w:=wr) (fun W _=>hpl W);have t3:=ax (w:=wr) (fun W _=>hla W);have s1:=fun W=>jq (f0:Int) (r0:Int) W
    refine ag (by kernel_rfl) (by kernel_rfl) ?_;repeat(go_big_quiet_step (first|with_reducible exact t1 _ _|with_reducible exact t2 _ _|with_reducible exact t3 _ _|fail))
    refine wpQuiet_nil ?_;intro W2 hC;clear m1 m2 t1 t2 t3 s1;have hb2:=zbc hbr hC;have hBW:=zbc hBr hC;clear hAr hBr hxr hbr hC hci hgl;replace hnx:=zhd hnx;go_wp2_with fail;go_roundg (gk-1)
    case measure=>omega
    case rel=>exact⟨i+1,by omega,by omega,by go_num,hnx.out,hb2⟩
   ·rw[c1,c2]at hnx;simp only[Bool.true_and,Bool.not_true]at hnx;have m1:=am hAr;have m2:=cell_regrown hci;have t1:=aJ (w:=wr) (fun W=>hkd W);have t2:=ax (w:=wr) (fun W _=>hpl W);have t3:=ax (w:=wr) (fun W _=>hla W);have s1:=fun W=>jq (f0:Int) (r0:Int) W
    refine ag (by kernel_rfl) (by kernel_rfl) ?_;repeat(go_big_quiet_step (first|with_reducible exact t1 _ _|with_reducible exact t2 _ _|with_reducible exact t3 _ _|fail))
    refine wpQuiet_nil ?_;intro W2 hC;clear m1 m2 t1 t2 t3 s1;have hb2:=zbc hbr hC;have hBW:=zbc hBr hC;clear hAr hBr hxr hbr hC hci hgl;have e0:Hid (V=false):=zhd (by
     rw[hVd3.out,show xs.length=(i+1)+(xs.length-(i+1)) by omega,vD hnx];rfl)
    replace hnx:=zhd hnx;go_wp2_with fail;go_ret;exact⟨by rw[e0.out];rfl,hBW⟩
  ·have hii:¬(i:Int)<xs.length:=by omega
   obtain rfl:i=xs.length:=by omega
   have hVd4:V=(vcs&&(vps&&(decide (0≤ha)&&(decide (ha≤10000)&&(decide (1≤fu)&&decide (fu≤10000)))))):=by rw[hVd3.out,hlo.out,Bool.true_and]
   replace hVd4:=zhd hVd4;clear hVd3;go_wp2_with fail;refine(hcs _ hxr).mono ?_;rintro e w8 ⟨rfl,hb8⟩;have hA8:=hAr.call hb8;have hB8:=zbc hBr hb8;have hx8:=hxr.call hb8;have⟨hc8,hl8⟩:=hA8.cl;clear hcA hlA hAr hBr hxr hbr hcs;rcases vcs with _|_
   ·have e0:Hid (V=false):=zhd (by rw[hVd4.out];rfl);go_wp2_with fail;go_ret;exact⟨by rw[e0.out];rfl,hB8⟩
   go_wp2_with fail;refine(hps _ hx8).mono ?_;rintro e w9 ⟨rfl,hb9⟩;have hA9:=hA8.call hb9;have hB9:=zbc hB8 hb9;have⟨hc9,hl9⟩:=hA9.cl;clear hc8 hl8 hx8 hps;rcases vps with _|_
   ·have e0:Hid (V=false):=zhd (by rw[hVd4.out];rfl);go_wp2_with fail;go_ret;exact⟨by rw[e0.out];rfl,hB9⟩
   go_wp2
   all_goals (go_ret;refine⟨?_,hB9⟩;rw[hVd4.out];simp[*]<;>omega)
theorem eK(f r ca pa ha fu:Int)(bl:Bool)(p:Option Addr)(c:Nat)(xs:List Int)(hca:0≤ca)(w:World)(hx:Arr .i8 w p xs):
  Clz 13 #[.agg (aa f r p xs.length c bl ca pa ha fu).toArray] w fun e w'=>e=.returned (.bool (pvB f r xs bl ca pa ha fu))∧Below w.heap.size w w':=by
 rcases hor:aF f r xs with _|_
 ·have e0:Hid (pvB f r xs bl ca pa ha fu=false):=zhd (by unfold pvB;rw[hor];rfl);have hB:=ae w (.cells (aa f r p xs.length c bl ca pa ha fu).toArray 26);have hA:=ac.new w (.cells (aa f r p xs.length c bl ca pa ha fu).toArray 26);have hof:=fun W=>cX f r ca pa ha fu bl p xs.length c W
  have horb:=fun W h=>i7 f r p c xs W h
  rw[hor]at horb;have⟨hc0,hl0⟩:=hA.cl;go_enter Tryz.func13,Tryz.ntmps13;go_wp2_with fail;refine(hof _).mono ?_;rintro e w2 ⟨rfl,hb2⟩;have hB2:=zbc hB hb2;have hx2:=hx.call hB2;clear hA hB hc0 hl0 hof hx;have hb3:=ae w2 (.cells (ar f r p xs.length c).toArray 68);have hQ3:=ac.new w2 (.cells (ar f r p xs.length c).toArray 68);have hB3:=zbc hB2 hb3;have hx3:=hx2.call hb3;have⟨hcq,hlq⟩:=hQ3.cl;go_wp2_with fail;refine(horb _ hx3).mono ?_;rintro e w4 ⟨rfl,hb4⟩;have hB4:=zbc hB3 hb4;clear hcq hlq;go_wp2_with fail;go_ret;exact⟨by rw[e0.out];rfl,hB4⟩
 ·obtain⟨F,R,rfl,rfl,hF,hR,hlen,hok,_⟩:=dJ hor;have e0:pvB F R xs bl ca pa ha fu=pvN F R xs bl ca pa ha fu:=by unfold pvB;rw[hor];rfl
  rw[e0];exact pX F R ca pa ha fu bl p c xs hF hR hlen hok hor hca w hx
end Go.Proofs.YtefmplccbkmalaaGreatDoor
namespace Go.Proofs.YtefmplccbkmalaaGreatDoor
open Go.RowKit

def onB(F R:Nat)(a b:Int):Bool:=decide (0≤a)&&(decide (a<F)&&(decide (0≤b)&&decide (b<R)))
theorem wd(F R:Nat)(a b:Int)(w:World):Clz 141 #[.agg #[.int .i64 F,.int .i64 R],.int .i64 a,.int .i64 b] w fun e w'=>e=.returned (.bool (onB F R a b))∧Below w.heap.size w w':=by
 go_enter Tryz.func141,Tryz.ntmps141;go_wp2
 all_goals (go_ret;refine⟨?_,ae _ _⟩;simp[onB, *]<;>omega)
theorem oA{F R:Nat}(hF:3≤F∧F≤8)(hR:3≤R∧R≤8):bR F R=true:=by simp[bR,sideB];omega
def atV(F R:Nat)(a b:Int):Value:=if onB F R a b then .tuple #[.int .i64 (a+b*F),.int .i64 0]else .tuple #[.int .i64 0,.int .i64 3]
theorem fX{F R:Nat}{a b:Int}(h:onB F R a b=true):0≤a∧a<F∧0≤b∧b<R:=by simpa[onB]using h
theorem tQ{F:Nat}{b:Int}(hF:F≤8)(h:-20≤b∧b≤20):-160≤b*F∧b*F≤160:=by have h1:(b*F).natAbs=b.natAbs*(F:Int).natAbs:=Int.natAbs_mul b F;have h2:b.natAbs*(F:Int).natAbs≤20*8:=Nat.mul_le_mul (by omega) (by omega);omega
theorem ij(F R:Nat)(a b:Int)(hF:3≤F∧F≤8)(hR:3≤R∧R≤8)(w:World):Clz 89 #[.agg #[.int .i64 F,.int .i64 R],.int .i64 a,.int .i64 b] w fun e w'=>e=.returned (atV F R a b)∧Below w.heap.size w w':=by
 have hA:=ac.new w (.cells #[.int .i64 (F:Int),.int .i64 (R:Int)] 23);have hB:=ae w (.cells #[.int .i64 (F:Int),.int .i64 (R:Int)] 23);have hvs:=fun W=>ed F R W
 rw[oA hF hR]at hvs;have hon:=fun W=>wd F R a b W
 have⟨hc0,hl0⟩:=hA.cl;go_enter Tryz.func89,Tryz.ntmps89;go_wp2_with fail;refine(hvs _).mono ?_;rintro e w2 ⟨rfl,hb2⟩;have hA2:=hA.call hb2;have hB2:=zbc hB hb2;clear hc0 hl0 hA hB;have⟨hc2,hl2⟩:=hA2.cl;go_wp2_with fail;refine(hon _).mono ?_;rintro e w3 ⟨rfl,hb3⟩;have hA3:=hA2.call hb3;have hB3:=zbc hB2 hb3;clear hc2 hl2;have⟨hc3,hl3⟩:=hA3.cl;rcases hv:onB F R a b with _|_
 ·have e0:Hid (atV F R a b=.tuple #[.int .i64 0,.int .i64 3]):=zhd (by unfold atV;rw[hv];rfl);go_wp2_with fail;go_ret2
  exact⟨by rw[e0.out];rfl,hB3⟩
 ·have e0:Hid (atV F R a b=.tuple #[.int .i64 (a+b*F),.int .i64 0]):=zhd (by unfold atV;rw[hv];rfl);obtain⟨h1,h2,h3,h4⟩:=fX hv;have h5:=tQ (F:=F) (b:=b) hF.2 (by omega);have e1:wrap64 (b*F)=b*F:=bF (by omega);have e2:wrap64 (a+b*F)=a+b*F:=bF (by omega);go_wp2_with fail;go_ret2
  exact⟨by rw[e0.out];rfl,hB3⟩
theorem dB(F R a:Nat)(hF:3≤F∧F≤8)(hR:3≤R∧R≤8)(ha:a<F*R)(w:World):Clz 88 #[.agg #[.int .i64 F,.int .i64 R],.int .i64 a] w fun e w'=>e=.returned (.tuple #[.int .i64 (a%F:Nat),.int .i64 (a/F:Nat),.int .i64 0])∧Below w.heap.size w w':=by
 have hA:=ac.new w (.cells #[.int .i64 (F:Int),.int .i64 (R:Int)] 23);have hB:=ae w (.cells #[.int .i64 (F:Int),.int .i64 (R:Int)] 23);have hsv:=fun W=>dn F R a W
 rw[gY hF hR ha]at hsv;obtain⟨ha64,ha0,ha1⟩:=bU hF hR ha;have hF0:(F:Int)≠0:=by omega
 have⟨hc0,hl0⟩:=hA.cl;go_enter Tryz.func88,Tryz.ntmps88;go_wp2_with fail;refine(hsv _).mono ?_;rintro e w2 ⟨rfl,hb2⟩;have hA2:=hA.call hb2;have hB2:=zbc hB hb2;clear hc0 hl0 hA hB;have⟨hc2,hl2⟩:=hA2.cl;go_wp2_with fail;go_region;have e1:(a:Int)/(F:Int)=((a/F:Nat):Int):=rfl;have e3:(a:Int)%(F:Int)=((a%F:Nat):Int):=rfl;have e5:(0:Int)≤((a/F:Nat):Int):=Int.natCast_nonneg _;rw[e1,e3,bF (by omega)];go_wp2_with fail;go_ret3
 exact⟨rfl,hB2.drew⟩
end Go.Proofs.YtefmplccbkmalaaGreatDoor
