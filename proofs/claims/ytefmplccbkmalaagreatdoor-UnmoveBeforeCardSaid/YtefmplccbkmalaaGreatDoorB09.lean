import Derived.Test.YtefmplccbkmalaaGreatDoorB04
import Derived.Test.YtefmplccbkmalaaGreatDoorB08
import Derived.Deep.CutRange
set_option maxRecDepth 100000
set_option maxHeartbeats 12800000
namespace Go.Proofs.YtefmplccbkmalaaGreatDoor
open Go.RowKit Go.Sort Go.BigFrame

theorem rl(w:World):Clz 138 #[] w fun e w'=>e=.returned (.agg #[.int .u8 1,.string {data:=#[75]},.bool false,.int .i64 4,.int .i64 7,.int .u8 2,.string {data:=#[81]},.bool false,.int .i64 4,.int .i64 0,.int .u8 4,.string {data:=#[107]},.bool true,.int .i64 60,.int .i64 63,.int .u8 8,.string {data:=#[113]},.bool true,.int .i64 60,.int .i64 56])∧Below w.heap.size w w':=by
 have hu168:(Tryz.prog.info? 171).map (·.size)=some 20:=by kernel_rfl
 go_enter Tryz.func138,Tryz.ntmps138;go_wp2_with (first|(refine ai rfl 171 (.tmp 0) (.tmp 5) rfl w.heap.size _ rfl rfl 171 _ (ac.new _ _) hu168 rfl (by kernel_rfl) ?_;rintro w' rfl)|fail);refine bodyPost_ret (bg (fn:=Tryz.f138) Tryz.results138 rfl (ak (ac.new _ _)) (by kernel_rfl)) rfl ?_;exact⟨rfl,aj (ae _ _) (Nat.le_refl _) (by simp)⟩
theorem uQ(F R:Nat)(W:World):(binOp .neq 23 (.agg #[.int .i64 (F:Int),.int .i64 (R:Int)]) (.agg #[.int .i64 8,.int .i64 8])).run Tryz.prog W=.ok (.bool (!(decide (F=8)&&decide (R=8)))) W:=by rw[run_neq_struct];simp[go_sem];by_cases h1:F=8<;>by_cases h2:R=8<;>simp[h1,h2]<;>omega
theorem gw{F R:Nat}{d:Bool}{W:World}(h:(!(decide (F=8)&&decide (R=8)))=d):(binOp .neq 23 (.agg #[.int .i64 (F:Int),.int .i64 (R:Int)]) (.agg #[.int .i64 8,.int .i64 8])).run Tryz.prog W=.ok (.bool d) W:=by rw[uQ,h]
theorem sY{x y:Int}{d:Bool}{W:World}(h:(x != y)=d):(binOp .neq 38 (.int .i8 x) (.int .i8 y)).run Tryz.prog W=.ok (.bool d) W:=by rw[←h];simp[go_sem]
theorem yA{ca:Int}(h:0≤ca∧ca<256)(k:Nat)(hk:k<4):(bits .and .u8 ca (bitI k) != 0)=(ca/bitI k%2==1):=by
 obtain⟨n,rfl⟩:∃ n:Nat,ca=n:=⟨ca.toNat,by omega⟩;have key:∀ k,k<4→∀ n,n<256→(bits .and .u8 ((n:Nat):Int) (bitI k) != 0)=(((n:Nat):Int)/bitI k%2==1):=by decide +kernel
 exact key k hk n (by omega)
theorem sl_168_0(W:World):(Instr.index 171 (.agg #[.int .u8 1,.string {data:=#[75]},.bool false,.int .i64 4,.int .i64 7,.int .u8 2,.string {data:=#[81]},.bool false,.int .i64 4,.int .i64 0,.int .u8 4,.string {data:=#[107]},.bool true,.int .i64 60,.int .i64 63,.int .u8 8,.string {data:=#[113]},.bool true,.int .i64 60,.int .i64 56]) (.int .i64 0)).run Tryz.prog W=.ok (.agg #[.int .u8 1,.string {data:=#[75]},.bool false,.int .i64 4,.int .i64 7]) W:=by kernel_rfl
theorem sl_168_1(W:World):(Instr.index 171 (.agg #[.int .u8 1,.string {data:=#[75]},.bool false,.int .i64 4,.int .i64 7,.int .u8 2,.string {data:=#[81]},.bool false,.int .i64 4,.int .i64 0,.int .u8 4,.string {data:=#[107]},.bool true,.int .i64 60,.int .i64 63,.int .u8 8,.string {data:=#[113]},.bool true,.int .i64 60,.int .i64 56]) (.int .i64 1)).run Tryz.prog W=.ok (.agg #[.int .u8 2,.string {data:=#[81]},.bool false,.int .i64 4,.int .i64 0]) W:=by kernel_rfl
theorem sl_168_2(W:World):(Instr.index 171 (.agg #[.int .u8 1,.string {data:=#[75]},.bool false,.int .i64 4,.int .i64 7,.int .u8 2,.string {data:=#[81]},.bool false,.int .i64 4,.int .i64 0,.int .u8 4,.string {data:=#[107]},.bool true,.int .i64 60,.int .i64 63,.int .u8 8,.string {data:=#[113]},.bool true,.int .i64 60,.int .i64 56]) (.int .i64 2)).run Tryz.prog W=.ok (.agg #[.int .u8 4,.string {data:=#[107]},.bool true,.int .i64 60,.int .i64 63]) W:=by kernel_rfl
theorem sl_168_3(W:World):(Instr.index 171 (.agg #[.int .u8 1,.string {data:=#[75]},.bool false,.int .i64 4,.int .i64 7,.int .u8 2,.string {data:=#[81]},.bool false,.int .i64 4,.int .i64 0,.int .u8 4,.string {data:=#[107]},.bool true,.int .i64 60,.int .i64 63,.int .u8 8,.string {data:=#[113]},.bool true,.int .i64 60,.int .i64 56]) (.int .i64 3)).run Tryz.prog W=.ok (.agg #[.int .u8 8,.string {data:=#[113]},.bool true,.int .i64 60,.int .i64 56]) W:=by kernel_rfl
theorem sB(xs:List Int)(i:Nat)(hi:i<4):∃(bb:Int) (sb:ByteArray) (bk:Bool) (kq rq:Nat),(∀ W,(Instr.index 171 (.agg #[.int .u8 1,.string {data:=#[75]},.bool false,.int .i64 4,.int .i64 7,.int .u8 2,.string {data:=#[81]},.bool false,.int .i64 4,.int .i64 0,.int .u8 4,.string {data:=#[107]},.bool true,.int .i64 60,.int .i64 63,.int .u8 8,.string {data:=#[113]},.bool true,.int .i64 60,.int .i64 56]) (.int .i64 i)).run Tryz.prog W=.ok (.agg #[.int .u8 bb,.string sb,.bool bk,.int .i64 (kq:Nat),.int .i64 (rq:Nat)]) W)∧bitI i=bb∧kq<64∧rq<64∧bB 8 8 xs bb=((xs[kq]?.getD 0==pcI 6 bk)&&(xs[rq]?.getD 0==pcI 4 bk)):=by
 rcases(by omega:i=0∨i=1∨i=2∨i=3)with rfl|rfl|rfl|rfl
 ·exact⟨1,_,false,4,7,sl_168_0,rfl,by decide,by decide,by simp[bB,homeV,pcI]⟩
 ·exact⟨2,_,false,4,0,sl_168_1,rfl,by decide,by decide,by simp[bB,homeV,pcI]⟩
 ·exact⟨4,_,true,60,63,sl_168_2,rfl,by decide,by decide,by simp[bB,homeV,pcI]⟩
 ·exact⟨8,_,true,60,56,sl_168_3,rfl,by decide,by decide,by simp[bB,homeV,pcI]⟩
theorem p8(F R:Nat)(ca pa ha fu:Int)(bl:Bool)(p:Option Addr)(c:Nat)(xs:List Int)(hlen:xs.length=F*R)(hpos:0<xs.length)(hca:0≤ca∧ca<256)(w:World)(hg:bq w)(hx:Arr .i8 w p xs):
  Clz 79 #[.agg (aa F R p xs.length c bl ca pa ha fu).toArray] w fun e w'=>e=.returned (.bool (cstB F R xs ca))∧Below w.heap.size w w':=by
 have hA:=ac.new w (.cells (aa F R p xs.length c bl ca pa ha fu).toArray 26);have hB:=ae w (.cells (aa F R p xs.length c bl ca pa ha fu).toArray 26);have hx1:=hx.call hB;have hg1:=hg.call hB;obtain⟨g,o,rfl,hgl,hcc⟩:=hx1.at (i:=0) hpos;have h64:F=8→R=8→xs.length=64:=by rintro rfl rfl;exact hlen
 have hcab:=yA hca;obtain⟨V,hV⟩:∃ V,V=cstB F R xs ca:=⟨_,rfl⟩;have e0:V=(!decide (15<ca)&&bJ F R xs ca 4):=hV;rw[←hV];clear hV;replace e0:=zhd e0;replace hlen:=zhd hlen;go_enter Tryz.func79,Tryz.ntmps79;go_wp2_with fail;refine(rl _).mono ?_;rintro e w2 ⟨rfl,hb2⟩;have hA2:=hA.call hb2;have hB2:=zbc hB hb2;have hg2:=hg1.call hb2;have hgl2:g<w2.heap.size:=Nat.lt_of_lt_of_le hgl hb2.size;have hcc2:∀ j,j<xs.length→w2.cell? ⟨g,o+j,none⟩=some (.int .i8 (xs[j]?.getD 0)):=fun j hj=>(hb2.cell (p:=⟨g,o+j,none⟩) hgl).trans (hcc j hj)
 clear hA hB hg1 hgl hcc hx1 hx hg;go_wp2_with fail;go_loopg [6] 5 (fun q iv wr=>∃ i:Nat,q+i=5∧i≤4∧iv=.int .i64 i∧bJ F R xs ca i=true∧Below w2.heap.size w2 wr)
 case atStart=>exact⟨0,rfl,Nat.zero_le _,rfl,rfl,Below.refl _ _⟩
 case round =>
  obtain⟨i,hq,hi,rfl,hok,hbr⟩:=hrel;have hAr:=hA2.call hbr;have hBr:=zbc hB2 hbr;have hgr:=hg2.call hbr;have hglr:g<wr.heap.size:=Nat.lt_of_lt_of_le hgl2 hbr.size;have hccr:∀ j,j<xs.length→wr.cell? ⟨g,o+j,none⟩=some (.int .i8 (xs[j]?.getD 0)):=fun j hj=>(hbr.cell (p:=⟨g,o+j,none⟩) hgl2).trans (hcc2 j hj)
  replace hok:=zhd hok;by_cases hlt:i<4
  ·have hnx:bJ F R xs ca (i+1)=(bJ F R xs ca i&&(!(ca/bitI i%2==1)||bB F R xs (bitI i))):=rfl;have hcb:=hcab i hlt;rw[hok.out,Bool.true_and,←hcb]at hnx;obtain⟨bb,sb,bk,kq,rq,hix,hbits,hkq,hrq,hhome⟩:=sB xs i hlt;rw[hbits]at hnx;replace hnx:=zhd hnx;clear hcb hg2 hcc2 hcab hbits;have hii:(i:Int)<4:=by omega
   ·go_wp2_with fail;show Code.wp _ _ _ _ (wr.alloc (.cells #[.int .u8 bb,.string sb,.bool bk,.int .i64 (kq:Nat),.int .i64 (rq:Nat)] 170));have hQ:=ac.new wr (.cells #[.int .u8 bb,.string sb,.bool bk,.int .i64 (kq:Nat),.int .i64 (rq:Nat)] 170);have hb3:=ae wr (.cells #[.int .u8 bb,.string sb,.bool bk,.int .i64 (kq:Nat),.int .i64 (rq:Nat)] 170);obtain⟨q,hq9⟩:∃ q,q=wr.heap.size:=⟨_,rfl⟩;rw[←hq9]at hQ ⊢;generalize wr.alloc (.cells #[.int .u8 bb,.string sb,.bool bk,.int .i64 (kq:Nat),.int .i64 (rq:Nat)] 170)=w3 at *;obtain⟨av,hav⟩:∃ av,bits .and .u8 ca bb=av:=⟨_,rfl⟩;have hav0:bits .and .u8 ca bb=av:=hav;replace hq9:=zhd hq9;rcases hb1:(av != 0)with _|_
    ·skip
     have m1:=am (hAr.call hb3);have m2:=am hQ;refine ag (by kernel_rfl) (by kernel_rfl) ?_;repeat(go_big_quiet_step (fail))
     refine wpQuiet_nil ?_;intro W hC;clear m1 m2;have hbW:=zbc hbr (zbc hb3 hC);have hBW:=zbc hBr (zbc hb3 hC);have hn1:Hid (bJ F R xs ca (i+1)=true):=zhd (by rw[hnx.out,hav0,hb1];rfl);go_wp2_with fail;go_roundg (gk-1)
     case measure=>omega
     case rel=>exact⟨i+1,by omega,by omega,by go_num,hn1.out,hbW⟩
    ·by_cases hsz:F=8∧R=8
     ·obtain⟨hF8,hR8⟩:=hsz;have hb2:(!(decide (F=8)&&decide (R=8)))=false:=by simp[hF8,hR8]
      have hl64:=h64 hF8 hR8;have hxk:=hccr kq (by omega);have hxr:=hccr rq (by omega);have hhd:bB F R xs bb=((xs[kq]?.getD 0==(pcI 6 bk))&&(xs[rq]?.getD 0==(pcI 4 bk))):=by subst hF8 hR8;exact hhome
      generalize xs[kq]?.getD 0=xk at hxk hhd;generalize xs[rq]?.getD 0=xr at hxr hhd;rcases hb3':(xk != (pcI 6 bk))with _|_
      ·have hbk:(xk != (pcI 6 bk))=false:=hb3';have hk3:(xk==(pcI 6 bk))=true:=by simpa using hbk
       rcases hb4:(xr != (pcI 4 bk))with _|_
       ·have hh:bB F R xs bb=true:=by rw[hhd,hk3];simpa using hb4
        have m1:=am (hAr.call hb3);have m2:=am hQ;have m3:=cell_regrown (hgr.call hb3).2.2.2.1;have m4:=cell_regrown (hgr.call hb3).2.2.2.2;have m5:=cell_regrown ((hb3.cell (p:=⟨g,o+kq,none⟩) hglr).trans hxk);have m6:=cell_regrown ((hb3.cell (p:=⟨g,o+rq,none⟩) hglr).trans hxr);have t1:=aJ (w:=w3) (fun W=>dG 6 bk (by decide) W);have t2:=aJ (w:=w3) (fun W=>dG 4 bk (by decide) W);have s1:=fun W=>gw (W:=W) hb2
        refine ag (by kernel_rfl) (by kernel_rfl) ?_;repeat(go_big_quiet_step (first|with_reducible exact t1 _ _|with_reducible exact t2 _ _|fail))
        refine wpQuiet_nil ?_;intro W hC;clear m1 m2 m3 m4 m5 m6 t1 t2 s1;have hbW:=zbc hbr (zbc hb3 hC);have hBW:=zbc hBr (zbc hb3 hC);have hn1:Hid (bJ F R xs ca (i+1)=true):=zhd (by rw[hnx.out,hav0,hb1];simp only[Bool.not_true,Bool.false_or];exact hh);go_wp2_with fail;go_roundg (gk-1)
        case measure=>omega
        case rel=>exact⟨i+1,by omega,by omega,by go_num,hn1.out,hbW⟩
       ·have hh:bB F R xs bb=false:=by rw[hhd,hk3];simpa using hb4
        have m1:=am (hAr.call hb3);have m2:=am hQ;have m3:=cell_regrown (hgr.call hb3).2.2.2.1;have m4:=cell_regrown (hgr.call hb3).2.2.2.2;have m5:=cell_regrown ((hb3.cell (p:=⟨g,o+kq,none⟩) hglr).trans hxk);have m6:=cell_regrown ((hb3.cell (p:=⟨g,o+rq,none⟩) hglr).trans hxr);have t1:=aJ (w:=w3) (fun W=>dG 6 bk (by decide) W);have t2:=aJ (w:=w3) (fun W=>dG 4 bk (by decide) W);have s1:=fun W=>gw (W:=W) hb2
        refine ag (by kernel_rfl) (by kernel_rfl) ?_;repeat(go_big_quiet_step (first|with_reducible exact t1 _ _|with_reducible exact t2 _ _|fail))
        refine wpQuiet_nil ?_;intro W hC;clear m1 m2 m3 m4 m5 m6 t1 t2 s1;have hbW:=zbc hbr (zbc hb3 hC);have hBW:=zbc hBr (zbc hb3 hC);have hn1:bJ F R xs ca (i+1)=false:=by rw[hnx.out,hav0,hb1];simp only[Bool.not_true,Bool.false_or];exact hh
        have hn3:=fc hn1 (3-i);rw[show i+1+(3-i)=4 by omega]at hn3;have hn2:Hid (V=false):=zhd (by rw[e0.out,hn3];simp);clear hn1 hn3;go_wp2_with fail;go_ret;exact⟨by rw[hn2.out];rfl,hBW⟩
      ·have hbk:(xk != (pcI 6 bk))=true:=hb3';have hh:bB F R xs bb=false:=by rw[hhd];simp at hbk;simp[hbk]
       have m1:=am (hAr.call hb3);have m2:=am hQ;have m3:=cell_regrown (hgr.call hb3).2.2.2.1;have m4:=cell_regrown (hgr.call hb3).2.2.2.2;have m5:=cell_regrown ((hb3.cell (p:=⟨g,o+kq,none⟩) hglr).trans hxk);have m6:=cell_regrown ((hb3.cell (p:=⟨g,o+rq,none⟩) hglr).trans hxr);have t1:=aJ (w:=w3) (fun W=>dG 6 bk (by decide) W);have t2:=aJ (w:=w3) (fun W=>dG 4 bk (by decide) W);have s1:=fun W=>gw (W:=W) hb2
       refine ag (by kernel_rfl) (by kernel_rfl) ?_;repeat(go_big_quiet_step (first|with_reducible exact t1 _ _|with_reducible exact t2 _ _|fail))
       refine wpQuiet_nil ?_;intro W hC;clear m1 m2 m3 m4 m5 m6 t1 t2 s1;have hbW:=zbc hbr (zbc hb3 hC);have hBW:=zbc hBr (zbc hb3 hC);have hn1:bJ F R xs ca (i+1)=false:=by rw[hnx.out,hav0,hb1];simp only[Bool.not_true,Bool.false_or];exact hh
       have hn3:=fc hn1 (3-i);rw[show i+1+(3-i)=4 by omega]at hn3;have hn2:Hid (V=false):=zhd (by rw[e0.out,hn3];simp);clear hn1 hn3;go_wp2_with fail;go_ret;exact⟨by rw[hn2.out];rfl,hBW⟩
     ·have hb2:(!(decide (F=8)&&decide (R=8)))=true:=by simp;omega
      have hh:bB F R xs bb=false:=by
       unfold bB;by_cases h8:F=8
       ·have:R≠8:=fun h=>hsz ⟨h8,h⟩
        have h9:((R:Int)==8)=false:=by simp;omega
        rw[h9];simp
       ·have h9:((F:Int)==8)=false:=by simp;omega
        rw[h9];simp
      have m1:=am (hAr.call hb3);have m2:=am hQ;have m3:=cell_regrown (hgr.call hb3).2.2.2.1;have m4:=cell_regrown (hgr.call hb3).2.2.2.2;have s1:=fun W=>gw (W:=W) hb2
      refine ag (by kernel_rfl) (by kernel_rfl) ?_;repeat(go_big_quiet_step (fail))
      refine wpQuiet_nil ?_;intro W hC;clear m1 m2 m3 m4 s1;have hbW:=zbc hbr (zbc hb3 hC);have hBW:=zbc hBr (zbc hb3 hC);have hn1:bJ F R xs ca (i+1)=false:=by rw[hnx.out,hav0,hb1];simp only[Bool.not_true,Bool.false_or];exact hh
      have hn3:=fc hn1 (3-i);rw[show i+1+(3-i)=4 by omega]at hn3;have hn2:Hid (V=false):=zhd (by rw[e0.out,hn3];simp);clear hn1 hn3;go_wp2_with fail;go_ret;exact⟨by rw[hn2.out];rfl,hBW⟩
  ·have hn4:¬(i:Int)<4:=by omega
   obtain rfl:i=4:=by omega
   have hc0:=hAr.cells 4;have hl0:=hAr.lt;have e1:Hid (V=decide (ca<16)):=zhd (by rw[e0.out,hok.out,Bool.and_true];by_cases h:ca<16<;>simp[h]<;>omega);go_wp2_with fail;go_ret;exact⟨by rw[e1.out];rfl,hBr⟩
theorem qM{F R a k:Nat}(hk:a/F=k)(h2:1≤k)(h3:k+1<R)(hF:0<F):F≤a∧a+F<F*R∧(k-1)*F+a%F=a-F∧(k+1)*F+a%F=a+F:=by
 have h4:=Nat.div_add_mod a F;have h5:=Nat.mod_lt a hF;rw[hk]at h4;obtain⟨j,rfl⟩:∃ j,k=j+1:=⟨k-1,by omega⟩;have h6:F*(j+3)≤F*R:=Nat.mul_le_mul_left F (by omega);have e1:F*(j+1)=F*j+F:=by rw[Nat.mul_add,Nat.mul_one]
 have e2:F*(j+3)=F*j+F+F+F:=by rw[Nat.mul_add];omega
 have e3:(j+1+1)*F=F*j+F+F:=by rw[Nat.mul_comm,Nat.mul_add,Nat.mul_add];omega
 have e4:(j+1-1)*F=F*j:=by rw[Nat.add_sub_cancel,Nat.mul_comm]
 rw[e3,e4];omega
def upI(F:Nat)(bl:Bool):Int:=if bl then F else -F
def rkI(R:Nat)(bl:Bool):Int:=if bl then 2 else(R:Int)-3
def frN(F a:Nat)(bl:Bool):Nat:=if bl then a-F else a+F
def toN(F a:Nat)(bl:Bool):Nat:=if bl then a+F else a-F
theorem yP{F R a:Nat}{xs:List Int}{bl:Bool}(hF:3≤F∧F≤8)(hR:6≤R∧R≤8)(h:(((a/F:Nat):Int)==rkI R bl)=true):frN F a bl<F*R∧toN F a bl<F*R∧IntKind.i64.wrap ((a:Int)-upI F bl)=(frN F a bl:Nat)∧IntKind.i64.wrap ((a:Int)+upI F bl)=(toN F a bl:Nat) ∧
  psB F R xs bl a=((xs[a]?.getD 0==0)&&((xs[frN F a bl]?.getD 0==0)&&(xs[toN F a bl]?.getD 0==pcI 1 (!bl)))):=by
 have h1:F*R≤64:=Nat.mul_le_mul hF.2 hR.2;rw[beq_iff_eq]at h;cases bl
 ·simp only[rkI,Bool.false_eq_true,if_false]at h;obtain⟨k,hk⟩:∃ k,a/F=k:=⟨_,rfl⟩;obtain⟨b1,b2,b3,b4⟩:=qM (R:=R) hk (by omega) (by omega) (by omega);have q1:sqN F (a%F) (rankI R true 2)=a+F:=by unfold sqN rankI;simp only[if_true];rw[show((R:Int)-2).toNat=k+1 by omega];exact b4
  have q2:sqN F (a%F) (rankI R true 4)=a-F:=by unfold sqN rankI;simp only[if_true];rw[show((R:Int)-4).toNat=k-1 by omega];exact b3
  have q3:(2*((a/F:Nat):Int)==rankI R true 2+rankI R true 4)=true:=by unfold rankI;simp;omega
  refine⟨?_,?_,?_,?_,?_⟩
  ·simp[frN];omega
  ·simp[toN];omega
  ·simp only[upI,frN,Bool.false_eq_true,if_false];rw[IntWalk.i64_in _ (by omega)];omega
  ·simp only[upI,toN,Bool.false_eq_true,if_false];rw[IntWalk.i64_in _ (by omega)];omega
  ·simp only[psB,Bool.not_false,q1,q2,q3,frN,toN,Bool.true_and,Bool.false_eq_true,if_false]
 ·simp only[rkI,if_true]at h;obtain⟨k,hk⟩:∃ k,a/F=k:=⟨_,rfl⟩;obtain⟨b1,b2,b3,b4⟩:=qM (R:=R) hk (by omega) (by omega) (by omega);have hk2:k=2:=by omega
  subst hk2;have q1:sqN F (a%F) (rankI R false 2)=a-F:=by unfold sqN rankI;simpa using b3
  have q2:sqN F (a%F) (rankI R false 4)=a+F:=by unfold sqN rankI;simpa using b4
  have q3:(2*((a/F:Nat):Int)==rankI R false 2+rankI R false 4)=true:=by unfold rankI;simp;omega
  refine⟨?_,?_,?_,?_,?_⟩
  ·simp[frN];omega
  ·simp[toN];omega
  ·simp only[upI,frN,if_true];rw[IntWalk.i64_in _ (by omega)];omega
  ·simp only[upI,toN,if_true];rw[IntWalk.i64_in _ (by omega)];omega
  ·simp only[psB,Bool.not_true,q1,q2,q3,frN,toN,Bool.true_and,if_true]
theorem xq{F R a:Nat}{xs:List Int}{bl:Bool}(h:(((a/F:Nat):Int)==rkI R bl)=false):psB F R xs bl a=false:=by
 have:(2*((a/F:Nat):Int)==rankI R (!bl) 2+rankI R (!bl) 4)=false:=by
  rw[beq_eq_false_iff_ne]at h ⊢;cases bl
  ·simp only[rkI,rankI,Bool.false_eq_true,if_false,Bool.not_false,if_true]at h ⊢;omega
  ·simp only[rkI,rankI,Bool.false_eq_true,if_false,Bool.not_true,if_true]at h ⊢;omega
 simp only[psB,this,Bool.false_and]
theorem pP(F R:Nat)(ca pa ha fu:Int)(bl:Bool)(p:Option Addr)(c:Nat)(xs:List Int)(hF:3≤F∧F≤8)(hR:3≤R∧R≤8)(hlen:xs.length=F*R)(hpos:0<xs.length)(w:World)(hx:Arr .i8 w p xs):
  Clz 81 #[.agg (aa F R p xs.length c bl ca pa ha fu).toArray] w fun e w'=>e=.returned (.bool (passB F R xs bl pa ha))∧Below w.heap.size w w':=by
 have hA:=ac.new w (.cells (aa F R p xs.length c bl ca pa ha fu).toArray 26);have hB:=ae w (.cells (aa F R p xs.length c bl ca pa ha fu).toArray 26);have hx1:=hx.call hB;obtain⟨g,o,rfl,hgl,hcc⟩:=hx1.at (i:=0) hpos;obtain⟨V,hV⟩:∃ V,V=passB F R xs bl pa ha:=⟨_,rfl⟩;have e0:V=((pa==-1)||(!decide ((R:Int)<6)&&((ha==0)&&(sqB F R pa&&psB F R xs bl pa.toNat)))):=hV;rw[←hV];clear hV hx1 hx hpos;have h0:=hA.cells 0;have h1:=hA.cells 1;have h3:=hA.cells 3;have h5:=hA.cells 5;have hl0:=hA.lt;replace hlen:=zhd hlen;by_cases hp1:pa=-1
 ·subst hp1;have e1:Hid (V=true):=zhd (by rw[e0];rfl);clear e0;go_enter Tryz.func81,Tryz.ntmps81;go_wp2_with fail;go_ret;exact⟨by rw[e1.out];rfl,hB⟩
 rw[beq_false_of_ne hp1,Bool.false_or]at e0;have hFn:IntKind.i64.wrap (-(F:Int))=upI F false:=IntWalk.i64_in _ (by omega);have hRn:IntKind.i64.wrap ((R:Int)-3)=rkI R false:=IntWalk.i64_in _ (by omega);have hpsn:=fun a=>xq (F:=F) (R:=R) (a:=a) (xs:=xs) (bl:=bl)
 have hpsa:=fun a hR=>yP (F:=F) (R:=R) (a:=a) (xs:=xs) (bl:=bl) hF hR
 replace e0:=zhd e0;go_enter Tryz.func81,Tryz.ntmps81;go_upto_if 13 with fail
 show Code.wp _ _ _ _ (w.alloc (.cells (aa F R (some ⟨g,o,none⟩) xs.length c bl ca pa ha fu).toArray 26));generalize w.alloc (.cells (aa F R (some ⟨g,o,none⟩) xs.length c bl ca pa ha fu).toArray 26)=w1 at *;go_cut [3,4]from 11 to 19 (fun uv rv wx=>uv=.int .i64 (upI F bl)∧rv=.int .i64 (rkI R bl)∧Below w1.heap.size w1 wx)
 case first =>
  cases bl
  ·go_wp2_with fail;have m1:=am hA;refine ag (by kernel_rfl) (by kernel_rfl) ?_;repeat(go_big_quiet_step (fail))
   refine wpQuiet_nil ?_;intro w2 hC8;clear m1;go_wp2_with fail;go_meet;exact⟨rfl,rfl,hC8⟩
  ·go_wp2_with fail;go_meet;exact⟨rfl,rfl,Below.refl _ _⟩
 case rest =>
  obtain⟨rfl,rfl,hC8⟩:=hcut;have hA2:=hA.call hC8;have hB2:=zbc hB hC8;have hgl2:g<wc.heap.size:=Nat.lt_of_lt_of_le hgl hC8.size;have hcc2:∀ j,j<xs.length→wc.cell? ⟨g,o+j,none⟩=some (.int .i8 (xs[j]?.getD 0)):=fun j hj=>(hC8.cell (p:=⟨g,o+j,none⟩) hgl).trans (hcc j hj)
  clear hA hB hgl hcc h0 h1 h3 h5 hl0 hC8;have hA:=hA2;have hB:=hB2;have hgl:=hgl2;have hcc:=hcc2;clear hgl2 hcc2;go_wp2_with fail;have hsv:=fun W=>dn F R pa W
  obtain⟨a,ha_⟩:∃ a,a=pa.toNat:=⟨_,rfl⟩;obtain⟨fr,hfr⟩:∃ x,x=frN F a bl:=⟨_,rfl⟩;obtain⟨tg,htg⟩:∃ x,x=toN F a bl:=⟨_,rfl⟩;obtain⟨xa,hxa⟩:∃ x,x=xs[a]?.getD 0:=⟨_,rfl⟩;obtain⟨xf,hxf⟩:∃ x,x=xs[fr]?.getD 0:=⟨_,rfl⟩;obtain⟨xt,hxt⟩:∃ x,x=xs[tg]?.getD 0:=⟨_,rfl⟩;obtain⟨a0,hb0⟩:∃ d,decide ((6:Int)≤(R:Int))=d:=⟨_,rfl⟩;obtain⟨a1,hb1⟩:∃ d,((ha:Int)==0)=d:=⟨_,rfl⟩;obtain⟨a2,hb2⟩:∃ d,sqB F R pa=d:=⟨_,rfl⟩;obtain⟨a3,hb3⟩:∃ d,(((a/F:Nat):Int)==rkI R bl)=d:=⟨_,rfl⟩;obtain⟨a4,hb4⟩:∃ d,((xa:Int)==0)=d:=⟨_,rfl⟩;obtain⟨a5,hb5⟩:∃ d,((xf:Int)==0)=d:=⟨_,rfl⟩;obtain⟨a6,hb6⟩:∃ d,(xt==pcI 1 (!bl))=d:=⟨_,rfl⟩;have e1:Hid (V=(a0&&a1&&a2&&a3&&a4&&a5&&a6)):=zhd (by
   rw[e0.out,hb1,hb2,←ha_,show decide ((R:Int)<6)=!a0 by rw[←hb0];by_cases h:(6:Int)≤R<;>simp[h]<;>omega,Bool.not_not];cases a0
   ·rfl
   cases a3
   ·rw[hpsn a hb3];simp
   ·rw[(hpsa a ⟨by simp at hb0;omega,hR.2⟩ hb3).2.2.2.2,←hxa,←hfr,←htg,←hxf,←hxt,hb4,hb5,hb6];simp[Bool.and_assoc])
  have hpa:a2=true→pa=(a:Int)∧a<xs.length∧a<64:=fun h=>by
   rw[h]at hb2;have hpb:0≤pa∧pa<(F:Int)*R:=by unfold sqB at hb2;simp at hb2;exact hb2.2
   have haF:a<F*R:=by have:=hpb.2;rw[←Int.natCast_mul]at this;omega
   exact⟨by omega,by rw[hlen.out];exact haF,Nat.lt_of_lt_of_le haF (Nat.mul_le_mul hF.2 hR.2)⟩
  have hcla:a2=true→∀ W,Below wc.heap.size wc W→W.cell? ⟨g,o+a,none⟩=some (.int .i8 xa):=fun h W hC=>by rw[hxa];exact(hC.cell (p:=⟨g,o+a,none⟩) hgl).trans (hcc a (hpa h).2.1)
  have hat:a0=true→a2=true→a3=true→IntKind.i64.wrap (pa-upI F bl)=(fr:Nat)∧fr<xs.length∧(∀ W,Below wc.heap.size wc W→W.cell? ⟨g,o+fr,none⟩=some (.int .i8 xf)) ∧
    IntKind.i64.wrap (pa+upI F bl)=(tg:Nat)∧tg<xs.length∧(∀ W,Below wc.heap.size wc W→W.cell? ⟨g,o+tg,none⟩=some (.int .i8 xt)):=fun h0 h2 h3=>by
   rw[h0]at hb0;rw[h3]at hb3;obtain⟨hfl,htl,e2,e3,_⟩:=hpsa a ⟨by simp at hb0;omega,hR.2⟩ hb3;rw[←hlen.out,←hfr]at hfl;rw[←hlen.out,←htg]at htl;rw[(hpa h2).1,hxf,hxt];rw[←hfr]at e2;rw[←htg]at e3;exact⟨e2,hfl,fun W hC=>(hC.cell (p:=⟨g,o+fr,none⟩) hgl).trans (hcc fr hfl),e3,htl,fun W hC=>(hC.cell (p:=⟨g,o+tg,none⟩) hgl).trans (hcc tg htl)⟩
  rw[hb2]at hsv;clear hpsn hpsa e0 hfr htg hxa hxf hxt ha_ hcc;have htd:(a:Int).tdiv (F:Int)=((a/F:Nat):Int):=rfl;have hnq2:a/F≤a:=Nat.div_le_self _ _;generalize a/F=nq at hnq2 hb3 htd;have m1:=am hA;have t1:=ax (w:=wc) (fun W _=>hsv W);have t2:=aJ (w:=wc) (fun W=>dG 1 (!bl) (by decide) W);have rg:=below_regrown wc;cases a0
  ·refine ag (by kernel_rfl) (by kernel_rfl) ?_;repeat(go_big_quiet_step (fail))
   refine wpQuiet_nil ?_;intro W hC;clear m1;go_wp2_with fail;go_ret;exact⟨by rw[e1.out];rfl,zbc hB hC⟩
  ·cases a1
   ·refine ag (by kernel_rfl) (by kernel_rfl) ?_;repeat(go_big_quiet_step (fail))
    refine wpQuiet_nil ?_;intro W hC;clear m1;go_wp2_with fail;go_ret;exact⟨by rw[e1.out];rfl,zbc hB hC⟩
   ·cases a2
    ·refine ag (by kernel_rfl) (by kernel_rfl) ?_;repeat(go_big_quiet_step (first|with_reducible exact t1 _ _|fail))
     refine wpQuiet_nil ?_;intro W hC;clear m1;go_wp2_with fail;go_ret;exact⟨by rw[e1.out];rfl,zbc hB hC⟩
    ·obtain⟨p1,p2,p3⟩:=hpa rfl;subst p1;have s1:IntKind.i64.wrap (nq:Int)=nq:=IntWalk.i64_in _ (by omega);have p4:(a:Int)<xs.length:=by omega
     have m2:∀ d os,(grow (redrawn wc d) os).cell? ⟨g,o+a,none⟩=some (.int .i8 xa):=fun d os=>hcla rfl _ (rg d os)
     cases a3
     ·refine ag (by kernel_rfl) (by kernel_rfl) ?_;repeat(go_big_quiet_step (first|with_reducible exact t1 _ _|fail))
      refine wpQuiet_nil ?_;intro W hC;clear m1;go_wp2_with fail;go_ret;exact⟨by rw[e1.out];rfl,zbc hB hC⟩
     ·obtain⟨f1,f2,f3,f4,f5,f6⟩:=hat rfl rfl rfl;have f2':(fr:Int)<xs.length:=by omega
      have f5':(tg:Int)<xs.length:=by omega
      have m3:∀ d os,(grow (redrawn wc d) os).cell? ⟨g,o+fr,none⟩=some (.int .i8 xf):=fun d os=>f3 _ (rg d os)
      have m4:∀ d os,(grow (redrawn wc d) os).cell? ⟨g,o+tg,none⟩=some (.int .i8 xt):=fun d os=>f6 _ (rg d os)
      cases a4
      ·refine ag (by kernel_rfl) (by kernel_rfl) ?_;repeat(go_big_quiet_step (first|with_reducible exact t1 _ _|fail))
       refine wpQuiet_nil ?_;intro W hC;clear m1;go_wp2_with fail;go_ret;exact⟨by rw[e1.out];rfl,zbc hB hC⟩
      ·cases a5
       ·refine ag (by kernel_rfl) (by kernel_rfl) ?_;repeat(go_big_quiet_step (first|with_reducible exact t1 _ _|fail))
        refine wpQuiet_nil ?_;intro W hC;clear m1;go_wp2_with fail;go_ret;exact⟨by rw[e1.out];rfl,zbc hB hC⟩
       ·refine ag (by kernel_rfl) (by kernel_rfl) ?_;repeat(go_big_quiet_step (first|with_reducible exact t1 _ _|with_reducible exact t2 _ _|fail))
        refine wpQuiet_nil ?_;intro W hC;clear m1;go_wp2_with fail;go_ret;exact⟨by rw[e1.out];rfl,zbc hB hC⟩
end Go.Proofs.YtefmplccbkmalaaGreatDoor
namespace Go.Proofs.YtefmplccbkmalaaGreatDoor
open Go.RowKit

theorem zb(f r ca pa ha fu:Int)(bl:Bool)(p:Option Addr)(c:Nat)(xs:List Int)(q:Nat)(w:World)(hq:ac w q (.cells (aa f r p xs.length c bl ca pa ha fu).toArray 26 (0,0)))(hx:Arr .i8 w p xs):
  Clz 72 #[.pointer (some ⟨q,0,none⟩)] w fun e w'=>e=.returned (.bool (aL f r xs))∧Below w.heap.size w w':=by
 have h0:=hq.cells 0;have h1:=hq.cells 1;have h2:=hq.cells 2;have hl:=hq.lt;go_enter Tryz.func72,Tryz.ntmps72;go_wp2_with fail;refine(iM f r p c xs _ hx).mono ?_;rintro e w2 ⟨rfl,hb2⟩;go_wp2_with fail;go_ret;exact⟨rfl,hb2⟩
theorem zK(f r ca pa ha fu:Int)(bl:Bool)(p:Option Addr)(c:Nat)(xs:List Int)(q:Nat)(w:World)(hq:ac w q (.cells (aa f r p xs.length c bl ca pa ha fu).toArray 26 (0,0)))(hg:bq w)(hx:Arr .i8 w p xs)(hl:xs.length≤1000)(hcap:xs.length≤c):
  Clz 74 #[.pointer (some ⟨q,0,none⟩)] w fun e w'=>e=.returned (.bool (cJ f r xs bl))∧Below w.heap.size w w':=by
 have⟨hc,hl0⟩:=hq.cl;go_enter Tryz.func74,Tryz.ntmps74;go_wp2_with fail;refine(ug f r ca pa ha fu bl p c xs _ hg hx hl hcap).mono ?_;rintro e w2 ⟨rfl,hb2⟩;go_wp2_with fail;go_ret;exact⟨rfl,hb2⟩
theorem yR(F R:Nat)(ca pa ha fu:Int)(bl:Bool)(p:Option Addr)(c:Nat)(xs:List Int)(q:Nat)(w:World)(hq:ac w q (.cells (aa F R p xs.length c bl ca pa ha fu).toArray 26 (0,0)))(hF:3≤F∧F≤8)(hFl:F<xs.length)(hx:Arr .i8 w p xs)(hl:xs.length≤1000)(hcap:xs.length≤c):
  Clz 76 #[.pointer (some ⟨q,0,none⟩)] w fun e w'=>e=.returned (.bool (dw F xs))∧Below w.heap.size w w':=by
 have⟨hc,hl0⟩:=hq.cl;go_enter Tryz.func76,Tryz.ntmps76;go_wp2_with fail;refine(tV F R ca pa ha fu bl p c xs hF hl hcap hFl _ hx).mono ?_;rintro e w2 ⟨rfl,hb2⟩;go_wp2_with fail;go_ret;exact⟨rfl,hb2⟩
theorem y8(F R:Nat)(ca pa ha fu:Int)(bl:Bool)(p:Option Addr)(c:Nat)(xs:List Int)(q:Nat)(w:World)(hq:ac w q (.cells (aa F R p xs.length c bl ca pa ha fu).toArray 26 (0,0)))(hlen:Hid (xs.length=F*R))(hpos:0<xs.length)(hca:0≤ca∧ca<256)(hg:bq w)(hx:Arr .i8 w p xs):
  Clz 78 #[.pointer (some ⟨q,0,none⟩)] w fun e w'=>e=.returned (.bool (cstB F R xs ca))∧Below w.heap.size w w':=by
 have⟨hc,hl0⟩:=hq.cl;go_enter Tryz.func78,Tryz.ntmps78;go_wp2_with fail;refine(p8 F R ca pa ha fu bl p c xs hlen.out hpos hca _ hg hx).mono ?_;rintro e w2 ⟨rfl,hb2⟩;go_wp2_with fail;go_ret;exact⟨rfl,hb2⟩
theorem yY(F R:Nat)(ca pa ha fu:Int)(bl:Bool)(p:Option Addr)(c:Nat)(xs:List Int)(q:Nat)(w:World)(hq:ac w q (.cells (aa F R p xs.length c bl ca pa ha fu).toArray 26 (0,0)))(hF:3≤F∧F≤8)(hR:3≤R∧R≤8)(hlen:Hid (xs.length=F*R))(hpos:0<xs.length)(hx:Arr .i8 w p xs):
  Clz 80 #[.pointer (some ⟨q,0,none⟩)] w fun e w'=>e=.returned (.bool (passB F R xs bl pa ha))∧Below w.heap.size w w':=by
 have⟨hc,hl0⟩:=hq.cl;go_enter Tryz.func80,Tryz.ntmps80;go_wp2_with fail;refine(pP F R ca pa ha fu bl p c xs hF hR hlen.out hpos _ hx).mono ?_;rintro e w2 ⟨rfl,hb2⟩;go_wp2_with fail;go_ret;exact⟨rfl,hb2⟩
def gJ(ha fu:Int):Bool:=decide (0≤ha)&&(decide (ha≤10000)&&(decide (1≤fu)&&decide (fu≤10000)))
theorem zk(f r ca pa ha fu:Int)(bl:Bool)(p:Option Addr)(n c:Nat)(q:Nat)(w:World)(hq:ac w q (.cells (aa f r p n c bl ca pa ha fu).toArray 26 (0,0))):
  Clz 82 #[.pointer (some ⟨q,0,none⟩)] w fun e w'=>e=.returned (.bool (gJ ha fu))∧Below w.heap.size w w':=by
 have h0:=hq.cells 6;have h1:=hq.cells 7;have hl0:=hq.lt;by_cases z1:0≤ha<;>by_cases z2:ha≤10000<;>by_cases z3:1≤fu<;>by_cases z4:fu≤10000
 all_goals first
  | (exfalso;omega)
  | (go_enter Tryz.func82,Tryz.ntmps82
     go_wp2_with fail
     go_ret
     exact⟨aV (by simp[gJ,z1,z2,z3,z4]),Below.refl _ _⟩)
def cnd(f r:Int)(xs:List Int)(bl:Bool)(ca pa ha fu:Int):Nat→Bool
 | 0=>aL f r xs
 | 1=>cJ f r xs bl
 | 2=>dw f.toNat xs
 | 3=>cstB f r xs ca
 | 4=>passB f.toNat r.toNat xs bl pa ha
 | _=>gJ ha fu
def cndA(f r:Int)(xs:List Int)(bl:Bool)(ca pa ha fu:Int):Nat→Bool
 | 0=>true
 | k+1=>cndA f r xs bl ca pa ha fu k&&cnd f r xs bl ca pa ha fu k
def pvW(f r:Int)(xs:List Int)(bl:Bool)(ca pa ha fu:Int):Bool:=cndA f r xs bl ca pa ha fu 6
theorem xF{f r:Int}{xs:List Int}{bl:Bool}{ca pa ha fu:Int}{k:Nat}(h:cndA f r xs bl ca pa ha fu k=false):∀ n,cndA f r xs bl ca pa ha fu (k+n)=false:=by
 intro n;induction n with
 | zero=>exact h
 | succ n ih=>rw[←Nat.add_assoc];simp only[cndA,ih];rfl
theorem sX{f r:Int}{xs:List Int}(h:aL f r xs=true):∃ F R:Nat,f=F∧r=R∧(3≤F∧F≤8)∧(3≤R∧R≤8)∧xs.length=F*R∧F<xs.length:=by
 obtain⟨h1,h2,_⟩:=cK h;have h3:(3≤f∧f≤8)∧(3≤r∧r≤8):=by unfold bR sideB at h1;simp at h1;exact h1
 obtain⟨F,rfl⟩:∃ F:Nat,f=F:=⟨f.toNat,by omega⟩;obtain⟨R,rfl⟩:∃ R:Nat,r=R:=⟨r.toNat,by omega⟩;have h4:xs.length=F*R:=by rw[←Int.natCast_mul]at h2;omega
 have h5:F*3≤F*R:=Nat.mul_le_mul_left F (by omega);exact⟨F,R,rfl,rfl,by omega,by omega,h4,by omega⟩
theorem cA(f r ca pa ha fu:Int)(bl:Bool)(p:Option Addr)(c:Nat)(xs:List Int)(hca:0≤ca∧ca<256)(hl:xs.length≤1000)(hcap:xs.length≤c)(w:World)(hg:bq w)(hx:Arr .i8 w p xs):
  Clz 27 #[.agg (aa f r p xs.length c bl ca pa ha fu).toArray] w fun e w'=>e=.returned (.bool (pvW f r xs bl ca pa ha fu))∧Below w.heap.size w w':=by
 have hA:=ac.new w (.cells (aa f r p xs.length c bl ca pa ha fu).toArray 26);have hB:=ae w (.cells (aa f r p xs.length c bl ca pa ha fu).toArray 26);have hx1:=hx.call hB;have hg1:=hg.call hB;have hcs:∀ k,cndA f r xs bl ca pa ha fu (k+1)=(cndA f r xs bl ca pa ha fu k&&cnd f r xs bl ca pa ha fu k):=fun _=>rfl
 have hV0:pvW f r xs bl ca pa ha fu=cndA f r xs bl ca pa ha fu 6:=rfl;obtain⟨V,hV⟩:∃ V,V=pvW f r xs bl ca pa ha fu:=⟨_,rfl⟩;rw[←hV]at hV0 ⊢;clear hV;have hle:=fun k=>xF (f:=f) (r:=r) (xs:=xs) (bl:=bl) (ca:=ca) (pa:=pa) (ha:=ha) (fu:=fu) (k:=k)
 have hcd:cnd f r xs bl ca pa ha fu 0=aL f r xs∧cnd f r xs bl ca pa ha fu 1=cJ f r xs bl∧cnd f r xs bl ca pa ha fu 2=dw f.toNat xs∧cnd f r xs bl ca pa ha fu 3=cstB f r xs ca∧cnd f r xs bl ca pa ha fu 4=passB f.toNat r.toNat xs bl pa ha∧cnd f r xs bl ca pa ha fu 5=gJ ha fu:=⟨rfl,rfl,rfl,rfl,rfl,rfl⟩;have hc1:cndA f r xs bl ca pa ha fu 1=true→aL f r xs=true:=fun h=>by rw[hcs 0,hcd.1]at h;simp only[Bool.and_eq_true]at h;exact h.2
 have hc2:∀ k,cndA f r xs bl ca pa ha fu (k+1)=true→aL f r xs=true:=by
  intro k;induction k with
  | zero=>exact hc1
  | succ k ih=>intro h;rw[hcs (k+1)]at h;simp only[Bool.and_eq_true]at h;exact ih h.1
 clear hc1;have hz:cndA f r xs bl ca pa ha fu 0=true:=rfl;generalize cndA f r xs bl ca pa ha fu=CA at *;have hbz:=fun(h:aL f r xs=true)=>sX h
 have k1:=fun q W hq hx=>zb f r ca pa ha fu bl p c xs q W hq hx
 have k2:=fun q W hq hg hx=>zK f r ca pa ha fu bl p c xs q W hq hg hx hl hcap
 have k3:aL f r xs=true→∀ q W,ac W q (.cells (aa f r p xs.length c bl ca pa ha fu).toArray 26 (0,0))→Arr .i8 W p xs→Clz 76 #[.pointer (some ⟨q,0,none⟩)] W fun e w'=>e=.returned (.bool (cnd f r xs bl ca pa ha fu 2))∧Below W.heap.size W w':=by intro h q W hq hx;obtain⟨F,R,rfl,rfl,hF,hR,hlen,hFl⟩:=hbz h;exact yR F R ca pa ha fu bl p c xs q W hq hF hFl hx hl hcap
 have k4:aL f r xs=true→∀ q W,ac W q (.cells (aa f r p xs.length c bl ca pa ha fu).toArray 26 (0,0))→bq W→Arr .i8 W p xs→Clz 78 #[.pointer (some ⟨q,0,none⟩)] W fun e w'=>e=.returned (.bool (cnd f r xs bl ca pa ha fu 3))∧Below W.heap.size W w':=by intro h q W hq hg hx;obtain⟨F,R,rfl,rfl,hF,hR,hlen,hFl⟩:=hbz h;exact y8 F R ca pa ha fu bl p c xs q W hq (zhd hlen) (by omega) hca hg hx
 have k5:aL f r xs=true→∀ q W,ac W q (.cells (aa f r p xs.length c bl ca pa ha fu).toArray 26 (0,0))→Arr .i8 W p xs→Clz 80 #[.pointer (some ⟨q,0,none⟩)] W fun e w'=>e=.returned (.bool (cnd f r xs bl ca pa ha fu 4))∧Below W.heap.size W w':=by intro h q W hq hx;obtain⟨F,R,rfl,rfl,hF,hR,hlen,hFl⟩:=hbz h;exact yY F R ca pa ha fu bl p c xs q W hq hF hR (zhd hlen) (by omega) hx
 have k6:=fun q W hq=>zk f r ca pa ha fu bl p xs.length c q W hq
 obtain⟨d0,d1,d2,d3,d4,d5⟩:=hcd;rw[←d0]at k1;rw[←d1]at k2;rw[←d5]at k6;clear d0 d1 d2 d3 d4 d5 hbz;generalize cnd f r xs bl ca pa ha fu=CD at *;replace hV0:=zhd hV0;replace hz:=zhd hz;go_enter Tryz.func27,Tryz.ntmps27;go_wp2_with fail;show Code.wp _ _ _ _ ((w.alloc (.cells (aa f r p xs.length c bl ca pa ha fu).toArray 26)).alloc (.cells #[.func (.func 72) #[] #[.pointer (some ⟨w.heap.size,0,none⟩)],.func (.func 74) #[] #[.pointer (some ⟨w.heap.size,0,none⟩)],.func (.func 76) #[] #[.pointer (some ⟨w.heap.size,0,none⟩)],.func (.func 78) #[] #[.pointer (some ⟨w.heap.size,0,none⟩)],.func (.func 80) #[] #[.pointer (some ⟨w.heap.size,0,none⟩)],.func (.func 82) #[] #[.pointer (some ⟨w.heap.size,0,none⟩)]] 28));have hb2:=ae (w.alloc (.cells (aa f r p xs.length c bl ca pa ha fu).toArray 26)) (.cells #[.func (.func 72) #[] #[.pointer (some ⟨w.heap.size,0,none⟩)],.func (.func 74) #[] #[.pointer (some ⟨w.heap.size,0,none⟩)],.func (.func 76) #[] #[.pointer (some ⟨w.heap.size,0,none⟩)],.func (.func 78) #[] #[.pointer (some ⟨w.heap.size,0,none⟩)],.func (.func 80) #[] #[.pointer (some ⟨w.heap.size,0,none⟩)],.func (.func 82) #[] #[.pointer (some ⟨w.heap.size,0,none⟩)]] 28);have hT:=ac.new' (w.alloc (.cells (aa f r p xs.length c bl ca pa ha fu).toArray 26)) (.cells #[.func (.func 72) #[] #[.pointer (some ⟨w.heap.size,0,none⟩)],.func (.func 74) #[] #[.pointer (some ⟨w.heap.size,0,none⟩)],.func (.func 76) #[] #[.pointer (some ⟨w.heap.size,0,none⟩)],.func (.func 78) #[] #[.pointer (some ⟨w.heap.size,0,none⟩)],.func (.func 80) #[] #[.pointer (some ⟨w.heap.size,0,none⟩)],.func (.func 82) #[] #[.pointer (some ⟨w.heap.size,0,none⟩)]] 28) (q:=w.heap.size+1) (by simp);have hA2:=hA.call hb2;have hB2:=zbc hB hb2;have hx2:=hx1.call hb2;have hg2:=hg1.call hb2;clear hA hB hx1 hg1 hx hg;generalize (w.alloc (.cells (aa f r p xs.length c bl ca pa ha fu).toArray 26)).alloc (.cells #[.func (.func 72) #[] #[.pointer (some ⟨w.heap.size,0,none⟩)],.func (.func 74) #[] #[.pointer (some ⟨w.heap.size,0,none⟩)],.func (.func 76) #[] #[.pointer (some ⟨w.heap.size,0,none⟩)],.func (.func 78) #[] #[.pointer (some ⟨w.heap.size,0,none⟩)],.func (.func 80) #[] #[.pointer (some ⟨w.heap.size,0,none⟩)],.func (.func 82) #[] #[.pointer (some ⟨w.heap.size,0,none⟩)]] 28)=w2 at *;go_loopg [15] 7 (fun q iv wr=>∃ i:Nat,q+i=7∧i≤6∧iv=.int .i64 i∧CA i=true∧Below w2.heap.size w2 wr)
 case atStart=>exact⟨0,rfl,Nat.zero_le _,rfl,hz.out,Below.refl _ _⟩
 case round =>
  obtain⟨i,hq,hi,rfl,hok,hbr⟩:=hrel;have hAr:=hA2.call hbr;have hBr:=zbc hB2 hbr;have hxr:=hx2.call hbr;have hgr:=hg2.call hbr;have hTr:=hT.call hbr;have hlr:=hTr.lt;replace hok:=zhd hok;by_cases hlt:i<6
  ·have hnx:=hcs i;rw[hok.out,Bool.true_and]at hnx;have hlei:=hle (i+1);replace hnx:=zhd hnx;rcases(by omega:i=0∨i=1∨i=2∨i=3∨i=4∨i=5)with rfl|rfl|rfl|rfl|rfl|rfl
   ·have hci:=hTr.cells 0;have hcall:=k1 _ _ hAr hxr;clear k1 k2 k3 k4 k5 k6;go_wp2_with fail;refine hcall.mono ?_;rintro e w3 ⟨rfl,hb3⟩;have hb4:=zbc hbr hb3;have hB4:=zbc hBr hb3;clear hcall;rcases hd:CD 0 with _|_
    ·have e0:Hid (V=false):=zhd (by rw[hV0.out];exact hlei (by rw[hnx.out];exact hd) 5);go_wp2_with fail;go_ret;exact⟨by rw[e0.out];rfl,hB4⟩
    ·have e1:Hid (CA (0+1)=true):=zhd (by rw[hnx.out];exact hd);go_wp2_with fail;go_roundg (gk-1)
     case measure=>omega
     case rel=>exact⟨0+1,by omega,by omega,by go_num,e1.out,hb4⟩
   ·have hci:=hTr.cells 1;have hcall:=k2 _ _ hAr hgr hxr;clear k1 k2 k3 k4 k5 k6;go_wp2_with fail;refine hcall.mono ?_;rintro e w3 ⟨rfl,hb3⟩;have hb4:=zbc hbr hb3;have hB4:=zbc hBr hb3;clear hcall;rcases hd:CD 1 with _|_
    ·have e0:Hid (V=false):=zhd (by rw[hV0.out];exact hlei (by rw[hnx.out];exact hd) 4);go_wp2_with fail;go_ret;exact⟨by rw[e0.out];rfl,hB4⟩
    ·have e1:Hid (CA (1+1)=true):=zhd (by rw[hnx.out];exact hd);go_wp2_with fail;go_roundg (gk-1)
     case measure=>omega
     case rel=>exact⟨1+1,by omega,by omega,by go_num,e1.out,hb4⟩
   ·have hci:=hTr.cells 2;have hcall:=k3 (hc2 1 hok.out) _ _ hAr hxr;clear k1 k2 k3 k4 k5 k6;go_wp2_with fail;refine hcall.mono ?_;rintro e w3 ⟨rfl,hb3⟩;have hb4:=zbc hbr hb3;have hB4:=zbc hBr hb3;clear hcall;rcases hd:CD 2 with _|_
    ·have e0:Hid (V=false):=zhd (by rw[hV0.out];exact hlei (by rw[hnx.out];exact hd) 3);go_wp2_with fail;go_ret;exact⟨by rw[e0.out];rfl,hB4⟩
    ·have e1:Hid (CA (2+1)=true):=zhd (by rw[hnx.out];exact hd);go_wp2_with fail;go_roundg (gk-1)
     case measure=>omega
     case rel=>exact⟨2+1,by omega,by omega,by go_num,e1.out,hb4⟩
   ·have hci:=hTr.cells 3;have hcall:=k4 (hc2 2 hok.out) _ _ hAr hgr hxr;clear k1 k2 k3 k4 k5 k6;go_wp2_with fail;refine hcall.mono ?_;rintro e w3 ⟨rfl,hb3⟩;have hb4:=zbc hbr hb3;have hB4:=zbc hBr hb3;clear hcall;rcases hd:CD 3 with _|_
    ·have e0:Hid (V=false):=zhd (by rw[hV0.out];exact hlei (by rw[hnx.out];exact hd) 2);go_wp2_with fail;go_ret;exact⟨by rw[e0.out];rfl,hB4⟩
    ·have e1:Hid (CA (3+1)=true):=zhd (by rw[hnx.out];exact hd);go_wp2_with fail;go_roundg (gk-1)
     case measure=>omega
     case rel=>exact⟨3+1,by omega,by omega,by go_num,e1.out,hb4⟩
   ·have hci:=hTr.cells 4;have hcall:=k5 (hc2 3 hok.out) _ _ hAr hxr;clear k1 k2 k3 k4 k5 k6;go_wp2_with fail;refine hcall.mono ?_;rintro e w3 ⟨rfl,hb3⟩;have hb4:=zbc hbr hb3;have hB4:=zbc hBr hb3;clear hcall;rcases hd:CD 4 with _|_
    ·have e0:Hid (V=false):=zhd (by rw[hV0.out];exact hlei (by rw[hnx.out];exact hd) 1);go_wp2_with fail;go_ret;exact⟨by rw[e0.out];rfl,hB4⟩
    ·have e1:Hid (CA (4+1)=true):=zhd (by rw[hnx.out];exact hd);go_wp2_with fail;go_roundg (gk-1)
     case measure=>omega
     case rel=>exact⟨4+1,by omega,by omega,by go_num,e1.out,hb4⟩
   ·have hci:=hTr.cells 5;have hcall:=k6 _ _ hAr;clear k1 k2 k3 k4 k5 k6;go_wp2_with fail;refine hcall.mono ?_;rintro e w3 ⟨rfl,hb3⟩;have hb4:=zbc hbr hb3;have hB4:=zbc hBr hb3;clear hcall;rcases hd:CD 5 with _|_
    ·have e0:Hid (V=false):=zhd (by rw[hV0.out];exact hlei (by rw[hnx.out];exact hd) 0);go_wp2_with fail;go_ret;exact⟨by rw[e0.out];rfl,hB4⟩
    ·have e1:Hid (CA (5+1)=true):=zhd (by rw[hnx.out];exact hd);go_wp2_with fail;go_roundg (gk-1)
     case measure=>omega
     case rel=>exact⟨5+1,by omega,by omega,by go_num,e1.out,hb4⟩
  ·have hn:¬(i:Int)<6:=by omega
   obtain rfl:i=6:=by omega
   have e0:Hid (V=true):=zhd (by rw[hV0.out];exact hok.out);go_wp2_with fail;go_ret;exact⟨by rw[e0.out];rfl,hBr⟩
structure Pos where
 F:Nat
 R:Nat
 xs:List Int
 bl:Bool
 ca:Int
 pa:Int
 ha:Int
 fu:Int
 deriving DecidableEq
structure Mv where
 fr:Int
 tg:Int
 pr:Int
 deriving DecidableEq
structure Ret where
 mv:Mv
 cp:Int
 at_:Int
 ca:Int
 pa:Int
 deriving DecidableEq
structure Und where
 mv:Mv
 cp:Int
 at_:Int
 ca:Int
 pa:Int
 ha:Int
 fu:Int
 deriving DecidableEq
abbrev Mv.cs(m:Mv):List Value:=[.int .i64 m.fr,.int .i64 m.tg,.int .i8 m.pr]
abbrev Ret.cs(r:Ret):List Value:=r.mv.cs++[.int .i8 r.cp,.int .i64 r.at_,.int .u8 r.ca,.int .i64 r.pa]
abbrev Und.cs(u:Und):List Value:=u.mv.cs++[.int .i8 u.cp,.int .i64 u.at_,.int .u8 u.ca,.int .i64 u.pa,.int .i64 u.ha,.int .i64 u.fu]
def mvB(F R:Int)(m:Mv):Bool:=sqB F R m.fr&&(sqB F R m.tg&&(decide (m.fr≠m.tg)&&(decide (m.pr=0)||(decide (2≤m.pr)&&decide (m.pr≤5)))))
structure Cas where
 bit:Nat
 bl:Bool
 fr:Nat
 tg:Nat
 co:Nat
 cr:Nat
 deriving DecidableEq
def az:List Cas:=[⟨1,false,4,6,7,5⟩,⟨2,false,4,2,0,3⟩,⟨4,true,60,62,63,61⟩,⟨8,true,60,58,56,59⟩]
def isW(x:Int)(bl:Bool):Bool:=if bl then decide (x<0)else decide (0<x)
def Pos.at_(p:Pos)(k:Int):Int:=p.xs[k.toNat]?.getD 0
def Pos.occ(p:Pos):Nat:=setW gNon p.xs p.xs.length
def iX(b:Int):List Int→Nat→Nat
 | [],S=>S
 | x::r,S=>if x=b then S else iX b r (S|||2^x.toNat)
def sgn3(n:Int):Int:=if n<0 then -1 else if 0<n then 1 else 0
def btwW(F R a b:Nat):Nat:=iX b (rayL F R a (sgn3 (((b%F:Nat):Int)-(a%F:Nat))) (sgn3 (((b/F:Nat):Int)-(a/F:Nat))) 8 1) 0
def casW(p:Pos)(m:Mv):List Cas→Option Cas×Bool
 | []=>(none,false)
 | c::l=>if c.bl≠p.bl∨p.ca.toNat&&&c.bit=0∨(c.fr:Int)≠m.fr∨(c.tg:Int)≠m.tg then casW p m l else(some c,decide (btwW p.F p.R c.fr c.co&&&p.occ=0))
def castW(p:Pos)(m:Mv):Option Cas×Bool:=if kindI (p.at_ m.fr)≠6 then(none,false)else casW p m az
def stpW(F R:Nat)(bl:Bool)(a oc:Nat):Nat :=
 let one:=leapW F R a [(0,sdI bl)] 1&&&(2^64-1-oc)
 if one=0∨R<6∨((a/F:Nat):Int)≠(if bl then(R:Int)-2 else 1)then one else one|||(leapW F R a [(0,2*sdI bl)] 1&&&(2^64-1-oc))
def goesW(p:Pos)(m:Mv):Bool :=
 let own:=p.at_ m.fr
 if kindI own≠1 then decide (m.pr=0)&&(reachW p.F p.R m.fr.toNat p.occ (kindI own)).testBit m.tg.toNat
 else
  let atk:=if p.at_ m.tg=0∧m.tg≠p.pa then 0 else leapW p.F p.R m.fr.toNat (pwnL p.bl) 2
  (stpW p.F p.R p.bl m.fr.toNat p.occ|||atk).testBit m.tg.toNat&&(decide (m.pr≠0)==decide (((m.tg.toNat/p.F:Nat):Int)=(if p.bl then 0 else(p.R:Int)-1)))
def chkS(F R:Nat)(xs:List Int)(bl:Bool):Nat:=if aF F R xs then(if kgI xs bl<0 then 0 else chkW F R xs bl)else 0
def orK(f:Cas→Bool):Nat→Nat
 | 0=>0
 | k+1=>match az[k]? with
  | some c=>if f c then orK f k|||c.bit else orK f k
  | none=>orK f k
def lostW(a:Int):Nat:=orK (fun c=>decide ((c.fr:Int)=a)||decide ((c.co:Int)=a)) 4
def lostM(m:Mv):Nat:=orK (fun c=>decide (m.fr=c.fr)||(decide (m.fr=c.co)||(decide (m.tg=c.fr)||decide (m.tg=c.co)))) 4
def clrN(a b:Nat):Nat:=a&&&(255-b)
def Pos.ok(p:Pos):Bool:=pvW p.F p.R p.xs p.bl p.ca p.pa p.ha p.fu
def bL(p:Pos)(m:Mv):Int×Int :=
 let at0:=if kindI (p.at_ m.fr)=1∧m.tg=p.pa then m.fr-m.fr%p.F+m.tg%p.F else m.tg
 let cp:=p.at_ at0
 (if cp=0 then -1 else at0,cp)
def brdW(p:Pos)(m:Mv)(cs:Option Cas):List Int :=
 let own:=p.at_ m.fr
 let at0:=(bL p m).1
 let x1:=if 0≤at0 then p.xs.set at0.toNat 0 else p.xs
 let x2:=(x1.set m.fr.toNat 0).set m.tg.toNat own
 if m.pr≠0 then x2.set m.tg.toNat (if p.bl then -m.pr else m.pr)
 else match cs with
  | some c=>(x2.set c.cr (x2[c.co]?.getD 0)).set c.co 0
  | none=>x2
def dU(p:Pos)(m:Mv)(cs:Option Cas):Pos :=
 let own:=p.at_ m.fr
 let up:=m.tg-m.fr
 {F:=p.F,R:=p.R,xs:=brdW p m cs,bl:=!p.bl,ca:=(clrN p.ca.toNat (lostW m.fr|||lostW m.tg):Nat),
  pa:=if kindI own=1∧(up=2*p.F∨up=-(2*p.F))then m.fr+up/2 else -1,
  ha:=if kindI own=1∨(bL p m).2≠0 then 0 else p.ha+1,fu:=if p.bl then p.fu+1 else p.fu}
def eT(p:Pos)(m:Mv):Und:=⟨m,(bL p m).2,(bL p m).1,p.ca,p.pa,p.ha,p.fu⟩
def mkW(p:Pos)(m:Mv):Except Int (Pos×Und) :=
 if(p.ok&&mvB p.F p.R m)=false then .error 2
 else if isW (p.at_ m.fr) p.bl=false then .error 9
 else
  let cs:=castW p m
  let go:=goesW p m
  if(isW (p.at_ m.tg) p.bl||(!go&&(!cs.2||decide (m.pr≠0))))=true then .error 10
  else
   let way:Option Cas:=if cs.2&&!go then cs.1 else none
   let out:=dU p m way
   if decide (chkS p.F p.R out.xs p.bl≠0)||(way.isSome&&(decide (chkS p.F p.R p.xs p.bl≠0)||decide (atrW p.F p.R (setW gNon p.xs p.xs.length) p.xs ((way.map Cas.cr).getD 0) (!p.bl) p.xs.length≠0)))then .error 90
   else if 10000<out.ha∨10000<out.fu then .error 7
   else .ok (out,eT p m)
def befW(p:Pos)(r:Ret):Pos :=
 let side:=!p.bl
 let own:=if r.mv.pr≠0 then pcI 1 side else p.at_ r.mv.tg
 let x1:=(p.xs.set r.mv.tg.toNat 0).set r.mv.fr.toNat own
 let x2:=az.foldl (fun x c=>if p.F=8∧p.R=8∧own=pcI 6 side∧c.bl=side∧(c.fr:Int)=r.mv.fr∧(c.tg:Int)=r.mv.tg then(x.set c.co (x[c.cr]?.getD 0)).set c.cr 0 else x) x1
 let x3:=if 0≤r.at_∧r.at_<x2.length then x2.set r.at_.toNat r.cp else x2
 {F:=p.F,R:=p.R,xs:=x3,bl:=side,ca:=r.ca,pa:=r.pa,ha:=max 0 (p.ha-1),fu:=if side then p.fu-1 else p.fu}
def mayW(p:Pos)(r:Ret):Bool :=
 match mkW (befW p r) r.mv with
 | .ok (q,u)=>decide (q=p)&&(decide (u.cp=r.cp)&&decide (u.at_=r.at_))
 | .error _=>false
theorem yG(a F:Nat)(ha:a<1000):wrap64 ((a:Int)/F)=((a/F:Nat):Int):=by have h1:a/F≤a:=Nat.div_le_self _ _;rw[←Int.natCast_ediv];generalize a/F=K at *;exact IntWalk.wrap64_in _ (by omega)
theorem eI(x:Int)(hx:-128<x∧x≤127)(w:World):Clz 64 #[.int .i8 x] w fun e w'=>e=.returned (.int .i8 (kindI x))∧w=w':=by
 have hn:IntKind.i8.wrap (-x)=-x:=dj (by omega) (by omega);have hk:kindI x=max x (-x):=by unfold kindI;split<;>omega
 rw[hk];go_enter Tryz.func64,Tryz.ntmps64;go_wp2
 go_ret;exact⟨rfl,rfl⟩
theorem kC(x:Int)(hx:-128<x∧x≤127)(w:World):Clz 30 #[.int .i8 x] w fun e w'=>e=.returned (.int .i8 (kindI x))∧w=w':=by
 have hn:IntKind.i8.wrap (-x)=-x:=dj (by omega) (by omega);have hk:kindI x=max x (-x):=by unfold kindI;split<;>omega
 rw[hk];go_enter Tryz.func30,Tryz.ntmps30;go_wp2
 go_ret;exact⟨rfl,rfl⟩
theorem fS(k:Int)(bl:Bool)(hk:-128<k∧k≤127)(w:World):Clz 92 #[.int .i8 k,.bool bl] w fun e w'=>e=.returned (.int .i8 (pcI k bl))∧w=w':=by
 have hn:IntKind.i8.wrap (-k)=-k:=dj (by omega) (by omega);cases bl
 all_goals
  go_enter Tryz.func92,Tryz.ntmps92;go_wp2
  go_ret;exact⟨rfl,rfl⟩
theorem qU(x:Int)(bl:Bool)(w:World):Clz 61 #[.int .i8 x,.bool bl] w fun e w'=>e=.returned (.bool (isW x bl))∧w=w':=by
 by_cases h1:x<0<;>by_cases h2:0<x<;>cases bl
 all_goals first
  | (exfalso;omega)
  | (go_enter Tryz.func61,Tryz.ntmps61
     go_wp2
     go_ret
     exact⟨aV (by simp[isW,h1,h2]),rfl⟩)
def noP(e:Int):List PanicEntry:=[{v:=.iface 31 (.int .i64 e),recovered:=false}]
theorem dC(e:Int)(w:World):Clz 60 #[.bool false,.int .i64 e] w fun r w'=>r=.returned (.tuple #[])∧w=w':=by
 go_enter Tryz.func60,Tryz.ntmps60;go_wp2
 go_end0
 exact⟨rfl,rfl⟩
theorem bT(e:Int)(w:World):Clz 60 #[.bool true,.int .i64 e] w fun r w'=>r=.panicked (noP e)∧w=w':=by
 go_enter Tryz.func60,Tryz.ntmps60;go_wp2
 exact⟨rfl,rfl,rfl⟩
theorem qt(f r ca pa ha fu:Int)(bl:Bool)(p:Option Addr)(c:Nat)(xs:List Int)(w:World)(hx:Arr .i8 w p xs)(hok:aL f r xs=true):
  Clz 119 #[.agg (aa f r p xs.length c bl ca pa ha fu).toArray] w fun e w'=>e=.returned (.int .u64 (setW gNon xs xs.length:Nat))∧Below w.heap.size w w':=by
 obtain⟨hs1,hlen,_⟩:=cK hok;have hm:=cM hs1;have hl:xs.length≤64:=by omega
 have hB:=ae w (.cells (aa f r p xs.length c bl ca pa ha fu).toArray 26);have hx1:=hx.call hB;have hs:=fun W h=>jj f r p c xs W h hok
 have e1:Hid (bits .or .u64 (setW gPos xs xs.length:Nat) (setW gNeg xs xs.length:Nat)=((setW gNon xs xs.length:Nat):Int)):=zhd (by
  rw[u64_or_nat _ _ (ek _ _ hl) (ek _ _ hl),lR])
 clear hs1 hlen hm;go_enter Tryz.func119,Tryz.ntmps119;go_wp2_with fail;refine(hs _ hx1).mono ?_;rintro e w2 ⟨rfl,hb2⟩;go_wp2_with fail;go_ret;exact⟨by rw[←e1.out];rfl,zbc hB hb2⟩
theorem xw(F R:Nat)(xs:List Int)(cl:Bool):∃ e,chkV F R xs cl=.tuple #[.int .u64 (chkS F R xs cl:Nat),.int .i64 e]:=by
 unfold chkV chkS;split
 ·split;iterate 2 exact⟨_,rfl⟩
 ·exact⟨_,rfl⟩
theorem jH(F R:Nat)(ca pa ha fu:Int)(bl cl:Bool)(p:Option Addr)(c:Nat)(xs:List Int)(w:World)(hg:bq w)(hx:Arr .i8 w p xs)(hl:xs.length≤1000)(hcap:xs.length≤c):
  Clz 68 #[.agg (aa F R p xs.length c bl ca pa ha fu).toArray,.bool cl] w fun e w'=>e=.returned (.bool (decide (chkS F R xs cl≠0)))∧Below w.heap.size w w':=by
 have hB:=ae w (.cells (aa F R p xs.length c bl ca pa ha fu).toArray 26);have hx1:=hx.call hB;have hg1:=hg.call hB;have hc:=fun W hg h=>iZ F R cl p c xs W hg h hl hcap
 obtain⟨e2,he⟩:=xw F R xs cl;rw[he]at hc;clear he;generalize chkS F R xs cl=S at *;go_enter Tryz.func68,Tryz.ntmps68;go_wp2_with fail;refine(hc _ hg1 hx1).mono ?_;rintro e w2 ⟨rfl,hb2⟩;go_wp2_with fail;go_ret;exact⟨aV (by by_cases h:S=0<;>simp[h]),zbc hB hb2⟩
def casV:List Value:=az.flatMap fun c=>[.int .u8 c.bit,.bool c.bl,.int .i64 c.fr,.int .i64 c.tg,.int .i64 c.co,.int .i64 c.cr]
def aM(w:World):Prop:=bq w∧(∀ j v,casV[j]? = some v→w.cell? ⟨0,j,none⟩=some v)∧(∀ j v,casV[j]? = some v→w.cell? ⟨2,j,none⟩=some v)∧w.cell? ⟨1,0,none⟩=some (.int .i64 8)∧w.cell? ⟨1,1,none⟩=some (.int .i64 8)
theorem aM.call{w w':World}(h:aM w)(hb:Below w.heap.size w w'):aM w':=by
 obtain⟨h1,h2,h3,h4,h5⟩:=h;have hk:∀ {q j:Nat} {v:Value},w.cell? ⟨q,j,none⟩=some v→w'.cell? ⟨q,j,none⟩=some v:=fun {q j v} h=>by
  rw[(iB hb).1 q j (block_lt_of_cell h)];exact h
 exact⟨h1.call hb,fun j v e=>hk (h2 j v e),fun j v e=>hk (h3 j v e),hk h4,hk h5⟩
theorem ld2(w:World)(h:aM w):(loadVar 150 ⟨2,0,none⟩).run Tryz.prog w=.ok (.agg casV.toArray) w :=
 ct casV (by kernel_rfl) (fun j v e=>by rw[Nat.zero_add];exact h.2.2.1 j v e)
theorem ld0(w:World)(h:aM w):(loadVar 132 ⟨0,0,none⟩).run Tryz.prog w=.ok (.agg casV.toArray) w :=
 ct casV (by kernel_rfl) (fun j v e=>by rw[Nat.zero_add];exact h.2.1 j v e)
abbrev Cas.cs(c:Cas):List Value:=[.int .u8 c.bit,.bool c.bl,.int .i64 c.fr,.int .i64 c.tg,.int .i64 c.co,.int .i64 c.cr]
abbrev Cas.ok(c:Cas):Prop:=c.bit<16∧c.fr<64∧c.tg<64∧c.co<64∧c.cr<64∧0<c.bit
theorem ix2(i:Nat)(h:i<4):∃ c,az[i]? = some c∧c.ok∧∀ W,(Instr.index 150 (.agg casV.toArray) (.int .i64 i)).run Tryz.prog W=.ok (.agg c.cs.toArray) W:=by rcases(by omega:i=0∨i=1∨i=2∨i=3)with rfl|rfl|rfl|rfl<;>exact⟨_,rfl,by decide,fun W=>by kernel_rfl⟩
theorem ix0(i:Nat)(h:i<4):∃ c,az[i]? = some c∧c.ok∧∀ W,(Instr.index 132 (.agg casV.toArray) (.int .i64 i)).run Tryz.prog W=.ok (.agg c.cs.toArray) W:=by rcases(by omega:i=0∨i=1∨i=2∨i=3)with rfl|rfl|rfl|rfl<;>exact⟨_,rfl,by decide,fun W=>by kernel_rfl⟩
theorem cy{P:Program}{ops:Array Oper}{rest:List Oper}{o:Oper}{a:Act}{w:World}{Q:Exit→Act→World→Prop}(hgd:o.guard=none)(ty:TypeId)(x:Operand)(ho:o.op=.load ty x)
  {p:Addr} {v:Value} (hx:a.eval x=.pointer (some p)) (hr:(loadVar ty p).run P w=.ok v w)
  (h:wpList P ops Q rest (a.put o.dst v) w):wpList P ops Q (o::rest) a w :=
 wpList_plain hgd fun _ hK=>by
  unfold Oper.wp execOp;simp only[ho,hx,Instr.loadAt,Instr.sureAddr,Sem.run_bind,Sem.run_pure,Result.andThen_ok,hr];exact hK _ _ h
theorem iG(f:Cas→Bool)(k:Nat):orK f k<256:=by
 induction k with
 | zero=>exact(by decide:0<256)
 | succ k ih =>
  unfold orK;split
  ·rename_i c hc;have h16:c.bit<256:=by
    have hm:=List.mem_of_getElem? hc;unfold az at hm;simp only[List.mem_cons,List.not_mem_nil,or_false]at hm;rcases hm with rfl|rfl|rfl|rfl<;>decide
   split
   ·exact Nat.or_lt_two_pow (n:=8) ih h16
   ·exact ih
  ·exact ih
theorem ws{f:Cas→Bool}{k:Nat}{c:Cas}(h:az[k]? = some c):orK f (k+1)=if f c then orK f k|||c.bit else orK f k:=by simp only[orK,h]
theorem lr(a:Int)(w:World)(hg:aM w):Clz 66 #[.int .i64 a] w fun e w'=>e=.returned (.int .u8 (lostW a:Nat))∧Below w.heap.size w w':=by
 have hl:=ld2 w hg;unfold lostW;generalize hf:(fun c:Cas=>decide ((c.fr:Int)=a)||decide ((c.co:Int)=a))=f;have hfc:∀ c:Cas,f c=(((c.fr:Int)==a)||((c.co:Int)==a)):=fun c=>by rw[←hf];rfl
 clear hf;have hz:orK f 0=0:=rfl;have hnx0:∀ k c,az[k]? = some c→orK f (k+1)=if f c then orK f k|||c.bit else orK f k:=fun k c h=>ws h
 have hb:=fun k=>iG f k
 generalize orK f=LK at *;have hix:=ix2;generalize casV.toArray=cv at *;go_enter Tryz.func66,Tryz.ntmps66;go_wp2_with (with_reducible refine cy rfl 150 (.global 2) rfl rfl hl ?_);go_loopg [3,7] 5 (fun q sv iv wr=>∃ i:Nat,q+i=5∧i≤4∧iv=.int .i64 i∧sv=.int .u8 (LK i:Nat)∧Below w.heap.size w wr)
 case atStart=>exact⟨0,rfl,Nat.zero_le _,rfl,by rw[hz];rfl,Below.refl _ _⟩
 case round =>
  obtain⟨i,hq,hi,rfl,rfl,hbr⟩:=hrel;by_cases hlt:i<4
  ·have hii:(i:Int)<4:=by omega
   obtain⟨c,hc,hok,hx⟩:=hix i hlt;have hnx:=hnx0 i c hc;have e1:Hid (bits .or .u8 (LK i:Nat) (c.bit:Nat)=((LK i|||c.bit:Nat):Int)):=zhd (u8_or_nat _ _ (hb i) (by have:=hok.1;omega));rw[hfc]at hnx;clear hc hnx0 hix hfc hb hok;rcases z1:((c.fr:Int)==a)with _|_<;>rcases z2:((c.co:Int)==a)with _|_
   all_goals
    simp only[z1,z2,Bool.or_true,Bool.or_false,if_true,Bool.false_eq_true,if_false]at hnx;replace hnx:=zhd hnx;go_wp2_with fail;go_roundg (gk-1)
    case measure=>omega
    case rel=>exact⟨i+1,by omega,by omega,by go_num,by first|(rw[hnx.out];done)|(rw[hnx.out,←e1.out]),zbc hbr (ae _ _)⟩
  ·obtain rfl:i=4:=by omega
   go_wp2_with fail;go_ret;exact⟨rfl,hbr⟩
theorem pZ(m:Mv)(w:World)(hg:aM w):Clz 142 #[.agg m.cs.toArray] w fun e w'=>e=.returned (.int .u8 (lostM m:Nat))∧Below w.heap.size w w':=by
 unfold lostM;generalize hf:(fun c:Cas=>decide (m.fr=c.fr)||(decide (m.fr=c.co)||(decide (m.tg=c.fr)||decide (m.tg=c.co))))=f;have hfc:∀ c:Cas,f c=((m.fr==c.fr)||((m.fr==c.co)||((m.tg==c.fr)||(m.tg==c.co)))):=fun c=>by rw[←hf];rfl
 clear hf;have hz:orK f 0=0:=rfl;have hnx0:∀ k c,az[k]? = some c→orK f (k+1)=if f c then orK f k|||c.bit else orK f k:=fun k c h=>ws h
 have hb:=fun k=>iG f k
 generalize orK f=LK at *;have hix:=ix0;have hA:=ac.new w (.cells m.cs.toArray 40);have hB:=ae w (.cells m.cs.toArray 40);have hl1:=ld0 _ (hg.call hB);generalize casV.toArray=cv at *;go_enter Tryz.func142,Tryz.ntmps142;go_wp2_with (with_reducible refine cy rfl 132 (.global 0) rfl rfl hl1 ?_);generalize w.alloc (.cells m.cs.toArray 40)=w1 at *;go_loopg [3,7] 5 (fun q sv iv wr=>∃ i:Nat,q+i=5∧i≤4∧iv=.int .i64 i∧sv=.int .u8 (LK i:Nat)∧Below w1.heap.size w1 wr)
 case atStart=>exact⟨0,rfl,Nat.zero_le _,rfl,by rw[hz];rfl,Below.refl _ _⟩
 case round =>
  obtain⟨i,hq,hi,rfl,rfl,hbr⟩:=hrel;have hAr:=hA.call hbr;have h0:=hAr.cells 0;have h1:=hAr.cells 1;have hlr:=hAr.lt;by_cases hlt:i<4
  ·have hii:(i:Int)<4:=by omega
   obtain⟨c,hc,hok,hx⟩:=hix i hlt;have hnx:=hnx0 i c hc;have e1:Hid (bits .or .u8 (LK i:Nat) (c.bit:Nat)=((LK i|||c.bit:Nat):Int)):=zhd (u8_or_nat _ _ (hb i) (by have:=hok.1;omega));rw[hfc]at hnx;clear hc hnx0 hix hfc hb hok;rcases z1:(m.fr==(c.fr:Int))with _|_<;>rcases z2:(m.fr==(c.co:Int))with _|_<;>rcases z3:(m.tg==(c.fr:Int))with _|_<;>rcases z4:(m.tg==(c.co:Int))with _|_
   all_goals
    simp only[z1,z2,z3,z4,Bool.or_true,Bool.or_false,if_true,Bool.false_eq_true,if_false]at hnx;replace hnx:=zhd hnx;go_wp2_with fail;go_roundg (gk-1)
    case measure=>omega
    case rel=>exact⟨i+1,by omega,by omega,by go_num,by first|(rw[hnx.out];done)|(rw[hnx.out,←e1.out]),zbc hbr (ae _ _)⟩
  ·obtain rfl:i=4:=by omega
   go_wp2_with fail;go_ret;exact⟨rfl,zbc hB hbr⟩
end Go.Proofs.YtefmplccbkmalaaGreatDoor
