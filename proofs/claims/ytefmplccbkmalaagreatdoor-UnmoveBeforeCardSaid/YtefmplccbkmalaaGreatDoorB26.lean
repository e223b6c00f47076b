import Derived.Test.YtefmplccbkmalaaGreatDoorB25
set_option maxRecDepth 100000
set_option maxHeartbeats 12800000
namespace Go.Proofs.YtefmplccbkmalaaGreatDoor
open Go.RowKit Go.Sort Go.BigFrame

theorem kr{q:Nat}{w W:World}(hB:Bw w W)(hO:ac W q (.cells af.toArray 26 (0,0)))(hU:ac W (q+1) (.cells aw.toArray 54 (0,0)))(hq:w.heap.size≤q):
  ac (W.setRow q af.toArray) (q+1) (.cells aw.toArray 54 (0,0))∧Bw w ((W.setRow q af.toArray).setRow (q+1) aw.toArray)∧ac ((W.setRow q af.toArray).setRow (q+1) aw.toArray) q (.cells af.toArray 26 (0,0))∧ac ((W.setRow q af.toArray).setRow (q+1) aw.toArray) (q+1) (.cells aw.toArray 54 (0,0)):=by
 have hU9:=hU.setRow_far (g:=q) (cells:=af.toArray) (by omega);have h1:=aj (cells:=af.toArray) hB (g:=q) hq hB.size;exact⟨hU9,aj (cells:=aw.toArray) h1 (g:=q+1) (by omega) h1.size,(ak hO).setRow_far (by omega),ak hU9⟩
theorem pm(F R:Nat)(xs:List Int)(bl:Bool)(can:Nat)(pa ha fu:Int)(a b:Nat)(pr:Int)(p:Option Addr)(cc:Nat)(h:(pvW F R xs bl can pa ha fu&&mvB F R ⟨a,b,pr⟩)=true)(w:World)(hx:Arr .i8 w p xs):
  Clz 57 #[.agg (aa F R p xs.length cc bl can pa ha fu).toArray,.agg #[.int .i64 a,.int .i64 b,.int .i8 pr]] w (bH ⟨F,R,xs,bl,can,pa,ha,fu⟩ ⟨a,b,pr⟩ w):=by
 obtain⟨hF,hR,hlen,hal,hbl,hca,h88,h6,hha,hfu,hpr⟩:=oK h;obtain⟨Rs,hRs⟩:∃ Rs,Rs=bH ⟨F,R,xs,bl,can,pa,ha,fu⟩ ⟨a,b,pr⟩ w:=⟨_,rfl⟩;rw[←hRs];replace hRs:=zhd hRs;have hre:∀ n,mkW ⟨F,R,xs,bl,can,pa,ha,fu⟩ ⟨a,b,pr⟩=.error n→∀ w',Bw w w'→bH ⟨F,R,xs,bl,can,pa,ha,fu⟩ ⟨a,b,pr⟩ w (mkE n) w':=by intro n h1 w' hb;unfold bH;rw[h1];exact⟨rfl,hb⟩
 obtain⟨W1,hW1⟩:∃ W1,W1=(((w.alloc (.cells (aa F R p xs.length cc bl can pa ha fu).toArray 26)).alloc (.cells #[.int .i64 a,.int .i64 b,.int .i8 pr] 40)).alloc (.cells af.toArray 26)).alloc (.cells aw.toArray 54):=⟨_,rfl⟩;have hB:Bw w W1:=by subst hW1;exact(((ae w _).alloc (by simp) _).alloc (by simp<;>omega) _).alloc (by simp<;>omega) _
 have hA:ac W1 w.heap.size (.cells (aa F R p xs.length cc bl can pa ha fu).toArray 26 (0,0)):=by subst hW1;exact(((ac.new w _).alloc _).alloc _).alloc _
 have hM:ac W1 (w.heap.size+1) (.cells #[.int .i64 a,.int .i64 b,.int .i8 pr] 40 (0,0)):=by subst hW1;exact((ac.new' _ _ (by simp)).alloc _).alloc _
 have hO:ac W1 (w.heap.size+1+1) (.cells af.toArray 26 (0,0)):=by subst hW1;exact(ac.new' _ _ (by simp)).alloc _
 have hU:ac W1 (w.heap.size+1+1+1) (.cells aw.toArray 54 (0,0)):=by subst hW1;exact ac.new' _ _ (by simp)
 have h1:=h;rw[Bool.and_eq_true]at h1;have hpv:=fun W hx=>eK F R can pa ha fu bl p cc xs (by omega) W hx
 rw[←fB,h1.1]at hpv;have hmv:=fun W=>(show Clz 21 #[.agg #[.int .i64 F,.int .i64 R],.agg #[.int .i64 a,.int .i64 b,.int .i8 pr]] W _ from fm F R ⟨a,b,pr⟩ W)
 rw[h1.2]at hmv;have hso:=fun W hx=>tH F R xs bl can pa ha fu a b pr p cc hF hR hlen hal hbl hca h88 h6 W hx
 have hsf:=fun k k0 q1 q2 q3 q4 q5 q6 W hx=>pE F R xs bl can pa ha fu a b pr p cc hF hR hal hbl hlen hca h88 h6 hha (by omega) (by omega) k k0 q1 q2 q3 q4 q5 q6 (fun x hx=>wF (h6 x hx)) W hx
 have haf:=fun W hx=>iJ F R xs bl can pa ha fu a b pr p cc hF hR hal hbl hlen hca h88 h6 hha (by omega) (by omega) W hx
 have hcp:=fun W hx=>gm F R xs bl can pa ha fu a b pr p cc hF hR hlen hal hbl h6 W hx
 have hsum:=fun hw=>ye h hw
 have hno:isW (xs[a]?.getD 0) bl=false→mkW ⟨F,R,xs,bl,can,pa,ha,fu⟩ ⟨a,b,pr⟩=.error 9:=by intro hw;unfold mkW;rw[if_neg (by rw[show((⟨F,R,xs,bl,can,pa,ha,fu⟩:Pos).ok&&mvB F R ⟨a,b,pr⟩)=true from h];simp)];exact if_pos hw
 have hax:a<xs.length:=by rw[hlen];exact hal
 have haxi:(a:Int)<xs.length:=by omega
 obtain⟨g,o,rfl,hgc⟩:=bQ (hx.call hB) hax;replace hlen:=zhd hlen;have⟨hi,ho⟩:=zrw 26 (A:=af.toArray) (by kernel_rfl) (by simp[Value.oneCell']);have⟨hi2,ho2⟩:=zrw 54 (A:=aw.toArray) (by kernel_rfl) (by simp[Value.oneCell']);have⟨c0,l0⟩:=hA.cl;have⟨c1,l1⟩:=hM.cl;have hx1:=hx.call hB;clear h h1 h88 hfu;replace hW1:=zhd hW1;go_enter Tryz.func57,Tryz.ntmps57;go_upto_region 1 with fail;change Code.wp _ _ _ _ ((((w.alloc (.cells (aa F R (some ⟨g,o,none⟩) xs.length cc bl can pa ha fu).toArray 26)).alloc (.cells #[.int .i64 a,.int .i64 b,.int .i8 pr] 40)).alloc (.cells af.toArray 26)).alloc (.cells aw.toArray 54));rw[←hW1.out];go_wp2_with fail;refine(hpv W1 hx1).mono ?_;rintro e W2 ⟨rfl,hb2⟩;have hA2:=hA.call hb2;have hM2:=hM.call hb2;have hO2:=hO.call hb2;have hU2:=hU.call hb2;have hx2:=hx1.call hb2;have hB2:=zbc hB hb2;have hgc2:=(hb2.cell (block_lt_of_cell hgc)).trans hgc;clear c0 l0 c1 l1 hA hM hO hU hB hpv hx1 hx hgc;have⟨c0,l0⟩:=hA2.cl;have⟨c1,l1⟩:=hM2.cl;go_wp2_with fail;refine(hmv W2).mono ?_;rintro e W3 ⟨rfl,hb3⟩;have hA3:=hA2.call hb3;have hM3:=hM2.call hb3;have hO3:=hO2.call hb3;have hU3:=hU2.call hb3;have hx3:=hx2.call hb3;have hB3:=zbc hB2 hb3;have hgc3:=(hb3.cell (block_lt_of_cell hgc2)).trans hgc2;clear c0 l0 c1 l1 hmv hx2 hgc2;go_upto_region 3 with fail;obtain⟨own,hown⟩:∃ own,own=isW (xs[a]?.getD 0) bl:=⟨_,rfl⟩;rw[←hown]at hsum hno;have t1:=aJ (w:=W3) (fun W=>kW (xs[a]?.getD 0) bl W);rw[←hown]at t1;generalize xs[a]?.getD 0=xa at *;have m0:=cell_regrown hgc3;have m1:=am hA3;have m2:=am hM3;replace hown:=zhd hown;rcases own with _|_
 ·have hmk:=hno rfl;clear hsum hno;refine ag (by kernel_rfl) (by kernel_rfl) ?_;repeat(go_big_quiet_step (first|with_reducible exact t1 _ _|fail))
  refine wpQuiet_nil ?_;intro W4 hb4;have hO4:=hO3.call hb4;have hU4:=hU3.call hb4;have hB4:=zbc hB3 hb4;clear hx3 hgc3 t1 m0 m1 m2;obtain⟨hU9,hB9,hO9,hU8⟩:=kr hB4 hO4 hU4 (by omega);go_wp2_with (first|((refine ai rfl 26 (.tmp 4) (.tmp 31) rfl (w.heap.size+1+1) (af.toArray) rfl rfl 26 _ hO4 hi.out rfl ho.out ?_);rintro w3 rfl)|((refine ai rfl 54 (.tmp 5) (.tmp 32) rfl (w.heap.size+1+1+1) (aw.toArray) rfl rfl 54 _ hU9 hi2.out rfl ho2.out ?_);rintro w3 rfl)|fail);refine bodyPost_ret (bZ (fn:=Tryz.f57) Tryz.results57 rfl hO9 (by kernel_rfl) rfl hU8 (by kernel_rfl) rfl) rfl ?_;rw[hRs.out];exact hre 9 hmk _ hB9
 ·obtain⟨hs0,hs1⟩:=hsum rfl;clear hsum hno;refine ag (by kernel_rfl) (by kernel_rfl) ?_;repeat(go_big_quiet_step (first|with_reducible exact t1 _ _|fail))
  refine wpQuiet_nil ?_;intro W4 hb4;have hA4:=hA3.call hb4;have hM4:=hM3.call hb4;have hO4:=hO3.call hb4;have hU4:=hU3.call hb4;have hx4:=hx3.call hb4;have hB4:=zbc hB3 hb4;clear hx3 hgc3 t1 m0 m1 m2;have⟨c0,l0⟩:=hA4.cl;have⟨c1,l1⟩:=hM4.cl;go_wp2_with fail;refine(hso W4 hx4).mono ?_;rintro e W5 ⟨rfl,hb5⟩;have hA5:=hA4.call hb5;have hM5:=hM4.call hb5;have hO5:=hO4.call hb5;have hU5:=hU4.call hb5;have hx5:=hx4.call hb5;have hB5:=zbc hB4 hb5;clear c0 l0 c1 l1 hx4 hso;rcases zs:soB ⟨F,R,xs,bl,can,pa,ha,fu⟩ ⟨a,b,pr⟩with _|_
  ·have hmk:=hs0 zs;clear hs0 hs1;obtain⟨hU9,hB9,hO9,hU8⟩:=kr hB5 hO5 hU5 (by omega);go_wp2_with (first|((refine ai rfl 26 (.tmp 4) (.tmp 37) rfl (w.heap.size+1+1) (af.toArray) rfl rfl 26 _ hO5 hi.out rfl ho.out ?_);rintro w3 rfl)|((refine ai rfl 54 (.tmp 5) (.tmp 38) rfl (w.heap.size+1+1+1) (aw.toArray) rfl rfl 54 _ hU9 hi2.out rfl ho2.out ?_);rintro w3 rfl)|fail);refine bodyPost_ret (bZ (fn:=Tryz.f57) Tryz.results57 rfl hO9 (by kernel_rfl) rfl hU8 (by kernel_rfl) rfl) rfl ?_;rw[hRs.out];exact hre 10 hmk _ hB9
  ·obtain⟨k,k0,j1,j2,j3,j4,j5,j6,j7,j8,j9⟩:=hs1 zs;have hsf:=hsf k k0 j1 j2 j3 j4 j5 j6;clear hs0 hs1 zs j1 j2 j3 j4 j6;have⟨c0,l0⟩:=hA5.cl;have⟨c1,l1⟩:=hM5.cl;go_wp2_with fail;refine(hsf W5 hx5).mono ?_;rintro e W6 ⟨rfl,hb6⟩;have hA6:=hA5.call hb6;have hM6:=hM5.call hb6;have hO6:=hO5.call hb6;have hU6:=hU5.call hb6;have hx6:=hx5.call hb6;have hB6:=zbc hB5 hb6;clear c0 l0 c1 l1 hx5 hsf;rcases zf:safB ⟨F,R,xs,bl,can,pa,ha,fu⟩ ⟨a,b,pr⟩with _|_
   ·have hmk:=j7 zf;clear j7 j8;obtain⟨hU9,hB9,hO9,hU8⟩:=kr hB6 hO6 hU6 (by omega);go_wp2_with (first|((refine ai rfl 26 (.tmp 4) (.tmp 43) rfl (w.heap.size+1+1) (af.toArray) rfl rfl 26 _ hO6 hi.out rfl ho.out ?_);rintro w3 rfl)|((refine ai rfl 54 (.tmp 5) (.tmp 44) rfl (w.heap.size+1+1+1) (aw.toArray) rfl rfl 54 _ hU9 hi2.out rfl ho2.out ?_);rintro w3 rfl)|fail);refine bodyPost_ret (bZ (fn:=Tryz.f57) Tryz.results57 rfl hO9 (by kernel_rfl) rfl hU8 (by kernel_rfl) rfl) rfl ?_;rw[hRs.out];exact hre 90 hmk _ hB9
   ·have hmk:=j8 zf;clear j7 j8 zf;have⟨c0,l0⟩:=hA6.cl;have⟨c1,l1⟩:=hM6.cl;obtain⟨Q,hQ⟩:∃ Q,Q=bK ⟨F,R,xs,bl,can,pa,ha,fu⟩ ⟨a,b,pr⟩:=⟨_,rfl⟩;obtain⟨AT,hAT⟩:∃ AT,AT=dq F R xs pa a b:=⟨_,rfl⟩;unfold kw at haf;rw[←hQ]at hmk j5 haf;rw[←hAT]at hmk hcp j9;have hok:∀(cp:Int) w' q cap,mkW ⟨F,R,xs,bl,can,pa,ha,fu⟩ ⟨a,b,pr⟩=.ok (Q,⟨⟨a,b,pr⟩,cp,AT,can,pa,ha,fu⟩)→Bw w w'→w.heap.size≤q→aC w' q cap Q.xs→bH ⟨F,R,xs,bl,can,pa,ha,fu⟩ ⟨a,b,pr⟩ w (.returned (.tuple #[.agg (aa F R (some ⟨q,0,none⟩) xs.length cap Q.bl Q.ca Q.pa Q.ha Q.fu).toArray,.agg #[.int .i64 a,.int .i64 b,.int .i8 pr,.int .i8 cp,.int .i64 AT,.int .u8 can,.int .i64 pa,.int .i64 ha,.int .i64 fu],.int .i64 0])) w':=by
     intro cp w' q cap h1 hb hq hO;unfold bH;rw[h1];refine⟨q,cap,?_,hb,hq,hO⟩;rw[←j5,show Q.F=F by rw[hQ];rfl,show Q.R=R by rw[hQ];rfl];rfl
    replace hQ:=zhd hQ;replace hAT:=zhd hAT;replace j5:=zhd j5;go_wp2_with fail;refine(haf W6 hx6).mono ?_;rintro e W7 ⟨qa,cap,rfl,hb7,hqa,hQO7⟩;have hA7:=hA6.call hb7;have hM7:=hM6.call hb7;have hO7:=hO6.call hb7;have hU7:=hU6.call hb7;have hx7:=hx6.call hb7;have hB7:=zbc hB6 hb7;clear c0 l0 c1 l1 hx6 haf;have⟨hi7,ho7⟩:=zrw 26 (A:=(aa F R (some ⟨qa,0,none⟩) xs.length cap Q.bl Q.ca Q.pa Q.ha Q.fu).toArray) (by kernel_rfl) (by simp[Value.oneCell']);have hZ:=ac.new W7 (.cells af.toArray 26);have hqs:w.heap.size+1+1+1<W7.heap.size:=hU7.lt;have hqa7:w.heap.size+1+1+1<qa:=Nat.lt_of_lt_of_le hU6.lt hqa;go_upto_region 10 with(first|((refine ai rfl 26 (.tmp 7) (.tmp 47) rfl W7.heap.size ((aa F R (some ⟨qa,0,none⟩) xs.length cap Q.bl Q.ca Q.pa Q.ha Q.fu).toArray) rfl rfl 26 _ hZ hi7.out rfl ho7.out ?_);rintro w3 rfl)|fail);have hbx:=dN W7 af.toArray ((aa F R (some ⟨qa,0,none⟩) xs.length cap Q.bl Q.ca Q.pa Q.ha Q.fu).toArray) 26;have hP8:=dQ W7 af.toArray ((aa F R (some ⟨qa,0,none⟩) xs.length cap Q.bl Q.ca Q.pa Q.ha Q.fu).toArray) 26;change Code.wp _ _ _ _ ((W7.alloc (.cells af.toArray 26)).setRow W7.heap.size ((aa F R (some ⟨qa,0,none⟩) xs.length cap Q.bl Q.ca Q.pa Q.ha Q.fu).toArray));generalize (W7.alloc (.cells af.toArray 26)).setRow W7.heap.size ((aa F R (some ⟨qa,0,none⟩) xs.length cap Q.bl Q.ca Q.pa Q.ha Q.fu).toArray)=W8 at *;have hA8:=hA7.call hbx;have hM8:=hM7.call hbx;have hO8:=hO7.call hbx;have hU8':=hU7.call hbx;have hx8:=hx7.call hbx;have hQO8:=hQO7.call hbx;have hB8:=zbc hB7 hbx;clear hx7 hQO7 hbx hZ hi7 ho7 hqa;generalize W7.heap.size=q7 at *;have⟨c0,l0⟩:=hP8.cl;by_cases hh:10000<Q.ha
    ·rw[if_pos (.inl hh)]at hmk;clear hx8 hQO8;obtain⟨hU9,hB9,hO9,hU8⟩:=kr hB8 hO8 hU8' (by omega);go_wp2_with (first|((refine ai rfl 26 (.tmp 4) (.tmp 56) rfl (w.heap.size+1+1) (af.toArray) rfl rfl 26 _ hO8 hi.out rfl ho.out ?_);rintro w3 rfl)|((refine ai rfl 54 (.tmp 5) (.tmp 57) rfl (w.heap.size+1+1+1) (aw.toArray) rfl rfl 54 _ hU9 hi2.out rfl ho2.out ?_);rintro w3 rfl)|fail);refine bodyPost_ret (bZ (fn:=Tryz.f57) Tryz.results57 rfl hO9 (by kernel_rfl) rfl hU8 (by kernel_rfl) rfl) rfl ?_;rw[hRs.out];exact hre 7 hmk _ hB9
    ·by_cases hf2:10000<Q.fu
     ·rw[if_pos (.inr hf2)]at hmk;clear hx8 hQO8;obtain⟨hU9,hB9,hO9,hU8⟩:=kr hB8 hO8 hU8' (by omega);go_wp2_with (first|((refine ai rfl 26 (.tmp 4) (.tmp 56) rfl (w.heap.size+1+1) (af.toArray) rfl rfl 26 _ hO8 hi.out rfl ho.out ?_);rintro w3 rfl)|((refine ai rfl 54 (.tmp 5) (.tmp 57) rfl (w.heap.size+1+1+1) (aw.toArray) rfl rfl 54 _ hU9 hi2.out rfl ho2.out ?_);rintro w3 rfl)|fail);refine bodyPost_ret (bZ (fn:=Tryz.f57) Tryz.results57 rfl hO9 (by kernel_rfl) rfl hU8 (by kernel_rfl) rfl) rfl ?_;rw[hRs.out];exact hre 7 hmk _ hB9
     ·rw[if_neg (fun h=>h.elim hh hf2)]at hmk;go_upto_region 12 with fail;clear c0 l0;refine Ad W8 F R xs bl can pa ha fu a b pr _ cc _ _ AT hcp hx8 hA8 hM8 _ _ rfl rfl (by simp) ?_ _ rfl;intro f W9 k1 h13 hk1 hX9 hb9;have hA9:=hA8.call hb9;have hO9:=hO8.call hb9;have hU9':=hU8'.call hb9;have hP9:=hP8.call hb9;have hx9:=hx8.call hb9;have hQO9:=hQO8.call hb9;have hB9:=zbc hB8 hb9;have hl8:w.heap.size+1+1+1<W8.heap.size:=hU8'.lt;have hp8:q7<W8.heap.size:=hP8.lt;have hq8:qa<W8.heap.size:=hQO8.lt;clear hx8 hQO8 hcp;simp only[ao,h13];go_simp;have⟨c1,l1⟩:=hX9.cl;by_cases h0:0≤AT
      ·obtain⟨n,rfl⟩:∃ n:Nat,AT=n:=⟨AT.toNat,by omega⟩;rw[if_pos h0,Int.toNat_natCast]at hmk;have hn:=j9 h0;rw[Int.toNat_natCast,←hlen.out]at hn;have hni:(n:Int)<xs.length:=by omega
       obtain⟨g',o',eg,hgn⟩:=bQ hx9 hn;injection eg with eg;injection eg with eg eo;subst eg eo;generalize xs[n]?.getD 0=cp at *;have⟨c0,l0⟩:=hA9.cl;have f1:=hX9.frozen 3;go_upto_region 15 with fail;have hX10:ac (W9.setCell ⟨k1,3,none⟩ (.int .i8 cp)) k1 (.cells #[.int .i64 a,.int .i64 b,.int .i8 pr,.int .i8 cp,.int .i64 n,.int .u8 can,.int .i64 pa,.int .i64 ha,.int .i64 fu] 54 (0,0)):=hX9.set_ 3 (.int .i8 cp);have hO10:=hO9.far (p:=⟨k1,3,none⟩) (by show w.heap.size+1+1≠k1;omega) (.int .i8 cp);have hU10':=hU9'.far (p:=⟨k1,3,none⟩) (by show w.heap.size+1+1+1≠k1;omega) (.int .i8 cp);have hP10:=hP9.far (p:=⟨k1,3,none⟩) (by show q7≠k1;omega) (.int .i8 cp);have hQO10:=hQO9.far (p:=⟨k1,3,none⟩) (by show qa≠k1;omega) (.int .i8 cp);have hB10:=hB9.setCell (p:=⟨k1,3,none⟩) (by show w.heap.size≤k1;omega) (.int .i8 cp);generalize W9.setCell ⟨k1,3,none⟩ (.int .i8 cp)=W10 at *;clear c0 l0 f1 c1 l1 hx9 hQO9 hgn;obtain⟨PR,hPR⟩:∃ PR:Array Value,PR=(aa F R (some ⟨qa,0,none⟩) xs.length cap Q.bl Q.ca Q.pa Q.ha Q.fu).toArray:=⟨_,rfl⟩;obtain⟨UR,hUR⟩:∃ UR:Array Value,UR=#[.int .i64 a,.int .i64 b,.int .i8 pr,.int .i8 cp,.int .i64 n,.int .u8 can,.int .i64 pa,.int .i64 ha,.int .i64 fu]:=⟨_,rfl⟩;have hps:PR.size=8:=by rw[hPR];rfl
       have hus:UR.size=9:=by rw[hUR];rfl
       have hpo:PR.all (·.oneCell')=true:=by rw[hPR];simp[Value.oneCell']
       have huo:UR.all (·.oneCell')=true:=by rw[hUR];simp[Value.oneCell']
       have hfin:=fun W' hb hQ=>hok (cp) W' qa cap hmk hb (by omega) hQ
       rw[←hPR,←hUR]at hfin;rw[←hPR]at hP10;rw[←hUR]at hX10;clear hok hmk hre;obtain⟨Wk,hWk⟩:∃ Wk:Nat→World,Wk=fun k=>if k=0 then W10 else if k=1 then W10.setRow (w.heap.size+1+1) PR else(W10.setRow (w.heap.size+1+1) PR).setRow (w.heap.size+1+1+1) UR:=⟨_,rfl⟩
       have hW0:Wk 0=W10:=by rw[hWk];rfl
       have hW1k:Wk 1=(Wk 0).setRow (w.heap.size+1+1) PR:=by rw[hWk];rfl
       have hW2k:Wk 2=(Wk 1).setRow (w.heap.size+1+1+1) UR:=by rw[hWk];rfl
       have kP:∀ k,ac (Wk k) q7 (.cells PR 26 (0,0)):=by
        intro k;rw[hWk];rcases k with _|_|k
        ·exact hP10
        ·exact hP10.setRow_far (by omega)
        ·exact(hP10.setRow_far (by omega)).setRow_far (by omega)
       have kX:∀ k,ac (Wk k) k1 (.cells UR 54 (0,0)):=by
        intro k;rw[hWk];rcases k with _|_|k
        ·exact hX10
        ·exact hX10.setRow_far (by omega)
        ·exact(hX10.setRow_far (by omega)).setRow_far (by omega)
       have kO0:ac (Wk 0) (w.heap.size+1+1) (.cells af.toArray 26 (0,0)):=by rw[hW0];exact hO10
       have kU1:ac (Wk 1) (w.heap.size+1+1+1) (.cells aw.toArray 54 (0,0)):=by rw[hW1k,hW0];exact hU10'.setRow_far (by omega)
       have hU9:ac (W10.setRow (w.heap.size+1+1) PR) (w.heap.size+1+1+1) (.cells aw.toArray 54 (0,0)):=hU10'.setRow_far (by omega);have kO2:ac (Wk 2) (w.heap.size+1+1) (.cells PR 26 (0,0)):=by rw[hWk];exact(ak hO10).setRow_far (by omega)
       have kU2:ac (Wk 2) (w.heap.size+1+1+1) (.cells UR 54 (0,0)):=by rw[hWk];exact ak hU9
       have hB8:=aj (cells:=PR) hB10 (g:=w.heap.size+1+1) (by omega) hB10.size;have kB2:Bw w (Wk 2):=by rw[hWk];exact aj (cells:=UR) hB8 (g:=w.heap.size+1+1+1) (by omega) hB8.size
       have kQ2:aC (Wk 2) qa cap Q.xs:=by rw[hWk];exact(hQO10.farR (by omega) PR).farR (by omega) UR
       have o1:=bj kP;have u1:=bj kX;have ro:PR=#[.int .i64 (F:Int),.int .i64 (R:Int),.slice (some ⟨qa,0,none⟩) xs.length cap,.bool Q.bl,.int .u8 Q.ca,.int .i64 Q.pa,.int .i64 Q.ha,.int .i64 Q.fu]:=hPR;rw[ro]at o1;rw[hUR]at u1;clear hQO10 kP kX;replace hWk:=zhd hWk;replace hW1k:=zhd hW1k;replace hW2k:=zhd hW2k;replace hps:=zhd hps;replace hus:=zhd hus;replace hpo:=zhd hpo;replace huo:=zhd huo;replace hPR:=zhd hPR;replace hUR:=zhd hUR;replace ro:=zhd ro;refine aR [2,3] [(0,0),(0,1),(9,9),(9,9),(2,2)] Wk (by kernel_rfl) (by kernel_rfl) hW0 ?_;replace hW0:=zhd hW0;refine a8 0 rfl rfl ?_;go_big_quiet_step (fail);refine wpQuiet_nil ?_;refine ci rfl rfl ?_;go_big_quiet_step (fail);refine wpQuiet_nil ?_;refine ew 0 rfl rfl 26 (.tmp 4) (.tmp 81) rfl (cells:=PR) rfl (by rw[ro.out];rfl) kO0 (by rw[hps.out];kernel_rfl) (by rw[hps.out];rfl) hpo.out hW1k.out rfl ?_;refine ew 1 rfl rfl 54 (.tmp 5) (.tmp 82) rfl (cells:=UR) rfl (by rw[hUR.out];rfl) kU1 (by rw[hus.out];kernel_rfl) (by rw[hus.out];rfl) huo.out hW2k.out rfl ?_;refine a8 2 rfl rfl ?_;go_big_quiet_step (fail);refine wpQuiet_nil ?_;refine cm ?_;intro V hbv;have hOv:=kO2.call hbv;have hUv:=kU2.call hbv;have hQv:=kQ2.call hbv;have hBv:=zbc kB2 hbv;clear o1 u1 kO0 kU1 kO2 kU2 kQ2 kB2 hbv;go_wp2_with fail;refine bodyPost_ret (bZ (fn:=Tryz.f57) Tryz.results57 rfl hOv (by rw[ro.out];kernel_rfl) rfl hUv (by rw[hUR.out];kernel_rfl) rfl) rfl ?_;rw[hRs.out];exact hfin V hBv hQv
      ·rw[if_neg h0]at hmk;go_upto_region 15 with fail;clear c1 l1 hx9;obtain⟨PR,hPR⟩:∃ PR:Array Value,PR=(aa F R (some ⟨qa,0,none⟩) xs.length cap Q.bl Q.ca Q.pa Q.ha Q.fu).toArray:=⟨_,rfl⟩;obtain⟨UR,hUR⟩:∃ UR:Array Value,UR=#[.int .i64 a,.int .i64 b,.int .i8 pr,.int .i8 0,.int .i64 AT,.int .u8 can,.int .i64 pa,.int .i64 ha,.int .i64 fu]:=⟨_,rfl⟩;have hps:PR.size=8:=by rw[hPR];rfl
       have hus:UR.size=9:=by rw[hUR];rfl
       have hpo:PR.all (·.oneCell')=true:=by rw[hPR];simp[Value.oneCell']
       have huo:UR.all (·.oneCell')=true:=by rw[hUR];simp[Value.oneCell']
       have hfin:=fun W' hb hQ=>hok 0 W' qa cap hmk hb (by omega) hQ
       rw[←hPR,←hUR]at hfin;rw[←hPR]at hP9;rw[←hUR]at hX9;clear hok hmk hre;obtain⟨Wk,hWk⟩:∃ Wk:Nat→World,Wk=fun k=>if k=0 then W9 else if k=1 then W9.setRow (w.heap.size+1+1) PR else(W9.setRow (w.heap.size+1+1) PR).setRow (w.heap.size+1+1+1) UR:=⟨_,rfl⟩
       have hW0:Wk 0=W9:=by rw[hWk];rfl
       have hW1k:Wk 1=(Wk 0).setRow (w.heap.size+1+1) PR:=by rw[hWk];rfl
       have hW2k:Wk 2=(Wk 1).setRow (w.heap.size+1+1+1) UR:=by rw[hWk];rfl
       have kP:∀ k,ac (Wk k) q7 (.cells PR 26 (0,0)):=by
        intro k;rw[hWk];rcases k with _|_|k
        ·exact hP9
        ·exact hP9.setRow_far (by omega)
        ·exact(hP9.setRow_far (by omega)).setRow_far (by omega)
       have kX:∀ k,ac (Wk k) k1 (.cells UR 54 (0,0)):=by
        intro k;rw[hWk];rcases k with _|_|k
        ·exact hX9
        ·exact hX9.setRow_far (by omega)
        ·exact(hX9.setRow_far (by omega)).setRow_far (by omega)
       have kO0:ac (Wk 0) (w.heap.size+1+1) (.cells af.toArray 26 (0,0)):=by rw[hW0];exact hO9
       have kU1:ac (Wk 1) (w.heap.size+1+1+1) (.cells aw.toArray 54 (0,0)):=by rw[hW1k,hW0];exact hU9'.setRow_far (by omega)
       have hU9:ac (W9.setRow (w.heap.size+1+1) PR) (w.heap.size+1+1+1) (.cells aw.toArray 54 (0,0)):=hU9'.setRow_far (by omega);have kO2:ac (Wk 2) (w.heap.size+1+1) (.cells PR 26 (0,0)):=by rw[hWk];exact(ak hO9).setRow_far (by omega)
       have kU2:ac (Wk 2) (w.heap.size+1+1+1) (.cells UR 54 (0,0)):=by rw[hWk];exact ak hU9
       have hB8:=aj (cells:=PR) hB9 (g:=w.heap.size+1+1) (by omega) hB9.size;have kB2:Bw w (Wk 2):=by rw[hWk];exact aj (cells:=UR) hB8 (g:=w.heap.size+1+1+1) (by omega) hB8.size
       have kQ2:aC (Wk 2) qa cap Q.xs:=by rw[hWk];exact(hQO9.farR (by omega) PR).farR (by omega) UR
       have o1:=bj kP;have u1:=bj kX;have ro:PR=#[.int .i64 (F:Int),.int .i64 (R:Int),.slice (some ⟨qa,0,none⟩) xs.length cap,.bool Q.bl,.int .u8 Q.ca,.int .i64 Q.pa,.int .i64 Q.ha,.int .i64 Q.fu]:=hPR;rw[ro]at o1;rw[hUR]at u1;clear hQO9 kP kX;replace hWk:=zhd hWk;replace hW1k:=zhd hW1k;replace hW2k:=zhd hW2k;replace hps:=zhd hps;replace hus:=zhd hus;replace hpo:=zhd hpo;replace huo:=zhd huo;replace hPR:=zhd hPR;replace hUR:=zhd hUR;replace ro:=zhd ro;refine aR [2,3] [(0,0),(0,1),(9,9),(9,9),(2,2)] Wk (by kernel_rfl) (by kernel_rfl) hW0 ?_;replace hW0:=zhd hW0;refine a8 0 rfl rfl ?_;go_big_quiet_step (fail);refine wpQuiet_nil ?_;refine ci rfl rfl ?_;go_big_quiet_step (fail);refine wpQuiet_nil ?_;refine ew 0 rfl rfl 26 (.tmp 4) (.tmp 81) rfl (cells:=PR) rfl (by rw[ro.out];rfl) kO0 (by rw[hps.out];kernel_rfl) (by rw[hps.out];rfl) hpo.out hW1k.out rfl ?_;refine ew 1 rfl rfl 54 (.tmp 5) (.tmp 82) rfl (cells:=UR) rfl (by rw[hUR.out];rfl) kU1 (by rw[hus.out];kernel_rfl) (by rw[hus.out];rfl) huo.out hW2k.out rfl ?_;refine a8 2 rfl rfl ?_;go_big_quiet_step (fail);refine wpQuiet_nil ?_;refine cm ?_;intro V hbv;have hOv:=kO2.call hbv;have hUv:=kU2.call hbv;have hQv:=kQ2.call hbv;have hBv:=zbc kB2 hbv;clear o1 u1 kO0 kU1 kO2 kU2 kQ2 kB2 hbv;go_wp2_with fail;refine bodyPost_ret (bZ (fn:=Tryz.f57) Tryz.results57 rfl hOv (by rw[ro.out];kernel_rfl) rfl hUv (by rw[hUR.out];kernel_rfl) rfl) rfl ?_;rw[hRs.out];exact hfin V hBv hQv
def rokW(F R fr tg:Int)(bl:Bool):Option Cas:=if F=8∧R=8 then az.find? (fun c=>c.bl==bl&&(((c.fr:Int)==fr)&&((c.tg:Int)==tg)))else none
def kc:Option Cas→Value
 | some c=>.tuple #[.int .i64 c.co,.int .i64 c.cr,.bool true]
 | none=>.tuple #[.int .i64 0,.int .i64 0,.bool false]
theorem rL(n:Nat)(pp:Option Addr)(cc:Nat)(b0:Bool)(ca pa ha fu fr tg pr:Int)(w:World):
  Clz 104 #[.agg (aa 8 8 pp n cc b0 ca pa ha fu).toArray,.agg #[.int .i64 fr,.int .i64 tg,.int .i8 pr],.bool false] w fun e w'=>e=.returned (kc (rokW 8 8 fr tg false))∧Bw w w':=by
 have hA:=((ac.new w (.cells (aa 8 8 pp n cc b0 ca pa ha fu).toArray 26)).alloc (.cells #[.int .i64 fr,.int .i64 tg,.int .i8 pr] 40)).alloc (.cells #[.string {data:=#[101,49,103,49,104,49,102,49]},.string {data:=#[101,49,99,49,97,49,100,49]}] 9);have hM:=(ac.new' (w.alloc (.cells (aa 8 8 pp n cc b0 ca pa ha fu).toArray 26)) (.cells #[.int .i64 fr,.int .i64 tg,.int .i8 pr] 40) (q:=w.heap.size+1) (by simp)).alloc (.cells #[.string {data:=#[101,49,103,49,104,49,102,49]},.string {data:=#[101,49,99,49,97,49,100,49]}] 9);have hN:=ac.new' ((w.alloc (.cells (aa 8 8 pp n cc b0 ca pa ha fu).toArray 26)).alloc (.cells #[.int .i64 fr,.int .i64 tg,.int .i8 pr] 40)) (.cells #[.string {data:=#[101,49,103,49,104,49,102,49]},.string {data:=#[101,49,99,49,97,49,100,49]}] 9) (q:=w.heap.size+1+1) (by simp);have hB:Bw w (((w.alloc (.cells (aa 8 8 pp n cc b0 ca pa ha fu).toArray 26)).alloc (.cells #[.int .i64 fr,.int .i64 tg,.int .i8 pr] 40)).alloc (.cells #[.string {data:=#[101,49,103,49,104,49,102,49]},.string {data:=#[101,49,99,49,97,49,100,49]}] 9)):=((ae w _).alloc (by simp) _).alloc (by simp<;>omega) _;obtain⟨v,hv⟩:∃ v,v=kc (rokW 8 8 fr tg false):=⟨_,rfl⟩;rw[←hv];replace hv:=zhd hv;go_enter Tryz.func104,Tryz.ntmps104;go_upto_region 6 with fail;change Code.wp _ _ _ _ (((w.alloc (.cells (aa 8 8 pp n cc b0 ca pa ha fu).toArray 26)).alloc (.cells #[.int .i64 fr,.int .i64 tg,.int .i8 pr] 40)).alloc (.cells #[.string {data:=#[101,49,103,49,104,49,102,49]},.string {data:=#[101,49,99,49,97,49,100,49]}] 9));generalize ((w.alloc (.cells (aa 8 8 pp n cc b0 ca pa ha fu).toArray 26)).alloc (.cells #[.int .i64 fr,.int .i64 tg,.int .i8 pr] 40)).alloc (.cells #[.string {data:=#[101,49,103,49,104,49,102,49]},.string {data:=#[101,49,99,49,97,49,100,49]}] 9)=W1 at *;obtain⟨q,hq⟩:∃ q,q=w.heap.size:=⟨_,rfl⟩;have hBz:=hB.size;rw[←hq]at hA hM hN ⊢;replace hq:=zhd hq;go_wp2_with fail;go_loopg [10] 3 (fun gq iv wr=>∃ k:Nat,gq+k=3∧k≤2∧iv=.int .i64 k∧Hid (k=0∨(k=1∧((fr==4)=false∨(tg==6)=false))∨(k=2∧((fr==4)=false∨(tg==6)=false)∧((fr==4)=false∨(tg==2)=false)))∧Bw W1 wr)
 case atStart=>exact⟨0,by omega,by decide,rfl,zhd (.inl rfl),Below.refl _ _⟩
 case round =>
  obtain⟨k,hgq,hk2,rfl,hcase,hBr⟩:=hrel;have hAr:=hA.call hBr;have hMr:=hM.call hBr;have hNr:=hN.call hBr;have⟨c0,l0⟩:=hNr.cl;rcases hcase.out with rfl|⟨rfl,hno⟩|⟨rfl,hno,hno2⟩
  ·clear hcase;have q1:∀ W,(Instr.sliceAt 9 (.string {data:=#[101,49,103,49,104,49,102,49]}) none (some (.int .i64 2)) none).run Tryz.prog W=.ok (.string (str (nmL 4))) W:=fun W=>by kernel_rfl
   have q2:∀ W,(Instr.sliceAt 9 (.string {data:=#[101,49,103,49,104,49,102,49]}) (some (.int .i64 2)) (some (.int .i64 4)) none).run Tryz.prog W=.ok (.string (str (nmL 6))) W:=fun W=>by kernel_rfl
   have q3:∀ W,(Instr.sliceAt 9 (.string {data:=#[101,49,103,49,104,49,102,49]}) (some (.int .i64 4)) (some (.int .i64 6)) none).run Tryz.prog W=.ok (.string (str (nmL 7))) W:=fun W=>by kernel_rfl
   have q4:∀ W,(Instr.sliceAt 9 (.string {data:=#[101,49,103,49,104,49,102,49]}) (some (.int .i64 6)) none none).run Tryz.prog W=.ok (.string (str (nmL 5))) W:=fun W=>by kernel_rfl
   have t1:=ax (w:=wr) (fun W _=>(show Clz 131 #[.agg #[.int .i64 8,.int .i64 8],.string (str (nmL 4))] W fun e w'=>e=.returned (.int .i64 4)∧Bw W w' from aG 4 (by decide) W));have t2:=ax (w:=wr) (fun W _=>(show Clz 131 #[.agg #[.int .i64 8,.int .i64 8],.string (str (nmL 6))] W fun e w'=>e=.returned (.int .i64 6)∧Bw W w' from aG 6 (by decide) W));have m1:=am hAr;have m2:=am hMr;go_upto_region 10 with fail;rcases z1:(fr==4)with _|_
   ·refine ag (by kernel_rfl) (by kernel_rfl) ?_;repeat(go_big_quiet_step (first|with_reducible exact t1 _ _|with_reducible exact t2 _ _|fail))
    refine wpQuiet_nil ?_;intro w3 hb3;have hB3:=zbc hBr hb3;clear m1 m2 t1 t2 q1 q2 q3 q4 c0 l0;go_wp2_with fail;go_roundg (gk-1)
    case measure=>omega
    case rel=>exact⟨1,by omega,by decide,by go_num,zhd (by exact .inr (.inl ⟨rfl,.inl z1⟩)),hB3⟩
   ·rcases z2:(tg==6)with _|_
    ·refine ag (by kernel_rfl) (by kernel_rfl) ?_;repeat(go_big_quiet_step (first|with_reducible exact t1 _ _|with_reducible exact t2 _ _|fail))
     refine wpQuiet_nil ?_;intro w3 hb3;have hB3:=zbc hBr hb3;clear m1 m2 t1 t2 q1 q2 q3 q4 c0 l0;go_wp2_with fail;go_roundg (gk-1)
     case measure=>omega
     case rel=>exact⟨1,by omega,by decide,by go_num,zhd (by exact .inr (.inl ⟨rfl,.inr z2⟩)),hB3⟩
    ·refine ag (by kernel_rfl) (by kernel_rfl) ?_;repeat(go_big_quiet_step (first|with_reducible exact t1 _ _|with_reducible exact t2 _ _|fail))
     refine wpQuiet_nil ?_;intro w3 hb3;have hB3:=zbc hBr hb3;have hA3:=hAr.call hb3;clear m1 m2 t1 t2 c0 l0;have t1:=ax (w:=w3) (fun W _=>(show Clz 131 #[.agg #[.int .i64 8,.int .i64 8],.string (str (nmL 7))] W fun e w'=>e=.returned (.int .i64 7)∧Bw W w' from aG 7 (by decide) W));have t2:=ax (w:=w3) (fun W _=>(show Clz 131 #[.agg #[.int .i64 8,.int .i64 8],.string (str (nmL 5))] W fun e w'=>e=.returned (.int .i64 5)∧Bw W w' from aG 5 (by decide) W));have m1:=am hA3;go_upto_region 11 with fail;refine ag (by kernel_rfl) (by kernel_rfl) ?_;repeat(go_big_quiet_step (first|with_reducible exact t1 _ _|with_reducible exact t2 _ _|fail))
     refine wpQuiet_nil ?_;intro w4 hb4;go_wp2_with fail;go_ret3
     refine⟨?_,aI hB hBz (zbc hB3 hb4)⟩;rw[hv.out];rw[show rokW 8 8 fr tg false=some ⟨1,false,4,6,7,5⟩from by obtain rfl:=beq_iff_eq.1 z1;obtain rfl:=beq_iff_eq.1 z2;decide];rfl
  ·clear hcase;replace hno:=zhd hno;have q1:∀ W,(Instr.sliceAt 9 (.string {data:=#[101,49,99,49,97,49,100,49]}) none (some (.int .i64 2)) none).run Tryz.prog W=.ok (.string (str (nmL 4))) W:=fun W=>by kernel_rfl
   have q2:∀ W,(Instr.sliceAt 9 (.string {data:=#[101,49,99,49,97,49,100,49]}) (some (.int .i64 2)) (some (.int .i64 4)) none).run Tryz.prog W=.ok (.string (str (nmL 2))) W:=fun W=>by kernel_rfl
   have q3:∀ W,(Instr.sliceAt 9 (.string {data:=#[101,49,99,49,97,49,100,49]}) (some (.int .i64 4)) (some (.int .i64 6)) none).run Tryz.prog W=.ok (.string (str (nmL 0))) W:=fun W=>by kernel_rfl
   have q4:∀ W,(Instr.sliceAt 9 (.string {data:=#[101,49,99,49,97,49,100,49]}) (some (.int .i64 6)) none none).run Tryz.prog W=.ok (.string (str (nmL 3))) W:=fun W=>by kernel_rfl
   have t1:=ax (w:=wr) (fun W _=>(show Clz 131 #[.agg #[.int .i64 8,.int .i64 8],.string (str (nmL 4))] W fun e w'=>e=.returned (.int .i64 4)∧Bw W w' from aG 4 (by decide) W));have t2:=ax (w:=wr) (fun W _=>(show Clz 131 #[.agg #[.int .i64 8,.int .i64 8],.string (str (nmL 2))] W fun e w'=>e=.returned (.int .i64 2)∧Bw W w' from aG 2 (by decide) W));have m1:=am hAr;have m2:=am hMr;go_upto_region 10 with fail;rcases z1:(fr==4)with _|_
   ·refine ag (by kernel_rfl) (by kernel_rfl) ?_;repeat(go_big_quiet_step (first|with_reducible exact t1 _ _|with_reducible exact t2 _ _|fail))
    refine wpQuiet_nil ?_;intro w3 hb3;have hB3:=zbc hBr hb3;clear m1 m2 t1 t2 q1 q2 q3 q4 c0 l0;go_wp2_with fail;go_roundg (gk-1)
    case measure=>omega
    case rel=>exact⟨2,by omega,by decide,by go_num,zhd (by exact .inr (.inr ⟨rfl,hno.out,.inl z1⟩)),hB3⟩
   ·rcases z2:(tg==2)with _|_
    ·refine ag (by kernel_rfl) (by kernel_rfl) ?_;repeat(go_big_quiet_step (first|with_reducible exact t1 _ _|with_reducible exact t2 _ _|fail))
     refine wpQuiet_nil ?_;intro w3 hb3;have hB3:=zbc hBr hb3;clear m1 m2 t1 t2 q1 q2 q3 q4 c0 l0;go_wp2_with fail;go_roundg (gk-1)
     case measure=>omega
     case rel=>exact⟨2,by omega,by decide,by go_num,zhd (by exact .inr (.inr ⟨rfl,hno.out,.inr z2⟩)),hB3⟩
    ·refine ag (by kernel_rfl) (by kernel_rfl) ?_;repeat(go_big_quiet_step (first|with_reducible exact t1 _ _|with_reducible exact t2 _ _|fail))
     refine wpQuiet_nil ?_;intro w3 hb3;have hB3:=zbc hBr hb3;have hA3:=hAr.call hb3;clear m1 m2 t1 t2 c0 l0;have t1:=ax (w:=w3) (fun W _=>(show Clz 131 #[.agg #[.int .i64 8,.int .i64 8],.string (str (nmL 0))] W fun e w'=>e=.returned (.int .i64 0)∧Bw W w' from aG 0 (by decide) W));have t2:=ax (w:=w3) (fun W _=>(show Clz 131 #[.agg #[.int .i64 8,.int .i64 8],.string (str (nmL 3))] W fun e w'=>e=.returned (.int .i64 3)∧Bw W w' from aG 3 (by decide) W));have m1:=am hA3;go_upto_region 11 with fail;refine ag (by kernel_rfl) (by kernel_rfl) ?_;repeat(go_big_quiet_step (first|with_reducible exact t1 _ _|with_reducible exact t2 _ _|fail))
     refine wpQuiet_nil ?_;intro w4 hb4;go_wp2_with fail;go_ret3
     refine⟨?_,aI hB hBz (zbc hB3 hb4)⟩;rw[hv.out];rw[show rokW 8 8 fr tg false=some ⟨2,false,4,2,0,3⟩from by obtain rfl:=beq_iff_eq.1 z1;obtain rfl:=beq_iff_eq.1 z2;decide];rfl
  ·clear hcase c0 l0;have hz:rokW 8 8 fr tg false=none:=by
    unfold rokW;rw[if_pos ⟨rfl,rfl⟩,List.find?_eq_none];intro c hc;simp only[az,List.mem_cons,List.not_mem_nil,or_false]at hc;simp only[beq_eq_false_iff_ne,ne_eq]at hno hno2;rcases hc with rfl|rfl|rfl|rfl<;>simp<;>omega
   replace hno:=zhd hno;replace hno2:=zhd hno2;replace hz:=zhd hz;go_wp2_with fail;go_ret3
   refine⟨?_,aI hB hBz hBr⟩;rw[hv.out,hz.out];rfl
theorem te(n:Nat)(pp:Option Addr)(cc:Nat)(b0:Bool)(ca pa ha fu fr tg pr:Int)(w:World):
  Clz 104 #[.agg (aa 8 8 pp n cc b0 ca pa ha fu).toArray,.agg #[.int .i64 fr,.int .i64 tg,.int .i8 pr],.bool true] w fun e w'=>e=.returned (kc (rokW 8 8 fr tg true))∧Bw w w':=by
 have hA:=(((ac.new w (.cells (aa 8 8 pp n cc b0 ca pa ha fu).toArray 26)).alloc (.cells #[.int .i64 fr,.int .i64 tg,.int .i8 pr] 40)).alloc (.cells #[.string {data:=#[101,49,103,49,104,49,102,49]},.string {data:=#[101,49,99,49,97,49,100,49]}] 9)).alloc (.cells #[.string {data:=#[101,56,103,56,104,56,102,56]},.string {data:=#[101,56,99,56,97,56,100,56]}] 9);have hM:=((ac.new' (w.alloc (.cells (aa 8 8 pp n cc b0 ca pa ha fu).toArray 26)) (.cells #[.int .i64 fr,.int .i64 tg,.int .i8 pr] 40) (q:=w.heap.size+1) (by simp)).alloc (.cells #[.string {data:=#[101,49,103,49,104,49,102,49]},.string {data:=#[101,49,99,49,97,49,100,49]}] 9)).alloc (.cells #[.string {data:=#[101,56,103,56,104,56,102,56]},.string {data:=#[101,56,99,56,97,56,100,56]}] 9);have hN:=ac.new' (((w.alloc (.cells (aa 8 8 pp n cc b0 ca pa ha fu).toArray 26)).alloc (.cells #[.int .i64 fr,.int .i64 tg,.int .i8 pr] 40)).alloc (.cells #[.string {data:=#[101,49,103,49,104,49,102,49]},.string {data:=#[101,49,99,49,97,49,100,49]}] 9)) (.cells #[.string {data:=#[101,56,103,56,104,56,102,56]},.string {data:=#[101,56,99,56,97,56,100,56]}] 9) (q:=w.heap.size+1+1+1) (by simp);have hB:Bw w ((((w.alloc (.cells (aa 8 8 pp n cc b0 ca pa ha fu).toArray 26)).alloc (.cells #[.int .i64 fr,.int .i64 tg,.int .i8 pr] 40)).alloc (.cells #[.string {data:=#[101,49,103,49,104,49,102,49]},.string {data:=#[101,49,99,49,97,49,100,49]}] 9)).alloc (.cells #[.string {data:=#[101,56,103,56,104,56,102,56]},.string {data:=#[101,56,99,56,97,56,100,56]}] 9)):=(((ae w _).alloc (by simp) _).alloc (by simp<;>omega) _).alloc (by simp<;>omega) _;obtain⟨v,hv⟩:∃ v,v=kc (rokW 8 8 fr tg true):=⟨_,rfl⟩;rw[←hv];replace hv:=zhd hv;go_enter Tryz.func104,Tryz.ntmps104;go_upto_region 6 with fail;change Code.wp _ _ _ _ ((((w.alloc (.cells (aa 8 8 pp n cc b0 ca pa ha fu).toArray 26)).alloc (.cells #[.int .i64 fr,.int .i64 tg,.int .i8 pr] 40)).alloc (.cells #[.string {data:=#[101,49,103,49,104,49,102,49]},.string {data:=#[101,49,99,49,97,49,100,49]}] 9)).alloc (.cells #[.string {data:=#[101,56,103,56,104,56,102,56]},.string {data:=#[101,56,99,56,97,56,100,56]}] 9));generalize (((w.alloc (.cells (aa 8 8 pp n cc b0 ca pa ha fu).toArray 26)).alloc (.cells #[.int .i64 fr,.int .i64 tg,.int .i8 pr] 40)).alloc (.cells #[.string {data:=#[101,49,103,49,104,49,102,49]},.string {data:=#[101,49,99,49,97,49,100,49]}] 9)).alloc (.cells #[.string {data:=#[101,56,103,56,104,56,102,56]},.string {data:=#[101,56,99,56,97,56,100,56]}] 9)=W1 at *;obtain⟨q,hq⟩:∃ q,q=w.heap.size:=⟨_,rfl⟩;have hBz:=hB.size;rw[←hq]at hA hM hN ⊢;replace hq:=zhd hq;go_wp2_with fail;go_loopg [10] 3 (fun gq iv wr=>∃ k:Nat,gq+k=3∧k≤2∧iv=.int .i64 k∧Hid (k=0∨(k=1∧((fr==60)=false∨(tg==62)=false))∨(k=2∧((fr==60)=false∨(tg==62)=false)∧((fr==60)=false∨(tg==58)=false)))∧Bw W1 wr)
 case atStart=>exact⟨0,by omega,by decide,rfl,zhd (.inl rfl),Below.refl _ _⟩
 case round =>
  obtain⟨k,hgq,hk2,rfl,hcase,hBr⟩:=hrel;have hAr:=hA.call hBr;have hMr:=hM.call hBr;have hNr:=hN.call hBr;have⟨c0,l0⟩:=hNr.cl;rcases hcase.out with rfl|⟨rfl,hno⟩|⟨rfl,hno,hno2⟩
  ·clear hcase;have q1:∀ W,(Instr.sliceAt 9 (.string {data:=#[101,56,103,56,104,56,102,56]}) none (some (.int .i64 2)) none).run Tryz.prog W=.ok (.string (str (nmL 60))) W:=fun W=>by kernel_rfl
   have q2:∀ W,(Instr.sliceAt 9 (.string {data:=#[101,56,103,56,104,56,102,56]}) (some (.int .i64 2)) (some (.int .i64 4)) none).run Tryz.prog W=.ok (.string (str (nmL 62))) W:=fun W=>by kernel_rfl
   have q3:∀ W,(Instr.sliceAt 9 (.string {data:=#[101,56,103,56,104,56,102,56]}) (some (.int .i64 4)) (some (.int .i64 6)) none).run Tryz.prog W=.ok (.string (str (nmL 63))) W:=fun W=>by kernel_rfl
   have q4:∀ W,(Instr.sliceAt 9 (.string {data:=#[101,56,103,56,104,56,102,56]}) (some (.int .i64 6)) none none).run Tryz.prog W=.ok (.string (str (nmL 61))) W:=fun W=>by kernel_rfl
   have t1:=ax (w:=wr) (fun W _=>(show Clz 131 #[.agg #[.int .i64 8,.int .i64 8],.string (str (nmL 60))] W fun e w'=>e=.returned (.int .i64 60)∧Bw W w' from aG 60 (by decide) W));have t2:=ax (w:=wr) (fun W _=>(show Clz 131 #[.agg #[.int .i64 8,.int .i64 8],.string (str (nmL 62))] W fun e w'=>e=.returned (.int .i64 62)∧Bw W w' from aG 62 (by decide) W));have m1:=am hAr;have m2:=am hMr;go_upto_region 10 with fail;rcases z1:(fr==60)with _|_
   ·refine ag (by kernel_rfl) (by kernel_rfl) ?_;repeat(go_big_quiet_step (first|with_reducible exact t1 _ _|with_reducible exact t2 _ _|fail))
    refine wpQuiet_nil ?_;intro w3 hb3;have hB3:=zbc hBr hb3;clear m1 m2 t1 t2 q1 q2 q3 q4 c0 l0;go_wp2_with fail;go_roundg (gk-1)
    case measure=>omega
    case rel=>exact⟨1,by omega,by decide,by go_num,zhd (by exact .inr (.inl ⟨rfl,.inl z1⟩)),hB3⟩
   ·rcases z2:(tg==62)with _|_
    ·refine ag (by kernel_rfl) (by kernel_rfl) ?_;repeat(go_big_quiet_step (first|with_reducible exact t1 _ _|with_reducible exact t2 _ _|fail))
     refine wpQuiet_nil ?_;intro w3 hb3;have hB3:=zbc hBr hb3;clear m1 m2 t1 t2 q1 q2 q3 q4 c0 l0;go_wp2_with fail;go_roundg (gk-1)
     case measure=>omega
     case rel=>exact⟨1,by omega,by decide,by go_num,zhd (by exact .inr (.inl ⟨rfl,.inr z2⟩)),hB3⟩
    ·refine ag (by kernel_rfl) (by kernel_rfl) ?_;repeat(go_big_quiet_step (first|with_reducible exact t1 _ _|with_reducible exact t2 _ _|fail))
     refine wpQuiet_nil ?_;intro w3 hb3;have hB3:=zbc hBr hb3;have hA3:=hAr.call hb3;clear m1 m2 t1 t2 c0 l0;have t1:=ax (w:=w3) (fun W _=>(show Clz 131 #[.agg #[.int .i64 8,.int .i64 8],.string (str (nmL 63))] W fun e w'=>e=.returned (.int .i64 63)∧Bw W w' from aG 63 (by decide) W));have t2:=ax (w:=w3) (fun W _=>(show Clz 131 #[.agg #[.int .i64 8,.int .i64 8],.string (str (nmL 61))] W fun e w'=>e=.returned (.int .i64 61)∧Bw W w' from aG 61 (by decide) W));have m1:=am hA3;go_upto_region 11 with fail;refine ag (by kernel_rfl) (by kernel_rfl) ?_;repeat(go_big_quiet_step (first|with_reducible exact t1 _ _|with_reducible exact t2 _ _|fail))
     refine wpQuiet_nil ?_;intro w4 hb4;go_wp2_with fail;go_ret3
     refine⟨?_,aI hB hBz (zbc hB3 hb4)⟩;rw[hv.out];rw[show rokW 8 8 fr tg true=some ⟨4,true,60,62,63,61⟩from by obtain rfl:=beq_iff_eq.1 z1;obtain rfl:=beq_iff_eq.1 z2;decide];rfl
  ·clear hcase;replace hno:=zhd hno;have q1:∀ W,(Instr.sliceAt 9 (.string {data:=#[101,56,99,56,97,56,100,56]}) none (some (.int .i64 2)) none).run Tryz.prog W=.ok (.string (str (nmL 60))) W:=fun W=>by kernel_rfl
   have q2:∀ W,(Instr.sliceAt 9 (.string {data:=#[101,56,99,56,97,56,100,56]}) (some (.int .i64 2)) (some (.int .i64 4)) none).run Tryz.prog W=.ok (.string (str (nmL 58))) W:=fun W=>by kernel_rfl
   have q3:∀ W,(Instr.sliceAt 9 (.string {data:=#[101,56,99,56,97,56,100,56]}) (some (.int .i64 4)) (some (.int .i64 6)) none).run Tryz.prog W=.ok (.string (str (nmL 56))) W:=fun W=>by kernel_rfl
   have q4:∀ W,(Instr.sliceAt 9 (.string {data:=#[101,56,99,56,97,56,100,56]}) (some (.int .i64 6)) none none).run Tryz.prog W=.ok (.string (str (nmL 59))) W:=fun W=>by kernel_rfl
   have t1:=ax (w:=wr) (fun W _=>(show Clz 131 #[.agg #[.int .i64 8,.int .i64 8],.string (str (nmL 60))] W fun e w'=>e=.returned (.int .i64 60)∧Bw W w' from aG 60 (by decide) W));have t2:=ax (w:=wr) (fun W _=>(show Clz 131 #[.agg #[.int .i64 8,.int .i64 8],.string (str (nmL 58))] W fun e w'=>e=.returned (.int .i64 58)∧Bw W w' from aG 58 (by decide) W));have m1:=am hAr;have m2:=am hMr;go_upto_region 10 with fail;rcases z1:(fr==60)with _|_
   ·refine ag (by kernel_rfl) (by kernel_rfl) ?_;repeat(go_big_quiet_step (first|with_reducible exact t1 _ _|with_reducible exact t2 _ _|fail))
    refine wpQuiet_nil ?_;intro w3 hb3;have hB3:=zbc hBr hb3;clear m1 m2 t1 t2 q1 q2 q3 q4 c0 l0;go_wp2_with fail;go_roundg (gk-1)
    case measure=>omega
    case rel=>exact⟨2,by omega,by decide,by go_num,zhd (by exact .inr (.inr ⟨rfl,hno.out,.inl z1⟩)),hB3⟩
   ·rcases z2:(tg==58)with _|_
    ·refine ag (by kernel_rfl) (by kernel_rfl) ?_;repeat(go_big_quiet_step (first|with_reducible exact t1 _ _|with_reducible exact t2 _ _|fail))
     refine wpQuiet_nil ?_;intro w3 hb3;have hB3:=zbc hBr hb3;clear m1 m2 t1 t2 q1 q2 q3 q4 c0 l0;go_wp2_with fail;go_roundg (gk-1)
     case measure=>omega
     case rel=>exact⟨2,by omega,by decide,by go_num,zhd (by exact .inr (.inr ⟨rfl,hno.out,.inr z2⟩)),hB3⟩
    ·refine ag (by kernel_rfl) (by kernel_rfl) ?_;repeat(go_big_quiet_step (first|with_reducible exact t1 _ _|with_reducible exact t2 _ _|fail))
     refine wpQuiet_nil ?_;intro w3 hb3;have hB3:=zbc hBr hb3;have hA3:=hAr.call hb3;clear m1 m2 t1 t2 c0 l0;have t1:=ax (w:=w3) (fun W _=>(show Clz 131 #[.agg #[.int .i64 8,.int .i64 8],.string (str (nmL 56))] W fun e w'=>e=.returned (.int .i64 56)∧Bw W w' from aG 56 (by decide) W));have t2:=ax (w:=w3) (fun W _=>(show Clz 131 #[.agg #[.int .i64 8,.int .i64 8],.string (str (nmL 59))] W fun e w'=>e=.returned (.int .i64 59)∧Bw W w' from aG 59 (by decide) W));have m1:=am hA3;go_upto_region 11 with fail;refine ag (by kernel_rfl) (by kernel_rfl) ?_;repeat(go_big_quiet_step (first|with_reducible exact t1 _ _|with_reducible exact t2 _ _|fail))
     refine wpQuiet_nil ?_;intro w4 hb4;go_wp2_with fail;go_ret3
     refine⟨?_,aI hB hBz (zbc hB3 hb4)⟩;rw[hv.out];rw[show rokW 8 8 fr tg true=some ⟨8,true,60,58,56,59⟩from by obtain rfl:=beq_iff_eq.1 z1;obtain rfl:=beq_iff_eq.1 z2;decide];rfl
  ·clear hcase c0 l0;have hz:rokW 8 8 fr tg true=none:=by
    unfold rokW;rw[if_pos ⟨rfl,rfl⟩,List.find?_eq_none];intro c hc;simp only[az,List.mem_cons,List.not_mem_nil,or_false]at hc;simp only[beq_eq_false_iff_ne,ne_eq]at hno hno2;rcases hc with rfl|rfl|rfl|rfl<;>simp<;>omega
   replace hno:=zhd hno;replace hno2:=zhd hno2;replace hz:=zhd hz;go_wp2_with fail;go_ret3
   refine⟨?_,aI hB hBz hBr⟩;rw[hv.out,hz.out];rfl
theorem vE(F R:Int)(n:Nat)(pp:Option Addr)(cc:Nat)(b0:Bool)(ca pa ha fu fr tg pr:Int)(bl:Bool)(w:World):
  Clz 104 #[.agg (aa F R pp n cc b0 ca pa ha fu).toArray,.agg #[.int .i64 fr,.int .i64 tg,.int .i8 pr],.bool bl] w fun e w'=>e=.returned (kc (rokW F R fr tg bl))∧Bw w w':=by
 by_cases h8:F=8∧R=8
 ·obtain⟨rfl,rfl⟩:=h8;cases bl
  ·exact rL n pp cc b0 ca pa ha fu fr tg pr w
  ·exact te n pp cc b0 ca pa ha fu fr tg pr w
 ·rw[show rokW F R fr tg bl=none from if_neg h8];have hA:=(ac.new w (.cells (aa F R pp n cc b0 ca pa ha fu).toArray 26)).alloc (.cells #[.int .i64 fr,.int .i64 tg,.int .i8 pr] 40);have hB:=(ae w (.cells (aa F R pp n cc b0 ca pa ha fu).toArray 26)).alloc (by simp) (.cells #[.int .i64 fr,.int .i64 tg,.int .i8 pr] 40);have⟨c0,l0⟩:=hA.cl;rcases z1:(F != 8)with _|_
  ·have z2:(R != 8)=true:=by simp only[bne_eq_false_iff_eq]at z1;simp only[bne_iff_ne];exact fun h=>h8 ⟨z1,h⟩
   go_enter Tryz.func104,Tryz.ntmps104;go_wp2_with fail;go_ret3
   exact⟨rfl,hB⟩
  ·go_enter Tryz.func104,Tryz.ntmps104;go_wp2_with fail;go_ret3
   exact⟨rfl,hB⟩
def sfF(q0 q1 q2 q5:Nat)(sd:Bool)(own kg:Int)(X:Nat→Value):Array Value:=(litB (fun i=>match i with|2=>.pointer (some ⟨q0,0,none⟩)|3=>.pointer (some ⟨q1,0,none⟩)|4=>.pointer (some ⟨q2,0,none⟩)|5=>.pointer (some ⟨q5,0,none⟩)|6=>.bool sd|7=>.int .i8 own|9=>.int .i8 kg|i=>X i) 0 111).toArray
def sfT(T:Array Value)(q0 q1 q2 q5:Nat)(sd:Bool)(own kg:Int):Prop:=T.size=111∧ofA T 2=.pointer (some ⟨q0,0,none⟩)∧ofA T 3=.pointer (some ⟨q1,0,none⟩)∧ofA T 4=.pointer (some ⟨q2,0,none⟩)∧ofA T 5=.pointer (some ⟨q5,0,none⟩)∧ofA T 6=.bool sd∧ofA T 7=.int .i8 own∧ofA T 9=.int .i8 kg
theorem sfT.fr{T:Array Value}{q0 q1 q2 q5:Nat}{sd:Bool}{own kg:Int}(h:sfT T q0 q1 q2 q5 sd own kg):∃ X,T=sfF q0 q1 q2 q5 sd own kg X:=by obtain⟨hs,h2,h3,h4,h5,h6,h7,h9⟩:=h;refine⟨ofA T,(frB T hs).trans (congrArg (fun X=>(litB X 0 111).toArray) (funext fun i=>?_))⟩;split<;>first|assumption|rfl
theorem wH(w:World)(F R:Nat)(xs:List Int)(bl:Bool)(can:Nat)(pa ha fu:Int)(pp:Option Addr)(cc:Nat)(r:Ret)(q0 q1 q2 q5 qa cap:Nat)(sd:Bool)(own kg:Int)(T:Array Value)(hT:sfT T q0 q1 q2 q5 sd own kg)(ys:List Int)(Rs:Ending→World→Prop)(CA PA HA:Int)(hfu:-10000≤fu∧fu≤10000)
  (W:World) (hQ:BfQ w q0 q1 q2 qa q5) (hS:BfS w ⟨F,R,xs,bl,can,pa,ha,fu⟩ pp cc r q0 q1 q2 q5 qa cap ys (aa F R (some ⟨qa,0,none⟩) xs.length cap sd CA PA HA fu) W)
  (hok:∀ w',Bw w w'→aC w' qa cap ys→Rs (.returned (.agg (aa F R (some ⟨qa,0,none⟩) xs.length cap sd CA PA HA (if sd then fu-1 else fu)).toArray)) w')
  (cd:Code) (hcd:Tryz.f45.body.map (aq 12)=some cd):cd.wp Tryz.prog (bodyPost Tryz.prog Tryz.f45 Rs) {tmps:=T,defers:=[]} W:=by
 obtain rfl:=Option.some.inj ((show Tryz.f45.body.map (aq 12)=some _ from rfl).symm.trans hcd);clear hcd;simp only[aq];obtain⟨X,rfl⟩:=hT.fr;clear hT;dsimp only[sfF,litB,Nat.reduceAdd];cases sd
 ·simp only[Bool.false_eq_true,if_false]at hok;have hO:=hS.t;have hZ:=hS.o;have⟨hi,ho⟩:=zrw 26 (A:=(aa F R (some ⟨qa,0,none⟩) xs.length cap false CA PA HA fu).toArray) (by kernel_rfl) (by simp[Value.oneCell']);go_wp2_with (first|(refine ba rfl 26 (.tmp 5) rfl q5 _ 26 rfl hO (by kernel_rfl) ?_)|((refine ai rfl 26 (.tmp 4) (.tmp 110) rfl q2 _ rfl rfl 26 _ hZ hi.out rfl ho.out ?_);rintro w3 rfl)|fail);refine bodyPost_ret (bg (fn:=Tryz.f45) Tryz.results45 rfl (ak (cells:=(aa F R (some ⟨qa,0,none⟩) xs.length cap false CA PA HA fu).toArray) hZ) (by kernel_rfl)) rfl (hok _ (aj hS.b (by unfold BfQ at hQ;omega) hS.b.size) (hS.y.farR (by unfold BfQ at hQ;omega) _))
 ·simp only[if_true]at hok;have o1:=hS.t.cells 7;have f1:=hS.t.frozen 7;have l1:=hS.t.lt;go_upto_region 21 with fail;have hS2:BfS w ⟨F,R,xs,bl,can,pa,ha,fu⟩ pp cc r q0 q1 q2 q5 qa cap ys (aa F R (some ⟨qa,0,none⟩) xs.length cap true CA PA HA (fu-1)) (W.setCell ⟨q5,7,none⟩ (.int .i64 (fu-1))):=hS.set5 hQ 7 (.int .i64 (fu-1));generalize W.setCell ⟨q5,7,none⟩ (.int .i64 (fu-1))=W2 at *;clear o1 f1 l1 hS;have hO:=hS2.t;have hZ:=hS2.o;have⟨hi,ho⟩:=zrw 26 (A:=(aa F R (some ⟨qa,0,none⟩) xs.length cap true CA PA HA (fu-1)).toArray) (by kernel_rfl) (by simp[Value.oneCell']);go_wp2_with (first|(refine ba rfl 26 (.tmp 5) rfl q5 _ 26 rfl hO (by kernel_rfl) ?_)|((refine ai rfl 26 (.tmp 4) (.tmp 110) rfl q2 _ rfl rfl 26 _ hZ hi.out rfl ho.out ?_);rintro w3 rfl)|fail);refine bodyPost_ret (bg (fn:=Tryz.f45) Tryz.results45 rfl (ak (cells:=(aa F R (some ⟨qa,0,none⟩) xs.length cap true CA PA HA (fu-1)).toArray) hZ) (by kernel_rfl)) rfl (hok _ (aj hS2.b (by unfold BfQ at hQ;omega) hS2.b.size) (hS2.y.farR (by unfold BfQ at hQ;omega) _))
theorem wt(w:World)(F R:Nat)(xs:List Int)(bl:Bool)(can:Nat)(pa ha fu:Int)(pp:Option Addr)(cc:Nat)(r:Ret)(q0 q1 q2 q5 qa cap:Nat)(sd:Bool)(own kg:Int)(T:Array Value)(hT:sfT T q0 q1 q2 q5 sd own kg)(ys:List Int)(Rs:Ending→World→Prop)(hha:0≤ha∧ha≤10000)(hfu:-10000≤fu∧fu≤10000)
  (W:World) (hQ:BfQ w q0 q1 q2 qa q5) (hS:BfS w ⟨F,R,xs,bl,can,pa,ha,fu⟩ pp cc r q0 q1 q2 q5 qa cap ys (aa F R (some ⟨qa,0,none⟩) xs.length cap bl can pa ha fu) W)
  (hok:∀ w',Bw w w'→aC w' qa cap ys→Rs (.returned (.agg (aa F R (some ⟨qa,0,none⟩) xs.length cap sd r.ca r.pa (max 0 (ha-1)) (if sd then fu-1 else fu)).toArray)) w')
  (cd:Code) (hcd:Tryz.f45.body.map (aq 10)=some cd):cd.wp Tryz.prog (bodyPost Tryz.prog Tryz.f45 Rs) {tmps:=T,defers:=[]} W:=by
 obtain rfl:=Option.some.inj ((show Tryz.f45.body.map (aq 10)=some _ from rfl).symm.trans hcd);clear hcd;simp only[aq];obtain⟨X,rfl⟩:=hT.fr;clear hT;dsimp only[sfF,litB,Nat.reduceAdd];go_upto_region 16 with fail;rename_i hk;replace hk:=zhd hk;try dsimp only
 obtain⟨Wk,hWk⟩:∃ Wk:Nat→World,Wk=fun k=>match k with|0=>W|1=>W.setCell ⟨q5,3,none⟩ (.bool sd)|2=>(W.setCell ⟨q5,3,none⟩ (.bool sd)).setCell ⟨q5,4,none⟩ (.int .u8 r.ca)|_=>((W.setCell ⟨q5,3,none⟩ (.bool sd)).setCell ⟨q5,4,none⟩ (.int .u8 r.ca)).setCell ⟨q5,5,none⟩ (.int .i64 r.pa):=⟨_,rfl⟩
 have hW0:Wk 0=W:=by subst hWk;rfl
 have hW1:Wk (0+1)=(Wk 0).setCell ⟨q5,3,none⟩ (.bool sd):=by subst hWk;rfl
 have hW2:Wk (1+1)=(Wk 1).setCell ⟨q5,4,none⟩ (.int .u8 r.ca):=by subst hWk;rfl
 have hW3:Wk (2+1)=(Wk 2).setCell ⟨q5,5,none⟩ (.int .i64 r.pa):=by subst hWk;rfl
 have hS1:=hS.set5 hQ 3 (.bool sd);have hS2:=hS1.set5 hQ 4 (.int .u8 r.ca);have hS3:=hS2.set5 hQ 5 (.int .i64 r.pa);have m1:=bj (Wk:=Wk) (q:=q1) (fun k=>by
  subst hWk;rcases k with _|_|_|k
  ·exact hS.m
  ·exact hS1.m
  ·exact hS2.m
  ·exact hS3.m)
 have m1':∀ k d os j,(grow (redrawn (Wk k) d) os).cell? ⟨q1,j,none⟩=(#[.int .i64 r.mv.fr,.int .i64 r.mv.tg,.int .i8 r.mv.pr,.int .i8 r.cp,.int .i64 r.at_,.int .u8 r.ca,.int .i64 r.pa]:Array Value)[j]?:=m1;have hSk:BfS w ⟨F,R,xs,bl,can,pa,ha,fu⟩ pp cc r q0 q1 q2 q5 qa cap ys (aa F R (some ⟨qa,0,none⟩) xs.length cap sd r.ca r.pa ha fu) (Wk [6,8,10].length):=by subst hWk;exact hS3
 have c0:(Wk 0).cell? ⟨q5,3,none⟩=some (.bool bl):=by rw[hW0];exact hS.t.cells 3
 have g0:(Wk 0).frozen? ⟨q5,3,none⟩=false:=by rw[hW0];exact hS.t.frozen 3
 have c1:(Wk 1).cell? ⟨q5,4,none⟩=some (.int .u8 can):=by subst hWk;exact hS1.t.cells 4
 have g1:(Wk 1).frozen? ⟨q5,4,none⟩=false:=by subst hWk;exact hS1.t.frozen 4
 have c2:(Wk 2).cell? ⟨q5,5,none⟩=some (.int .i64 pa):=by subst hWk;exact hS2.t.cells 5
 have g2:(Wk 2).frozen? ⟨q5,5,none⟩=false:=by subst hWk;exact hS2.t.frozen 5
 clear hWk m1 hS1 hS2 hS3;replace hW1:=zhd hW1;replace hW2:=zhd hW2;replace hW3:=zhd hW3;refine aR [6,8,10] [(0,0),(0,1),(0,1),(0,2),(0,2),(0,0),(9,9),(1,1),(9,9),(2,2)] Wk (by kernel_rfl) (by kernel_rfl) hW0 ?_;replace hW0:=zhd hW0;refine a8 0 rfl rfl ?_;go_big_quiet_step (fail);refine wpQuiet_nil ?_;iterate 4 (refine ci rfl rfl ?_;go_big_quiet_step (fail);refine wpQuiet_nil ?_)
 refine a8 0 rfl rfl ?_;go_big_quiet_step (fail);refine wpQuiet_nil ?_;refine dc 0 rfl rfl 4 (.tmp 95) (.tmp 90) rfl rfl rfl (by kernel_rfl) rfl c0 g0 hW1.out rfl ?_;refine a8 1 rfl rfl ?_;go_big_quiet_step (fail);refine wpQuiet_nil ?_;refine dc 1 rfl rfl 5 (.tmp 96) (.tmp 92) rfl rfl rfl (by kernel_rfl) rfl c1 g1 hW2.out rfl ?_;refine a8 2 rfl rfl ?_;go_big_quiet_step (fail);refine wpQuiet_nil ?_;refine dc 2 rfl rfl 3 (.tmp 97) (.tmp 94) rfl rfl rfl (by kernel_rfl) rfl c2 g2 hW3.out rfl ?_;refine cm ?_;intro W6 hb6;have hS6:=hSk.call hb6;clear m1' c0 c1 c2 g0 g1 g2 hSk;have o1:=hS6.t.cells 6;have f1:=hS6.t.frozen 6;have l1:=hS6.t.lt;refine hk.out _ _ ?_;rcases z:decide (0<ha)with _|_
 ·have hz:¬0<ha:=by simpa using z
  have hm:max 0 (ha-1)=ha:=by omega
  rw[hm]at hok;replace hm:=zhd hm;go_upto_region 17 with fail;rename_i k2 hk2 k3 hk3;replace hk2:=zhd hk2;go_wp2_with fail;refine hk2.out _ _ ?_;refine wH w F R xs bl can pa ha fu pp cc r q0 q1 q2 q5 qa cap sd own kg _ ?_ ys Rs _ _ _ hfu W6 hQ hS6 hok _ ?_
  ·exact⟨rfl,rfl,rfl,rfl,rfl,rfl,rfl,rfl⟩
  ·exact rfl
 ·have hz:0<ha:=by simpa using z
  have hm:max 0 (ha-1)=ha-1:=by omega
  rw[hm]at hok;replace hm:=zhd hm;go_upto_region 17 with fail;rename_i k2 hk2 k3 hk3;replace hk2:=zhd hk2;go_wp2_with fail;have hS7:BfS w ⟨F,R,xs,bl,can,pa,ha,fu⟩ pp cc r q0 q1 q2 q5 qa cap ys (aa F R (some ⟨qa,0,none⟩) xs.length cap sd r.ca r.pa (ha-1) fu) (W6.setCell ⟨q5,6,none⟩ (.int .i64 (ha-1))):=hS6.set5 hQ 6 (.int .i64 (ha-1));generalize W6.setCell ⟨q5,6,none⟩ (.int .i64 (ha-1))=W7 at *;refine hk2.out _ _ ?_;refine wH w F R xs bl can pa ha fu pp cc r q0 q1 q2 q5 qa cap sd own kg _ ?_ ys Rs _ _ _ hfu W7 hQ hS7 hok _ ?_
  ·exact⟨rfl,rfl,rfl,rfl,rfl,rfl,rfl,rfl⟩
  ·exact rfl
theorem A0(w:World)(F R:Nat)(xs:List Int)(bl:Bool)(can:Nat)(pa ha fu:Int)(pp:Option Addr)(cc:Nat)(r:Ret)(q0 q1 q2 q5 qa cap:Nat)(sd:Bool)(own kg:Int)(T:Array Value)(hT:sfT T q0 q1 q2 q5 sd own kg)(ys:List Int)(Rs:Ending→World→Prop)(hha:0≤ha∧ha≤10000)(hfu:-10000≤fu∧fu≤10000)(hly:ys.length=xs.length)
  (W:World) (hQ:BfQ w q0 q1 q2 qa q5) (hS:BfS w ⟨F,R,xs,bl,can,pa,ha,fu⟩ pp cc r q0 q1 q2 q5 qa cap ys (aa F R (some ⟨qa,0,none⟩) xs.length cap bl can pa ha fu) W)
  (hok:∀ w',Bw w w'→aC w' qa cap (if 0≤r.at_∧r.at_<ys.length then ys.set r.at_.toNat r.cp else ys)→Rs (.returned (.agg (aa F R (some ⟨qa,0,none⟩) xs.length cap sd r.ca r.pa (max 0 (ha-1)) (if sd then fu-1 else fu)).toArray)) w')
  (cd:Code) (hcd:Tryz.f45.body.map (aq 9)=some cd):cd.wp Tryz.prog (bodyPost Tryz.prog Tryz.f45 Rs) {tmps:=T,defers:=[]} W:=by
 obtain rfl:=Option.some.inj ((show Tryz.f45.body.map (aq 9)=some _ from rfl).symm.trans hcd);clear hcd;simp only[aq];obtain⟨X,rfl⟩:=hT.fr;clear hT;dsimp only[sfF,litB,Nat.reduceAdd];have p1:∀ j,W.cell? ⟨q1,j,none⟩=(#[.int .i64 r.mv.fr,.int .i64 r.mv.tg,.int .i8 r.mv.pr,.int .i8 r.cp,.int .i64 r.at_,.int .u8 r.ca,.int .i64 r.pa]:Array Value)[j]?:=hS.m.cells;have l1:=hS.m.lt;have p5:∀ j,W.cell? ⟨q5,j,none⟩=(aa F R (some ⟨qa,0,none⟩) xs.length cap bl can pa ha fu).toArray[j]?:=hS.t.cells;have l5:=hS.t.lt;have lq:=hS.y.lt;obtain⟨at_,hat⟩:∃ t,t=r.at_:=⟨_,rfl⟩;obtain⟨cp,hcp⟩:∃ t,t=r.cp:=⟨_,rfl⟩;rw[←hat,←hcp]at p1;have hcond:∀ v:List Int,v=(if 0≤r.at_∧r.at_<ys.length then ys.set r.at_.toNat r.cp else ys)→∀ w',Bw w w'→aC w' qa cap v→Rs (.returned (.agg (aa F R (some ⟨qa,0,none⟩) xs.length cap sd r.ca r.pa (max 0 (ha-1)) (if sd then fu-1 else fu)).toArray)) w':=fun v hv w' h1 h2=>hok w' h1 (by rw[←hv];exact h2)
 rw[←hat,←hcp,hly]at hcond;clear hok;replace hly:=zhd hly;replace hat:=zhd hat;replace hcp:=zhd hcp;go_upto_region 14 with fail;rename_i k hk k2 hk2;replace hk:=zhd hk;have hno:¬(0≤at_∧at_<xs.length)→∀ T':Array Value,sfT T' q0 q1 q2 q5 sd own kg→k {tmps:=T',defers:=[]} W:=fun hc T' hT'=>by
  refine hk.out _ _ ?_;exact wt w F R xs bl can pa ha fu pp cc r q0 q1 q2 q5 qa cap sd own kg T' hT' ys Rs hha hfu W hQ hS (hcond ys (by rw[if_neg hc])) _ rfl
 by_cases h0:0≤at_
 ·obtain⟨K,rfl⟩:∃ K:Nat,at_=K:=⟨at_.toNat,by omega⟩;by_cases hK:K<xs.length
  ·have hii:(K:Int)<xs.length:=by omega
   have hv:=hS.y.cell (j:=K) (by have:=hly.out;omega);have hf2:=hS.y.frozen K;go_wp2_with fail;have hS2:BfS w ⟨F,R,xs,bl,can,pa,ha,fu⟩ pp cc r q0 q1 q2 q5 qa cap (ys.set K cp) (aa F R (some ⟨qa,0,none⟩) xs.length cap bl can pa ha fu) (W.setCell ⟨qa,K,none⟩ (.int .i8 cp)):=hS.setA hQ K cp;generalize W.setCell ⟨qa,K,none⟩ (.int .i8 cp)=W2 at *;refine hk.out _ _ ?_;refine wt w F R xs bl can pa ha fu pp cc r q0 q1 q2 q5 qa cap sd own kg _ ?_ (ys.set K cp) Rs hha hfu W2 hQ hS2 (hcond _ (by rw[if_pos ⟨by omega,by omega⟩,Int.toNat_natCast])) _ ?_
   ·exact⟨rfl,rfl,rfl,rfl,rfl,rfl,rfl,rfl⟩
   ·exact rfl
  ·have hii:¬((K:Int)<xs.length):=by omega
   go_wp2_with fail;exact hno (by omega) _ ⟨rfl,rfl,rfl,rfl,rfl,rfl,rfl,rfl⟩
 ·go_wp2_with fail;exact hno (by omega) _ ⟨rfl,rfl,rfl,rfl,rfl,rfl,rfl,rfl⟩
end Go.Proofs.YtefmplccbkmalaaGreatDoor
