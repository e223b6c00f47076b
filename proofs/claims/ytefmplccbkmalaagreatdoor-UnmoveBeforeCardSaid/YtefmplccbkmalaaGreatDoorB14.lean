import Derived.Test.YtefmplccbkmalaaGreatDoorB08
import Derived.Test.YtefmplccbkmalaaGreatDoorB13
set_option maxRecDepth 100000
set_option maxHeartbeats 12800000
namespace Go.Proofs.YtefmplccbkmalaaGreatDoor
open Go.RowKit Go.Sort Go.BigFrame

theorem zn{P:Pos}{m:Mv}{n:Int}(h:mkW P m=.error n):n≠0:=by
 unfold mkW at h;simp only at h;repeat' split at h
 all_goals first
  | (cases h;done)
  | (injection h with h;omega)
theorem jo(c:Prop)[Decidable c](Z:List Int)(k:Nat)(v:Int):(if c then Z.set k v else Z).length=Z.length:=by split<;>simp
theorem vr(P:Pos)(m:Mv)(c:Option Cas):(brdW P m c).length=P.xs.length:=by
 unfold brdW;simp only;split
 ·split<;>simp
 ·split<;>split<;>simp
theorem mw{P:Pos}{m:Mv}{w:World}{e:Ending}{w':World}(h:bH P m w e w'):∃(Q:Pos) (u:Und) (n:Int) (Qp:Option Addr) (Qc:Nat),e=.returned (.tuple #[.agg (aa Q.F Q.R Qp Q.xs.length Qc Q.bl Q.ca Q.pa Q.ha Q.fu).toArray,.agg u.cs.toArray,.int .i64 n])∧Bw w w'∧Arr .i8 w' Qp Q.xs ∧
  ((n≠0∧mkW P m=.error n)∨(n=0∧mkW P m=.ok (Q,u))):=by
 unfold bH at h;split at h
 ·rename_i n hn;exact⟨⟨0,0,[],false,0,0,0,0⟩,⟨⟨0,0,0⟩,0,0,0,0,0,0⟩,n,none,0,h.1,h.2,.inl rfl,.inl ⟨zn hn,hn⟩⟩
 ·rename_i Q u hn;obtain⟨q,cap,h1,h2,h3,h4⟩:=h;exact⟨Q,u,0,_,cap,h1,h2,h4.arr,.inr ⟨rfl,hn⟩⟩
theorem xB(P:Pos)(m:Mv)(c:Option Cas):(dU P m c).xs.length=P.xs.length:=by unfold dU;exact vr P m c
theorem nH{P Q:Pos}{m:Mv}{u:Und}(h:mkW P m=.ok (Q,u)):Q.F=P.F∧Q.R=P.R∧Q.xs.length=P.xs.length:=by
 unfold mkW at h;simp only at h;repeat' split at h
 all_goals first
  | (cases h;done)
  | (injection h with h
     injection h with h1 h2
     rw[←h1]
     exact⟨rfl,rfl,xB P m _⟩)
def sk(P:Pos)(r:Ret)(w:World)(e:Ending)(w':World):Prop:=∃ q cap,e=.returned (.tuple #[.agg (aa (befW P r).F (befW P r).R (some ⟨q,0,none⟩) (befW P r).xs.length cap (befW P r).bl (befW P r).ca (befW P r).pa (befW P r).ha (befW P r).fu).toArray,.bool (mayW P r)])∧Bw w w'∧w.heap.size≤q∧aC w' q cap (befW P r).xs
theorem tC{P:Pos}{r:Ret}{n:Int}(h:mkW (befW P r) r.mv=.error n):mayW P r=false:=by unfold mayW;rw[h]
theorem qI{F R:Nat}{xs:List Int}{bl:Bool}{can:Nat}{pa ha fu:Int}{r:Ret}{Q:Pos}{u:Und}(hF:Q.F=F)(hR:Q.R=R)(h:mkW (befW ⟨F,R,xs,bl,can,pa,ha,fu⟩ r) r.mv=.ok (Q,u)):
  mayW ⟨F,R,xs,bl,can,pa,ha,fu⟩ r=((posE Q.xs xs Q.bl bl Q.ca can Q.pa pa&&((Q.ha==ha)&&(Q.fu==fu)))&&((u.cp==r.cp)&&(u.at_==r.at_))):=by
 unfold mayW posE;rw[h];obtain⟨F',R',x,b,c,d,e,f⟩:=Q;simp only at hF hR;subst hF hR;simp only[Pos.mk.injEq,true_and];have e1:∀ x y:Int,(x==y)=decide (x=y):=fun x y=>rfl
 have e2:(b==bl)=decide (b=bl):=by cases b<;>cases bl<;>rfl
 rw[e1,e1,e1,e1,e1,e1,e2];simp only[Bool.decide_and];simp only[Bool.and_assoc]
theorem mb(F R:Nat)(xs:List Int)(bl:Bool)(can:Nat)(pa ha fu:Int)(r:Ret)(pp:Option Addr)(cc:Nat)(a b:Nat)(hra:r.mv.fr=a)(hrb:r.mv.tg=b)(hla:a<xs.length)(hlb:b<xs.length)(hl64:xs.length≤64)(h6:∀ x∈xs,-6≤x∧x≤6)(hlx:F=8→R=8→64≤xs.length)(hha:0≤ha∧ha≤10000)(hfu:-10000≤fu∧fu≤10000)(hrc:0≤r.ca∧r.ca<256)
  (w:World) (hg:aM w) (hx:Arr .i8 w pp xs):Clz 55 #[.agg (aa F R pp xs.length cc bl can pa ha fu).toArray,.agg r.cs.toArray] w (sk ⟨F,R,xs,bl,can,pa,ha,fu⟩ r w):=by
 obtain⟨W1,hW1⟩:∃ W1,W1=((w.alloc (.cells (aa F R pp xs.length cc bl can pa ha fu).toArray 26)).alloc (.cells r.cs.toArray 42)).alloc (.cells af.toArray 26):=⟨_,rfl⟩;have hB:Bw w W1:=by subst hW1;exact(((ae w _).alloc (by simp) _).alloc (by simp<;>omega) _)
 have hP:ac W1 w.heap.size (.cells (aa F R pp xs.length cc bl can pa ha fu).toArray 26 (0,0)):=by subst hW1;exact((ac.new w _).alloc _).alloc _
 have hM:ac W1 (w.heap.size+1) (.cells r.cs.toArray 42 (0,0)):=by subst hW1;exact(ac.new' _ _ (by simp)).alloc _
 have hO:ac W1 (w.heap.size+1+1) (.cells af.toArray 26 (0,0)):=by subst hW1;exact ac.new' _ _ (by simp)
 have hbf:=ls F R xs bl can pa ha fu r pp cc a b hra hrb hla hlb hl64 h6 hlx hha hfu W1 (hg.call hB) (hx.call hB);have hmy:=fun Q u h1 h2 h3=>qI (F:=F) (R:=R) (xs:=xs) (bl:=bl) (can:=can) (pa:=pa) (ha:=ha) (fu:=fu) (r:=r) (Q:=Q) (u:=u) h1 h2 h3
 have hmn:=fun n h=>tC (P:=⟨F,R,xs,bl,can,pa,ha,fu⟩) (r:=r) (n:=n) h
 have hBe:∃ ys sb bp bh bu,befW ⟨F,R,xs,bl,can,pa,ha,fu⟩ r=⟨F,R,ys,sb,r.ca,bp,bh,bu⟩∧ys.length=xs.length:=by rw[ks F R xs bl can pa ha fu r a b hra hrb _ rfl _ rfl];refine⟨_,_,_,_,_,rfl,?_⟩;rw[jo,fold_len,List.length_set,List.length_set]
 unfold sk;unfold cU at hbf;obtain⟨ys,sb,bp,bh,bu,hBe,hBl⟩:=hBe;rw[hBe]at hbf hmn hmy ⊢;generalize mayW ⟨F,R,xs,bl,can,pa,ha,fu⟩ r=MW at *;replace hBe:=zhd hBe;have⟨c0,l0⟩:=hP.cl;have⟨c1,l1⟩:=hM.cl;have lo:=hO.lt;replace hW1:=zhd hW1;replace hra:=zhd hra;replace hrb:=zhd hrb;replace hBl:=zhd hBl;go_enter Tryz.func55,Tryz.ntmps55;go_upto_region 1 with fail;change Code.wp _ _ _ _ (((w.alloc (.cells (aa F R pp xs.length cc bl can pa ha fu).toArray 26)).alloc (.cells r.cs.toArray 42)).alloc (.cells af.toArray 26));rw[←hW1.out];go_wp2_with fail;refine hbf.mono ?_;rintro e W2 ⟨qb,capb,rfl,hb2,hqb,hY⟩;have hP2:=hP.call hb2;have hM2:=hM.call hb2;have hO2:=hO.call hb2;have hB2:=zbc hB hb2;clear c0 l0 c1 l1 hP hM hO hB hbf;have hZ:=ac.new W2 (.cells af.toArray 26);have⟨hi,ho⟩:=zrw 26 (A:=(aa F R (some ⟨qb,0,none⟩) ys.length capb sb r.ca bp bh bu).toArray) (by kernel_rfl) (by simp[Value.oneCell']);go_upto_region 2 with(first|((refine ai rfl 26 (.tmp 6) (.tmp 12) rfl W2.heap.size ((aa F R (some ⟨qb,0,none⟩) ys.length capb sb r.ca bp bh bu).toArray) rfl rfl 26 _ hZ hi.out rfl ho.out ?_);rintro w3 rfl)|fail);have hP5:=(hP2.alloc (.cells af.toArray 26)).setRow_far (g:=W2.heap.size) (cells:=(aa F R (some ⟨qb,0,none⟩) ys.length capb sb r.ca bp bh bu).toArray) (by have:=hP2.lt;omega);have hM5:=(hM2.alloc (.cells af.toArray 26)).setRow_far (g:=W2.heap.size) (cells:=(aa F R (some ⟨qb,0,none⟩) ys.length capb sb r.ca bp bh bu).toArray) (by have:=hM2.lt;omega);have hO5:=(hO2.alloc (.cells af.toArray 26)).setRow_far (g:=W2.heap.size) (cells:=(aa F R (some ⟨qb,0,none⟩) ys.length capb sb r.ca bp bh bu).toArray) (by have:=hO2.lt;omega);have hY5:=(hY.call (ae W2 (.cells af.toArray 26))).farR (g:=W2.heap.size) (by have:=hY.lt;omega) ((aa F R (some ⟨qb,0,none⟩) ys.length capb sb r.ca bp bh bu).toArray);have hT5:=ak (cells:=(aa F R (some ⟨qb,0,none⟩) ys.length capb sb r.ca bp bh bu).toArray) hZ;have hBa:=hB2.alloc (by have:=hP2.lt;omega) (.cells af.toArray 26);have hB5:=aj (cells:=(aa F R (some ⟨qb,0,none⟩) ys.length capb sb r.ca bp bh bu).toArray) hBa (g:=W2.heap.size) (by have:=hP2.lt;omega) hBa.size;change Code.wp _ _ _ _ ((W2.alloc (.cells af.toArray 26)).setRow W2.heap.size ((aa F R (some ⟨qb,0,none⟩) ys.length capb sb r.ca bp bh bu).toArray));generalize (W2.alloc (.cells af.toArray 26)).setRow W2.heap.size ((aa F R (some ⟨qb,0,none⟩) ys.length capb sb r.ca bp bh bu).toArray)=W5 at *;have hq5:w.heap.size+1+1<W2.heap.size∧qb<W2.heap.size:=⟨hO2.lt,hY.lt⟩;clear hZ hBa hi ho hY;generalize W2.heap.size=q5 at *;have hmk:=ur F R ys sb r.ca.toNat bp bh bu r.mv (some ⟨qb,0,none⟩) capb (by omega) (by rw[hBl.out];omega) (by obtain⟨cur,h1,h2,h3,h4⟩:=hY5;exact h2) W5 (hg.call hB5) hY5.arr;rw[show((r.ca.toNat:Nat):Int)=r.ca by omega]at hmk;have⟨c0,l0⟩:=hT5.cl;have⟨c1,l1⟩:=hM5.cl;go_wp2_with fail;refine hmk.mono ?_;intro e W6 hmr;obtain⟨Q,u,n,Qp,Qc,rfl,hb6,hQx,hres⟩:=mw hmr;clear c0 l0 c1 l1 hmk;have hP6:=hP5.call hb6;have hM6:=hM5.call hb6;have hO6:=hO5.call hb6;have hY6:=hY5.call hb6;have hT6:=hT5.call hb6;have hB6:=zbc hB5 hb6;clear hmr;have hZ7:=(ac.new W6 (.cells af.toArray 26)).alloc (.cells aw.toArray 54);have hZ8:=ac.new' (W6.alloc (.cells af.toArray 26)) (.cells aw.toArray 54) (q:=W6.heap.size+1) (by simp);have⟨hi7,ho7⟩:=zrw 26 (A:=(aa Q.F Q.R Qp Q.xs.length Qc Q.bl Q.ca Q.pa Q.ha Q.fu).toArray) (by kernel_rfl) (by simp[Value.oneCell']);have⟨hi8,ho8⟩:=zrw 54 (A:=u.cs.toArray) (by kernel_rfl) (by simp[Value.oneCell']);have hZ8':=hZ8.setRow_far (g:=W6.heap.size) (cells:=(aa Q.F Q.R Qp Q.xs.length Qc Q.bl Q.ca Q.pa Q.ha Q.fu).toArray) (by omega);go_upto_region 3 with(first|((refine ai rfl 26 (.tmp 7) (.tmp 18) rfl W6.heap.size ((aa Q.F Q.R Qp Q.xs.length Qc Q.bl Q.ca Q.pa Q.ha Q.fu).toArray) rfl rfl 26 _ hZ7 hi7.out rfl ho7.out ?_);rintro w3 rfl)|((refine ai rfl 54 (.tmp 8) (.tmp 19) rfl (W6.heap.size+1) (u.cs.toArray) rfl rfl 54 _ hZ8' hi8.out rfl ho8.out ?_);rintro w3 rfl)|fail);have hP7:=(((hP6.alloc (.cells af.toArray 26)).alloc (.cells aw.toArray 54)).setRow_far (g:=W6.heap.size) (cells:=(aa Q.F Q.R Qp Q.xs.length Qc Q.bl Q.ca Q.pa Q.ha Q.fu).toArray) (by have:=hP6.lt;omega)).setRow_far (g:=W6.heap.size+1) (cells:=u.cs.toArray) (by have:=hP6.lt;omega);have hM7:=(((hM6.alloc (.cells af.toArray 26)).alloc (.cells aw.toArray 54)).setRow_far (g:=W6.heap.size) (cells:=(aa Q.F Q.R Qp Q.xs.length Qc Q.bl Q.ca Q.pa Q.ha Q.fu).toArray) (by have:=hM6.lt;omega)).setRow_far (g:=W6.heap.size+1) (cells:=u.cs.toArray) (by have:=hM6.lt;omega);have hO7:=(((hO6.alloc (.cells af.toArray 26)).alloc (.cells aw.toArray 54)).setRow_far (g:=W6.heap.size) (cells:=(aa Q.F Q.R Qp Q.xs.length Qc Q.bl Q.ca Q.pa Q.ha Q.fu).toArray) (by have:=hO6.lt;omega)).setRow_far (g:=W6.heap.size+1) (cells:=u.cs.toArray) (by have:=hO6.lt;omega);have hT7:=(((hT6.alloc (.cells af.toArray 26)).alloc (.cells aw.toArray 54)).setRow_far (g:=W6.heap.size) (cells:=(aa Q.F Q.R Qp Q.xs.length Qc Q.bl Q.ca Q.pa Q.ha Q.fu).toArray) (by have:=hT6.lt;omega)).setRow_far (g:=W6.heap.size+1) (cells:=u.cs.toArray) (by have:=hT6.lt;omega);have hQ7:=(ak (cells:=(aa Q.F Q.R Qp Q.xs.length Qc Q.bl Q.ca Q.pa Q.ha Q.fu).toArray) hZ7).setRow_far (g:=W6.heap.size+1) (cells:=u.cs.toArray) (by omega);have hU7:=ak (cells:=u.cs.toArray) hZ8';have hb7:=((ae W6 (.cells af.toArray 26)).alloc (by simp) (.cells aw.toArray 54));have hb8:=aj (cells:=(aa Q.F Q.R Qp Q.xs.length Qc Q.bl Q.ca Q.pa Q.ha Q.fu).toArray) hb7 (g:=W6.heap.size) (Nat.le_refl _) hb7.size;have hb9:=aj (cells:=u.cs.toArray) hb8 (g:=W6.heap.size+1) (by omega) hb8.size;have hB7:=zbc hB6 hb9;have hY7:=hY6.call hb9;have hQx7:=hQx.call hb9;change Code.wp _ _ _ _ ((((W6.alloc (.cells af.toArray 26)).alloc (.cells aw.toArray 54)).setRow W6.heap.size ((aa Q.F Q.R Qp Q.xs.length Qc Q.bl Q.ca Q.pa Q.ha Q.fu).toArray)).setRow (W6.heap.size+1) u.cs.toArray);generalize (((W6.alloc (.cells af.toArray 26)).alloc (.cells aw.toArray 54)).setRow W6.heap.size ((aa Q.F Q.R Qp Q.xs.length Qc Q.bl Q.ca Q.pa Q.ha Q.fu).toArray)).setRow (W6.heap.size+1) u.cs.toArray=W7 at *;have hl6:=hO6.lt;clear hi7 ho7 hi8 ho8 hQx;generalize W6.heap.size=q7 at *;have hq2:w.heap.size+1+1≠w.heap.size∧w.heap.size+1+1≠w.heap.size+1∧q5≠w.heap.size+1+1∧q7≠w.heap.size+1+1∧q7+1≠w.heap.size+1+1∧qb≠w.heap.size+1+1:=⟨by omega,by omega,by omega,by omega,by omega,by omega⟩;obtain⟨Wk,hWk⟩:∃ Wk:Nat→World,Wk=fun k=>match k with|0=>W7|_=>W7.setRow (w.heap.size+1+1) ((aa F R (some ⟨qb,0,none⟩) ys.length capb sb r.ca bp bh bu).toArray):=⟨_,rfl⟩
 have hW0:Wk 0=W7:=by subst hWk;rfl
 have hW1:Wk (0+1)=(Wk 0).setRow (w.heap.size+1+1) ((aa F R (some ⟨qb,0,none⟩) ys.length capb sb r.ca bp bh bu).toArray):=by subst hWk;rfl
 have m0':=bj (Wk:=Wk) (fun k=>by rw[hWk];cases k with|zero=>exact hP7|succ k=>exact hP7.setRow_far (by omega));have m1':=bj (Wk:=Wk) (fun k=>by rw[hWk];cases k with|zero=>exact hM7|succ k=>exact hM7.setRow_far (by omega));have m5':=bj (Wk:=Wk) (fun k=>by rw[hWk];cases k with|zero=>exact hT7|succ k=>exact hT7.setRow_far hq2.2.2.1);have m7':=bj (Wk:=Wk) (fun k=>by rw[hWk];cases k with|zero=>exact hQ7|succ k=>exact hQ7.setRow_far hq2.2.2.2.1);have m8':=bj (Wk:=Wk) (fun k=>by rw[hWk];cases k with|zero=>exact hU7|succ k=>exact hU7.setRow_far hq2.2.2.2.2.1);have m0:∀ k d os j,(grow (redrawn (Wk k) d) os).cell? ⟨w.heap.size,j,none⟩=(aa F R pp xs.length cc bl can pa ha fu).toArray[j]?:=m0';have m1:∀ k d os j,(grow (redrawn (Wk k) d) os).cell? ⟨w.heap.size+1,j,none⟩=(#[.int .i64 r.mv.fr,.int .i64 r.mv.tg,.int .i8 r.mv.pr,.int .i8 r.cp,.int .i64 r.at_,.int .u8 r.ca,.int .i64 r.pa]:Array Value)[j]?:=m1';have m5:∀ k d os j,(grow (redrawn (Wk k) d) os).cell? ⟨q5,j,none⟩=(aa F R (some ⟨qb,0,none⟩) ys.length capb sb r.ca bp bh bu).toArray[j]?:=m5';have m7:∀ k d os j,(grow (redrawn (Wk k) d) os).cell? ⟨q7,j,none⟩=(aa Q.F Q.R Qp Q.xs.length Qc Q.bl Q.ca Q.pa Q.ha Q.fu).toArray[j]?:=m7';have m8:∀ k d os j,(grow (redrawn (Wk k) d) os).cell? ⟨q7+1,j,none⟩=(#[.int .i64 u.mv.fr,.int .i64 u.mv.tg,.int .i8 u.mv.pr,.int .i8 u.cp,.int .i64 u.at_,.int .u8 u.ca,.int .i64 u.pa,.int .i64 u.ha,.int .i64 u.fu]:Array Value)[j]?:=m8';clear m0' m1' m5' m7' m8';have hZ0:ac (Wk 0) (w.heap.size+1+1) (.cells af.toArray 26 (0,0)):=by rw[hW0];exact hO7
 have hZk:ac (Wk [22].length) (w.heap.size+1+1) (.cells ((aa F R (some ⟨qb,0,none⟩) ys.length capb sb r.ca bp bh bu).toArray) 26 (0,0)):=by subst hWk;exact ak hO7
 have hYk:aC (Wk [22].length) qb capb ys:=by subst hWk;exact hY7.farR hq2.2.2.2.2.2 _
 have hBk:Bw w (Wk [22].length):=by subst hWk;exact aj hB7 (by omega) hB7.size
 have hone:Hid (((aa F R (some ⟨qb,0,none⟩) ys.length capb sb r.ca bp bh bu).toArray).all (·.oneCell')=true):=zhd (by simp[Value.oneCell']);have hxk:Arr .i8 (Wk 0) pp xs:=by rw[hW0];exact hx.call hB7
 have hQk:Arr .i8 (Wk 0) Qp Q.xs:=by rw[hW0];exact hQx7
 clear hWk hQx7 hq2;replace hW1:=zhd hW1;rcases hres with⟨hn,hre⟩|⟨rfl,hre⟩
 ·have z0:(n==0)=false:=by simpa using hn
  have t2:True:=trivial;have hV:Hid (MW=false):=zhd (hmn n hre);clear hmn hmy;refine aR [22] [(0,0),(0,0),(0,0),(0,0),(0,0),(0,0),(0,0),(0,0),(0,0),(0,0),(0,0),(0,0),(0,0),(0,0),(0,0),(0,0),(0,1),(0,1),(0,1),(0,1),(0,1),(0,1),(9,9),(1,1)] Wk (by kernel_rfl) (by kernel_rfl) hW0 ?_;replace hW0:=zhd hW0;iterate 16 (refine a8 0 rfl rfl ?_;go_big_quiet_step (fail);refine wpQuiet_nil ?_)
  iterate 6 (refine ci rfl rfl ?_;go_big_quiet_step (fail);refine wpQuiet_nil ?_)
  refine ew 0 rfl rfl 26 (.tmp 4) (.tmp 21) rfl (cells:=(aa F R (some ⟨qb,0,none⟩) ys.length capb sb r.ca bp bh bu).toArray) rfl rfl hZ0 (by kernel_rfl) rfl hone.out hW1.out rfl ?_;refine a8 1 rfl rfl ?_;go_big_quiet_step (fail);refine wpQuiet_nil ?_;refine cm ?_;intro W8 hb8;have hY8:=hYk.call hb8;have hZ8:=hZk.call hb8;have hB8:=zbc hBk hb8;clear m0 m1 m5 m7 m8;go_wp2_with fail;refine bodyPost_ret (aU (fn:=Tryz.f55) Tryz.results55 rfl hZ8 (by kernel_rfl) (by kernel_rfl) rfl) rfl ?_;exact⟨qb,capb,by rw[hV.out];rfl,hB8,by omega,hY8⟩
 ·obtain⟨sF,sR,sl⟩:=nH hre;have hmy:=hmy Q u sF sR hre;obtain⟨QF,QR,qx,qbl,qca,qpa,qha,qfu⟩:=Q;simp only at sF sR sl hmy m7 hQk;subst sF sR;have hle:qx.length≤1000:=by rw[sl,hBl.out];omega
  have t2:=ax (w:=Wk 0) (fun W h=>oE QF QR Qp pp Qc cc qx xs qbl bl qca can qpa pa qha ha qfu fu W (hQk.call h) (hxk.call h) hle (by omega));clear sl hle;generalize (posE qx xs qbl bl qca can qpa pa&&((qha==ha)&&(qfu==fu)))=E at *;cases E
  ·have hV:Hid (MW=false):=zhd (by rw[hmy];rfl);clear hmn hmy;refine aR [22] [(0,0),(0,0),(0,0),(0,0),(0,0),(0,0),(0,0),(0,0),(0,0),(0,0),(0,0),(0,0),(0,0),(0,0),(0,0),(0,0),(0,1),(0,1),(0,1),(0,1),(0,1),(0,1),(9,9),(1,1)] Wk (by kernel_rfl) (by kernel_rfl) hW0 ?_;replace hW0:=zhd hW0;iterate 16 (refine a8 0 rfl rfl ?_;go_big_quiet_step (first|with_reducible exact t2 _ _|fail);refine wpQuiet_nil ?_)
   iterate 6 (refine ci rfl rfl ?_;go_big_quiet_step (fail);refine wpQuiet_nil ?_)
   refine ew 0 rfl rfl 26 (.tmp 4) (.tmp 21) rfl (cells:=(aa QF QR (some ⟨qb,0,none⟩) ys.length capb sb r.ca bp bh bu).toArray) rfl rfl hZ0 (by kernel_rfl) rfl hone.out hW1.out rfl ?_;refine a8 1 rfl rfl ?_;go_big_quiet_step (fail);refine wpQuiet_nil ?_;refine cm ?_;intro W8 hb8;have hY8:=hYk.call hb8;have hZ8:=hZk.call hb8;have hB8:=zbc hBk hb8;clear m0 m1 m5 m7 m8;go_wp2_with fail;refine bodyPost_ret (aU (fn:=Tryz.f55) Tryz.results55 rfl hZ8 (by kernel_rfl) (by kernel_rfl) rfl) rfl ?_;exact⟨qb,capb,by rw[hV.out];rfl,hB8,by omega,hY8⟩
  ·rcases z2:(u.cp==r.cp)with _|_
   ·have hV:Hid (MW=false):=zhd (by rw[hmy,z2];rfl);clear hmn hmy;refine aR [22] [(0,0),(0,0),(0,0),(0,0),(0,0),(0,0),(0,0),(0,0),(0,0),(0,0),(0,0),(0,0),(0,0),(0,0),(0,0),(0,0),(0,1),(0,1),(0,1),(0,1),(0,1),(0,1),(9,9),(1,1)] Wk (by kernel_rfl) (by kernel_rfl) hW0 ?_;replace hW0:=zhd hW0;iterate 16 (refine a8 0 rfl rfl ?_;go_big_quiet_step (first|with_reducible exact t2 _ _|fail);refine wpQuiet_nil ?_)
    iterate 6 (refine ci rfl rfl ?_;go_big_quiet_step (fail);refine wpQuiet_nil ?_)
    refine ew 0 rfl rfl 26 (.tmp 4) (.tmp 21) rfl (cells:=(aa QF QR (some ⟨qb,0,none⟩) ys.length capb sb r.ca bp bh bu).toArray) rfl rfl hZ0 (by kernel_rfl) rfl hone.out hW1.out rfl ?_;refine a8 1 rfl rfl ?_;go_big_quiet_step (fail);refine wpQuiet_nil ?_;refine cm ?_;intro W8 hb8;have hY8:=hYk.call hb8;have hZ8:=hZk.call hb8;have hB8:=zbc hBk hb8;clear m0 m1 m5 m7 m8;go_wp2_with fail;refine bodyPost_ret (aU (fn:=Tryz.f55) Tryz.results55 rfl hZ8 (by kernel_rfl) (by kernel_rfl) rfl) rfl ?_;exact⟨qb,capb,by rw[hV.out];rfl,hB8,by omega,hY8⟩
   ·have hV:Hid (MW=(u.at_==r.at_)):=zhd (by rw[hmy,z2];rfl);clear hmn hmy;refine aR [22] [(0,0),(0,0),(0,0),(0,0),(0,0),(0,0),(0,0),(0,0),(0,0),(0,0),(0,0),(0,0),(0,0),(0,0),(0,0),(0,0),(0,1),(0,1),(0,1),(0,1),(0,1),(0,1),(9,9),(1,1)] Wk (by kernel_rfl) (by kernel_rfl) hW0 ?_;replace hW0:=zhd hW0;iterate 16 (refine a8 0 rfl rfl ?_;go_big_quiet_step (first|with_reducible exact t2 _ _|fail);refine wpQuiet_nil ?_)
    iterate 6 (refine ci rfl rfl ?_;go_big_quiet_step (fail);refine wpQuiet_nil ?_)
    refine ew 0 rfl rfl 26 (.tmp 4) (.tmp 21) rfl (cells:=(aa QF QR (some ⟨qb,0,none⟩) ys.length capb sb r.ca bp bh bu).toArray) rfl rfl hZ0 (by kernel_rfl) rfl hone.out hW1.out rfl ?_;refine a8 1 rfl rfl ?_;go_big_quiet_step (fail);refine wpQuiet_nil ?_;refine cm ?_;intro W8 hb8;have hY8:=hYk.call hb8;have hZ8:=hZk.call hb8;have hB8:=zbc hBk hb8;clear m0 m1 m5 m7 m8;go_wp2_with fail;refine bodyPost_ret (aU (fn:=Tryz.f55) Tryz.results55 rfl hZ8 (by kernel_rfl) (by kernel_rfl) rfl) rfl ?_;exact⟨qb,capb,by rw[hV.out];rfl,hB8,by omega,hY8⟩
theorem sC(f q:Int)(xs:List Int)(bl:Bool)(ca pa ha fu:Int)(r:Ret)(pp:Option Addr)(cc:Nat)(h:(pvW f q xs bl ca pa ha fu&&mvB f q r.mv)=false)(hca:0≤ca∧ca<256)(hl:xs.length≤1000)(hcc:xs.length≤cc)(w:World)(hg:bq w)(hx:Arr .i8 w pp xs):
  Clz 19 #[.agg (aa f q pp xs.length cc bl ca pa ha fu).toArray,.agg r.cs.toArray] w fun e w'=>e=.returned (.tuple #[.agg af.toArray,.int .i64 2])∧Bw w w':=by
 obtain⟨W1,hW1⟩:∃ W1,W1=((w.alloc (.cells (aa f q pp xs.length cc bl ca pa ha fu).toArray 26)).alloc (.cells r.cs.toArray 42)).alloc (.cells af.toArray 26):=⟨_,rfl⟩;have hB:Bw w W1:=by subst hW1;exact((ae w _).alloc (by simp) _).alloc (by simp<;>omega) _
 have hP:ac W1 w.heap.size (.cells (aa f q pp xs.length cc bl ca pa ha fu).toArray 26 (0,0)):=by subst hW1;exact(ac.new w _).alloc _ |>.alloc _
 have hM:ac W1 (w.heap.size+1) (.cells r.cs.toArray 42 (0,0)):=by subst hW1;exact(ac.new' _ _ (by simp)).alloc _
 have hO:ac W1 (w.heap.size+1+1) (.cells af.toArray 26 (0,0)):=by subst hW1;exact ac.new' _ _ (by simp)
 have hpv:=fun W hg hx=>cA f q ca pa ha fu bl pp cc xs hca (by omega) hcc W hg hx
 have hmv:=fun W=>dp f q r.mv W
 have⟨c0,l0⟩:=hP.cl;replace hW1:=zhd hW1;go_enter Tryz.func19,Tryz.ntmps19;go_upto_region 1 with fail;change Code.wp _ _ _ _ (((w.alloc (.cells (aa f q pp xs.length cc bl ca pa ha fu).toArray 26)).alloc (.cells r.cs.toArray 42)).alloc (.cells af.toArray 26));rw[←hW1.out];go_wp2_with fail;refine(hpv _ (hg.call hB) (hx.call hB)).mono ?_;rintro e W2 ⟨rfl,hb2⟩;have hP2:=hP.call hb2;have hM2:=hM.call hb2;have hO2:=hO.call hb2;have hB2:=zbc hB hb2;clear c0 l0 hP hM hB hpv;rcases zv:pvW f q xs bl ca pa ha fu with _|_
 ·have hZ:=hO2;have⟨hi,ho⟩:=zrw 26 (A:=af.toArray) (by kernel_rfl) (by simp[Value.oneCell']);go_wp2_with (first|((refine ai rfl 26 (.tmp 4) (.tmp 19) rfl (w.heap.size+1+1) (af.toArray) rfl rfl 26 _ hZ hi.out rfl ho.out ?_);rintro w3 rfl)|fail);refine bodyPost_ret (aU (fn:=Tryz.f19) Tryz.results19 rfl (ak (cells:=af.toArray) hZ) (by kernel_rfl) (by kernel_rfl) rfl) rfl ?_;exact⟨rfl,aj hB2 (by omega) hB2.size⟩
 ·rw[zv,Bool.true_and]at h;have⟨c0,l0⟩:=hP2.cl;have⟨c1,l1⟩:=hM2.cl;go_wp2_with fail;refine(hmv _).mono ?_;rintro e W3 ⟨rfl,hb3⟩;have hP3:=hP2.call hb3;have hM3:=hM2.call hb3;have hO3:=hO2.call hb3;have hB3:=zbc hB2 hb3;clear c0 l0 c1 l1 hmv;rw[h];have hZ:=hO3;have⟨hi,ho⟩:=zrw 26 (A:=af.toArray) (by kernel_rfl) (by simp[Value.oneCell']);go_wp2_with (first|((refine ai rfl 26 (.tmp 4) (.tmp 19) rfl (w.heap.size+1+1) (af.toArray) rfl rfl 26 _ hZ hi.out rfl ho.out ?_);rintro w3 rfl)|fail);refine bodyPost_ret (aU (fn:=Tryz.f19) Tryz.results19 rfl (ak (cells:=af.toArray) hZ) (by kernel_rfl) (by kernel_rfl) rfl) rfl ?_;exact⟨rfl,aj hB3 (by omega) hB3.size⟩
theorem uB(f q:Int)(xs:List Int)(bl:Bool)(ca pa ha fu:Int)(r:Ret)(pp:Option Addr)(cc:Nat)(h:(pvW f q xs bl ca pa ha fu&&mvB f q r.mv)=false)(hca:0≤ca∧ca<256)(hl:xs.length≤1000)(hcc:xs.length≤cc)(w:World)(hg:bq w)(hx:Arr .i8 w pp xs):
  Clz 20 #[.agg (aa f q pp xs.length cc bl ca pa ha fu).toArray,.agg r.cs.toArray] w fun e w'=>e=.returned (.tuple #[.bool false,.int .i64 2])∧Bw w w':=by
 obtain⟨W1,hW1⟩:∃ W1,W1=(w.alloc (.cells (aa f q pp xs.length cc bl ca pa ha fu).toArray 26)).alloc (.cells r.cs.toArray 42):=⟨_,rfl⟩;have hB:Bw w W1:=by subst hW1;exact((ae w _).alloc (by simp) _)
 have hP:ac W1 w.heap.size (.cells (aa f q pp xs.length cc bl ca pa ha fu).toArray 26 (0,0)):=by subst hW1;exact(ac.new w _).alloc _
 have hM:ac W1 (w.heap.size+1) (.cells r.cs.toArray 42 (0,0)):=by subst hW1;exact(ac.new' _ _ (by simp))
 have hpv:=fun W hg hx=>cA f q ca pa ha fu bl pp cc xs hca (by omega) hcc W hg hx
 have hmv:=fun W=>dp f q r.mv W
 have⟨c0,l0⟩:=hP.cl;replace hW1:=zhd hW1;go_enter Tryz.func20,Tryz.ntmps20;go_upto_region 1 with fail;change Code.wp _ _ _ _ ((w.alloc (.cells (aa f q pp xs.length cc bl ca pa ha fu).toArray 26)).alloc (.cells r.cs.toArray 42));rw[←hW1.out];go_wp2_with fail;refine(hpv _ (hg.call hB) (hx.call hB)).mono ?_;rintro e W2 ⟨rfl,hb2⟩;have hP2:=hP.call hb2;have hM2:=hM.call hb2;have hB2:=zbc hB hb2;clear c0 l0 hP hM hB hpv;rcases zv:pvW f q xs bl ca pa ha fu with _|_
 ·go_wp2_with fail;go_ret2
  exact⟨rfl,hB2⟩
 ·rw[zv,Bool.true_and]at h;have⟨c0,l0⟩:=hP2.cl;have⟨c1,l1⟩:=hM2.cl;go_wp2_with fail;refine(hmv _).mono ?_;rintro e W3 ⟨rfl,hb3⟩;have hP3:=hP2.call hb3;have hM3:=hM2.call hb3;have hB3:=zbc hB2 hb3;clear c0 l0 c1 l1 hmv;rw[h];go_wp2_with fail;go_ret2
  exact⟨rfl,hB3⟩
theorem mB(F R:Nat)(xs:List Int)(bl:Bool)(can:Nat)(pa ha fu:Int)(r:Ret)(pp:Option Addr)(cc:Nat)(h:(pvW F R xs bl can pa ha fu&&mvB F R r.mv)=true)(hca:can<256)(hrc:0≤r.ca∧r.ca<256)(hcc:xs.length≤cc)(w:World)(hg:aM w)(hx:Arr .i8 w pp xs):
  Clz 20 #[.agg (aa F R pp xs.length cc bl can pa ha fu).toArray,.agg r.cs.toArray] w fun e w'=>e=.returned (.tuple #[.bool (mayW ⟨F,R,xs,bl,can,pa,ha,fu⟩ r),.int .i64 0])∧Bw w w':=by
 have hbt:=h;simp only[Bool.and_eq_true]at h;obtain⟨hv,hmb⟩:=h;obtain⟨F',R',e1,e2,hF,hR,hlen,hor,hc15,h88,hha,hfu⟩:=eW hv (by omega);obtain rfl:F=F':=by omega
 obtain rfl:R=R':=by omega
 have hab:∃ a b:Nat,r.mv.fr=a∧r.mv.tg=b∧a<F*R∧b<F*R:=by
  have h:=hmb;unfold mvB at h;simp only[Bool.and_eq_true,Bool.or_eq_true,decide_eq_true_eq]at h;obtain⟨s1,s2,_,s4⟩:=h;unfold sqB at s1 s2;simp only[Bool.and_eq_true,decide_eq_true_eq]at s1 s2;refine⟨r.mv.fr.toNat,r.mv.tg.toNat,by omega,by omega,?_,?_⟩
  ·have:(r.mv.fr.toNat:Int)<((F*R:Nat):Int):=by rw[Int.natCast_mul];omega
   omega
  ·have:(r.mv.tg.toNat:Int)<((F*R:Nat):Int):=by rw[Int.natCast_mul];omega
   omega
 obtain⟨a,b,hra,hrb,hal,hbl⟩:=hab;have hl64:xs.length≤64:=by have:=Nat.mul_le_mul hF.2 hR.2;omega
 have h6:=ea hor;have hmay:=fun W hg hx=>mb F R xs bl can pa ha fu r pp cc a b hra hrb (by omega) (by omega) hl64 h6 (fun h1 h2=>by subst h1 h2;omega) hha (by omega) hrc W hg hx
 unfold sk at hmay;clear hra hrb hal hbl hbt hor hc15 h88 h6;replace hlen:=zhd hlen;obtain⟨W1,hW1⟩:∃ W1,W1=(w.alloc (.cells (aa F R pp xs.length cc bl can pa ha fu).toArray 26)).alloc (.cells r.cs.toArray 42):=⟨_,rfl⟩;have hB:Bw w W1:=by subst hW1;exact((ae w _).alloc (by simp) _)
 have hP:ac W1 w.heap.size (.cells (aa F R pp xs.length cc bl can pa ha fu).toArray 26 (0,0)):=by subst hW1;exact(ac.new w _).alloc _
 have hM:ac W1 (w.heap.size+1) (.cells r.cs.toArray 42 (0,0)):=by subst hW1;exact(ac.new' _ _ (by simp))
 have hpv:=fun W hg hx=>cA F R can pa ha fu bl pp cc xs (by omega) (by omega) hcc W hg hx
 have hmv:=fun W=>dp F R r.mv W
 rw[hv]at hpv;rw[hmb]at hmv;have⟨c0,l0⟩:=hP.cl;replace hW1:=zhd hW1;go_enter Tryz.func20,Tryz.ntmps20;go_upto_region 1 with fail;change Code.wp _ _ _ _ ((w.alloc (.cells (aa F R pp xs.length cc bl can pa ha fu).toArray 26)).alloc (.cells r.cs.toArray 42));rw[←hW1.out];go_wp2_with fail;refine(hpv _ (hg.1.call hB) (hx.call hB)).mono ?_;rintro e W2 ⟨rfl,hb2⟩;have hP2:=hP.call hb2;have hM2:=hM.call hb2;have hB2:=zbc hB hb2;clear c0 l0 hP hM hB hpv;have⟨c0,l0⟩:=hP2.cl;have⟨c1,l1⟩:=hM2.cl;go_wp2_with fail;refine(hmv _).mono ?_;rintro e W3 ⟨rfl,hb3⟩;have hP3:=hP2.call hb3;have hM3:=hM2.call hb3;have hB3:=zbc hB2 hb3;clear c0 l0 c1 l1 hmv;have⟨c0,l0⟩:=hP3.cl;have⟨c1,l1⟩:=hM3.cl;go_wp2_with fail;refine(hmay _ (hg.call hB3) (hx.call hB3)).mono ?_;rintro e W4 ⟨qb,capb,rfl,hb4,hqb,hY⟩;have hsz:=hB3.size;have hB4:=zbc hB3 hb4;clear c0 l0 c1 l1;generalize befW ⟨F,R,xs,bl,can,pa,ha,fu⟩ r=B at *;have hZ:=ac.new W4 (.cells af.toArray 26);have⟨hi,ho⟩:=zrw 26 (A:=(aa B.F B.R (some ⟨qb,0,none⟩) B.xs.length capb B.bl B.ca B.pa B.ha B.fu).toArray) (by kernel_rfl) (by simp[Value.oneCell']);have hBa:=hB4.alloc (by have:=hb4.size;omega) (.cells af.toArray 26);have hB5:=aj (cells:=(aa B.F B.R (some ⟨qb,0,none⟩) B.xs.length capb B.bl B.ca B.pa B.ha B.fu).toArray) hBa (g:=W4.heap.size) (by have:=hb4.size;omega) hBa.size;go_wp2_with (first|((refine ai rfl 26 (.tmp 6) (.tmp 23) rfl W4.heap.size ((aa B.F B.R (some ⟨qb,0,none⟩) B.xs.length capb B.bl B.ca B.pa B.ha B.fu).toArray) rfl rfl 26 _ hZ hi.out rfl ho.out ?_);rintro w3 rfl)|fail);go_ret2
 exact⟨rfl,hB5⟩
def rJ(P:Pos)(r:Ret)(w:World)(e:Ending)(w':World):Prop:=Bw w w'∧if mayW P r then ∃ q cap,e=.returned (.tuple #[.agg (aa (befW P r).F (befW P r).R (some ⟨q,0,none⟩) (befW P r).xs.length cap (befW P r).bl (befW P r).ca (befW P r).pa (befW P r).ha (befW P r).fu).toArray,.int .i64 0])∧w.heap.size≤q∧aC w' q cap (befW P r).xs
 else e=.returned (.tuple #[.agg af.toArray,.int .i64 10])
theorem rx(F R:Nat)(xs:List Int)(bl:Bool)(can:Nat)(pa ha fu:Int)(r:Ret)(pp:Option Addr)(cc:Nat)(h:(pvW F R xs bl can pa ha fu&&mvB F R r.mv)=true)(hca:can<256)(hrc:0≤r.ca∧r.ca<256)(hcc:xs.length≤cc)(w:World)(hg:aM w)(hx:Arr .i8 w pp xs):
  Clz 19 #[.agg (aa F R pp xs.length cc bl can pa ha fu).toArray,.agg r.cs.toArray] w (rJ ⟨F,R,xs,bl,can,pa,ha,fu⟩ r w):=by
 obtain⟨B,hBe⟩:∃ B,B=befW ⟨F,R,xs,bl,can,pa,ha,fu⟩ r:=⟨_,rfl⟩;obtain⟨MW,hMe⟩:∃ B,B=mayW ⟨F,R,xs,bl,can,pa,ha,fu⟩ r:=⟨_,rfl⟩;have hbt:=h;simp only[Bool.and_eq_true]at h;obtain⟨hv,hmb⟩:=h;obtain⟨F',R',e1,e2,hF,hR,hlen,hor,hc15,h88,hha,hfu⟩:=eW hv (by omega);obtain rfl:F=F':=by omega
 obtain rfl:R=R':=by omega
 have hab:∃ a b:Nat,r.mv.fr=a∧r.mv.tg=b∧a<F*R∧b<F*R:=by
  have h:=hmb;unfold mvB at h;simp only[Bool.and_eq_true,Bool.or_eq_true,decide_eq_true_eq]at h;obtain⟨s1,s2,_,s4⟩:=h;unfold sqB at s1 s2;simp only[Bool.and_eq_true,decide_eq_true_eq]at s1 s2;refine⟨r.mv.fr.toNat,r.mv.tg.toNat,by omega,by omega,?_,?_⟩
  ·have:(r.mv.fr.toNat:Int)<((F*R:Nat):Int):=by rw[Int.natCast_mul];omega
   omega
  ·have:(r.mv.tg.toNat:Int)<((F*R:Nat):Int):=by rw[Int.natCast_mul];omega
   omega
 obtain⟨a,b,hra,hrb,hal,hbl⟩:=hab;have hl64:xs.length≤64:=by have:=Nat.mul_le_mul hF.2 hR.2;omega
 have h6:=ea hor;have hmay:=fun W hg hx=>mb F R xs bl can pa ha fu r pp cc a b hra hrb (by omega) (by omega) hl64 h6 (fun h1 h2=>by subst h1 h2;omega) hha (by omega) hrc W hg hx
 unfold sk at hmay;rw[←hBe,←hMe]at hmay;replace hBe:=zhd hBe;replace hMe:=zhd hMe;clear hra hrb hal hbl hbt hor hc15 h88 h6;replace hlen:=zhd hlen;obtain⟨W1,hW1⟩:∃ W1,W1=((w.alloc (.cells (aa F R pp xs.length cc bl can pa ha fu).toArray 26)).alloc (.cells r.cs.toArray 42)).alloc (.cells af.toArray 26):=⟨_,rfl⟩;have hB:Bw w W1:=by subst hW1;exact((ae w _).alloc (by simp) _).alloc (by simp<;>omega) _
 have hP:ac W1 w.heap.size (.cells (aa F R pp xs.length cc bl can pa ha fu).toArray 26 (0,0)):=by subst hW1;exact(ac.new w _).alloc _ |>.alloc _
 have hM:ac W1 (w.heap.size+1) (.cells r.cs.toArray 42 (0,0)):=by subst hW1;exact(ac.new' _ _ (by simp)).alloc _
 have hO:ac W1 (w.heap.size+1+1) (.cells af.toArray 26 (0,0)):=by subst hW1;exact ac.new' _ _ (by simp)
 have hpv:=fun W hg hx=>cA F R can pa ha fu bl pp cc xs (by omega) (by omega) hcc W hg hx
 have hmv:=fun W=>dp F R r.mv W
 rw[hv]at hpv;rw[hmb]at hmv;have⟨c0,l0⟩:=hP.cl;replace hW1:=zhd hW1;go_enter Tryz.func19,Tryz.ntmps19;go_upto_region 1 with fail;change Code.wp _ _ _ _ (((w.alloc (.cells (aa F R pp xs.length cc bl can pa ha fu).toArray 26)).alloc (.cells r.cs.toArray 42)).alloc (.cells af.toArray 26));rw[←hW1.out];go_wp2_with fail;refine(hpv _ (hg.1.call hB) (hx.call hB)).mono ?_;rintro e W2 ⟨rfl,hb2⟩;have hP2:=hP.call hb2;have hM2:=hM.call hb2;have hO2:=hO.call hb2;have hB2:=zbc hB hb2;clear c0 l0 hP hM hB hpv;have⟨c0,l0⟩:=hP2.cl;have⟨c1,l1⟩:=hM2.cl;go_wp2_with fail;refine(hmv _).mono ?_;rintro e W3 ⟨rfl,hb3⟩;have hP3:=hP2.call hb3;have hM3:=hM2.call hb3;have hO3:=hO2.call hb3;have hB3:=zbc hB2 hb3;clear c0 l0 c1 l1 hmv;have⟨c0,l0⟩:=hP3.cl;have⟨c1,l1⟩:=hM3.cl;go_wp2_with fail;refine(hmay _ (hg.call hB3) (hx.call hB3)).mono ?_;rintro e W4 ⟨qb,capb,rfl,hb4,hqb,hY⟩;have hsz:=hB3.size;have hO4:=hO3.call hb4;have hB4:=zbc hB3 hb4;clear c0 l0 c1 l1;have hZ:=ac.new W4 (.cells af.toArray 26);have⟨hi,ho⟩:=zrw 26 (A:=(aa B.F B.R (some ⟨qb,0,none⟩) B.xs.length capb B.bl B.ca B.pa B.ha B.fu).toArray) (by kernel_rfl) (by simp[Value.oneCell']);have hl4:=hO4.lt;have hl3:=hO3.lt;have hbx:=hb4.size;have hBa:=hB4.alloc (by omega) (.cells af.toArray 26);have hB5:=aj (cells:=(aa B.F B.R (some ⟨qb,0,none⟩) B.xs.length capb B.bl B.ca B.pa B.ha B.fu).toArray) hBa (g:=W4.heap.size) (by omega) hBa.size;have hT5:=ak (cells:=(aa B.F B.R (some ⟨qb,0,none⟩) B.xs.length capb B.bl B.ca B.pa B.ha B.fu).toArray) hZ;have hO5:=(hO4.alloc (.cells af.toArray 26)).setRow_far (g:=W4.heap.size) (cells:=(aa B.F B.R (some ⟨qb,0,none⟩) B.xs.length capb B.bl B.ca B.pa B.ha B.fu).toArray) (by omega);have hY5:=(hY.call (ae W4 (.cells af.toArray 26))).farR (g:=W4.heap.size) (by have:=hY.lt;omega) ((aa B.F B.R (some ⟨qb,0,none⟩) B.xs.length capb B.bl B.ca B.pa B.ha B.fu).toArray);go_upto_region 4 with(first|((refine ai rfl 26 (.tmp 6) (.tmp 24) rfl W4.heap.size ((aa B.F B.R (some ⟨qb,0,none⟩) B.xs.length capb B.bl B.ca B.pa B.ha B.fu).toArray) rfl rfl 26 _ hZ hi.out rfl ho.out ?_);rintro w3 rfl)|fail);change Code.wp _ _ _ _ ((W4.alloc (.cells af.toArray 26)).setRow W4.heap.size ((aa B.F B.R (some ⟨qb,0,none⟩) B.xs.length capb B.bl B.ca B.pa B.ha B.fu).toArray));generalize (W4.alloc (.cells af.toArray 26)).setRow W4.heap.size ((aa B.F B.R (some ⟨qb,0,none⟩) B.xs.length capb B.bl B.ca B.pa B.ha B.fu).toArray)=W5 at *;generalize W4.heap.size=q6 at *;clear hZ hBa;cases MW
 ·have⟨hi0,ho0⟩:=zrw 26 (A:=af.toArray) (by kernel_rfl) (by simp[Value.oneCell']);go_wp2_with (first|((refine ai rfl 26 (.tmp 4) (.tmp 28) rfl (w.heap.size+1+1) (af.toArray) rfl rfl 26 _ hO5 hi0.out rfl ho0.out ?_);rintro w3 rfl)|fail);refine bodyPost_ret (aU (fn:=Tryz.f19) Tryz.results19 rfl (ak (cells:=af.toArray) hO5) (by kernel_rfl) (by kernel_rfl) rfl) rfl ?_;unfold rJ;rw[←hMe.out,if_neg (by decide)];exact⟨aj hB5 (by omega) hB5.size,rfl⟩
 ·go_wp2_with (first|(refine ba rfl 26 (.tmp 6) rfl q6 _ 26 rfl hT5 (by kernel_rfl) ?_)|((refine ai rfl 26 (.tmp 4) (.tmp 29) rfl (w.heap.size+1+1) ((aa B.F B.R (some ⟨qb,0,none⟩) B.xs.length capb B.bl B.ca B.pa B.ha B.fu).toArray) rfl rfl 26 _ hO5 hi.out rfl ho.out ?_);rintro w3 rfl)|fail);refine bodyPost_ret (aU (fn:=Tryz.f19) Tryz.results19 rfl (ak (cells:=(aa B.F B.R (some ⟨qb,0,none⟩) B.xs.length capb B.bl B.ca B.pa B.ha B.fu).toArray) hO5) (by kernel_rfl) (by kernel_rfl) rfl) rfl ?_;unfold rJ;rw[←hMe.out,if_pos rfl,←hBe.out];exact⟨aj hB5 (by omega) hB5.size,qb,capb,rfl,by omega,hY5.farR (by omega) _⟩
def bgF(q0:Nat)(v:Value)(u:Int)(K:Nat)(X:Nat→Value):Array Value:=(litB (fun i=>match i with|3=>.pointer (some ⟨q0,0,none⟩)|5=>v|6=>.int .i64 u|7=>.int .i64 K|i=>X i) 0 82).toArray
def bgT(T:Array Value)(q0:Nat)(v:Value)(u:Int)(K:Nat):Prop:=T.size=82∧ofA T 3=.pointer (some ⟨q0,0,none⟩)∧ofA T 5=v∧ofA T 6=.int .i64 u∧ofA T 7=.int .i64 K
theorem bgT.fr{T:Array Value}{q0:Nat}{v:Value}{u:Int}{K:Nat}(h:bgT T q0 v u K):∃ X,T=bgF q0 v u K X:=by obtain⟨hs,h3,h5,h6,h7⟩:=h;refine⟨ofA T,(frB T hs).trans (congrArg (fun X=>(litB X 0 82).toArray) (funext fun i=>?_))⟩;split<;>first|assumption|rfl

def bhB(F K:Nat)(u:Int)(xs:List Int)(bl:Bool)(f:Nat):Bool:=(xs[K*F+f]?.getD 0==0)&&((xs[(((K*F+f:Nat):Int)-u).toNat]?.getD 0==0)&&(xs[(((K*F+f:Nat):Int)+u).toNat]?.getD 0==pcI 1 (!bl)))
def bhL(F K:Nat)(u:Int)(xs:List Int)(bl:Bool):Nat→List Int
 | 0=>[-1]
 | k+1=>if bhB F K u xs bl k then bhL F K u xs bl k++[((K*F+k:Nat):Int)]else bhL F K u xs bl k
theorem ma(F K:Nat)(u:Int)(xs:List Int)(bl:Bool)(k:Nat):(bhL F K u xs bl k).length≤k+1:=by
 induction k with
 | zero=>simp[bhL]
 | succ k ih =>
  simp only[bhL];split
  ·simp;omega
  ·omega
def behL(F R:Nat)(xs:List Int)(bl:Bool)(ha:Int):List Int:=if R<6∨ha≠0 then [-1]else bhL F (if bl then 2 else R-3) (if bl then(F:Int)else -F) xs bl F
theorem eG{B:Nat}{W w1 w2:World}(h:RowKit.Below B W w1)(hB:B≤W.heap.size)(hb:Bw w1 w2):RowKit.Below B W w2:=aI h (Nat.le_trans hB h.size) hb
theorem qq(F R K:Nat)(u:Int)(xs:List Int)(bl:Bool)(ca pa ha fu:Int)(g o cc q0 base:Nat)(v:Value)(T:Array Value)(hT:bgT T q0 v u K)(Rs:Ending→World→Prop)
  (hF:3≤F∧F≤8) (hK:2≤K∧K+3≤R) (hR:R≤8) (hlen:xs.length=F*R) (hu:u=F∨u=-(F:Int)) (w W:World) (hB:RowKit.Below base w W) (hbw:base≤W.heap.size) (hq0:q0<base) (hP:ac W q0 (.cells (aa F R (some ⟨g,o,none⟩) xs.length cc bl ca pa ha fu).toArray 26 (0,0))) (hx:Arr .i8 W (some ⟨g,o,none⟩) xs) (hgo:g<base)
  (hv:W.ownsRow base 3 1 v (bhL F K u xs bl 0).length ((bhL F K u xs bl 0).map (.int .i64)))
  (hok:∀ v' w',RowKit.Below base w w'→w'.ownsRow base 3 1 v' (bhL F K u xs bl F).length ((bhL F K u xs bl F).map (.int .i64))→Rs (.returned v') w')
  (cd:Code) (hcd:Tryz.f143.body.map (aq 5)=some cd):cd.wp Tryz.prog (bodyPost Tryz.prog Tryz.f143 Rs) {tmps:=T,defers:=[]} W:=by
 obtain rfl:=Option.some.inj ((show Tryz.f143.body.map (aq 5)=some _ from rfl).symm.trans hcd);clear hcd;simp only[aq];obtain⟨X,rfl⟩:=hT.fr;clear hT;dsimp only[bgF,litB,Nat.reduceAdd];obtain⟨i3,hi3,hz3,hs3,hy3⟩:=info_parts Tryz.info3;have⟨c0,l0⟩:=hP.cl;go_upto_region 7 with fail;rename_i k hk k2 hk2;replace hk:=zhd hk;try dsimp only
 go_wp2_with fail;have hnx0:∀ k,bhL F K u xs bl (k+1)=if bhB F K u xs bl k then bhL F K u xs bl k++[((K*F+k:Nat):Int)]else bhL F K u xs bl k:=fun _=>rfl
 have hcd:∀ k,bhB F K u xs bl k=((xs[K*F+k]?.getD 0==0)&&((xs[(((K*F+k:Nat):Int)-u).toNat]?.getD 0==0)&&(xs[(((K*F+k:Nat):Int)+u).toNat]?.getD 0==pcI 1 (!bl)))):=fun _=>rfl
 have hll:=ma F K u xs bl;generalize bhL F K u xs bl=LL at *;generalize bhB F K u xs bl=BB at *;have hpf:Below base W W:=Below.refl _ _;go_loopg [5,36] 9 (fun q sv iv wr=>∃ i:Nat,q+i=9∧i≤F∧iv=.int .i64 i∧wr.ownsRow base 3 1 sv (LL i).length ((LL i).map (.int .i64))∧RowKit.Below base W wr)
 case atStart=>exact⟨0,by omega,Nat.zero_le _,rfl,hv,Below.refl _ _⟩
 case round =>
  obtain⟨i,hq,hi,rfl,hown,hbr⟩:=hrel;by_cases hlt:i<F
  ·have hKF:K*F+3*F≤F*R:=by
    have h1:=Nat.mul_le_mul_right F hK.2;rw[Nat.add_mul,Nat.mul_comm R F]at h1;exact h1
   have hKF2:2*F≤K*F:=Nat.mul_le_mul_right F hK.1;obtain⟨A,hA⟩:∃ A,A=K*F+i:=⟨_,rfl⟩;obtain⟨B1,hB1⟩:∃ B1:Nat,(A:Int)-u=B1:=⟨((A:Int)-u).toNat,by rcases hu with rfl|rfl<;>omega⟩;obtain⟨B2,hB2⟩:∃ B2:Nat,(A:Int)+u=B2:=⟨((A:Int)+u).toNat,by rcases hu with rfl|rfl<;>omega⟩;have hl64:F*R≤64:=Nat.mul_le_mul hF.2 hR;have hAl:A<xs.length∧B1<xs.length∧B2<xs.length:=by rw[hlen];refine⟨by omega,?_,?_⟩<;>rcases hu with rfl|rfl<;>omega
   have w1:wrap64 ((A:Int)-u)=B1:=by rw[hB1,IntWalk.wrap64_in _ (by omega)]
   have w2:wrap64 ((A:Int)+u)=B2:=by rw[hB2,IntWalk.wrap64_in _ (by omega)]
   have hcdi:=hcd i;have hnx:=hnx0 i;rw[←hA,hB1,hB2,Int.toNat_natCast,Int.toNat_natCast]at hcdi;rw[←hA]at hnx;have hKi:(K:Int)*F+i=A:=by rw[hA,Int.natCast_add,Int.natCast_mul]
   have hxc:∀ j,j<xs.length→wr.cell? ⟨g,o+j,none⟩=some (.int .i8 (xs[j]?.getD 0)):=fun j hj=>by
    obtain⟨g',o',e3,h5⟩:=bQ hx hj;injection e3 with e3;injection e3 with e3 e4;subst e3 e4;rw[hbr.cell (p:=⟨g,o+j,none⟩) hgo];exact h5
   have c1:=hxc A hAl.1;have c2:=hxc B1 hAl.2.1;have c3:=hxc B2 hAl.2.2;have hlL:=hll i;generalize hy1y:xs[A]?.getD 0=y1 at *;generalize hy2y:xs[B1]?.getD 0=y2 at *;generalize hy3y:xs[B2]?.getD 0=y3 at *;have hPr:=hP.below hbr hq0;clear hxc hnx0 hcd hll hx hP c0 l0;replace hnx:=zhd hnx;replace hcdi:=zhd hcdi;replace hKi:=zhd hKi;replace hA:=zhd hA;replace hlen:=zhd hlen;replace hy1y:=zhd hy1y;replace hy2y:=zhd hy2y;replace hy3y:=zhd hy3y;replace hB1:=zhd hB1;replace hB2:=zhd hB2;replace w1:=zhd w1;replace w2:=zhd w2;have i1:(A:Int)<xs.length:=by omega
   have i2:(B1:Int)<xs.length:=by omega
   have i3':(B2:Int)<xs.length:=by omega
   have⟨c0,l0⟩:=hPr.cl;go_upto_region 11 with fail;rw[hKi.out];clear c0 l0;have p0:∀ d os j,(grow (redrawn wr d) os).cell? ⟨q0,j,none⟩=(aa F R (some ⟨g,o,none⟩) xs.length cc bl ca pa ha fu).toArray[j]?:=am hPr;have n1:=cell_regrown c1;have n2:=cell_regrown c2;have n3:=cell_regrown c3;have t1:=aJ (w:=wr) (fun W=>fS 1 (!bl) (by decide) W);rcases z1:(y1==0)with _|_
   ·refine ag (by kernel_rfl) (by kernel_rfl) ?_;repeat(go_big_quiet_step (first|with_reducible exact t1 _ _|fail))
    refine wpQuiet_nil ?_;intro w5 hb5;clear p0 n1 n2 n3;have hLn:Hid (LL (i+1)=LL i):=zhd (by rw[hnx.out,hcdi.out,z1];rfl);go_wp2_with fail;go_roundg (gk-1)
    case measure=>omega
    case rel=>exact⟨i+1,by omega,by omega,by go_num,by rw[hLn.out];exact aA hown hb5,eG hbr hbw hb5⟩
   ·rcases z2:(y2==0)with _|_
    ·refine ag (by kernel_rfl) (by kernel_rfl) ?_;iterate 12 (go_big_quiet_step (first|with_reducible exact t1 _ _|fail))
     first|rw[w1.out] | rw[hB1.out]
     repeat(go_big_quiet_step (first|with_reducible exact t1 _ _|fail))
     refine wpQuiet_nil ?_;intro w5 hb5;clear p0 n1 n2 n3;have hLn:Hid (LL (i+1)=LL i):=zhd (by rw[hnx.out,hcdi.out,z1,z2];rfl);go_wp2_with fail;go_roundg (gk-1)
     case measure=>omega
     case rel=>exact⟨i+1,by omega,by omega,by go_num,by rw[hLn.out];exact aA hown hb5,eG hbr hbw hb5⟩
    ·rcases z3:(y3==pcI 1 (!bl))with _|_
     ·refine ag (by kernel_rfl) (by kernel_rfl) ?_;iterate 12 (go_big_quiet_step (first|with_reducible exact t1 _ _|fail))
      first|rw[w1.out] | rw[hB1.out]
      iterate 10 (go_big_quiet_step (first|with_reducible exact t1 _ _|fail))
      first|rw[w2.out] | rw[hB2.out]
      repeat(go_big_quiet_step (first|with_reducible exact t1 _ _|fail))
      refine wpQuiet_nil ?_;intro w5 hb5;clear p0 n1 n2 n3;have hLn:Hid (LL (i+1)=LL i):=zhd (by rw[hnx.out,hcdi.out,z1,z2,z3];rfl);go_wp2_with fail;go_roundg (gk-1)
      case measure=>omega
      case rel=>exact⟨i+1,by omega,by omega,by go_num,by rw[hLn.out];exact aA hown hb5,eG hbr hbw hb5⟩
     ·refine ag (by kernel_rfl) (by kernel_rfl) ?_;iterate 12 (go_big_quiet_step (first|with_reducible exact t1 _ _|fail))
      first|rw[w1.out] | rw[hB1.out]
      iterate 10 (go_big_quiet_step (first|with_reducible exact t1 _ _|fail))
      first|rw[w2.out] | rw[hB2.out]
      repeat(go_big_quiet_step (first|with_reducible exact t1 _ _|fail))
      refine wpQuiet_nil ?_;intro w5 hb5;clear p0 n1 n2 n3;have hLn:Hid (LL (i+1)=LL i++[(A:Int)]):=zhd (by rw[hnx.out,hcdi.out,z1,z2,z3];rfl);have hown5:=aA hown hb5;have hbr5:=eG hbr hbw hb5;have hbs5:=Nat.le_trans hbw hbr5.size;go_wp2_with (at_builtin;refine bD rfl (.tmp 76) (.tmp 78) 136 rfl base 3 i3 (.int .i64 0) 8 Tryz.underlying136 hi3 hz3 hs3 hy3 rfl _ (LL i).length ((LL i).map (.int .i64)) rfl hown5 1 [.int .i64 (A:Int)] rfl (by intro u hu;simp at hu;subst hu;rfl) _ rfl rfl (by omega) hbs5 ?_);intro v' w9 hown9 hg9 _;have hb9:=(hbr5.alloc hbs5 (.cells #[.int .i64 (A:Int)] 3)).grown hg9 (Nat.le_trans hbs5 (by simp)) (fun j e=>(hown5.lt j e).1);replace hown9:w9.ownsRow base 3 1 v' (LL (i+1)).length ((LL (i+1)).map (.int .i64)):=by rw[hLn.out];simpa using hown9
      clear hown hg9 hown5;go_wp2_with fail;go_roundg (gk-1)
      case measure=>omega
      case rel=>exact⟨i+1,by omega,by omega,by go_num,hown9,hb9⟩
  ·obtain rfl:i=F:=by omega
   go_wp2_with fail;refine hk.out _ _ ?_;go_wp2_with fail;exact hok _ _ (hB.trans hbr) hown
theorem sh(F R:Nat)(xs:List Int)(bl:Bool)(ca pa ha fu:Int)(s:Value)(pp:Option Addr)(cc:Nat)(hF:3≤F∧F≤8)(hR:3≤R∧R≤8)(hlen:xs.length=F*R)(w:World)(hx:Arr .i8 w pp xs):
  Clz 143 #[s,.agg (aa F R pp xs.length cc bl ca pa ha fu).toArray] w fun e w'=>(∃ v,e=.returned v∧w'.ownsRow w.heap.size 3 1 v (behL F R xs bl ha).length ((behL F R xs bl ha).map (.int .i64)))∧Bw w w':=by
 have h9:9≤F*R:=Nat.mul_le_mul hF.1 hR.1;obtain⟨g,o,rfl,hgw⟩:=bQ hx (j:=0) (by omega);have hgo0:g<w.heap.size:=block_lt_of_cell hgw;obtain⟨W1,hW1⟩:∃ W1,W1=w.alloc (.cells (aa F R (some ⟨g,o,none⟩) xs.length cc bl ca pa ha fu).toArray 26):=⟨_,rfl⟩;have hB:Bw w W1:=by subst hW1;exact ae w _
 have hP:ac W1 w.heap.size (.cells (aa F R (some ⟨g,o,none⟩) xs.length cc bl ca pa ha fu).toArray 26 (0,0)):=by subst hW1;exact ac.new w _
 have hb0:w.heap.size≤W1.heap.size:=hB.size;have l1:=hP.lt;have hown:=qK W1 W1.heap.size 3 [.int .i64 (-1)] (Nat.le_refl _) (by simp[maxLen]);have hB2:=ae W1 (.cells (#[.int .i64 (-1)]:Array Value) 3);have hP2:=hP.call hB2;have hx2:=(hx.call hB).call hB2;have hgo:g<W1.heap.size:=by omega
 have hbe:behL F R xs bl ha=if R<6∨ha≠0 then [-1]else bhL F (if bl then 2 else R-3) (if bl then(F:Int)else -F) xs bl F:=rfl
 generalize behL F R xs bl ha=BL at *;replace hlen:=zhd hlen;replace hW1:=zhd hW1;clear h9 hgw;go_enter Tryz.func143,Tryz.ntmps143;go_upto_region 1 with fail;change Code.wp _ _ _ _ (w.alloc (.cells (aa F R (some ⟨g,o,none⟩) xs.length cc bl ca pa ha fu).toArray 26));rw[←hW1.out];go_upto_region 2 with fail;generalize W1.alloc (.cells (#[.int .i64 (-1)]:Array Value) 3)=W2 at *;have hbs:W1.heap.size≤W2.heap.size:=hB2.size;have⟨c0,l0⟩:=hP2.cl;by_cases h6:(R:Int)<6
 ·rw[if_pos (.inl (by omega))]at hbe;replace hbe:=zhd hbe;go_wp2_with fail;go_ret;refine⟨⟨_,rfl,?_⟩,zbc hB hB2⟩;rw[hbe.out];exact bC hown hb0
 ·by_cases h0:ha=0
  rotate_left
  ·have z:(ha != 0)=true:=by simpa using h0
   rw[if_pos (.inr h0)]at hbe;replace hbe:=zhd hbe;go_wp2_with fail;go_ret;refine⟨⟨_,rfl,?_⟩,zbc hB hB2⟩;rw[hbe.out];exact bC hown hb0
  ·have z:(ha != 0)=false:=by simpa using h0
   rw[if_neg (by omega)]at hbe;replace h0:=zhd h0;go_upto_region 5 with fail;rename_i k hk k2 hk2;replace hk:=zhd hk;have c0:∀ j,W2.cell? ⟨w.heap.size,j,none⟩=(aa F R (some ⟨g,o,none⟩) xs.length cc bl ca pa ha fu).toArray[j]?:=hP2.cells;cases bl
   ·simp only[Bool.false_eq_true,if_false]at hbe;have hr3:(R:Int)-3=((R-3:Nat):Int):=by omega
    replace hbe:=zhd hbe;replace hr3:=zhd hr3;go_upto_region 6 with fail;have p0:∀ d os j,(grow (redrawn W2 d) os).cell? ⟨w.heap.size,j,none⟩=(aa F R (some ⟨g,o,none⟩) xs.length cc false ca pa ha fu).toArray[j]?:=am hP2;clear c0 l0;refine ag (by kernel_rfl) (by kernel_rfl) ?_;repeat(go_big_quiet_step (fail))
    refine wpQuiet_nil ?_;intro W3 hb3;have hP3:=hP2.call hb3;have hx3:=hx2.call hb3;have hown3:=aA hown hb3;have hB3:=zbc hB2 hb3;have hbs3:=Nat.le_trans hbs hb3.size;clear p0;go_wp2_with fail;refine hk.out _ _ ?_;refine qq F R (R-3) (-(F:Int)) xs false ca pa ha fu g o cc w.heap.size W1.heap.size _ _ ?_ _ hF ⟨by omega,by omega⟩ hR.2 hlen.out (.inr rfl) W1 W3 hB3 hbs3 l1 hP3 hx3 hgo hown3 (fun v' w' h1 h2=>?_) _ ?_
    ·exact⟨rfl,rfl,rfl,rfl,by rw[←hr3.out];rfl⟩
    ·refine⟨⟨v',rfl,?_⟩,zbc hB h1⟩;rw[hbe.out];exact bC h2 hb0
    ·exact rfl
   ·simp only[if_true]at hbe;replace hbe:=zhd hbe;go_wp2_with fail;refine hk.out _ _ ?_;refine qq F R 2 (F:Int) xs true ca pa ha fu g o cc w.heap.size W1.heap.size _ _ ?_ _ hF ⟨by omega,by omega⟩ hR.2 hlen.out (.inl rfl) W1 W2 hB2 hbs l1 hP2 hx2 hgo hown (fun v' w' h1 h2=>?_) _ ?_
    ·exact⟨rfl,rfl,rfl,rfl,rfl⟩
    ·refine⟨⟨v',rfl,?_⟩,zbc hB h1⟩;rw[hbe.out];exact bC h2 hb0
    ·exact rfl
end Go.Proofs.YtefmplccbkmalaaGreatDoor
namespace Go.Proofs.YtefmplccbkmalaaGreatDoor
open Go.RowKit

theorem nI{F R b:Nat}{x y:Int}(hF:3≤F∧F≤8)(hb:b<F*R):(onB F R x y=true∧x+y*F=b)↔(x=(b%F:Nat)∧y=(b/F:Nat)):=by
 constructor
 ·rintro⟨h1,h2⟩;obtain⟨a1,a2,a3,a4⟩:=fX h1;obtain⟨m,rfl⟩:∃ m:Nat,x=m:=⟨x.toNat,by omega⟩;obtain⟨n,rfl⟩:∃ n:Nat,y=n:=⟨y.toNat,by omega⟩;have h3:m+n*F=b:=by
   have:((m+n*F:Nat):Int)=b:=by simpa using h2
   omega
  subst h3;have h4:(m+n*F)%F=m:=by rw[Nat.add_mul_mod_self_right];exact Nat.mod_eq_of_lt (by omega)
  have h5:(m+n*F)/F=n:=by rw[Nat.add_mul_div_right _ _ (by omega),Nat.div_eq_of_lt (by omega)];omega
  rw[h4,h5];exact⟨rfl,rfl⟩
 ·rintro⟨rfl,rfl⟩;have h1:=Nat.mod_lt b (show 0<F by omega);have h2:b/F<R:=Nat.div_lt_of_lt_mul hb;have h3:=Nat.mod_add_div b F;refine⟨?_,?_⟩
  ·have:∀ x y:Nat,x<F→y<R→onB F R (x:Int) (y:Int)=true:=by intro x y h1 h2;unfold onB;simp;omega
   exact this _ _ h1 h2
  ·rw[Nat.mul_comm]at h3;rw[←Int.natCast_mul,←Int.natCast_add,h3]
theorem jw{F R a b:Nat}{dx dy:Int}(hF:3≤F∧F≤8)(hb:b<F*R):(onB F R (((a%F:Nat):Int)+dx) (((a/F:Nat):Int)+dy)=true∧(((a%F:Nat):Int)+dx)+(((a/F:Nat):Int)+dy)*F=b)↔(dF F a b=dx∧dR F a b=dy):=by rw[nI hF hb];unfold dF dR;generalize ((a%F:Nat):Int)=f,((a/F:Nat):Int)=r,((b%F:Nat):Int)=f',((b/F:Nat):Int)=r';omega
theorem tl{F R a b:Nat}(st:List (Int×Int))(hF:3≤F∧F≤8)(hb:b<F*R):∀ n,(leapW F R a st n).testBit b=true↔∃ j,j<n∧dF F a b=(st[j]?.getD (0,0)).1∧dR F a b=(st[j]?.getD (0,0)).2:=by
 intro n;induction n with
 | zero=>simp[leapW]
 | succ n ih =>
  have key:=jw (a:=a) (dx:=(st[n]?.getD (0,0)).1) (dy:=(st[n]?.getD (0,0)).2) hF hb;have hs:(∃ j,j<n+1∧dF F a b=(st[j]?.getD (0,0)).1∧dR F a b=(st[j]?.getD (0,0)).2)↔((∃ j,j<n∧dF F a b=(st[j]?.getD (0,0)).1∧dR F a b=(st[j]?.getD (0,0)).2)∨(dF F a b=(st[n]?.getD (0,0)).1∧dR F a b=(st[n]?.getD (0,0)).2)):=by
   constructor
   ·rintro⟨j,hj,h⟩;rcases(by omega:j<n∨j=n)with h1|rfl
    ·exact .inl ⟨j,h1,h⟩
    ·exact .inr h
   ·rintro(⟨j,hj,h⟩|h)
    ·exact⟨j,by omega,h⟩
    ·exact⟨n,by omega,h⟩
  rw[hs,←ih,←key];simp only[leapW];split
  ·rename_i h;obtain⟨m,hm,hl⟩:=jv h;rw[hm,Int.toNat_natCast,Nat.testBit_or,Nat.testBit_two_pow,Bool.or_eq_true,decide_eq_true_eq];constructor
   ·rintro(h1|h1)
    ·exact .inl h1
    ·exact .inr ⟨h,by rw[h1]⟩
   ·rintro(h1|h1)
    ·exact .inl h1
    ·exact .inr (by have:=h1.2;omega)
  ·rename_i h;exact⟨fun h1=>.inl h1,fun h1=>h1.elim id (fun h2=>absurd h2.1 h)⟩
theorem cW{F R a b:Nat}(st:List (Int×Int))(hF:3≤F∧F≤8)(hb:b<F*R):(leapW F R a st st.length).testBit b=st.any (fun s=>dF F a b==s.1&&dR F a b==s.2):=by
 rw[Bool.eq_iff_iff,tl st hF hb,List.any_eq_true];constructor
 ·rintro⟨j,hj,h1,h2⟩;rw[List.getElem?_eq_getElem hj,Option.getD_some]at h1 h2;exact⟨st[j],List.getElem_mem hj,by simp[←h1,←h2]⟩
 ·rintro⟨s,hs,h⟩;obtain⟨j,hj,rfl⟩:=List.getElem_of_mem hs;refine⟨j,hj,?_⟩;rw[List.getElem?_eq_getElem hj,Option.getD_some];simpa using h
theorem jR{F a b:Nat}(hF:3≤F∧F≤8):-8<dF F a b∧dF F a b<8:=by have h1:=Nat.mod_lt a (show 0<F by omega);have h2:=Nat.mod_lt b (show 0<F by omega);unfold dF;generalize a%F=x,b%F=y at *;omega
theorem jT{F R a b:Nat}(hR:3≤R∧R≤8)(ha:a<F*R)(hb:b<F*R):-8<dR F a b∧dR F a b<8:=by have h1:a/F<R:=Nat.div_lt_of_lt_mul ha;have h2:b/F<R:=Nat.div_lt_of_lt_mul hb;unfold dR;generalize a/F=x,b/F=y at *;omega
theorem kB{p:Int→Int→Prop}(h:∀ i,i<15→∀ j,j<15→p ((i:Nat)-7:Int) ((j:Nat)-7:Int))(x y:Int)(hx:-8<x∧x<8)(hy:-8<y∧y<8):p x y:=by have:=h (x+7).toNat (by omega) (y+7).toNat (by omega);rw[show(((x+7).toNat:Nat):Int)-7=x by omega,show(((y+7).toNat:Nat):Int)-7=y by omega]at this;exact this
theorem rd(x y:Int)(hx:-8<x∧x<8)(hy:-8<y∧y<8):leapsL.any (fun s=>x==s.1&&y==s.2)=(x*x+y*y==5) :=
 kB (p:=fun x y=>leapsL.any (fun s=>x==s.1&&y==s.2)=(x*x+y*y==5)) (by decide +kernel) x y hx hy
theorem uP(x y:Int)(hx:-8<x∧x<8)(hy:-8<y∧y<8):(diagL.any (fun s=>x==s.1&&y==s.2)||strL.any (fun s=>x==s.1&&y==s.2))=(max (kindI x) (kindI y)==1) :=
 kB (p:=fun x y=>(diagL.any (fun s=>x==s.1&&y==s.2)||strL.any (fun s=>x==s.1&&y==s.2))=(max (kindI x) (kindI y)==1)) (by decide +kernel) x y hx hy
theorem uk(bl:Bool)(x y:Int)(hx:-8<x∧x<8)(hy:-8<y∧y<8):(pwnL bl).any (fun s=>x==s.1&&y==s.2)=((y==sdI bl)&&((x==1)||(-x==1))):=by
 cases bl
 ·exact kB (p:=fun x y=>(pwnL false).any (fun s=>x==s.1&&y==s.2)=((y==sdI false)&&((x==1)||(-x==1)))) (by decide +kernel) x y hx hy
 ·exact kB (p:=fun x y=>(pwnL true).any (fun s=>x==s.1&&y==s.2)=((y==sdI true)&&((x==1)||(-x==1)))) (by decide +kernel) x y hx hy
theorem mO{F:Nat}{bl:Bool}{a b:Nat}:∀ n,b<n→elI (pawnL F bl a n) b=dP F bl a b:=by
 have hout:∀ n,n≤b→elI (pawnL F bl a n) b=false:=by
  intro n;induction n with
  | zero=>intro _;rfl
  | succ n ih =>
   intro h;have ih:=ih (by omega);simp only[pawnL];split
   ·unfold elI at ih ⊢;rw[List.any_append,ih];simp;omega
   ·exact ih
 intro n;induction n with
 | zero=>intro h;omega
 | succ n ih =>
  intro h;simp only[pawnL];rcases(by omega:b<n∨b=n)with h1|rfl
  ·have ih:=ih h1;split
   ·unfold elI at ih ⊢;rw[List.any_append,ih];have:((n:Int)==(b:Int))=false:=by simp;omega
    simp[this]
   ·exact ih
  ·have h2:=hout b (Nat.le_refl _);split
   ·rename_i h3;unfold elI at h2 ⊢;rw[List.any_append,h2,h3];simp
   ·rename_i h3;rw[h2];simp at h3;rw[h3]
theorem so{oc b:Nat}:∀(L:List Int) (S:Nat),(∀ x∈L,0≤x)→((bN oc L S).testBit b=true↔(S.testBit b=true∨∃ i,i<L.length∧L[i]?.getD 0=b∧∀ j,j<i→oc.testBit (L[j]?.getD 0).toNat=false)):=by
 intro L;induction L with
 | nil=>intro S _;simp[bN]
 | cons x r ih =>
  intro S hL;have hx:=hL x (by simp);obtain⟨n,rfl⟩:∃ n:Nat,x=n:=⟨x.toNat,by omega⟩;have h1:(S|||2^n).testBit b=true↔(S.testBit b=true∨n=b):=by rw[Nat.testBit_or,Nat.testBit_two_pow,Bool.or_eq_true,decide_eq_true_eq]
  simp only[bN,Int.toNat_natCast];split
  ·rename_i ho;rw[h1];constructor
   ·rintro(h|h)
    ·exact .inl h
    ·exact .inr ⟨0,by simp,by simp[h],fun j hj=>by omega⟩
   ·rintro(h|⟨i,hi,h2,h3⟩)
    ·exact .inl h
    ·cases i with
     | zero=>right;simp at h2;omega
     | succ i=>have:=h3 0 (by omega);simp[ho]at this
  ·rename_i ho;rw[ih _ (fun y hy=>hL y (by simp[hy])),h1];constructor
   ·rintro((h|h)|⟨i,hi,h2,h3⟩)
    ·exact .inl h
    ·exact .inr ⟨0,by simp,by simp[h],fun j hj=>by omega⟩
    ·refine .inr ⟨i+1,by simp;omega,by simpa using h2,fun j hj=>?_⟩;cases j with
     | zero=>simpa using ho
     | succ j=>simpa using h3 j (by omega)
   ·rintro(h|⟨i,hi,h2,h3⟩)
    ·exact .inl (.inl h)
    ·cases i with
     | zero=>left;right;simp at h2;omega
     | succ i=>exact .inr ⟨i,by simp at hi;omega,by simpa using h2,fun j hj=>by simpa using h3 (j+1) (by omega)⟩
theorem uF{oc b:Nat}(L:List Int)(hL:∀ x∈L,0≤x∧x<64):(∃ i,i<L.length∧L[i]?.getD 0=(b:Int)∧∀ j,j<i→oc.testBit (L[j]?.getD 0).toNat=false)↔(elI L b=true∧dt (btwL L b) oc=true):=by
 have hfree:∀ i,i≤L.length→(dt (L.take i) oc=true↔∀ j,j<i→oc.testBit (L[j]?.getD 0).toNat=false):=by
  intro i hi;unfold dt;rw[List.all_eq_true];constructor
  ·intro h j hj;have hjl:j<L.length:=by omega
   have h1:=hL L[j] (List.getElem_mem hjl);have:=h L[j] (by rw[List.mem_take_iff_getElem];exact⟨j,by omega,rfl⟩);rw[List.getElem?_eq_getElem hjl,Option.getD_some];unfold cF at this;simpa[h1.1,h1.2]using this
  ·intro h x hx;rw[List.mem_take_iff_getElem]at hx;obtain⟨j,hj,rfl⟩:=hx;have hjl:j<L.length:=by omega
   have:=h j (by omega);rw[List.getElem?_eq_getElem hjl,Option.getD_some]at this;unfold cF;simp[this]
 constructor
 ·rintro⟨i,hi,h1,h2⟩;rw[List.getElem?_eq_getElem hi,Option.getD_some]at h1;have hel:elI L b=true:=by unfold elI;rw[List.any_eq_true];exact⟨L[i],List.getElem_mem hi,by simp[h1]⟩
  refine⟨hel,?_⟩
  -- the first place
  have hex:∃ m,m≤i∧(∃ hm:m<L.length,L[m]=(b:Int))∧elI (L.take m) b=false:=by
   clear h2;induction i using Nat.strongRecOn with
   | _ i ih =>
    by_cases hf:elI (L.take i) b=false
    ·exact⟨i,Nat.le_refl _,⟨hi,h1⟩,hf⟩
    ·simp only[Bool.not_eq_false]at hf;unfold elI at hf;rw[List.any_eq_true]at hf;obtain⟨x,hx,hxb⟩:=hf;rw[List.mem_take_iff_getElem]at hx;obtain⟨j,hj,rfl⟩:=hx;obtain⟨m,hm,h3⟩:=ih j (by omega) (by omega) (by simpa using hxb);exact⟨m,by omega,h3⟩
  obtain⟨m,hmi,⟨hm,h3⟩,h4⟩:=hex;rw[lD h4 hm h3,hfree m (by omega)];exact fun j hj=>h2 j (by omega)
 ·rintro⟨h1,h2⟩;have hex:∃ m,(∃ hm:m<L.length,L[m]=(b:Int))∧elI (L.take m) b=false:=by
   unfold elI at h1;rw[List.any_eq_true]at h1;obtain⟨x,hx,hxb⟩:=h1;obtain⟨i,hi,rfl⟩:=List.getElem_of_mem hx;have hxb:L[i]=(b:Int):=by simpa using hxb
   clear hx;induction i using Nat.strongRecOn with
   | _ i ih =>
    by_cases hf:elI (L.take i) b=false
    ·exact⟨i,⟨hi,hxb⟩,hf⟩
    ·simp only[Bool.not_eq_false]at hf;unfold elI at hf;rw[List.any_eq_true]at hf;obtain⟨x,hx,hxb2⟩:=hf;rw[List.mem_take_iff_getElem]at hx;obtain⟨j,hj,rfl⟩:=hx;exact ih j (by omega) (by omega) (by simpa using hxb2) (by simpa using hxb2)
  obtain⟨m,⟨hm,h3⟩,h4⟩:=hex;rw[lD h4 hm h3,hfree m (by omega)]at h2;exact⟨m,hm,by rw[List.getElem?_eq_getElem hm];exact h3,h2⟩
theorem yU{F R a b:Nat}{dx dy:Int}{i:Nat}(hF:3≤F∧F≤8)(hb:b<F*R)(hi:i<(rayL F R a dx dy 8 1).length)(h:(rayL F R a dx dy 8 1)[i]?.getD 0=b):dF F a b=((i:Int)+1)*dx∧dR F a b=((i:Int)+1)*dy:=by
 obtain⟨h1,h2⟩:=fQ (F:=F) (R:=R) (a:=a) (dx:=dx) (dy:=dy) 8 1 i hi;rw[h]at h1;unfold rayN at h1 h2;have hno:=eP (F:=F) (R:=R) (a:=((a%F:Nat):Int)+((1+i:Nat):Int)*dx) (b:=((a/F:Nat):Int)+((1+i:Nat):Int)*dy);rcases hv:onB F R (((a%F:Nat):Int)+((1+i:Nat):Int)*dx) (((a/F:Nat):Int)+((1+i:Nat):Int)*dy)with _|_
 ·have:=hno.1.2 hv;omega
 ·have h3:=hno.2 hv;rw[←h1]at h3;have:=(jw hF hb).1 ⟨hv,h3.symm⟩;rw[show((1+i:Nat):Int)=(i:Int)+1 by omega]at this;exact this
theorem zr{F R a b n:Nat}{dx dy:Int}(hF:3≤F∧F≤8)(hb:b<F*R)(hn:1≤n∧n≤7)(hx:dF F a b=(n:Int)*dx)(hy:dR F a b=(n:Int)*dy)(hon:∀ k:Nat,1≤k→k≤n→onB F R (((a%F:Nat):Int)+(k:Int)*dx) (((a/F:Nat):Int)+(k:Int)*dy)=true):
  n-1<(rayL F R a dx dy 8 1).length∧(rayL F R a dx dy 8 1)[n-1]?.getD 0=b:=by
 have hl:n≤(rayL F R a dx dy 8 1).length:=by
  rcases Nat.lt_or_ge (rayL F R a dx dy 8 1).length n with h|h
  ·have h1:=nz (F:=F) (R:=R) (a:=a) (dx:=dx) (dy:=dy) 8 1 (by omega);unfold rayN at h1;have h2:=hon (1+(rayL F R a dx dy 8 1).length) (by omega) (by omega);have h3:=eP.1.1 h1;rw[h2]at h3;cases h3
  ·exact h
 refine⟨by omega,?_⟩;rw[(fQ (F:=F) (R:=R) (a:=a) (dx:=dx) (dy:=dy) 8 1 (n-1) (by omega)).1];unfold rayN;rw[show 1+(n-1)=n by omega,eP.2 (hon n hn.1 (Nat.le_refl _))];exact((jw hF hb).2 ⟨hx,hy⟩).2
theorem rX{F R:Nat}{f r dx dy:Int}{n k:Nat}(h0:0≤f∧f<F∧0≤r∧r<R)(h1:onB F R (f+(n:Int)*dx) (r+(n:Int)*dy)=true)(hk:k≤n)(hdx:dx=-1∨dx=0∨dx=1)(hdy:dy=-1∨dy=0∨dy=1):onB F R (f+(k:Int)*dx) (r+(k:Int)*dy)=true:=by obtain⟨a1,a2,a3,a4⟩:=fX h1;unfold onB;rcases hdx with rfl|rfl|rfl<;>rcases hdy with rfl|rfl|rfl<;>simp at a1 a2 a3 a4 ⊢<;>omega
theorem oM{F R a b:Nat}{dx dy:Int}(hF:3≤F∧F≤8)(hR:3≤R∧R≤8)(ha:a<F*R)(hb:b<F*R)(hdx:dx=-1∨dx=0∨dx=1)(hdy:dy=-1∨dy=0∨dy=1)(hn:¬(dx=0∧dy=0)):
  elI (rayL F R a dx dy 8 1) b=(bf a b (dF F a b) (dR F a b)&&((sgnI (dF F a b)==dx)&&(sgnI (dR F a b)==dy))):=by
 rw[Bool.eq_iff_iff];have hxs:=jR (F:=F) (a:=a) (b:=b) hF;have hys:=jT hR ha hb;constructor
 ·intro h;unfold elI at h;rw[List.any_eq_true]at h;obtain⟨x,hx,hxb⟩:=h;obtain⟨i,hi,rfl⟩:=List.getElem_of_mem hx;obtain⟨h1,h2⟩:=yU (b:=b) hF hb hi (by rw[List.getElem?_eq_getElem hi,Option.getD_some];simpa using hxb);have hab:a≠b:=by
   rintro rfl;have e1:dF F a a=0:=by unfold dF;omega
   have e2:dR F a a=0:=by unfold dR;omega
   rw[e1]at h1;rw[e2]at h2;rcases hdx with rfl|rfl|rfl<;>rcases hdy with rfl|rfl|rfl<;>simp at h1 h2 hn<;>omega
  generalize dF F a b=df at *;generalize dR F a b=dr at *;unfold bf sgnI;rcases hdx with rfl|rfl|rfl<;>rcases hdy with rfl|rfl|rfl<;>simp at h1 h2 hn ⊢<;>refine⟨⟨hab,by omega⟩,?_⟩<;>(subst h1 h2)<;>omega
 ·intro h;simp only[Bool.and_eq_true,beq_iff_eq]at h;obtain⟨h1,h2,h3⟩:=h;obtain⟨n,hn1,hx,hy⟩:∃ n:Nat,(1≤n∧n≤7)∧dF F a b=(n:Int)*dx∧dR F a b=(n:Int)*dy:=by
   generalize dF F a b=df at *;generalize dR F a b=dr at *;refine⟨max df.natAbs dr.natAbs,?_,?_,?_⟩
   all_goals
    unfold bf at h1;unfold sgnI at h2 h3;simp at h1;rcases hdx with rfl|rfl|rfl<;>rcases hdy with rfl|rfl|rfl<;>simp at hn<;>split at h2<;>split at h3<;>(try split at h2)<;>(try split at h3)<;>first|omega|(exfalso;omega)
  have hon:=((jw (a:=a) (R:=R) hF hb).2 ⟨hx,hy⟩).1;have hfa:=(bU hF hR ha);obtain⟨h4,h5⟩:=zr hF hb hn1 hx hy (fun k _ hk=>rX ⟨Int.natCast_nonneg _,by omega,Int.natCast_nonneg _,by omega⟩ hon hk hdx hdy);unfold elI;rw[List.any_eq_true];rw[List.getElem?_eq_getElem h4,Option.getD_some]at h5;exact⟨_,List.getElem_mem h4,by simp[h5]⟩
end Go.Proofs.YtefmplccbkmalaaGreatDoor
