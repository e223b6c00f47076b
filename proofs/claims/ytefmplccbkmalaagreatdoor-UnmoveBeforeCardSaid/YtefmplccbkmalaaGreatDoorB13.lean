import Derived.Test.YtefmplccbkmalaaGreatDoorB12
set_option maxRecDepth 100000
set_option maxHeartbeats 12800000
namespace Go.Proofs.YtefmplccbkmalaaGreatDoor
open Go.RowKit Go.Sort Go.BigFrame

def bH(P:Pos)(m:Mv)(w:World)(e:Ending)(w':World):Prop:=match mkW P m with
 | .error n=>e=mkE n∧Bw w w'
 | .ok (Q,u)=>∃ q cap,e=.returned (.tuple #[.agg (aa Q.F Q.R (some ⟨q,0,none⟩) Q.xs.length cap Q.bl Q.ca Q.pa Q.ha Q.fu).toArray,.agg u.cs.toArray,.int .i64 0])∧Bw w w'∧w.heap.size≤q∧aC w' q cap Q.xs
theorem vj(f r:Int)(xs:List Int)(bl:Bool)(ca pa ha fu:Int)(m:Mv)(pp:Option Addr)(cc:Nat)(h:(pvW f r xs bl ca pa ha fu&&mvB f r m)=false)(hca:0≤ca∧ca<256)(hl:xs.length≤1000)(hcc:xs.length≤cc)(w:World)(hg:bq w)(hx:Arr .i8 w pp xs):
  Clz 23 #[.agg (aa f r pp xs.length cc bl ca pa ha fu).toArray,.agg m.cs.toArray] w fun e w'=>e=mkE 2∧Bw w w':=by
 obtain⟨W1,hW1⟩:∃ W1,W1=((((w.alloc (.cells (aa f r pp xs.length cc bl ca pa ha fu).toArray 26)).alloc (.cells m.cs.toArray 40)).alloc (.cells af.toArray 26)).alloc (.cells aw.toArray 54)).alloc (.cells #[.int .i64 0] 31):=⟨_,rfl⟩;have hB:Bw w W1:=by subst hW1;exact(((((ae w _).alloc (by simp) _).alloc (by simp<;>omega) _).alloc (by simp<;>omega) _).alloc (by simp<;>omega) _)
 have hP:ac W1 w.heap.size (.cells (aa f r pp xs.length cc bl ca pa ha fu).toArray 26 (0,0)):=by subst hW1;exact((((ac.new w _).alloc _).alloc _).alloc _).alloc _
 have hM:ac W1 (w.heap.size+1) (.cells m.cs.toArray 40 (0,0)):=by subst hW1;exact(((ac.new' _ _ (by simp)).alloc _).alloc _).alloc _
 have hO:ac W1 (w.heap.size+1+1) (.cells af.toArray 26 (0,0)):=by subst hW1;exact((ac.new' _ _ (by simp)).alloc _).alloc _
 have hU:ac W1 (w.heap.size+1+1+1) (.cells aw.toArray 54 (0,0)):=by subst hW1;exact(ac.new' _ _ (by simp)).alloc _
 have hE:ac W1 (w.heap.size+1+1+1+1) (.cells #[.int .i64 0] 31 (0,0)):=by subst hW1;exact ac.new' _ _ (by simp)
 have hpv:=fun W hg hx=>cA f r ca pa ha fu bl pp cc xs hca hl hcc W hg hx
 have hmv:=fun W=>dp f r m W
 have⟨c0,l0⟩:=hP.cl;replace hW1:=zhd hW1;go_enter_defers Tryz.func23,Tryz.ntmps23
 go_upto_region 3 with fail;change Code.wp _ _ _ _ (((((w.alloc (.cells (aa f r pp xs.length cc bl ca pa ha fu).toArray 26)).alloc (.cells m.cs.toArray 40)).alloc (.cells af.toArray 26)).alloc (.cells aw.toArray 54)).alloc (.cells #[.int .i64 0] 31));rw[←hW1.out];go_wp2_with fail;refine(hpv _ (hg.call hB) (hx.call hB)).mono ?_;rintro e W2 ⟨rfl,hb2⟩;have hP2:=hP.call hb2;have hM2:=hM.call hb2;have hO2:=hO.call hb2;have hU2:=hU.call hb2;have hE2:=hE.call hb2;have hB2:=zbc hB hb2;clear c0 l0 hP hM hO hU hE hB;rcases zv:pvW f r xs bl ca pa ha fu with _|_
 ·go_wp2_with fail;refine(bT _ _).mono ?_;rintro e W5 ⟨rfl,rfl⟩;refine eJ (w.heap.size+1+1+1+1) (w.heap.size+1+1) (w.heap.size+1+1+1) 2 0 (by decide) _ _ W2 w rfl rfl rfl hE2 hO2 rfl hU2 rfl hB2 (by omega) (by omega) (by omega) (fun w' hb=>⟨rfl,hb⟩)
 ·rw[zv,Bool.true_and]at h;have⟨c0,l0⟩:=hP2.cl;have⟨c1,l1⟩:=hM2.cl;go_wp2_with fail;refine(hmv _).mono ?_;rintro e W3 ⟨rfl,hb3⟩;have hO3:=hO2.call hb3;have hU3:=hU2.call hb3;have hE3:=hE2.call hb3;have hB3:=zbc hB2 hb3;clear c0 l0 c1 l1;rw[h];go_wp2_with fail;refine(bT _ _).mono ?_;rintro e W5 ⟨rfl,rfl⟩;refine eJ (w.heap.size+1+1+1+1) (w.heap.size+1+1) (w.heap.size+1+1+1) 2 0 (by decide) _ _ W3 w rfl rfl rfl hE3 hO3 rfl hU3 rfl hB3 (by omega) (by omega) (by omega) (fun w' hb=>⟨rfl,hb⟩)
theorem xJ(F R:Nat)(xs:List Int)(bl:Bool)(can:Nat)(pa ha fu:Int)(a b:Nat)(pr:Int)(h1:(pvW F R xs bl can pa ha fu&&mvB F R ⟨a,b,pr⟩)=true)(h2:isW (xs[a]?.getD 0) bl=true)
  (h3:(isW (xs[b]?.getD 0) bl||(!goesW ⟨F,R,xs,bl,can,pa,ha,fu⟩ ⟨a,b,pr⟩&&(!(castW ⟨F,R,xs,bl,can,pa,ha,fu⟩ ⟨a,b,pr⟩).2||(pr != 0))))=false) (cb:Bool) (hcb:cb=((castW ⟨F,R,xs,bl,can,pa,ha,fu⟩ ⟨a,b,pr⟩).2&&!goesW ⟨F,R,xs,bl,can,pa,ha,fu⟩ ⟨a,b,pr⟩)) (Q:Pos) (hQ:Q=dU ⟨F,R,xs,bl,can,pa,ha,fu⟩ ⟨a,b,pr⟩ (if cb then(castW ⟨F,R,xs,bl,can,pa,ha,fu⟩ ⟨a,b,pr⟩).1 else none)) :
  mkW ⟨F,R,xs,bl,can,pa,ha,fu⟩ ⟨a,b,pr⟩=if(decide (chkS F R Q.xs bl≠0)||(cb&&(decide (chkS F R xs bl≠0)||decide (atrW F R (setW gNon xs xs.length) xs (((castW ⟨F,R,xs,bl,can,pa,ha,fu⟩ ⟨a,b,pr⟩).1.map Cas.cr).getD 0) (!bl) xs.length≠0))))then .error 90 else if 10000<Q.ha∨10000<Q.fu then .error 7 else .ok (Q,eT ⟨F,R,xs,bl,can,pa,ha,fu⟩ ⟨a,b,pr⟩):=by
 have hsm:(castW ⟨F,R,xs,bl,can,pa,ha,fu⟩ ⟨a,b,pr⟩).2=true→∃ c,(castW ⟨F,R,xs,bl,can,pa,ha,fu⟩ ⟨a,b,pr⟩).1=some c:=fun h=>en h
 have e1:((⟨F,R,xs,bl,can,pa,ha,fu⟩:Pos).ok&&mvB F R ⟨a,b,pr⟩)=true:=h1;have e2:isW ((⟨F,R,xs,bl,can,pa,ha,fu⟩:Pos).at_ (a:Int)) bl=true:=h2;have e3:(isW ((⟨F,R,xs,bl,can,pa,ha,fu⟩:Pos).at_ (b:Int)) bl||(!goesW ⟨F,R,xs,bl,can,pa,ha,fu⟩ ⟨a,b,pr⟩&&(!(castW ⟨F,R,xs,bl,can,pa,ha,fu⟩ ⟨a,b,pr⟩).2||decide (pr≠0))))=false:=by
  rw[←h3];have:decide (pr≠0)=(pr != 0):=by by_cases h:pr=0<;>simp[h]
  rw[this];rfl
 unfold mkW;simp only[e1,e2,e3,Bool.true_eq_false,Bool.false_eq_true,if_false];subst hcb;generalize castW ⟨F,R,xs,bl,can,pa,ha,fu⟩ ⟨a,b,pr⟩=CS at *;generalize goesW ⟨F,R,xs,bl,can,pa,ha,fu⟩ ⟨a,b,pr⟩=GO at *;rcases CS with⟨c,d⟩
 cases d<;>cases GO
 ·simp[hQ]
 ·simp[hQ]
 ·obtain⟨c',hc'⟩:=hsm rfl;simp only at hc';subst hc';simp[hQ]
 ·simp[hQ]
theorem Af(F R:Nat)(xs:List Int)(bl:Bool)(can:Nat)(pa ha fu:Int)(a b:Nat)(pr:Int)(h1:(pvW F R xs bl can pa ha fu&&mvB F R ⟨a,b,pr⟩)=true)(h2:isW (xs[a]?.getD 0) bl=false):mkW ⟨F,R,xs,bl,can,pa,ha,fu⟩ ⟨a,b,pr⟩=.error 9:=by have e1:((⟨F,R,xs,bl,can,pa,ha,fu⟩:Pos).ok&&mvB F R ⟨a,b,pr⟩)=true:=h1;have e2:isW ((⟨F,R,xs,bl,can,pa,ha,fu⟩:Pos).at_ (a:Int)) bl=false:=h2;unfold mkW;simp only[e1,e2,Bool.true_eq_false,if_false,if_true]
theorem zq(F R:Nat)(xs:List Int)(bl:Bool)(can:Nat)(pa ha fu:Int)(a b:Nat)(pr:Int)(h1:(pvW F R xs bl can pa ha fu&&mvB F R ⟨a,b,pr⟩)=true)(h2:isW (xs[a]?.getD 0) bl=true)
  (h3:(isW (xs[b]?.getD 0) bl||(!goesW ⟨F,R,xs,bl,can,pa,ha,fu⟩ ⟨a,b,pr⟩&&(!(castW ⟨F,R,xs,bl,can,pa,ha,fu⟩ ⟨a,b,pr⟩).2||(pr != 0))))=true):mkW ⟨F,R,xs,bl,can,pa,ha,fu⟩ ⟨a,b,pr⟩=.error 10:=by
 have e1:((⟨F,R,xs,bl,can,pa,ha,fu⟩:Pos).ok&&mvB F R ⟨a,b,pr⟩)=true:=h1;have e2:isW ((⟨F,R,xs,bl,can,pa,ha,fu⟩:Pos).at_ (a:Int)) bl=true:=h2;have e3:(isW ((⟨F,R,xs,bl,can,pa,ha,fu⟩:Pos).at_ (b:Int)) bl||(!goesW ⟨F,R,xs,bl,can,pa,ha,fu⟩ ⟨a,b,pr⟩&&(!(castW ⟨F,R,xs,bl,can,pa,ha,fu⟩ ⟨a,b,pr⟩).2||decide (pr≠0))))=true:=by
  rw[←h3];have:decide (pr≠0)=(pr != 0):=by by_cases h:pr=0<;>simp[h]
  rw[this];rfl
 unfold mkW;simp only[e1,e2,e3,Bool.true_eq_false,if_false,if_true]
theorem su(F R:Nat)(xs:List Int)(bl:Bool)(can:Nat)(pa ha fu:Int)(a b:Nat)(pr:Int)(pp:Option Addr)(cc:Nat)(h:(pvW F R xs bl can pa ha fu&&mvB F R ⟨a,b,pr⟩)=true)(hca:can<256)(hcc:xs.length≤cc)(w:World)(hg:aM w)(hx:Arr .i8 w pp xs):
  Clz 23 #[.agg (aa F R pp xs.length cc bl can pa ha fu).toArray,.agg #[.int .i64 a,.int .i64 b,.int .i8 pr]] w (bH ⟨F,R,xs,bl,can,pa,ha,fu⟩ ⟨a,b,pr⟩ w):=by
 have hbt:=h;simp only[Bool.and_eq_true]at h;obtain⟨hv,hmb⟩:=h;obtain⟨F',R',e1,e2,hF,hR,hlen,hor,hc15,h88,hha,hfu⟩:=eW hv (by omega);obtain rfl:F=F':=by omega
 obtain rfl:R=R':=by omega
 have h9:=Af F R xs bl can pa ha fu a b pr hbt;have h10:=zq F R xs bl can pa ha fu a b pr hbt;have hend:=xJ F R xs bl can pa ha fu a b pr hbt;have hab:a<F*R∧b<F*R∧(pr=0∨(2≤pr∧pr≤5)):=by
  have h:=hmb;unfold mvB at h;simp only[Bool.and_eq_true,Bool.or_eq_true,decide_eq_true_eq]at h;obtain⟨s1,s2,_,s4⟩:=h;unfold sqB at s1 s2;simp only[Bool.and_eq_true,decide_eq_true_eq]at s1 s2;have s1':(a:Int)<((F*R:Nat):Int):=by rw[Int.natCast_mul];exact s1.2.2
  have s2':(b:Int)<((F*R:Nat):Int):=by rw[Int.natCast_mul];exact s2.2.2
  exact⟨by omega,by omega,s4⟩
 obtain⟨hal,hbl,hpr⟩:=hab;have hl64:xs.length≤64:=by have:=Nat.mul_le_mul hF.2 hR.2;omega
 obtain⟨W1,hW1⟩:∃ W1,W1=((((w.alloc (.cells (aa F R pp xs.length cc bl can pa ha fu).toArray 26)).alloc (.cells (Mv.mk a b pr).cs.toArray 40)).alloc (.cells af.toArray 26)).alloc (.cells aw.toArray 54)).alloc (.cells #[.int .i64 0] 31):=⟨_,rfl⟩;have hB:Bw w W1:=by subst hW1;exact(((((ae w _).alloc (by simp) _).alloc (by simp<;>omega) _).alloc (by simp<;>omega) _).alloc (by simp<;>omega) _)
 have hP:ac W1 w.heap.size (.cells (aa F R pp xs.length cc bl can pa ha fu).toArray 26 (0,0)):=by subst hW1;exact((((ac.new w _).alloc _).alloc _).alloc _).alloc _
 have hM:ac W1 (w.heap.size+1) (.cells (Mv.mk a b pr).cs.toArray 40 (0,0)):=by subst hW1;exact(((ac.new' _ _ (by simp)).alloc _).alloc _).alloc _
 have hO:ac W1 (w.heap.size+1+1) (.cells af.toArray 26 (0,0)):=by subst hW1;exact((ac.new' _ _ (by simp)).alloc _).alloc _
 have hU:ac W1 (w.heap.size+1+1+1) (.cells aw.toArray 54 (0,0)):=by subst hW1;exact(ac.new' _ _ (by simp)).alloc _
 have hE:ac W1 (w.heap.size+1+1+1+1) (.cells #[.int .i64 0] 31 (0,0)):=by subst hW1;exact ac.new' _ _ (by simp)
 have hpv:=fun W hg hx=>cA F R can pa ha fu bl pp cc xs (by omega) (by omega) hcc W hg hx
 have hmv:=fun W=>dp F R (Mv.mk a b pr) W
 rw[hv]at hpv;rw[hmb]at hmv;have hcs:=fun W hg hx=>oz F R a b can pa ha fu pr bl pp cc xs hF hR hlen hor hal hbl (by omega) (fun h=>by have:=h88 h;omega) W hg hx
 have hgo:=fun h W hg hx=>vk F R a b can pa ha fu pr bl pp cc xs hF hR hlen hor hal hbl h W hg hx
 have⟨c0,l0⟩:=hP.cl;have hla:a<xs.length:=by omega
 have hlb:b<xs.length:=by omega
 have hii:(a:Int)<xs.length:=by omega
 have hib:(b:Int)<xs.length:=by omega
 replace h88:=zhd h88;replace hend:=zhd hend;replace h9:=zhd h9;replace h10:=zhd h10;replace hlen:=zhd hlen;replace hW1:=zhd hW1;go_enter_defers Tryz.func23,Tryz.ntmps23
 go_upto_region 3 with fail;change Code.wp _ _ _ _ (((((w.alloc (.cells (aa F R pp xs.length cc bl can pa ha fu).toArray 26)).alloc (.cells (Mv.mk a b pr).cs.toArray 40)).alloc (.cells af.toArray 26)).alloc (.cells aw.toArray 54)).alloc (.cells #[.int .i64 0] 31));rw[←hW1.out];go_wp2_with fail;refine(hpv _ (hg.1.call hB) (hx.call hB)).mono ?_;rintro e W2 ⟨rfl,hb2⟩;have hP2:=hP.call hb2;have hM2:=hM.call hb2;have hO2:=hO.call hb2;have hU2:=hU.call hb2;have hE2:=hE.call hb2;have hB2:=zbc hB hb2;clear c0 l0 hP hM hO hU hE hB hpv;have⟨c0,l0⟩:=hP2.cl;have⟨c1,l1⟩:=hM2.cl;go_wp2_with fail;refine(hmv _).mono ?_;rintro e W3 ⟨rfl,hb3⟩;have hP3:=hP2.call hb3;have hM3:=hM2.call hb3;have hO3:=hO2.call hb3;have hU3:=hU2.call hb3;have hE3:=hE2.call hb3;have hB3:=zbc hB2 hb3;clear c0 l0 c1 l1 hmv hE2;go_wp2_with fail;refine(dC _ _).mono ?_;rintro e W4 ⟨rfl,rfl⟩;have⟨c0,l0⟩:=hP3.cl;have c1:∀ j,W3.cell? ⟨w.heap.size+1,j,none⟩=(#[.int .i64 (a:Int),.int .i64 (b:Int),.int .i8 pr]:Array Value)[j]?:=hM3.cells;have l1:=hM3.lt;obtain⟨g,o,rfl,hb⟩:=bQ (hx.call hB3) (j:=a) hla;generalize hz:xs[a]?.getD 0=x at *;replace hz:=zhd hz;go_wp2_with fail;refine(qU _ _ _).mono ?_;rintro e W4 ⟨rfl,rfl⟩;rcases zo:isW x bl with _|_
 ·go_wp2_with fail;refine(bT _ _).mono ?_;rintro e W5 ⟨rfl,rfl⟩;refine eJ (w.heap.size+1+1+1+1) (w.heap.size+1+1) (w.heap.size+1+1+1) 9 0 (by decide) _ _ W3 w rfl rfl rfl hE3 hO3 rfl hU3 rfl hB3 (by omega) (by omega) (by omega) (fun w' hb=>by unfold bH;rw[h9.out zo];exact⟨rfl,hb⟩)
 ·have hx0:x≠0:=by
   rintro rfl;revert zo;cases bl<;>decide
  go_wp2_with fail;refine(dC _ _).mono ?_;rintro e W5 ⟨rfl,rfl⟩;go_wp2_with fail;refine(hcs _ (hg.call hB3) (hx.call hB3)).mono ?_;rintro e W4 ⟨rfl,hb4⟩;have hP4:=hP3.call hb4;have hM4:=hM3.call hb4;have hO4:=hO3.call hb4;have hU4:=hU3.call hb4;have hE4:=hE3.call hb4;have hB4:=zbc hB3 hb4;have l4:=hE4.lt;clear c0 l0 c1 l1 hb hE3 hcs;generalize hCS:castW ⟨F,R,xs,bl,can,pa,ha,fu⟩ ⟨a,b,pr⟩=CS at *;replace hCS:=zhd hCS;rcases CS with⟨wo,cd⟩
  have hZ:=ac.new W4 (.cells aZ.toArray 104);have hi:Hid ((Tryz.prog.info? 104).map (·.size)=some (bA wo).toArray.size):=zhd (by cases wo<;>kernel_rfl);have hos:Hid (aZ.toArray.size=(bA wo).toArray.size):=zhd (by cases wo<;>rfl);have ho:Hid ((bA wo).toArray.all (·.oneCell')=true):=zhd (by cases wo<;>simp[bA,Value.oneCell',Cas.cs]);go_upto_region 7 with(first|((refine ai rfl 104 (.tmp 8) (.tmp 41) rfl W4.heap.size (bA wo).toArray rfl rfl 104 _ hZ hi.out hos.out ho.out ?_);rintro w3 rfl)|fail);have hP5:=(hP4.alloc (.cells aZ.toArray 104)).setRow_far (g:=W4.heap.size) (cells:=(bA wo).toArray) (by omega);have hM5:=(hM4.alloc (.cells aZ.toArray 104)).setRow_far (g:=W4.heap.size) (cells:=(bA wo).toArray) (by omega);have hO5:=(hO4.alloc (.cells aZ.toArray 104)).setRow_far (g:=W4.heap.size) (cells:=(bA wo).toArray) (by omega);have hU5:=(hU4.alloc (.cells aZ.toArray 104)).setRow_far (g:=W4.heap.size) (cells:=(bA wo).toArray) (by omega);have hE5:=(hE4.alloc (.cells aZ.toArray 104)).setRow_far (g:=W4.heap.size) (cells:=(bA wo).toArray) (by omega);have hW5:=ak (cells:=(bA wo).toArray) hZ;have hBa:=hB4.alloc (by omega) (.cells aZ.toArray 104);have hB5:=aj (cells:=(bA wo).toArray) hBa (g:=W4.heap.size) (by omega) hBa.size;change Code.wp _ _ _ _ ((W4.alloc (.cells aZ.toArray 104)).setRow W4.heap.size (bA wo).toArray);have hqw:w.heap.size+1+1+1+1<W4.heap.size:=l4;generalize (W4.alloc (.cells aZ.toArray 104)).setRow W4.heap.size (bA wo).toArray=W5 at *;clear hZ hBa hi hos ho l4 hE4;generalize W4.heap.size=qw at *;obtain⟨g',o',e3,hb5⟩:=bQ (hx.call hB5) (j:=b) hlb;injection e3 with e3;injection e3 with e3 e4;subst e3 e4;have t2:=ax (w:=W5) (fun W' h=>hgo hx0 W' (hg.1.call (zbc hB5 h)) (hx.call (zbc hB5 h)));generalize hzb:xs[b]?.getD 0=y at *;replace hzb:=zhd hzb;have t1:=aJ (w:=W5) (fun W=>qU y bl W);generalize hgz:goesW ⟨F,R,xs,bl,can,pa,ha,fu⟩ ⟨a,b,pr⟩=GO at *;replace hgz:=zhd hgz;have p0:∀ d os j,(grow (redrawn W5 d) os).cell? ⟨w.heap.size,j,none⟩=(aa F R (some ⟨g,o,none⟩) xs.length cc bl can pa ha fu).toArray[j]?:=am hP5;have p1:∀ d os j,(grow (redrawn W5 d) os).cell? ⟨w.heap.size+1,j,none⟩=(#[.int .i64 (a:Int),.int .i64 (b:Int),.int .i8 pr]:Array Value)[j]?:=am hM5;have c2:=cell_regrown hb5;rcases zy:isW y bl with _|_<;>rw[zy]at t1
  rotate_left
  ·refine aN 24 (by kernel_rfl) (by kernel_rfl) ?_;simp only[List.take_succ_cons,List.take_zero,List.drop_succ_cons,List.drop_zero];repeat(go_big_quiet_step (first|with_reducible exact t1 _ _|with_reducible exact t2 _ _))
   refine wpQuiet_nil ?_;intro W6 hb6;have hP6:=hP5.call hb6;have hM6:=hM5.call hb6;have hO6:=hO5.call hb6;have hU6:=hU5.call hb6;have hE6:=hE5.call hb6;have hW6:=hW5.call hb6;have hB6:=zbc hB5 hb6;clear p0 p1 c2 hE5 hW5;go_wp2_with fail;refine(bT _ _).mono ?_;rintro e W7 ⟨rfl,rfl⟩;refine eJ (w.heap.size+1+1+1+1) (w.heap.size+1+1) (w.heap.size+1+1+1) 10 0 (by decide) _ _ W6 w rfl rfl rfl hE6 hO6 rfl hU6 rfl hB6 (by omega) (by omega) (by omega) (fun w' hb=>by unfold bH;rw[h10.out zo (by rw[zy];rfl)];exact⟨rfl,hb⟩)
  ·cases GO
   ·cases cd
    ·refine aN 24 (by kernel_rfl) (by kernel_rfl) ?_;simp only[List.take_succ_cons,List.take_zero,List.drop_succ_cons,List.drop_zero];repeat(go_big_quiet_step (first|with_reducible exact t1 _ _|with_reducible exact t2 _ _))
     refine wpQuiet_nil ?_;intro W6 hb6;have hP6:=hP5.call hb6;have hM6:=hM5.call hb6;have hO6:=hO5.call hb6;have hU6:=hU5.call hb6;have hE6:=hE5.call hb6;have hW6:=hW5.call hb6;have hB6:=zbc hB5 hb6;clear p0 p1 c2 hE5 hW5;go_wp2_with fail;refine(bT _ _).mono ?_;rintro e W7 ⟨rfl,rfl⟩;refine eJ (w.heap.size+1+1+1+1) (w.heap.size+1+1) (w.heap.size+1+1+1) 10 0 (by decide) _ _ W6 w rfl rfl rfl hE6 hO6 rfl hU6 rfl hB6 (by omega) (by omega) (by omega) (fun w' hb=>by unfold bH;rw[h10.out zo (by rw[zy];rfl)];exact⟨rfl,hb⟩)
    ·rcases zp:(pr != 0)with _|_
     rotate_left
     ·refine aN 24 (by kernel_rfl) (by kernel_rfl) ?_;simp only[List.take_succ_cons,List.take_zero,List.drop_succ_cons,List.drop_zero];repeat(go_big_quiet_step (first|with_reducible exact t1 _ _|with_reducible exact t2 _ _))
      refine wpQuiet_nil ?_;intro W6 hb6;have hP6:=hP5.call hb6;have hM6:=hM5.call hb6;have hO6:=hO5.call hb6;have hU6:=hU5.call hb6;have hE6:=hE5.call hb6;have hW6:=hW5.call hb6;have hB6:=zbc hB5 hb6;clear p0 p1 c2 hE5 hW5;go_wp2_with fail;refine(bT _ _).mono ?_;rintro e W7 ⟨rfl,rfl⟩;refine eJ (w.heap.size+1+1+1+1) (w.heap.size+1+1) (w.heap.size+1+1+1) 10 0 (by decide) _ _ W6 w rfl rfl rfl hE6 hO6 rfl hU6 rfl hB6 (by omega) (by omega) (by omega) (fun w' hb=>by unfold bH;rw[h10.out zo (by rw[zy,zp];rfl)];exact⟨rfl,hb⟩)
     ·refine aN 24 (by kernel_rfl) (by kernel_rfl) ?_;simp only[List.take_succ_cons,List.take_zero,List.drop_succ_cons,List.drop_zero];repeat(go_big_quiet_step (first|with_reducible exact t1 _ _|with_reducible exact t2 _ _))
      refine wpQuiet_nil ?_;intro W6 hb6;have hP6:=hP5.call hb6;have hM6:=hM5.call hb6;have hO6:=hO5.call hb6;have hU6:=hU5.call hb6;have hE6:=hE5.call hb6;have hW6:=hW5.call hb6;have hB6:=zbc hB5 hb6;clear p0 p1 c2 hE5 hW5;go_wp2_with fail;refine(dC _ _).mono ?_;rintro e W7 ⟨rfl,rfl⟩;go_upto_region 8 with fail;rename_i k8 hk8;replace hk8:=zhd hk8;have p0:∀ j,W6.cell? ⟨w.heap.size,j,none⟩=(aa F R (some ⟨g,o,none⟩) xs.length cc bl can pa ha fu).toArray[j]?:=hP6.cells;have l0:=hP6.lt;have p1:∀ j,W6.cell? ⟨w.heap.size+1,j,none⟩=(#[.int .i64 (a:Int),.int .i64 (b:Int),.int .i8 pr]:Array Value)[j]?:=hM6.cells;have l1:=hM6.lt;go_wp2_with fail;refine(hgo hx0 _ (hg.1.call hB6) (hx.call hB6)).mono ?_;rintro e W7 ⟨rfl,hb7⟩;have hP7:=hP6.call hb7;have hM7:=hM6.call hb7;have hO7:=hO6.call hb7;have hU7:=hU6.call hb7;have hE7:=hE6.call hb7;have hW7:=hW6.call hb7;have hB7:=zbc hB6 hb7;clear p0 p1 l0 l1 hE6 hW6;go_wp2_with fail;refine hk8.out _ _ ?_;refine od w F R xs bl can pa ha fu _ cc a b pr w.heap.size (w.heap.size+1) (w.heap.size+1+1) (w.heap.size+1+1+1) (w.heap.size+1+1+1+1) qw true wo _ ?_ _ hF hR hlen.out hor hcc hal hbl hpr hca hha (by omega) (fun h=>?_) (fun c h=>?_) hg hx _ ⟨Nat.le_refl _,by omega,by omega,by omega,by omega,hqw⟩ ⟨hB7,hP7,hM7,hE7,hW7,hO7,hU7⟩ _ rfl _ rfl (fun hC w' hb=>?_) (fun hC h7 w' hb=>?_) (fun hC h7 w' qa cap hb hqa hY=>?_) _ rfl
      ·rw[hz.out];exact⟨rfl,rfl,rfl,rfl,rfl,rfl,rfl,rfl,rfl⟩
      ·first|(cases h;done)|exact(by have h1:=en (P:=⟨F,R,xs,bl,can,pa,ha,fu⟩) (m:=⟨a,b,pr⟩) (by rw[hCS.out]);rw[hCS.out]at h1;exact h1)
      ·have h1:=jY (P:=⟨F,R,xs,bl,can,pa,ha,fu⟩) (m:=⟨a,b,pr⟩) (c:=c) (by rw[hCS.out];exact h);refine⟨h1.1,h88.out (fun h0=>h1.2 ?_)⟩;show(can:Int).toNat&&&c.bit=0;rw[h0];simp
      ·unfold bH;rw[hend.out zo (by rw[zy,zp];rfl) true rfl _ rfl,if_pos hC];exact⟨rfl,hb⟩
      ·unfold bH;rw[hend.out zo (by rw[zy,zp];rfl) true rfl _ rfl,if_neg (by rw[hC];decide),if_pos h7];exact⟨rfl,hb⟩
      ·unfold bH;rw[hend.out zo (by rw[zy,zp];rfl) true rfl _ rfl,if_neg (by rw[hC];decide),if_neg h7];exact⟨qa,cap,rfl,hb,hqa,hY⟩
   ·refine aN 24 (by kernel_rfl) (by kernel_rfl) ?_;simp only[List.take_succ_cons,List.take_zero,List.drop_succ_cons,List.drop_zero];repeat(go_big_quiet_step (first|with_reducible exact t1 _ _|with_reducible exact t2 _ _))
    refine wpQuiet_nil ?_;intro W6 hb6;have hP6:=hP5.call hb6;have hM6:=hM5.call hb6;have hO6:=hO5.call hb6;have hU6:=hU5.call hb6;have hE6:=hE5.call hb6;have hW6:=hW5.call hb6;have hB6:=zbc hB5 hb6;clear p0 p1 c2 hE5 hW5;go_wp2_with fail;refine(dC _ _).mono ?_;rintro e W7 ⟨rfl,rfl⟩;cases cd
    ·go_upto_region 8 with fail;rename_i k8 hk8;replace hk8:=zhd hk8;have p0:∀ j,W6.cell? ⟨w.heap.size,j,none⟩=(aa F R (some ⟨g,o,none⟩) xs.length cc bl can pa ha fu).toArray[j]?:=hP6.cells;have l0:=hP6.lt;have p1:∀ j,W6.cell? ⟨w.heap.size+1,j,none⟩=(#[.int .i64 (a:Int),.int .i64 (b:Int),.int .i8 pr]:Array Value)[j]?:=hM6.cells;have l1:=hM6.lt;go_wp2_with fail;refine hk8.out _ _ ?_;refine od w F R xs bl can pa ha fu _ cc a b pr w.heap.size (w.heap.size+1) (w.heap.size+1+1) (w.heap.size+1+1+1) (w.heap.size+1+1+1+1) qw false wo _ ?_ _ hF hR hlen.out hor hcc hal hbl hpr hca hha (by omega) (fun h=>?_) (fun c h=>?_) hg hx _ ⟨Nat.le_refl _,by omega,by omega,by omega,by omega,hqw⟩ ⟨hB6,hP6,hM6,hE6,hW6,hO6,hU6⟩ _ rfl _ rfl (fun hC w' hb=>?_) (fun hC h7 w' hb=>?_) (fun hC h7 w' qa cap hb hqa hY=>?_) _ rfl
     ·rw[hz.out];exact⟨rfl,rfl,rfl,rfl,rfl,rfl,rfl,rfl,rfl⟩
     ·first|(cases h;done)|exact(by have h1:=en (P:=⟨F,R,xs,bl,can,pa,ha,fu⟩) (m:=⟨a,b,pr⟩) (by rw[hCS.out]);rw[hCS.out]at h1;exact h1)
     ·have h1:=jY (P:=⟨F,R,xs,bl,can,pa,ha,fu⟩) (m:=⟨a,b,pr⟩) (c:=c) (by rw[hCS.out];exact h);refine⟨h1.1,h88.out (fun h0=>h1.2 ?_)⟩;show(can:Int).toNat&&&c.bit=0;rw[h0];simp
     ·unfold bH;rw[hend.out zo (by rw[zy];rfl) false rfl _ rfl,if_pos hC];exact⟨rfl,hb⟩
     ·unfold bH;rw[hend.out zo (by rw[zy];rfl) false rfl _ rfl,if_neg (by rw[hC];decide),if_pos h7];exact⟨rfl,hb⟩
     ·unfold bH;rw[hend.out zo (by rw[zy];rfl) false rfl _ rfl,if_neg (by rw[hC];decide),if_neg h7];exact⟨qa,cap,rfl,hb,hqa,hY⟩
    ·go_upto_region 8 with fail;rename_i k8 hk8;replace hk8:=zhd hk8;have p0:∀ j,W6.cell? ⟨w.heap.size,j,none⟩=(aa F R (some ⟨g,o,none⟩) xs.length cc bl can pa ha fu).toArray[j]?:=hP6.cells;have l0:=hP6.lt;have p1:∀ j,W6.cell? ⟨w.heap.size+1,j,none⟩=(#[.int .i64 (a:Int),.int .i64 (b:Int),.int .i8 pr]:Array Value)[j]?:=hM6.cells;have l1:=hM6.lt;go_wp2_with fail;refine(hgo hx0 _ (hg.1.call hB6) (hx.call hB6)).mono ?_;rintro e W7 ⟨rfl,hb7⟩;have hP7:=hP6.call hb7;have hM7:=hM6.call hb7;have hO7:=hO6.call hb7;have hU7:=hU6.call hb7;have hE7:=hE6.call hb7;have hW7:=hW6.call hb7;have hB7:=zbc hB6 hb7;clear p0 p1 l0 l1 hE6 hW6;go_wp2_with fail;refine hk8.out _ _ ?_;refine od w F R xs bl can pa ha fu _ cc a b pr w.heap.size (w.heap.size+1) (w.heap.size+1+1) (w.heap.size+1+1+1) (w.heap.size+1+1+1+1) qw false wo _ ?_ _ hF hR hlen.out hor hcc hal hbl hpr hca hha (by omega) (fun h=>?_) (fun c h=>?_) hg hx _ ⟨Nat.le_refl _,by omega,by omega,by omega,by omega,hqw⟩ ⟨hB7,hP7,hM7,hE7,hW7,hO7,hU7⟩ _ rfl _ rfl (fun hC w' hb=>?_) (fun hC h7 w' hb=>?_) (fun hC h7 w' qa cap hb hqa hY=>?_) _ rfl
     ·rw[hz.out];exact⟨rfl,rfl,rfl,rfl,rfl,rfl,rfl,rfl,rfl⟩
     ·first|(cases h;done)|exact(by have h1:=en (P:=⟨F,R,xs,bl,can,pa,ha,fu⟩) (m:=⟨a,b,pr⟩) (by rw[hCS.out]);rw[hCS.out]at h1;exact h1)
     ·have h1:=jY (P:=⟨F,R,xs,bl,can,pa,ha,fu⟩) (m:=⟨a,b,pr⟩) (c:=c) (by rw[hCS.out];exact h);refine⟨h1.1,h88.out (fun h0=>h1.2 ?_)⟩;show(can:Int).toNat&&&c.bit=0;rw[h0];simp
     ·unfold bH;rw[hend.out zo (by rw[zy];rfl) false rfl _ rfl,if_pos hC];exact⟨rfl,hb⟩
     ·unfold bH;rw[hend.out zo (by rw[zy];rfl) false rfl _ rfl,if_neg (by rw[hC];decide),if_pos h7];exact⟨rfl,hb⟩
     ·unfold bH;rw[hend.out zo (by rw[zy];rfl) false rfl _ rfl,if_neg (by rw[hC];decide),if_neg h7];exact⟨qa,cap,rfl,hb,hqa,hY⟩
theorem ur(F R:Nat)(xs:List Int)(bl:Bool)(can:Nat)(pa ha fu:Int)(m:Mv)(pp:Option Addr)(cc:Nat)(hca:can<256)(hl:xs.length≤1000)(hcc:xs.length≤cc)(w:World)(hg:aM w)(hx:Arr .i8 w pp xs):
  Clz 23 #[.agg (aa F R pp xs.length cc bl can pa ha fu).toArray,.agg m.cs.toArray] w (bH ⟨F,R,xs,bl,can,pa,ha,fu⟩ m w):=by
 rcases h:(pvW F R xs bl can pa ha fu&&mvB F R m)with _|_
 ·have e1:mkW ⟨F,R,xs,bl,can,pa,ha,fu⟩ m=.error 2:=by
   have e1:((⟨F,R,xs,bl,can,pa,ha,fu⟩:Pos).ok&&mvB F R m)=false:=h;unfold mkW;simp only[e1,if_true]
  refine(vj F R xs bl can pa ha fu m pp cc h (by omega) hl hcc w hg.1 hx).mono ?_;intro e w' h';unfold bH;rw[e1];exact h'
 ·have h2:=h;simp only[Bool.and_eq_true]at h2;have h3:=h2.2;unfold mvB sqB at h3;simp only[Bool.and_eq_true,decide_eq_true_eq]at h3;obtain⟨⟨_,s1,_⟩,⟨_,s2,_⟩,_⟩:=h3;obtain⟨fr,tg,pr⟩:=m;obtain⟨a,rfl⟩:∃ a:Nat,fr=a:=⟨fr.toNat,by simp only at s1;omega⟩;obtain⟨b,rfl⟩:∃ b:Nat,tg=b:=⟨tg.toNat,by simp only at s2;omega⟩;exact su F R xs bl can pa ha fu a b pr pp cc h hca hcc w hg hx
def bfF(q0 q1 q2 q5:Nat)(sd:Bool)(own:Int)(X:Nat→Value):Array Value:=(litB (fun i=>match i with|2=>.pointer (some ⟨q0,0,none⟩)|3=>.pointer (some ⟨q1,0,none⟩)|4=>.pointer (some ⟨q2,0,none⟩)|5=>.pointer (some ⟨q5,0,none⟩)|6=>.bool sd|7=>.int .i8 own|i=>X i) 0 131).toArray
def bfT(T:Array Value)(q0 q1 q2 q5:Nat)(sd:Bool)(own:Int):Prop:=T.size=131∧ofA T 2=.pointer (some ⟨q0,0,none⟩)∧ofA T 3=.pointer (some ⟨q1,0,none⟩)∧ofA T 4=.pointer (some ⟨q2,0,none⟩)∧ofA T 5=.pointer (some ⟨q5,0,none⟩)∧ofA T 6=.bool sd∧ofA T 7=.int .i8 own
theorem bfT.fr{T:Array Value}{q0 q1 q2 q5:Nat}{sd:Bool}{own:Int}(h:bfT T q0 q1 q2 q5 sd own):∃ X,T=bfF q0 q1 q2 q5 sd own X:=by obtain⟨hs,h2,h3,h4,h5,h6,h7⟩:=h;refine⟨ofA T,(frB T hs).trans (congrArg (fun X=>(litB X 0 131).toArray) (funext fun i=>?_))⟩;split<;>first|assumption|rfl

def BfQ(w:World)(q0 q1 q2 qa q5:Nat):Prop:=w.heap.size≤q0∧q0<q1∧q1<q2∧q2<qa∧qa<q5
structure BfS(w:World)(P:Pos)(pp:Option Addr)(cc:Nat)(r:Ret)(q0 q1 q2 q5 qa cap:Nat)(ys:List Int)(row:List Value)(W:World):Prop where
 b:Bw w W
 p:ac W q0 (.cells (aa P.F P.R pp P.xs.length cc P.bl P.ca P.pa P.ha P.fu).toArray 26 (0,0))
 m:ac W q1 (.cells r.cs.toArray 42 (0,0))
 o:ac W q2 (.cells af.toArray 26 (0,0))
 y:aC W qa cap ys
 t:ac W q5 (.cells row.toArray 26 (0,0))
section
variable {w:World} {P:Pos} {pp:Option Addr} {cc:Nat} {r:Ret} {q0 q1 q2 q5 qa cap:Nat} {ys:List Int} {row:List Value} {W W':World}
theorem BfS.call(h:BfS w P pp cc r q0 q1 q2 q5 qa cap ys row W)(hb:Bw W W'):BfS w P pp cc r q0 q1 q2 q5 qa cap ys row W' :=
 ⟨aI h.b h.b.size hb,h.p.call hb,h.m.call hb,h.o.call hb,h.y.call hb,h.t.call hb⟩
theorem BfS.set5(hq:BfQ w q0 q1 q2 qa q5)(h:BfS w P pp cc r q0 q1 q2 q5 qa cap ys row W)(i:Nat)(v:Value):BfS w P pp cc r q0 q1 q2 q5 qa cap ys (row.set i v) (W.setCell ⟨q5,i,none⟩ v):=by unfold BfQ at hq;have ht:=h.t.set_ i v;rw[List.setIfInBounds_toArray]at ht;exact⟨h.b.setCell (by show w.heap.size≤q5;omega) v,h.p.far (by show q0≠q5;omega) v,h.m.far (by show q1≠q5;omega) v,h.o.far (by show q2≠q5;omega) v,h.y.far (by show qa≠q5;omega) v,ht⟩
theorem BfS.setA(hq:BfQ w q0 q1 q2 qa q5)(h:BfS w P pp cc r q0 q1 q2 q5 qa cap ys row W)(i:Nat)(v:Int):BfS w P pp cc r q0 q1 q2 q5 qa cap (ys.set i v) row (W.setCell ⟨qa,i,none⟩ (.int .i8 v)):=by unfold BfQ at hq;exact⟨h.b.setCell (by show w.heap.size≤qa;omega) _,h.p.far (by show q0≠qa;omega) _,h.m.far (by show q1≠qa;omega) _,h.o.far (by show q2≠qa;omega) _,h.y.set i v,h.t.far (by show q5≠qa;omega) _⟩
end
theorem AK(w:World)(F R:Nat)(xs:List Int)(bl:Bool)(can:Nat)(pa ha fu:Int)(pp:Option Addr)(cc:Nat)(r:Ret)(q0 q1 q2 q5 qa cap:Nat)(sd:Bool)(own:Int)(T:Array Value)(hT:bfT T q0 q1 q2 q5 sd own)(ys:List Int)(Rs:Ending→World→Prop)(CA PA HA:Int)(hfu:-10000≤fu∧fu≤10000)
  (W:World) (hQ:BfQ w q0 q1 q2 qa q5) (hS:BfS w ⟨F,R,xs,bl,can,pa,ha,fu⟩ pp cc r q0 q1 q2 q5 qa cap ys (aa F R (some ⟨qa,0,none⟩) xs.length cap sd CA PA HA fu) W)
  (hok:∀ w',Bw w w'→aC w' qa cap ys→Rs (.returned (.agg (aa F R (some ⟨qa,0,none⟩) xs.length cap sd CA PA HA (if sd then fu-1 else fu)).toArray)) w')
  (cd:Code) (hcd:Tryz.f110.body.map (aq 10)=some cd):cd.wp Tryz.prog (bodyPost Tryz.prog Tryz.f110 Rs) {tmps:=T,defers:=[]} W:=by
 obtain rfl:=Option.some.inj ((show Tryz.f110.body.map (aq 10)=some _ from rfl).symm.trans hcd);clear hcd;simp only[aq];obtain⟨X,rfl⟩:=hT.fr;clear hT;dsimp only[bfF,litB,Nat.reduceAdd];cases sd
 ·simp only[Bool.false_eq_true,if_false]at hok;have hO:=hS.t;have hZ:=hS.o;have⟨hi,ho⟩:=zrw 26 (A:=(aa F R (some ⟨qa,0,none⟩) xs.length cap false CA PA HA fu).toArray) (by kernel_rfl) (by simp[Value.oneCell']);go_wp2_with (first|(refine ba rfl 26 (.tmp 5) rfl q5 _ 26 rfl hO (by kernel_rfl) ?_)|((refine ai rfl 26 (.tmp 4) (.tmp 130) rfl q2 _ rfl rfl 26 _ hZ hi.out rfl ho.out ?_);rintro w3 rfl)|fail);refine bodyPost_ret (bg (fn:=Tryz.f110) Tryz.results110 rfl (ak (cells:=(aa F R (some ⟨qa,0,none⟩) xs.length cap false CA PA HA fu).toArray) hZ) (by kernel_rfl)) rfl (hok _ (aj hS.b (by unfold BfQ at hQ;omega) hS.b.size) (hS.y.farR (by unfold BfQ at hQ;omega) _))
 ·simp only[if_true]at hok;have o1:=hS.t.cells 7;have f1:=hS.t.frozen 7;have l1:=hS.t.lt;go_upto_region 19 with fail;have hS2:BfS w ⟨F,R,xs,bl,can,pa,ha,fu⟩ pp cc r q0 q1 q2 q5 qa cap ys (aa F R (some ⟨qa,0,none⟩) xs.length cap true CA PA HA (fu-1)) (W.setCell ⟨q5,7,none⟩ (.int .i64 (fu-1))):=hS.set5 hQ 7 (.int .i64 (fu-1));generalize W.setCell ⟨q5,7,none⟩ (.int .i64 (fu-1))=W2 at *;clear o1 f1 l1 hS;have hO:=hS2.t;have hZ:=hS2.o;have⟨hi,ho⟩:=zrw 26 (A:=(aa F R (some ⟨qa,0,none⟩) xs.length cap true CA PA HA (fu-1)).toArray) (by kernel_rfl) (by simp[Value.oneCell']);go_wp2_with (first|(refine ba rfl 26 (.tmp 5) rfl q5 _ 26 rfl hO (by kernel_rfl) ?_)|((refine ai rfl 26 (.tmp 4) (.tmp 130) rfl q2 _ rfl rfl 26 _ hZ hi.out rfl ho.out ?_);rintro w3 rfl)|fail);refine bodyPost_ret (bg (fn:=Tryz.f110) Tryz.results110 rfl (ak (cells:=(aa F R (some ⟨qa,0,none⟩) xs.length cap true CA PA HA (fu-1)).toArray) hZ) (by kernel_rfl)) rfl (hok _ (aj hS2.b (by unfold BfQ at hQ;omega) hS2.b.size) (hS2.y.farR (by unfold BfQ at hQ;omega) _))
theorem wE(w:World)(F R:Nat)(xs:List Int)(bl:Bool)(can:Nat)(pa ha fu:Int)(pp:Option Addr)(cc:Nat)(r:Ret)(q0 q1 q2 q5 qa cap:Nat)(sd:Bool)(own:Int)(T:Array Value)(hT:bfT T q0 q1 q2 q5 sd own)(ys:List Int)(Rs:Ending→World→Prop)(hha:0≤ha∧ha≤10000)(hfu:-10000≤fu∧fu≤10000)
  (W:World) (hQ:BfQ w q0 q1 q2 qa q5) (hS:BfS w ⟨F,R,xs,bl,can,pa,ha,fu⟩ pp cc r q0 q1 q2 q5 qa cap ys (aa F R (some ⟨qa,0,none⟩) xs.length cap bl can pa ha fu) W)
  (hok:∀ w',Bw w w'→aC w' qa cap ys→Rs (.returned (.agg (aa F R (some ⟨qa,0,none⟩) xs.length cap sd r.ca r.pa (max 0 (ha-1)) (if sd then fu-1 else fu)).toArray)) w')
  (cd:Code) (hcd:Tryz.f110.body.map (aq 8)=some cd):cd.wp Tryz.prog (bodyPost Tryz.prog Tryz.f110 Rs) {tmps:=T,defers:=[]} W:=by
 obtain rfl:=Option.some.inj ((show Tryz.f110.body.map (aq 8)=some _ from rfl).symm.trans hcd);clear hcd;simp only[aq];obtain⟨X,rfl⟩:=hT.fr;clear hT;dsimp only[bfF,litB,Nat.reduceAdd];go_upto_region 15 with fail;rename_i hk;replace hk:=zhd hk;try dsimp only
 obtain⟨Wk,hWk⟩:∃ Wk:Nat→World,Wk=fun k=>match k with|0=>W|1=>W.setCell ⟨q5,3,none⟩ (.bool sd)|2=>(W.setCell ⟨q5,3,none⟩ (.bool sd)).setCell ⟨q5,4,none⟩ (.int .u8 r.ca)|_=>((W.setCell ⟨q5,3,none⟩ (.bool sd)).setCell ⟨q5,4,none⟩ (.int .u8 r.ca)).setCell ⟨q5,5,none⟩ (.int .i64 r.pa):=⟨_,rfl⟩
 have hW0:Wk 0=W:=by subst hWk;rfl
 have hW1:Wk (0+1)=(Wk 0).setCell ⟨q5,3,none⟩ (.bool sd):=by subst hWk;rfl
 have hW2:Wk (1+1)=(Wk 1).setCell ⟨q5,4,none⟩ (.int .u8 r.ca):=by subst hWk;rfl
 have hW3:Wk (2+1)=(Wk 2).setCell ⟨q5,5,none⟩ (.int .i64 r.pa):=by subst hWk;rfl
 have hS1:=hS.set5 hQ 3 (.bool sd);have hS2:=hS1.set5 hQ 4 (.int .u8 r.ca);have hS3:=hS2.set5 hQ 5 (.int .i64 r.pa);have m1:=bj (Wk:=Wk) (q:=q1) (fun k=>by
  subst hWk;rcases k with _|_|_|k
  ·exact hS.m
  ·exact hS1.m
  ·exact hS2.m
  ·exact hS3.m)
 have m1':∀ k d os j,(grow (redrawn (Wk k) d) os).cell? ⟨q1,j,none⟩=(#[.int .i64 r.mv.fr,.int .i64 r.mv.tg,.int .i8 r.mv.pr,.int .i8 r.cp,.int .i64 r.at_,.int .u8 r.ca,.int .i64 r.pa]:Array Value)[j]?:=m1;have hSk:BfS w ⟨F,R,xs,bl,can,pa,ha,fu⟩ pp cc r q0 q1 q2 q5 qa cap ys (aa F R (some ⟨qa,0,none⟩) xs.length cap sd r.ca r.pa ha fu) (Wk [6,8,10].length):=by subst hWk;exact hS3
 have c0:(Wk 0).cell? ⟨q5,3,none⟩=some (.bool bl):=by rw[hW0];exact hS.t.cells 3
 have g0:(Wk 0).frozen? ⟨q5,3,none⟩=false:=by rw[hW0];exact hS.t.frozen 3
 have c1:(Wk 1).cell? ⟨q5,4,none⟩=some (.int .u8 can):=by subst hWk;exact hS1.t.cells 4
 have g1:(Wk 1).frozen? ⟨q5,4,none⟩=false:=by subst hWk;exact hS1.t.frozen 4
 have c2:(Wk 2).cell? ⟨q5,5,none⟩=some (.int .i64 pa):=by subst hWk;exact hS2.t.cells 5
 have g2:(Wk 2).frozen? ⟨q5,5,none⟩=false:=by subst hWk;exact hS2.t.frozen 5
 clear hWk m1 hS1 hS2 hS3;replace hW1:=zhd hW1;replace hW2:=zhd hW2;replace hW3:=zhd hW3;refine aR [6,8,10] [(0,0),(0,1),(0,1),(0,2),(0,2),(0,0),(9,9),(1,1),(9,9),(2,2)] Wk (by kernel_rfl) (by kernel_rfl) hW0 ?_;replace hW0:=zhd hW0;refine a8 0 rfl rfl ?_;go_big_quiet_step (fail);refine wpQuiet_nil ?_;refine ci rfl rfl ?_;go_big_quiet_step (fail);refine wpQuiet_nil ?_;refine ci rfl rfl ?_;go_big_quiet_step (fail);refine wpQuiet_nil ?_;refine ci rfl rfl ?_;go_big_quiet_step (fail);refine wpQuiet_nil ?_;refine ci rfl rfl ?_;go_big_quiet_step (fail);refine wpQuiet_nil ?_;refine a8 0 rfl rfl ?_;go_big_quiet_step (fail);refine wpQuiet_nil ?_;refine dc 0 rfl rfl 4 (.tmp 117) (.tmp 112) rfl rfl rfl (by kernel_rfl) rfl c0 g0 hW1.out rfl ?_;refine a8 1 rfl rfl ?_;go_big_quiet_step (fail);refine wpQuiet_nil ?_;refine dc 1 rfl rfl 5 (.tmp 118) (.tmp 114) rfl rfl rfl (by kernel_rfl) rfl c1 g1 hW2.out rfl ?_;refine a8 2 rfl rfl ?_;go_big_quiet_step (fail);refine wpQuiet_nil ?_;refine dc 2 rfl rfl 3 (.tmp 119) (.tmp 116) rfl rfl rfl (by kernel_rfl) rfl c2 g2 hW3.out rfl ?_;refine cm ?_;intro W6 hb6;have hS6:=hSk.call hb6;clear m1' c0 c1 c2 g0 g1 g2;have p0:∀ j,W6.cell? ⟨q0,j,none⟩=(aa F R pp xs.length cc bl can pa ha fu).toArray[j]?:=hS6.p.cells;have l0:=hS6.p.lt;have o1:=hS6.t.cells 6;have f1:=hS6.t.frozen 6;have l1:=hS6.t.lt;refine hk.out _ _ ?_;clear hSk;go_upto_region 16 with fail;rename_i hk2;replace hk2:=zhd hk2;go_wp2_with fail;have hS7:BfS w ⟨F,R,xs,bl,can,pa,ha,fu⟩ pp cc r q0 q1 q2 q5 qa cap ys (aa F R (some ⟨qa,0,none⟩) xs.length cap sd r.ca r.pa (max 0 (ha-1)) fu) (W6.setCell ⟨q5,6,none⟩ (.int .i64 (max 0 (ha-1)))):=hS6.set5 hQ 6 (.int .i64 (max 0 (ha-1)));generalize W6.setCell ⟨q5,6,none⟩ (.int .i64 (max 0 (ha-1)))=W7 at *;refine hk2.out _ _ ?_;refine AK w F R xs bl can pa ha fu pp cc r q0 q1 q2 q5 qa cap sd own _ ?_ ys Rs _ _ _ hfu W7 hQ hS7 hok _ ?_
 ·exact⟨rfl,rfl,rfl,rfl,rfl,rfl,rfl⟩
 ·exact rfl
theorem AP(w:World)(F R:Nat)(xs:List Int)(bl:Bool)(can:Nat)(pa ha fu:Int)(pp:Option Addr)(cc:Nat)(r:Ret)(q0 q1 q2 q5 qa cap:Nat)(sd:Bool)(own:Int)(T:Array Value)(hT:bfT T q0 q1 q2 q5 sd own)(ys:List Int)(Rs:Ending→World→Prop)(hha:0≤ha∧ha≤10000)(hfu:-10000≤fu∧fu≤10000)(hly:ys.length=xs.length)
  (W:World) (hQ:BfQ w q0 q1 q2 qa q5) (hS:BfS w ⟨F,R,xs,bl,can,pa,ha,fu⟩ pp cc r q0 q1 q2 q5 qa cap ys (aa F R (some ⟨qa,0,none⟩) xs.length cap bl can pa ha fu) W)
  (hok:∀ w',Bw w w'→aC w' qa cap (if 0≤r.at_∧r.at_<ys.length then ys.set r.at_.toNat r.cp else ys)→Rs (.returned (.agg (aa F R (some ⟨qa,0,none⟩) xs.length cap sd r.ca r.pa (max 0 (ha-1)) (if sd then fu-1 else fu)).toArray)) w')
  (cd:Code) (hcd:Tryz.f110.body.map (aq 7)=some cd):cd.wp Tryz.prog (bodyPost Tryz.prog Tryz.f110 Rs) {tmps:=T,defers:=[]} W:=by
 obtain rfl:=Option.some.inj ((show Tryz.f110.body.map (aq 7)=some _ from rfl).symm.trans hcd);clear hcd;simp only[aq];obtain⟨X,rfl⟩:=hT.fr;clear hT;dsimp only[bfF,litB,Nat.reduceAdd];have p1:∀ j,W.cell? ⟨q1,j,none⟩=(#[.int .i64 r.mv.fr,.int .i64 r.mv.tg,.int .i8 r.mv.pr,.int .i8 r.cp,.int .i64 r.at_,.int .u8 r.ca,.int .i64 r.pa]:Array Value)[j]?:=hS.m.cells;have l1:=hS.m.lt;have p5:∀ j,W.cell? ⟨q5,j,none⟩=(aa F R (some ⟨qa,0,none⟩) xs.length cap bl can pa ha fu).toArray[j]?:=hS.t.cells;have l5:=hS.t.lt;have lq:=hS.y.lt;obtain⟨at_,hat⟩:∃ t,t=r.at_:=⟨_,rfl⟩;obtain⟨cp,hcp⟩:∃ t,t=r.cp:=⟨_,rfl⟩;rw[←hat,←hcp]at p1;have hcond:∀ v:List Int,v=(if 0≤r.at_∧r.at_<ys.length then ys.set r.at_.toNat r.cp else ys)→∀ w',Bw w w'→aC w' qa cap v→Rs (.returned (.agg (aa F R (some ⟨qa,0,none⟩) xs.length cap sd r.ca r.pa (max 0 (ha-1)) (if sd then fu-1 else fu)).toArray)) w':=fun v hv w' h1 h2=>hok w' h1 (by rw[←hv];exact h2)
 rw[←hat,←hcp,hly]at hcond;clear hok;replace hly:=zhd hly;replace hat:=zhd hat;replace hcp:=zhd hcp;go_upto_region 13 with fail;rename_i k hk k2 hk2;replace hk:=zhd hk;have hno:¬(0≤at_∧at_<xs.length)→∀ T':Array Value,bfT T' q0 q1 q2 q5 sd own→k {tmps:=T',defers:=[]} W:=fun hc T' hT'=>by
  refine hk.out _ _ ?_;exact wE w F R xs bl can pa ha fu pp cc r q0 q1 q2 q5 qa cap sd own T' hT' ys Rs hha hfu W hQ hS (hcond ys (by rw[if_neg hc])) _ rfl
 by_cases h0:0≤at_
 ·obtain⟨K,rfl⟩:∃ K:Nat,at_=K:=⟨at_.toNat,by omega⟩;by_cases hK:K<xs.length
  ·have hii:(K:Int)<xs.length:=by omega
   have hv:=hS.y.cell (j:=K) (by have:=hly.out;omega);have hf2:=hS.y.frozen K;go_wp2_with fail;have hS2:BfS w ⟨F,R,xs,bl,can,pa,ha,fu⟩ pp cc r q0 q1 q2 q5 qa cap (ys.set K cp) (aa F R (some ⟨qa,0,none⟩) xs.length cap bl can pa ha fu) (W.setCell ⟨qa,K,none⟩ (.int .i8 cp)):=hS.setA hQ K cp;generalize W.setCell ⟨qa,K,none⟩ (.int .i8 cp)=W2 at *;refine hk.out _ _ ?_;refine wE w F R xs bl can pa ha fu pp cc r q0 q1 q2 q5 qa cap sd own _ ?_ (ys.set K cp) Rs hha hfu W2 hQ hS2 (hcond _ (by rw[if_pos ⟨by omega,by omega⟩,Int.toNat_natCast])) _ ?_
   ·exact⟨rfl,rfl,rfl,rfl,rfl,rfl,rfl⟩
   ·exact rfl
  ·have hii:¬((K:Int)<xs.length):=by omega
   go_wp2_with fail;exact hno (by omega) _ ⟨rfl,rfl,rfl,rfl,rfl,rfl,rfl⟩
 ·go_wp2_with fail;exact hno (by omega) _ ⟨rfl,rfl,rfl,rfl,rfl,rfl,rfl⟩
def bckX(F R:Nat)(own:Int)(sd:Bool)(fr tg:Int)(x:List Int)(c:Cas):List Int:=if F=8∧R=8∧own=pcI 6 sd∧c.bl=sd∧(c.fr:Int)=fr∧(c.tg:Int)=tg then(x.set c.co (x[c.cr]?.getD 0)).set c.cr 0 else x
theorem oY(F R:Nat)(own:Int)(sd:Bool)(fr tg:Int)(x:List Int)(c:Cas):(bckX F R own sd fr tg x c).length=x.length:=by unfold bckX;split<;>simp
theorem fold_len(F R:Nat)(own:Int)(sd:Bool)(fr tg:Int):∀(l:List Cas) (x:List Int),(l.foldl (bckX F R own sd fr tg) x).length=x.length
 | [],_=>rfl
 | c::l,x=>by rw[List.foldl_cons,fold_len F R own sd fr tg l,oY]
theorem ms(F R:Nat)(w:World):(binOp .eql 23 (.agg #[.int .i64 F,.int .i64 R]) (.agg #[.int .i64 8,.int .i64 8])).run Tryz.prog w=.ok (.bool (((F:Int)==8)&&((R:Int)==8))) w:=by simp[go_sem];by_cases h1:(F:Int)=8<;>by_cases h2:(R:Int)=8<;>simp[h1,h2]
theorem ld1(w:World)(h:aM w):(loadVar 23 ⟨1,0,none⟩).run Tryz.prog w=.ok (.agg #[.int .i64 8,.int .i64 8]) w :=
 ct [.int .i64 8,.int .i64 8] (by kernel_rfl) (fun j v e=>by
  rw[Nat.zero_add];rcases j with _|_|j
  ·injection e with e;rw[←e];exact h.2.2.2.1
  ·injection e with e;rw[←e];exact h.2.2.2.2
  ·cases e)
theorem AY(w:World)(F R:Nat)(xs:List Int)(bl:Bool)(can:Nat)(pa ha fu:Int)(pp:Option Addr)(cc:Nat)(r:Ret)(q0 q1 q2 q5 qa cap:Nat)(sd:Bool)(own:Int)(T:Array Value)(hT:bfT T q0 q1 q2 q5 sd own)(ys:List Int)(Rs:Ending→World→Prop)(hG:aM w)(hlx:F=8→R=8→64≤xs.length)(hha:0≤ha∧ha≤10000)(hfu:-10000≤fu∧fu≤10000)(hly:ys.length=xs.length)
  (W:World) (hQ:BfQ w q0 q1 q2 qa q5) (hS:BfS w ⟨F,R,xs,bl,can,pa,ha,fu⟩ pp cc r q0 q1 q2 q5 qa cap ys (aa F R (some ⟨qa,0,none⟩) xs.length cap bl can pa ha fu) W) (Z:List Int) (hZ:Z=az.foldl (bckX F R own sd r.mv.fr r.mv.tg) ys)
  (hok:∀ w',Bw w w'→aC w' qa cap (if 0≤r.at_∧r.at_<Z.length then Z.set r.at_.toNat r.cp else Z)→Rs (.returned (.agg (aa F R (some ⟨qa,0,none⟩) xs.length cap sd r.ca r.pa (max 0 (ha-1)) (if sd then fu-1 else fu)).toArray)) w')
  (cd:Code) (hcd:Tryz.f110.body.map (aq 6)=some cd):cd.wp Tryz.prog (bodyPost Tryz.prog Tryz.f110 Rs) {tmps:=T,defers:=[]} W:=by
 obtain rfl:=Option.some.inj ((show Tryz.f110.body.map (aq 6)=some _ from rfl).symm.trans hcd);clear hcd;simp only[aq];obtain⟨X,rfl⟩:=hT.fr;clear hT;dsimp only[bfF,litB,Nat.reduceAdd];have hld:=ld0 W (hG.call hS.b);have hix:=ix0;have hfl:∀ c l x,(c::l).foldl (bckX F R own sd r.mv.fr r.mv.tg) x=l.foldl (bckX F R own sd r.mv.fr r.mv.tg) (bckX F R own sd r.mv.fr r.mv.tg x c):=fun c l x=>rfl
 have hzl:Z.length=xs.length:=by rw[hZ,fold_len,hly]
 have hst:∀ x (c:Cas),bckX F R own sd r.mv.fr r.mv.tg x c=if F=8∧R=8∧own=pcI 6 sd∧c.bl=sd∧(c.fr:Int)=r.mv.fr∧(c.tg:Int)=r.mv.tg then(x.set c.co (x[c.cr]?.getD 0)).set c.cr 0 else x:=fun _ _=>rfl
 have hbl:=oY F R own sd r.mv.fr r.mv.tg;generalize bckX F R own sd r.mv.fr r.mv.tg=G at *;generalize casV.toArray=cv at *;replace hly:=zhd hly;replace hzl:=zhd hzl;replace hZ:=zhd hZ.symm;go_upto_region 7 with fail;rename_i k hk k2 hk2;replace hk:=zhd hk;try dsimp only
 go_wp2_with (with_reducible refine cy rfl 132 (.global 0) rfl rfl hld ?_);go_loopg [42] 5 (fun q iv wr=>∃(i:Nat) (zs:List Int),q+i=5∧i≤4∧iv=.int .i64 i∧Hid ((az.drop i).foldl G zs=Z)∧Hid (zs.length=xs.length)∧BfS w ⟨F,R,xs,bl,can,pa,ha,fu⟩ pp cc r q0 q1 q2 q5 qa cap zs (aa F R (some ⟨qa,0,none⟩) xs.length cap bl can pa ha fu) wr)
 case atStart=>exact⟨0,ys,rfl,Nat.zero_le _,rfl,zhd (by rw[←hZ.out];rfl),hly,hS⟩
 case round =>
  obtain⟨i,zs,hq,hi,rfl,hcv,hlz,hSr⟩:=hrel;by_cases hlt:i<4
  ·have hii:(i:Int)<4:=by omega
   obtain⟨c,hc,_,hix2⟩:=hix i hlt;obtain⟨k1,k2',k3,k4,k5,k6,k7,k8⟩:=ub hc;have hnx:=hcv.out;rw[ph hc,hfl,hst]at hnx;clear hix hfl hS hcv hly hZ hld;have hb3:=ae wr (.cells c.cs.toArray 131);have hC:=ac.new wr (.cells c.cs.toArray 131);have hS3:=hSr.call hb3;have hqc:q5<wr.heap.size:=hSr.t.lt;go_upto_region 10 with fail;change Code.wp _ _ _ _ (wr.alloc (.cells c.cs.toArray 131));generalize wr.alloc (.cells c.cs.toArray 131)=w3 at *;generalize wr.heap.size=qc at *;clear hSr;have hl1:=ld1 w3 (hG.call hS3.b);have h8:=ms F R;have hsk:(((F:Int)==8)&&((R:Int)==8))=false∨(own==pcI 6 sd)=false∨(c.bl==sd)=false∨((c.fr:Int)==r.mv.fr)=false∨((c.tg:Int)==r.mv.tg)=false→Hid ((az.drop (i+1)).foldl G zs=Z):=fun h=>zhd (by
    rw[if_neg]at hnx
    ·exact hnx
    ·rintro⟨h1,h2,h3,h4,h5,h6⟩;simp[h1,h2,h3,h4,h5,h6]at h)
   have hht:(((F:Int)==8)&&((R:Int)==8))=true→(own==pcI 6 sd)=true→(c.bl==sd)=true→((c.fr:Int)==r.mv.fr)=true→((c.tg:Int)==r.mv.tg)=true→(F=8∧R=8)∧Hid ((az.drop (i+1)).foldl G ((zs.set c.co (zs[c.cr]?.getD 0)).set c.cr 0)=Z):=fun h1 h2 h3 h4 h5=>by
    simp only[Bool.and_eq_true,beq_iff_eq]at h1 h2 h3 h4 h5;refine⟨⟨by omega,by omega⟩,zhd ?_⟩;rw[if_pos ⟨by omega,by omega,h2,h3,h4,h5⟩]at hnx;exact hnx
   clear hnx;have p0:∀ j,w3.cell? ⟨q0,j,none⟩=(aa F R pp xs.length cc bl can pa ha fu).toArray[j]?:=hS3.p.cells;have l0:=hS3.p.lt;have p1:∀ j,w3.cell? ⟨q1,j,none⟩=(#[.int .i64 r.mv.fr,.int .i64 r.mv.tg,.int .i8 r.mv.pr,.int .i8 r.cp,.int .i64 r.at_,.int .u8 r.ca,.int .i64 r.pa]:Array Value)[j]?:=hS3.m.cells;have l1:=hS3.m.lt;have⟨pc,lc⟩:=hC.cl;generalize (((F:Int)==8)&&((R:Int)==8))=z1 at *;cases z1
   ·have hcv:=hsk (.inl rfl);clear hsk hht;go_wp2_with (with_reducible refine cy rfl 23 (.global 1) rfl rfl hl1 ?_);go_roundg (gk-1)
    case measure=>omega
    case rel=>exact⟨i+1,zs,by omega,by omega,by go_num,hcv,hlz,hS3⟩
   ·replace hht:=zhd (hht rfl);replace hsk:(own==pcI 6 sd)=false∨(c.bl==sd)=false∨((c.fr:Int)==r.mv.fr)=false∨((c.tg:Int)==r.mv.tg)=false→Hid ((az.drop (i+1)).foldl G zs=Z):=fun h=>hsk (.inr h)
    replace hsk:=zhd hsk;go_wp2_with (with_reducible refine cy rfl 23 (.global 1) rfl rfl hl1 ?_);refine(fS 6 sd (by decide) _).mono ?_;rintro e W5 ⟨rfl,rfl⟩;clear hl1 h8;rcases z2:(own==pcI 6 sd)with _|_
    ·have hcv:=hsk.out (by simp[z2]);clear hsk hht;go_wp2_with fail;go_roundg (gk-1)
     case measure=>omega
     case rel=>exact⟨i+1,zs,by omega,by omega,by go_num,hcv,hlz,hS3⟩
    ·rcases z3:(c.bl==sd)with _|_
     ·have hcv:=hsk.out (by simp[z3]);clear hsk hht;go_wp2_with fail;go_roundg (gk-1)
      case measure=>omega
      case rel=>exact⟨i+1,zs,by omega,by omega,by go_num,hcv,hlz,hS3⟩
     ·rcases z4:((c.fr:Int)==r.mv.fr)with _|_
      ·have hcv:=hsk.out (by simp[z4]);clear hsk hht;go_wp2_with fail;go_roundg (gk-1)
       case measure=>omega
       case rel=>exact⟨i+1,zs,by omega,by omega,by go_num,hcv,hlz,hS3⟩
      ·rcases z5:((c.tg:Int)==r.mv.tg)with _|_
       ·have hcv:=hsk.out (by simp[z5]);clear hsk hht;go_wp2_with fail;go_roundg (gk-1)
        case measure=>omega
        case rel=>exact⟨i+1,zs,by omega,by omega,by go_num,hcv,hlz,hS3⟩
       ·obtain⟨hFR,hcv⟩:=hht.out z2 z3 z4 z5;clear hsk hht;go_upto_region 11 with fail;obtain⟨rfl,rfl⟩:=hFR;have hlx:=hlx rfl rfl;have hi1:(c.co:Int)<xs.length:=by omega
        have hi2:(c.cr:Int)<xs.length:=by omega
        clear pc lc p0 l0 p1 l1;have hv:=hS3.y.cell (j:=c.cr) (by have:=hlz.out;omega);have hv2:=hS3.y.cell (j:=c.co) (by have:=hlz.out;omega);generalize zs[c.cr]?.getD 0=v at *;have hf2:=hS3.y.frozen c.co;obtain⟨Wk,hWk⟩:∃ Wk:Nat→World,Wk=fun k=>match k with|0=>w3|1=>w3.setCell ⟨qa,c.co,none⟩ (.int .i8 v)|_=>(w3.setCell ⟨qa,c.co,none⟩ (.int .i8 v)).setCell ⟨qa,c.cr,none⟩ (.int .i8 0):=⟨_,rfl⟩
        have hW0:Wk 0=w3:=by subst hWk;rfl
        have hW1:Wk (0+1)=(Wk 0).setCell ⟨qa,c.co,none⟩ (.int .i8 v):=by subst hWk;rfl
        have hW2:Wk (1+1)=(Wk 1).setCell ⟨qa,c.cr,none⟩ (.int .i8 0):=by subst hWk;rfl
        have hT1:=hS3.setA hQ c.co v;have hT2:=hT1.setA hQ c.cr 0;have hqq:qc≠qa:=by unfold BfQ at hQ;omega
        have m2:=bj (Wk:=Wk) (q:=q5) (fun k=>by
         subst hWk;rcases k with _|_|k
         ·exact hS3.t
         ·exact hT1.t
         ·exact hT2.t)
        have m3:=bj (Wk:=Wk) (q:=qc) (fun k=>by
         subst hWk;rcases k with _|_|k
         ·exact hC
         ·exact hC.far (p:=⟨qa,c.co,none⟩) hqq _
         ·exact(hC.far (p:=⟨qa,c.co,none⟩) hqq _).far (p:=⟨qa,c.cr,none⟩) hqq _)
        have m3':∀ k d os j,(grow (redrawn (Wk k) d) os).cell? ⟨qc,j,none⟩=c.cs.toArray[j]?:=m3;have hSk:BfS w ⟨8,8,xs,bl,can,pa,ha,fu⟩ pp cc r q0 q1 q2 q5 qa cap ((zs.set c.co v).set c.cr 0) (aa 8 8 (some ⟨qa,0,none⟩) xs.length cap bl can pa ha fu) (Wk [15,17].length):=by subst hWk;exact hT2
        have c15:(Wk 0).cell? ⟨qa,c.co,none⟩=some (.int .i8 (zs[c.co]?.getD 0)):=by rw[hW0];exact hv2
        have g15:(Wk 0).frozen? ⟨qa,c.co,none⟩=false:=by rw[hW0];exact hf2
        have hy1:aC (Wk 1) qa cap (zs.set c.co v):=by subst hWk;exact hT1.y
        have c17:=hy1.cell (j:=c.cr) (by rw[List.length_set];have:=hlz.out;omega);have g17:=hy1.frozen c.cr;have n1:=cell_regrown (w:=Wk 0) (a:=⟨qa,c.cr,none⟩) (by rw[hW0];exact hv);clear hWk m3 hv hf2;replace hW1:=zhd hW1;replace hW2:=zhd hW2;refine aR [15,17] [(0,0),(0,0),(0,0),(0,0),(0,1),(0,1),(0,1),(0,1),(0,0),(0,0),(0,0),(0,0),(0,0),(0,0),(0,0),(9,9),(1,1)] Wk (by kernel_rfl) (by kernel_rfl) hW0 ?_;replace hW0:=zhd hW0;iterate 4 (refine a8 0 rfl rfl ?_;go_big_quiet_step (fail);refine wpQuiet_nil ?_)
        iterate 4 (refine ci rfl rfl ?_;go_big_quiet_step (fail);refine wpQuiet_nil ?_)
        iterate 7 (refine a8 0 rfl rfl ?_;go_big_quiet_step (fail);refine wpQuiet_nil ?_)
        refine dc 0 rfl rfl 38 (.tmp 91) (.tmp 90) rfl rfl rfl (by kernel_rfl) rfl c15 g15 hW1.out rfl ?_;refine a8 1 rfl rfl ?_;go_big_quiet_step (fail);refine wpQuiet_nil ?_;refine dc 1 rfl rfl 38 (.tmp 92) (.const (.int .i8 0)) rfl rfl rfl (by kernel_rfl) rfl c17 g17 hW2.out rfl ?_;refine cm ?_;intro W6 hb6;have hS6:=hSk.call hb6;clear m2 m3';go_wp2_with fail;go_roundg (gk-1)
        case measure=>omega
        case rel=>exact⟨i+1,_,by omega,by omega,by go_num,hcv,zhd (by rw[List.length_set,List.length_set];exact hlz.out),hS6⟩
  ·obtain rfl:i=4:=by omega
   have hzz:zs=Z:=hcv.out;subst hzz;go_wp2_with fail;refine hk.out _ _ ?_;refine AP w F R xs bl can pa ha fu pp cc r q0 q1 q2 q5 qa cap sd own _ ?_ zs Rs hha hfu hzl.out wr hQ hSr hok _ ?_
   ·exact⟨rfl,rfl,rfl,rfl,rfl,rfl,rfl⟩
   ·exact rfl
theorem zt(w:World)(F R:Nat)(xs:List Int)(bl:Bool)(can:Nat)(pa ha fu:Int)(pp:Option Addr)(cc:Nat)(r:Ret)(q0 q1 q2 q5 qa cap:Nat)(sd:Bool)(own:Int)(T:Array Value)(hT:bfT T q0 q1 q2 q5 sd own)(Rs:Ending→World→Prop)(a b:Nat)(hra:r.mv.fr=a)(hrb:r.mv.tg=b)(hla:a<xs.length)(hlb:b<xs.length)(hG:aM w)(hlx:F=8→R=8→64≤xs.length)(hha:0≤ha∧ha≤10000)(hfu:-10000≤fu∧fu≤10000)
  (W:World) (hQ:BfQ w q0 q1 q2 qa q5) (hS:BfS w ⟨F,R,xs,bl,can,pa,ha,fu⟩ pp cc r q0 q1 q2 q5 qa cap xs (aa F R (some ⟨qa,0,none⟩) xs.length cap bl can pa ha fu) W) (Z:List Int) (hZ:Z=az.foldl (bckX F R own sd r.mv.fr r.mv.tg) ((xs.set b 0).set a own))
  (hok:∀ w',Bw w w'→aC w' qa cap (if 0≤r.at_∧r.at_<Z.length then Z.set r.at_.toNat r.cp else Z)→Rs (.returned (.agg (aa F R (some ⟨qa,0,none⟩) xs.length cap sd r.ca r.pa (max 0 (ha-1)) (if sd then fu-1 else fu)).toArray)) w')
  (cd:Code) (hcd:Tryz.f110.body.map (aq 5)=some cd):cd.wp Tryz.prog (bodyPost Tryz.prog Tryz.f110 Rs) {tmps:=T,defers:=[]} W:=by
 obtain rfl:=Option.some.inj ((show Tryz.f110.body.map (aq 5)=some _ from rfl).symm.trans hcd);clear hcd;simp only[aq];obtain⟨X,rfl⟩:=hT.fr;clear hT;dsimp only[bfF,litB,Nat.reduceAdd];have hi1:(a:Int)<xs.length:=by omega
 have hi2:(b:Int)<xs.length:=by omega
 have hv:=hS.y.cell (j:=b) hlb;have hf2:=hS.y.frozen b;obtain⟨Wk,hWk⟩:∃ Wk:Nat→World,Wk=fun k=>match k with|0=>W|1=>W.setCell ⟨qa,b,none⟩ (.int .i8 0)|_=>(W.setCell ⟨qa,b,none⟩ (.int .i8 0)).setCell ⟨qa,a,none⟩ (.int .i8 own):=⟨_,rfl⟩
 have hW0:Wk 0=W:=by subst hWk;rfl
 have hW1:Wk (0+1)=(Wk 0).setCell ⟨qa,b,none⟩ (.int .i8 0):=by subst hWk;rfl
 have hW2:Wk (1+1)=(Wk 1).setCell ⟨qa,a,none⟩ (.int .i8 own):=by subst hWk;rfl
 have hT1:=hS.setA hQ b 0;have hT2:=hT1.setA hQ a own;have m2:=bj (Wk:=Wk) (q:=q5) (fun k=>by
  subst hWk;rcases k with _|_|k
  ·exact hS.t
  ·exact hT1.t
  ·exact hT2.t)
 have m3:=bj (Wk:=Wk) (q:=q1) (fun k=>by
  subst hWk;rcases k with _|_|k
  ·exact hS.m
  ·exact hT1.m
  ·exact hT2.m)
 have m3':∀ k d os j,(grow (redrawn (Wk k) d) os).cell? ⟨q1,j,none⟩=(#[.int .i64 r.mv.fr,.int .i64 r.mv.tg,.int .i8 r.mv.pr,.int .i8 r.cp,.int .i64 r.at_,.int .u8 r.ca,.int .i64 r.pa]:Array Value)[j]?:=m3;rw[hra,hrb]at m3';have hSk:BfS w ⟨F,R,xs,bl,can,pa,ha,fu⟩ pp cc r q0 q1 q2 q5 qa cap ((xs.set b 0).set a own) (aa F R (some ⟨qa,0,none⟩) xs.length cap bl can pa ha fu) (Wk [12,14].length):=by subst hWk;exact hT2
 have c15:(Wk 0).cell? ⟨qa,b,none⟩=some (.int .i8 (xs[b]?.getD 0)):=by rw[hW0];exact hv
 have g15:(Wk 0).frozen? ⟨qa,b,none⟩=false:=by rw[hW0];exact hf2
 have hy1:aC (Wk 1) qa cap (xs.set b 0):=by subst hWk;exact hT1.y
 have c17:=hy1.cell (j:=a) (by rw[List.length_set];omega);have g17:=hy1.frozen a;clear hWk m3 hv hf2;replace hW1:=zhd hW1;replace hW2:=zhd hW2;go_upto_region 6 with fail;rename_i k hk;replace hk:=zhd hk;try dsimp only
 refine aR [12,14] [(0,0),(0,0),(0,0),(0,0),(0,0),(0,1),(0,1),(0,1),(0,1),(0,1),(0,1),(0,0),(9,9),(1,1)] Wk (by kernel_rfl) (by kernel_rfl) hW0 ?_;replace hW0:=zhd hW0;iterate 5 (refine a8 0 rfl rfl ?_;go_big_quiet_step (fail);refine wpQuiet_nil ?_)
 iterate 6 (refine ci rfl rfl ?_;go_big_quiet_step (fail);refine wpQuiet_nil ?_)
 refine a8 0 rfl rfl ?_;go_big_quiet_step (fail);refine wpQuiet_nil ?_;refine dc 0 rfl rfl 38 (.tmp 39) (.const (.int .i8 0)) rfl rfl rfl (by kernel_rfl) rfl c15 g15 hW1.out rfl ?_;refine a8 1 rfl rfl ?_;go_big_quiet_step (fail);refine wpQuiet_nil ?_;refine dc 1 rfl rfl 38 (.tmp 40) (.tmp 38) rfl rfl rfl (by kernel_rfl) rfl c17 g17 hW2.out rfl ?_;refine cm ?_;intro W6 hb6;have hS6:=hSk.call hb6;clear m2 m3';refine hk.out _ _ ?_;refine AY w F R xs bl can pa ha fu pp cc r q0 q1 q2 q5 qa cap sd own _ ?_ _ Rs hG hlx hha hfu (by rw[List.length_set,List.length_set]) W6 hQ hS6 Z hZ hok _ ?_
 ·exact⟨rfl,rfl,rfl,rfl,rfl,rfl,rfl⟩
 ·exact rfl
def cU(P:Pos)(r:Ret)(w:World)(e:Ending)(w':World):Prop:=∃ q cap,e=.returned (.agg (aa (befW P r).F (befW P r).R (some ⟨q,0,none⟩) (befW P r).xs.length cap (befW P r).bl (befW P r).ca (befW P r).pa (befW P r).ha (befW P r).fu).toArray)∧Bw w w'∧w.heap.size≤q∧aC w' q cap (befW P r).xs
theorem ks(F R:Nat)(xs:List Int)(bl:Bool)(can:Nat)(pa ha fu:Int)(r:Ret)(a b:Nat)(hra:r.mv.fr=a)(hrb:r.mv.tg=b)(own:Int)(ho:own=if r.mv.pr≠0 then pcI 1 (!bl)else xs[b]?.getD 0)(Z:List Int)(hZ:Z=az.foldl (bckX F R own (!bl) r.mv.fr r.mv.tg) ((xs.set b 0).set a own)):
  befW ⟨F,R,xs,bl,can,pa,ha,fu⟩ r=⟨F,R,(if 0≤r.at_∧r.at_<Z.length then Z.set r.at_.toNat r.cp else Z),!bl,r.ca,r.pa,max 0 (ha-1),if !bl then fu-1 else fu⟩:=by
 subst hZ ho;unfold befW Pos.at_;simp only[hra,hrb,Int.toNat_natCast];rfl
theorem ls(F R:Nat)(xs:List Int)(bl:Bool)(can:Nat)(pa ha fu:Int)(r:Ret)(pp:Option Addr)(cc:Nat)(a b:Nat)(hra:r.mv.fr=a)(hrb:r.mv.tg=b)(hla:a<xs.length)(hlb:b<xs.length)(hl64:xs.length≤64)(h6:∀ x∈xs,-6≤x∧x≤6)(hlx:F=8→R=8→64≤xs.length)(hha:0≤ha∧ha≤10000)(hfu:-10000≤fu∧fu≤10000)
  (w:World) (hg:aM w) (hx:Arr .i8 w pp xs):Clz 110 #[.agg (aa F R pp xs.length cc bl can pa ha fu).toArray,.agg r.cs.toArray] w (cU ⟨F,R,xs,bl,can,pa,ha,fu⟩ r w):=by
 obtain⟨g,o,rfl,_⟩:=bQ hx hla;obtain⟨W1,hW1⟩:∃ W1,W1=((w.alloc (.cells (aa F R (some ⟨g,o,none⟩) xs.length cc bl can pa ha fu).toArray 26)).alloc (.cells r.cs.toArray 42)).alloc (.cells af.toArray 26):=⟨_,rfl⟩;have hB:Bw w W1:=by subst hW1;exact(((ae w _).alloc (by simp) _).alloc (by simp<;>omega) _)
 have hP:ac W1 w.heap.size (.cells (aa F R (some ⟨g,o,none⟩) xs.length cc bl can pa ha fu).toArray 26 (0,0)):=by subst hW1;exact((ac.new w _).alloc _).alloc _
 have hM:ac W1 (w.heap.size+1) (.cells r.cs.toArray 42 (0,0)):=by subst hW1;exact(ac.new' _ _ (by simp)).alloc _
 have hO:ac W1 (w.heap.size+1+1) (.cells af.toArray 26 (0,0)):=by subst hW1;exact ac.new' _ _ (by simp)
 have hcp:=nN F R can pa ha fu bl g o cc xs W1 (hx.call hB) (by omega) (by omega);have⟨c0,l0⟩:=hP.cl;have lo:=hO.lt;replace hW1:=zhd hW1;replace hra:=zhd hra;replace hrb:=zhd hrb;go_enter Tryz.func110,Tryz.ntmps110;go_upto_region 1 with fail;change Code.wp _ _ _ _ (((w.alloc (.cells (aa F R (some ⟨g,o,none⟩) xs.length cc bl can pa ha fu).toArray 26)).alloc (.cells r.cs.toArray 42)).alloc (.cells af.toArray 26));rw[←hW1.out];go_wp2_with fail;refine hcp.mono ?_;rintro e W2 ⟨qa,cap,rfl,hb2,hqa,hY⟩;have hP2:=hP.call hb2;have hM2:=hM.call hb2;have hO2:=hO.call hb2;have hB2:=zbc hB hb2;clear c0 l0 hP hM hO hB hcp;have hZ:=ac.new W2 (.cells af.toArray 26);have⟨hi,ho⟩:=zrw 26 (A:=(aa F R (some ⟨qa,0,none⟩) xs.length cap bl can pa ha fu).toArray) (by kernel_rfl) (by simp[Value.oneCell']);have lq:=hY.lt;go_upto_region 2 with(first|((refine ai rfl 26 (.tmp 5) (.tmp 11) rfl W2.heap.size (aa F R (some ⟨qa,0,none⟩) xs.length cap bl can pa ha fu).toArray rfl rfl 26 _ hZ hi.out rfl ho.out ?_);rintro w3 rfl)|fail);have hP5:=(hP2.alloc (.cells af.toArray 26)).setRow_far (g:=W2.heap.size) (cells:=(aa F R (some ⟨qa,0,none⟩) xs.length cap bl can pa ha fu).toArray) (by have:=hP2.lt;omega);have hM5:=(hM2.alloc (.cells af.toArray 26)).setRow_far (g:=W2.heap.size) (cells:=(aa F R (some ⟨qa,0,none⟩) xs.length cap bl can pa ha fu).toArray) (by have:=hM2.lt;omega);have hO5:=(hO2.alloc (.cells af.toArray 26)).setRow_far (g:=W2.heap.size) (cells:=(aa F R (some ⟨qa,0,none⟩) xs.length cap bl can pa ha fu).toArray) (by have:=hO2.lt;omega);have hY5:=(hY.call (ae W2 (.cells af.toArray 26))).farR (g:=W2.heap.size) (by omega) (aa F R (some ⟨qa,0,none⟩) xs.length cap bl can pa ha fu).toArray;have hT5:=ak (cells:=(aa F R (some ⟨qa,0,none⟩) xs.length cap bl can pa ha fu).toArray) hZ;have hBa:=hB2.alloc (by have:=hP2.lt;omega) (.cells af.toArray 26);have hB5:=aj (cells:=(aa F R (some ⟨qa,0,none⟩) xs.length cap bl can pa ha fu).toArray) hBa (g:=W2.heap.size) (by have:=hP2.lt;omega) hBa.size;change Code.wp _ _ _ _ ((W2.alloc (.cells af.toArray 26)).setRow W2.heap.size (aa F R (some ⟨qa,0,none⟩) xs.length cap bl can pa ha fu).toArray);generalize (W2.alloc (.cells af.toArray 26)).setRow W2.heap.size (aa F R (some ⟨qa,0,none⟩) xs.length cap bl can pa ha fu).toArray=W5 at *;clear hZ hBa hi ho hY;generalize W2.heap.size=q5 at *;have hQ:BfQ w w.heap.size (w.heap.size+1) (w.heap.size+1+1) qa q5:=⟨Nat.le_refl _,by omega,by omega,by omega,by omega⟩;have hS:BfS w ⟨F,R,xs,bl,can,pa,ha,fu⟩ (some ⟨g,o,none⟩) cc r w.heap.size (w.heap.size+1) (w.heap.size+1+1) q5 qa cap xs (aa F R (some ⟨qa,0,none⟩) xs.length cap bl can pa ha fu) W5:=⟨hB5,hP5,hM5,hO5,hY5,hT5⟩;have hend:=fun own ho Z hZ=>ks F R xs bl can pa ha fu r a b hra.out hrb.out own ho Z hZ
 have p0:∀ j,W5.cell? ⟨w.heap.size,j,none⟩=(aa F R (some ⟨g,o,none⟩) xs.length cc bl can pa ha fu).toArray[j]?:=hS.p.cells;have l0:=hS.p.lt;have p1:∀ j,W5.cell? ⟨w.heap.size+1,j,none⟩=(#[.int .i64 r.mv.fr,.int .i64 r.mv.tg,.int .i8 r.mv.pr,.int .i8 r.cp,.int .i64 r.at_,.int .u8 r.ca,.int .i64 r.pa]:Array Value)[j]?:=hS.m.cells;have l1:=hS.m.lt;rw[hrb.out]at p1;obtain⟨g',o',e3,hb5⟩:=bQ (hx.call hS.b) (j:=b) hlb;injection e3 with e3;injection e3 with e3 e4;subst e3 e4;have hib:(b:Int)<xs.length:=by omega
 have hbnd:-6≤xs[b]?.getD 0∧xs[b]?.getD 0≤6:=by rw[List.getElem?_eq_getElem hlb];exact h6 _ (List.getElem_mem hlb)
 generalize hzb:xs[b]?.getD 0=y at *;replace hzb:=zhd hzb;replace hend:=zhd hend;generalize hpr:r.mv.pr=pr at *;replace hpr:=zhd hpr;go_upto_region 4 with fail;rename_i k hk k2 hk2;replace hk:=zhd hk;have hlen:∀ own:Int,(if 0≤r.at_∧r.at_<((az.foldl (bckX F R own (!bl) r.mv.fr r.mv.tg) ((xs.set b 0).set a own)).length:Int)then(az.foldl (bckX F R own (!bl) r.mv.fr r.mv.tg) ((xs.set b 0).set a own)).set r.at_.toNat r.cp else az.foldl (bckX F R own (!bl) r.mv.fr r.mv.tg) ((xs.set b 0).set a own)).length=xs.length:=fun own=>by
  split<;>simp[fold_len]
 replace hlen:=fun own=>zhd (hlen own)
 rcases z:(pr != 0)with _|_
 ·have hpo:y=if pr≠0 then pcI 1 (!bl)else y:=by rw[if_neg (by simpa using z)]
  replace hpo:=zhd hpo;go_wp2_with fail;refine hk.out _ _ ?_;refine zt w F R xs bl can pa ha fu _ cc r w.heap.size (w.heap.size+1) (w.heap.size+1+1) q5 qa cap (!bl) (y) _ ?_ _ a b hra.out hrb.out hla hlb hg hlx hha hfu W5 hQ hS _ rfl (fun w' hb hY=>?_) _ ?_
  ·exact⟨rfl,rfl,rfl,rfl,rfl,rfl,rfl⟩
  ·have h1:=hend.out (y) hpo.out _ rfl;have h2:=(hlen (y)).out;unfold cU;rw[h1];refine⟨qa,cap,?_,hb,by unfold BfQ at hQ;omega,hY⟩;rw[h2]
  ·exact rfl
 ·have hpo:pcI 1 (!bl)=if pr≠0 then pcI 1 (!bl)else y:=by rw[if_pos (by simpa using z)]
  replace hpo:=zhd hpo;go_wp2_with fail;refine(fS 1 (!bl) (by decide) _).mono ?_;rintro e W6 ⟨rfl,rfl⟩;go_wp2_with fail;refine hk.out _ _ ?_;refine zt w F R xs bl can pa ha fu _ cc r w.heap.size (w.heap.size+1) (w.heap.size+1+1) q5 qa cap (!bl) (pcI 1 (!bl)) _ ?_ _ a b hra.out hrb.out hla hlb hg hlx hha hfu W5 hQ hS _ rfl (fun w' hb hY=>?_) _ ?_
  ·exact⟨rfl,rfl,rfl,rfl,rfl,rfl,rfl⟩
  ·have h1:=hend.out (pcI 1 (!bl)) hpo.out _ rfl;have h2:=(hlen (pcI 1 (!bl))).out;unfold cU;rw[h1];refine⟨qa,cap,?_,hb,by unfold BfQ at hQ;omega,hY⟩;rw[h2]
  ·exact rfl
end Go.Proofs.YtefmplccbkmalaaGreatDoor
