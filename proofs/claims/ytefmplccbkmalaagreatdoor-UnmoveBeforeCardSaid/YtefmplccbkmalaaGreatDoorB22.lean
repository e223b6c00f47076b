import Derived.Test.YtefmplccbkmalaaGreatDoorB06
import Derived.Test.YtefmplccbkmalaaGreatDoorB15
import Derived.Test.YtefmplccbkmalaaGreatDoorB18
import Derived.Test.YtefmplccbkmalaaGreatDoorB21
set_option maxRecDepth 100000
set_option maxHeartbeats 12800000
namespace Go.Proofs.YtefmplccbkmalaaGreatDoor
open Go.RowKit Go.Sort Go.BigFrame

def f8(o:Option Cas)(ys:List Int):List Int:=match o with
 | some c=>(ys.set c.cr (ys[c.co]?.getD 0)).set c.co 0
 | none=>ys
theorem gC.far{W:World}{g:Nat}{L:List Nat}(h:gC W g L){p:Addr}(hp:g≠p.block)(u:Value):gC (W.setCell p u) g L:=by refine⟨by simpa using h.1,fun j k hj=>?_⟩;have hb:=Below.heap_setCell W p u g hp;have h2:=h.2 j k hj;unfold World.cell? at h2 ⊢;simp only[hb];exact h2
theorem my{P:Pos}{m:Mv}{c:Cas}(h:casR P m=some c):c∈az∧ik P m c=true:=by
 unfold casR at h;split at h
 ·cases h
 ·exact⟨List.mem_of_find?_eq_some h,List.find?_some h⟩
theorem af8(w:World)(F R:Nat)(xs:List Int)(bl:Bool)(can:Nat)(pa ha fu:Int)(a b:Nat)(pr:Int)(pp:Option Addr)(cc q0 q1 q4 q5 qa cap:Nat)(own AT:Int)(T:Array Value)(hT:afT T q0 q1 q4 q5 own AT)(ys:List Int)(Rs:Ending→World→Prop)(hF:3≤F∧F≤8)(hR:3≤R∧R≤8)(hal:a<F*R)(hbl:b<F*R)(hlen:xs.length=F*R)(hca:can<256)(h88:∀ c∈az,can/c.bit%2=1→F=8∧R=8)(h6:∀ x∈xs,-6≤x∧x≤6)(hx:Arr .i8 w pp xs)(hha:0≤ha∧ha≤10000)(hfu:-10000≤fu∧fu≤10000)(how:-6≤own∧own≤6)(hly:ys.length=xs.length)
  (W:World) (hQ:AfQ w q0 q1 q4 qa q5) (hS:AfS w F R xs bl can pa ha fu a b pr pp cc q0 q1 q4 q5 qa cap ys (aa F R (some ⟨qa,0,none⟩) xs.length cap bl can pa ha fu) W)
  (hok:∀ w',Bw w w'→aC w' qa cap (f8 (casR ⟨F,R,xs,bl,can,pa,ha,fu⟩ ⟨a,b,pr⟩) ys)→Rs (.returned (.agg (aa F R (some ⟨qa,0,none⟩) xs.length cap (!bl) (caK can a b 4:Nat) (eL F R own (a%F) (a/F) (b/F)) (if kindI own=1∨0≤AT then 0 else ha+1) (if bl then fu+1 else fu)).toArray)) w')
  (cd:Code) (hcd:Tryz.f116.body.map (aq 8)=some cd):cd.wp Tryz.prog (bodyPost Tryz.prog Tryz.f116 Rs) {tmps:=T,defers:=[]} W:=by
 obtain rfl:=Option.some.inj ((show Tryz.f116.body.map (aq 8)=some _ from rfl).symm.trans hcd);clear hcd;simp only[aq];obtain⟨X,rfl⟩:=hT.fr;clear hT;dsimp only[afF,litB,Nat.reduceAdd];have hcas:=fun W h=>er F R xs bl can pa ha fu a b pr pp cc hlen hal hca h88 h6 W h
 have h64:∀ c,casR ⟨F,R,xs,bl,can,pa,ha,fu⟩ ⟨a,b,pr⟩=some c→c∈az∧xs.length=64:=fun c h=>by
  obtain⟨h1,h2⟩:=my h;unfold ik at h2;rw[Bool.and_eq_true]at h2;have h3:can/c.bit%2=1:=by have:=eq_of_beq h2.1;have h4:((can/c.bit%2:Nat):Int)=1:=this;omega
  obtain⟨e1,e2⟩:=h88 c h1 h3;exact⟨h1,by rw[hlen,e1,e2]⟩
 generalize casR ⟨F,R,xs,bl,can,pa,ha,fu⟩ ⟨a,b,pr⟩=CO at *;have p0:∀ j,W.cell? ⟨q0,j,none⟩=(aa F R pp xs.length cc bl can pa ha fu).toArray[j]?:=hS.p.cells;have l0:=hS.p.lt;have p1:∀ j,W.cell? ⟨q1,j,none⟩=(#[.int .i64 a,.int .i64 b,.int .i8 pr]:Array Value)[j]?:=hS.m.cells;have l1:=hS.m.lt;go_upto_region 10 with fail;rename_i k hk k2 hk2;replace hk:=zhd hk;have hk9:∀(T':Array Value),afT T' q0 q1 q4 q5 own AT→∀ W',AfS w F R xs bl can pa ha fu a b pr pp cc q0 q1 q4 q5 qa cap (f8 CO ys) (aa F R (some ⟨qa,0,none⟩) xs.length cap bl can pa ha fu) W'→k {tmps:=T',defers:=[]} W':=fun T' hT' W' hS'=>by
  refine hk.out _ _ ?_;refine af9 w F R xs bl can pa ha fu a b pr pp cc q0 q1 q4 q5 qa cap own AT T' hT' (f8 CO ys) Rs hF hR hal hbl hca hha hfu how W' hQ hS' hok _ ?_;exact rfl
 replace hk9:=zhd hk9;have hxW:=hx.call hS.bw;clear hok hx h88 h6;replace hlen:=zhd hlen;replace hly:=zhd hly;go_wp2_with fail;refine(hcas W hxW).mono ?_;rintro e W3 ⟨rfl,hb3⟩;have hS3:=hS.call hb3;clear hS hxW hcas p0 l0 p1 l1;rcases CO with _|c
 ·have z:(((bitO none:Nat):Int) != 0)=false:=rfl;generalize ((bitO none:Nat):Int)=bz at *;clear h64;go_wp2_with fail;refine hk9.out _ ?_ _ hS3;exact⟨rfl,rfl,rfl,rfl,rfl,rfl,rfl⟩
 ·obtain⟨hcm,hl64⟩:=h64 c rfl;obtain⟨hb1,hb8,_,_,_,hk64,hr64,_,_⟩:=gt hcm;have z:((c.bit:Int) != 0)=true:=by simp;omega
  have hrow:=fun W=>fE c hcm W
  have e1:bitO (some c)=c.bit:=rfl;rw[e1];clear h64 e1;replace hl64:=zhd hl64;go_wp2_with fail;refine(hrow W3).mono ?_;rintro e W4 ⟨gs,rfl,hb4,hG⟩;have hS4:=hS3.call hb4;clear hS3 hrow;have hco:c.co<ys.length:=by rw[hly.out,hl64.out];exact hk64
  have hcr:c.cr<ys.length:=by rw[hly.out,hl64.out];exact hr64
  have hcoi:(c.co:Int)<xs.length:=by rw[hl64.out];omega
  have hcri:(c.cr:Int)<xs.length:=by rw[hl64.out];omega
  have hcon:c.co<xs.length:=by rw[hl64.out];omega
  have hcrn:c.cr<xs.length:=by rw[hl64.out];omega
  go_upto_region 13 with fail;have m1:=am hS4.t;have m3:=cell_regrown (hG.2 3 c.cr rfl);have m4:=cell_regrown (hG.2 2 c.co rfl);have hvc:=hS4.y.cell hco;obtain⟨v,hve⟩:∃ v,ys[c.co]?.getD 0=v:=⟨_,rfl⟩;rw[hve]at hvc;have m5:=cell_regrown hvc;have t1:=ax (w:=W4) (fun W _=>aP c.cr hr64 W);have t2:=ax (w:=W4) (fun W _=>aP c.co hk64 W);refine aN 14 (by kernel_rfl) (by kernel_rfl) ?_;simp only[List.take_succ_cons,List.take_zero,List.drop_succ_cons,List.drop_zero];repeat(go_big_quiet_step (first|with_reducible exact t1 _ _|with_reducible exact t2 _ _|fail))
  refine wpQuiet_nil ?_;intro W5 hb5;have hS5:=hS4.call hb5;have hG5:=hG.call hb5;clear m1 m3 m4 m5 t1 t2 hS4 hG;have hv:=hS5.y.cell hcr;have hf2:=hS5.y.frozen c.cr;have hS6:AfS w F R xs bl can pa ha fu a b pr pp cc q0 q1 q4 q5 qa cap (ys.set c.cr v) (aa F R (some ⟨qa,0,none⟩) xs.length cap bl can pa ha fu) (W5.setCell ⟨qa,c.cr,none⟩ (.int .i8 v)):=hS5.setA hQ c.cr v;go_upto_region 14 with fail;clear hv hf2;have hgq:gs≠qa:=by rintro rfl;have h1:=hG5.2 0 c.fr rfl;have h2:=hS5.y.cell (j:=0) (by omega);rw[h1]at h2;cases h2
  have hG6:=hG5.far (p:=⟨qa,c.cr,none⟩) hgq (.int .i8 v);generalize W5.setCell ⟨qa,c.cr,none⟩ (.int .i8 v)=W6 at *;clear hS5 hG5;have hl6:(ys.set c.cr v).length=ys.length:=List.length_set;have m1:=am hS6.t;have m4:=cell_regrown (hG6.2 2 c.co rfl);have t2:=ax (w:=W6) (fun W _=>aP c.co hk64 W);refine aN 6 (by kernel_rfl) (by kernel_rfl) ?_;simp only[List.take_succ_cons,List.take_zero,List.drop_succ_cons,List.drop_zero];repeat(go_big_quiet_step (first|with_reducible exact t2 _ _|fail))
  refine wpQuiet_nil ?_;intro W7 hb7;have hS7:=hS6.call hb7;clear m1 m4 t2 hS6 hG6;have hv:=hS7.y.cell (j:=c.co) (by rw[hl6];exact hco);have hf2:=hS7.y.frozen c.co;have hS8:AfS w F R xs bl can pa ha fu a b pr pp cc q0 q1 q4 q5 qa cap ((ys.set c.cr v).set c.co 0) (aa F R (some ⟨qa,0,none⟩) xs.length cap bl can pa ha fu) (W7.setCell ⟨qa,c.co,none⟩ (.int .i8 0)):=hS7.setA hQ c.co 0;rw[←hve]at hS8;replace hve:=zhd hve;generalize (ys.set c.cr v)[c.co]?.getD 0=v2 at hv;go_wp2_with fail;refine hk9.out _ ?_ _ hS8;exact⟨rfl,rfl,rfl,rfl,rfl,rfl,rfl⟩
def proX(pr own:Int)(b:Nat)(ys:List Int):List Int:=if pr≠0 then ys.set b (pr*sgnI own)else ys
def capX(AT:Int)(ys:List Int):List Int:=if 0≤AT then ys.set AT.toNat 0 else ys
theorem af7(w:World)(F R:Nat)(xs:List Int)(bl:Bool)(can:Nat)(pa ha fu:Int)(a b:Nat)(pr:Int)(pp:Option Addr)(cc q0 q1 q4 q5 qa cap:Nat)(own AT:Int)(T:Array Value)(hT:afT T q0 q1 q4 q5 own AT)(ys:List Int)(Rs:Ending→World→Prop)(hF:3≤F∧F≤8)(hR:3≤R∧R≤8)(hal:a<F*R)(hbl:b<F*R)(hlen:xs.length=F*R)(hca:can<256)(h88:∀ c∈az,can/c.bit%2=1→F=8∧R=8)(h6:∀ x∈xs,-6≤x∧x≤6)(hx:Arr .i8 w pp xs)(hha:0≤ha∧ha≤10000)(hfu:-10000≤fu∧fu≤10000)(how:-6≤own∧own≤6)(hpr:0≤pr∧pr≤5)(hly:ys.length=xs.length)
  (W:World) (hQ:AfQ w q0 q1 q4 qa q5) (hS:AfS w F R xs bl can pa ha fu a b pr pp cc q0 q1 q4 q5 qa cap ys (aa F R (some ⟨qa,0,none⟩) xs.length cap bl can pa ha fu) W)
  (hok:∀ w',Bw w w'→aC w' qa cap (f8 (casR ⟨F,R,xs,bl,can,pa,ha,fu⟩ ⟨a,b,pr⟩) (proX pr own b ys))→Rs (.returned (.agg (aa F R (some ⟨qa,0,none⟩) xs.length cap (!bl) (caK can a b 4:Nat) (eL F R own (a%F) (a/F) (b/F)) (if kindI own=1∨0≤AT then 0 else ha+1) (if bl then fu+1 else fu)).toArray)) w')
  (cd:Code) (hcd:Tryz.f116.body.map (aq 7)=some cd):cd.wp Tryz.prog (bodyPost Tryz.prog Tryz.f116 Rs) {tmps:=T,defers:=[]} W:=by
 obtain rfl:=Option.some.inj ((show Tryz.f116.body.map (aq 7)=some _ from rfl).symm.trans hcd);clear hcd;simp only[aq];obtain⟨X,rfl⟩:=hT.fr;clear hT;dsimp only[afF,litB,Nat.reduceAdd];have p1:∀ j,W.cell? ⟨q1,j,none⟩=(#[.int .i64 a,.int .i64 b,.int .i8 pr]:Array Value)[j]?:=hS.m.cells;have l1:=hS.m.lt;go_upto_region 8 with fail;rename_i k hk k2 hk2;replace hk:=zhd hk;have hpx:(proX pr own b ys).length=xs.length:=by unfold proX;split<;>simp[hly]
 have hk8:∀(T':Array Value),afT T' q0 q1 q4 q5 own AT→∀ W',AfS w F R xs bl can pa ha fu a b pr pp cc q0 q1 q4 q5 qa cap (proX pr own b ys) (aa F R (some ⟨qa,0,none⟩) xs.length cap bl can pa ha fu) W'→k {tmps:=T',defers:=[]} W':=fun T' hT' W' hS'=>by
  refine hk.out _ _ ?_;refine af8 w F R xs bl can pa ha fu a b pr pp cc q0 q1 q4 q5 qa cap own AT T' hT' (proX pr own b ys) Rs hF hR hal hbl hlen hca h88 h6 hx hha hfu how hpx W' hQ hS' hok _ ?_;exact rfl
 have hpe:proX pr own b ys=if pr≠0 then ys.set b (pr*sgnI own)else ys:=rfl
 generalize proX pr own b ys=PX at *;replace hk8:=zhd hk8;have hbx:b<ys.length:=by rw[hly,hlen];exact hbl
 have hbn:b<xs.length:=by rw[hlen];exact hbl
 have hbi:(b:Int)<xs.length:=by omega
 have hsd:=fun W=>jE own W
 have hsg:-1≤sgnI own∧sgnI own≤1:=by unfold sgnI;split<;>(try split)<;>omega
 generalize sgnI own=sg at *;obtain⟨v,hv⟩:∃ v,v=pr*sg:=⟨_,rfl⟩;have hvb:-5≤v∧v≤5:=by rw[hv];rcases(by omega:sg=-1∨sg=0∨sg=1)with h|h|h<;>rw[h]<;>omega
 rw[←hv]at hpe;have hw1:IntKind.i8.wrap sg=sg:=dj (by omega) (by omega);have hw2:IntKind.i8.wrap (pr*sg)=v:=by rw[←hv];exact dj (by omega) (by omega)
 clear hok hx h88 h6 hpx hv;replace hlen:=zhd hlen;replace hly:=zhd hly;rcases z:(pr != 0)with _|_
 ·have e:PX=ys:=by rw[hpe,if_neg (by simpa using z)]
  subst e;clear hpe;go_wp2_with fail;refine hk8.out _ ?_ _ hS;exact⟨rfl,rfl,rfl,rfl,rfl,rfl,rfl⟩
 ·have e:PX=ys.set b v:=by rw[hpe,if_pos (by simpa using z)]
  subst e;clear hpe;go_upto_region 9 with fail;clear p1 l1;have m1:=am hS.t;have m2:=am hS.m;have t1:=aJ (w:=W) (fun W=>hsd W);refine aN 10 (by kernel_rfl) (by kernel_rfl) ?_;simp only[List.take_succ_cons,List.take_zero,List.drop_succ_cons,List.drop_zero];repeat(go_big_quiet_step (first|with_reducible exact t1 _ _|fail))
  refine wpQuiet_nil ?_;intro W7 hb7;have hS7:=hS.call hb7;clear m1 m2 t1 hS;have hv:=hS7.y.cell hbx;have hf2:=hS7.y.frozen b;have hS8:AfS w F R xs bl can pa ha fu a b pr pp cc q0 q1 q4 q5 qa cap (ys.set b v) (aa F R (some ⟨qa,0,none⟩) xs.length cap bl can pa ha fu) (W7.setCell ⟨qa,b,none⟩ (.int .i8 v)):=hS7.setA hQ b v;generalize ys[b]?.getD 0=v2 at hv;go_wp2_with fail;refine hk8.out _ ?_ _ hS8;exact⟨rfl,rfl,rfl,rfl,rfl,rfl,rfl⟩
theorem af4(w:World)(F R:Nat)(xs:List Int)(bl:Bool)(can:Nat)(pa ha fu:Int)(a b:Nat)(pr:Int)(pp:Option Addr)(cc q0 q1 q4 q5 qa cap:Nat)(own AT:Int)(T:Array Value)(hT:afT T q0 q1 q4 q5 own AT)(ys:List Int)(Rs:Ending→World→Prop)(hF:3≤F∧F≤8)(hR:3≤R∧R≤8)(hal:a<F*R)(hbl:b<F*R)(hlen:xs.length=F*R)(hca:can<256)(h88:∀ c∈az,can/c.bit%2=1→F=8∧R=8)(h6:∀ x∈xs,-6≤x∧x≤6)(hx:Arr .i8 w pp xs)(hha:0≤ha∧ha≤10000)(hfu:-10000≤fu∧fu≤10000)(how:-6≤own∧own≤6)(hpr:0≤pr∧pr≤5)(hAT:0≤AT→AT.toNat<xs.length)(hly:ys.length=xs.length)
  (W:World) (hQ:AfQ w q0 q1 q4 qa q5) (hS:AfS w F R xs bl can pa ha fu a b pr pp cc q0 q1 q4 q5 qa cap ys (aa F R (some ⟨qa,0,none⟩) xs.length cap bl can pa ha fu) W)
  (hok:∀ w',Bw w w'→aC w' qa cap (f8 (casR ⟨F,R,xs,bl,can,pa,ha,fu⟩ ⟨a,b,pr⟩) (proX pr own b (((capX AT ys).set a 0).set b own)))→Rs (.returned (.agg (aa F R (some ⟨qa,0,none⟩) xs.length cap (!bl) (caK can a b 4:Nat) (eL F R own (a%F) (a/F) (b/F)) (if kindI own=1∨0≤AT then 0 else ha+1) (if bl then fu+1 else fu)).toArray)) w')
  (cd:Code) (hcd:Tryz.f116.body.map (aq 4)=some cd):cd.wp Tryz.prog (bodyPost Tryz.prog Tryz.f116 Rs) {tmps:=T,defers:=[]} W:=by
 obtain rfl:=Option.some.inj ((show Tryz.f116.body.map (aq 4)=some _ from rfl).symm.trans hcd);clear hcd;simp only[aq];obtain⟨X,rfl⟩:=hT.fr;clear hT;dsimp only[afF,litB,Nat.reduceAdd];go_upto_region 4 with fail;rename_i k hk k2 hk2;replace hk:=zhd hk;have hpx:(capX AT ys).length=xs.length:=by unfold capX;split<;>simp[hly]
 have hp2:(((capX AT ys).set a 0).set b own).length=xs.length:=by rw[List.length_set,List.length_set,hpx]
 have hax:a<xs.length:=by rw[hlen];exact hal
 have hbx:b<xs.length:=by rw[hlen];exact hbl
 have hai:(a:Int)<xs.length:=by omega
 have hbi:(b:Int)<xs.length:=by omega
 have hk5:∀(T':Array Value),afT T' q0 q1 q4 q5 own AT→∀ W',AfS w F R xs bl can pa ha fu a b pr pp cc q0 q1 q4 q5 qa cap (capX AT ys) (aa F R (some ⟨qa,0,none⟩) xs.length cap bl can pa ha fu) W'→k {tmps:=T',defers:=[]} W':=fun T' hT' W' hS'=>by
  refine hk.out _ _ ?_;obtain⟨X',rfl⟩:=hT'.fr;dsimp only[afF,litB,Nat.reduceAdd];have h7:=fun T' hT' W' hS' cd hcd=>af7 w F R xs bl can pa ha fu a b pr pp cc q0 q1 q4 q5 qa cap own AT T' hT' (((capX AT ys).set a 0).set b own) Rs hF hR hal hbl hlen hca h88 h6 hx hha hfu how hpr hp2 W' hQ hS' hok cd hcd
  generalize capX AT ys=ZX at *;clear hok hx h88 h6 hk hk2 hS;replace hlen:=zhd hlen;replace hly:=zhd hly;have hzx:=zhd hpx;have hpz:∀ j,j<xs.length→j<ZX.length:=fun j h=>by rw[hzx.out];exact h
  clear hpx hp2;have p1:∀ j,W'.cell? ⟨q1,j,none⟩=(#[.int .i64 a,.int .i64 b,.int .i8 pr]:Array Value)[j]?:=hS'.m.cells;have l1:=hS'.m.lt;have p5:∀ j,W'.cell? ⟨q5,j,none⟩=(aa F R (some ⟨qa,0,none⟩) xs.length cap bl can pa ha fu).toArray[j]?:=hS'.t.cells;have l5:=hS'.t.lt;have hv:=hS'.y.cell (hpz a hax);have hf2:=hS'.y.frozen a;generalize ZX[a]?.getD 0=v2 at hv;go_upto_region 7 with fail;rename_i k7 hk7;replace hk7:=zhd hk7;have hS8:AfS w F R xs bl can pa ha fu a b pr pp cc q0 q1 q4 q5 qa cap (ZX.set a 0) (aa F R (some ⟨qa,0,none⟩) xs.length cap bl can pa ha fu) (W'.setCell ⟨qa,a,none⟩ (.int .i8 0)):=hS'.setA hQ a 0;generalize W'.setCell ⟨qa,a,none⟩ (.int .i8 0)=W8 at *;clear p1 l1 p5 l5 hv hf2 hS';have p1:∀ j,W8.cell? ⟨q1,j,none⟩=(#[.int .i64 a,.int .i64 b,.int .i8 pr]:Array Value)[j]?:=hS8.m.cells;have l1:=hS8.m.lt;have p5:∀ j,W8.cell? ⟨q5,j,none⟩=(aa F R (some ⟨qa,0,none⟩) xs.length cap bl can pa ha fu).toArray[j]?:=hS8.t.cells;have l5:=hS8.t.lt;have hv:=hS8.y.cell (j:=b) (by rw[List.length_set];exact hpz b hbx);have hf2:=hS8.y.frozen b;generalize (ZX.set a 0)[b]?.getD 0=v2 at hv;have hS9:AfS w F R xs bl can pa ha fu a b pr pp cc q0 q1 q4 q5 qa cap ((ZX.set a 0).set b own) (aa F R (some ⟨qa,0,none⟩) xs.length cap bl can pa ha fu) (W8.setCell ⟨qa,b,none⟩ (.int .i8 own)):=hS8.setA hQ b own;go_wp2_with fail;refine hk7.out _ _ ?_;refine h7 _ ?_ _ hS9 _ ?_
  ·exact⟨rfl,rfl,rfl,rfl,rfl,rfl,rfl⟩
  ·exact rfl
 have hpe:capX AT ys=if 0≤AT then ys.set AT.toNat 0 else ys:=rfl
 generalize capX AT ys=ZX at *;replace hk5:=zhd hk5;have p5:∀ j,W.cell? ⟨q5,j,none⟩=(aa F R (some ⟨qa,0,none⟩) xs.length cap bl can pa ha fu).toArray[j]?:=hS.t.cells;have l5:=hS.t.lt;clear hok hx h88 h6 hpx hp2 hk;by_cases h0:0≤AT
 ·obtain⟨K,rfl⟩:∃ K:Nat,AT=K:=⟨AT.toNat,by omega⟩;have hK:K<xs.length:=by have:=hAT h0;omega
  have hKi:(K:Int)<xs.length:=by omega
  have hKy:K<ys.length:=by rw[hly];exact hK
  rw[if_pos h0,Int.toNat_natCast]at hpe;subst hpe;have hv:=hS.y.cell hKy;have hf2:=hS.y.frozen K;generalize ys[K]?.getD 0=v2 at hv;have hS8:AfS w F R xs bl can pa ha fu a b pr pp cc q0 q1 q4 q5 qa cap (ys.set K 0) (aa F R (some ⟨qa,0,none⟩) xs.length cap bl can pa ha fu) (W.setCell ⟨qa,K,none⟩ (.int .i8 0)):=hS.setA hQ K 0;clear hAT;replace hlen:=zhd hlen;replace hly:=zhd hly;go_wp2_with fail;refine hk5.out _ ?_ _ hS8;exact⟨rfl,rfl,rfl,rfl,rfl,rfl,rfl⟩
 ·rw[if_neg h0]at hpe;subst hpe;clear hAT;replace hlen:=zhd hlen;replace hly:=zhd hly;go_wp2_with fail;refine hk5.out _ ?_ _ hS;exact⟨rfl,rfl,rfl,rfl,rfl,rfl,rfl⟩
def moF(q1:Nat)(q7:Nat)(q9:Nat)(S:Nat)(X:Nat→Value):Array Value:=(litB (fun i=>match i with|1=>.pointer (some ⟨q1,0,none⟩)|7=>.pointer (some ⟨q7,0,none⟩)|8=>.int .u64 S|9=>.pointer (some ⟨q9,0,none⟩)|i=>X i) 0 84).toArray
def moT(T:Array Value)(q1:Nat)(q7:Nat)(q9:Nat)(S:Nat):Prop:=T.size=84∧ofA T 1=.pointer (some ⟨q1,0,none⟩)∧ofA T 7=.pointer (some ⟨q7,0,none⟩)∧ofA T 8=.int .u64 S∧ofA T 9=.pointer (some ⟨q9,0,none⟩)
theorem moT.fr{T:Array Value}{q1:Nat}{q7:Nat}{q9:Nat}{S:Nat}(h:moT T q1 q7 q9 S):∃ X,T=moF q1 q7 q9 S X:=by obtain⟨hs,h1,h7,h8,h9⟩:=h;refine⟨ofA T,(frB T hs).trans (congrArg (fun X=>(litB X 0 84).toArray) (funext fun i=>?_))⟩;split<;>first|assumption|rfl

theorem wq(F R:Nat)(xs:List Int)(bl:Bool)(can:Nat)(pa ha fu:Int)(g o cc occ:Nat)(hH:fA F R xs can ha fu)(hocc:occ=(⟨F,R,xs,bl,can,pa,ha,fu⟩:Pos).occ)(ho64:occ<2^(F*R))(qs q1 q7 q9 OS la:Nat)(w:World)(hOS:OS=eA ⟨F,R,xs,bl,can,pa,ha,fu⟩)(hol:OS<18446744073709551616)(hla:la=if bl then R-1 else 0)
  (T:Array Value) (hT:moT T q1 q7 q9 OS) (W:World) (hS:Sea w.heap.size qs F R xs bl can pa ha fu (some ⟨g,o,none⟩) cc occ (.slice none 0 0) [] W) (hN:Nib qs w W (.slice none 0 0) (.slice none 0 0))
  (b1:ac W q1 (.cells (aa F R (some ⟨g,o,none⟩) xs.length cc bl can pa ha fu).toArray 26 (0,0))) (b7:ac W q7 (.cells #[.pointer (some ⟨qs,0,none⟩)] 69 (0,0))) (b9:ac W q9 (.cells #[.int .i64 la] 3 (0,0))) (hne:q1≠qs∧q7≠qs∧q9≠qs) (Rs:Ending→World→Prop)
  (hok:∀ v w',w'.ownsRow w.heap.size 42 7 v (cE ⟨F,R,xs,bl,can,pa,ha,fu⟩).length (aD (cE ⟨F,R,xs,bl,can,pa,ha,fu⟩))→Bw w w'→Rs (.returned (.tuple #[v,.int .i64 0])) w')
  (cd:Code) (hcd:Tryz.f11.body.map (aq 8)=some cd):cd.wp Tryz.prog (bodyPostM Fence.wide 3 Tryz.prog Tryz.f11 Rs) {tmps:=T,defers:=[]} W:=by
 obtain rfl:=Option.some.inj ((show Tryz.f11.body.map (aq 8)=some _ from rfl).symm.trans hcd);clear hcd;simp only[aq];obtain⟨X,rfl⟩:=hT.fr;clear hT;dsimp only[moF,litB,Nat.reduceAdd];have hskL:skL ⟨F,R,xs,bl,can,pa,ha,fu⟩=skK ⟨F,R,xs,bl,can,pa,ha,fu⟩ (bitsL OS).length:=by rw[hOS];rfl
 have hsk:∀ k,skK ⟨F,R,xs,bl,can,pa,ha,fu⟩ (k+1)=skK ⟨F,R,xs,bl,can,pa,ha,fu⟩ k++skC ⟨F,R,xs,bl,can,pa,ha,fu⟩ ((bitsL OS)[k]?.getD 0):=fun k=>by rw[hOS];rfl
 have hsk0:skK ⟨F,R,xs,bl,can,pa,ha,fu⟩ 0=[]:=rfl;have hskl:=lL ⟨F,R,xs,bl,can,pa,ha,fu⟩ hH.hF.2;have hbl:=fk OS;have howk:∀ k,k<(bitsL OS).length→((bitsL OS)[k]?.getD 0)<xs.length∧1≤kindI (xs[((bitsL OS)[k]?.getD 0)]?.getD 0):=by rw[hOS];exact fun k h=>nM (xs:=xs) (bl:=bl) (k:=k) h
 have hat:∀ k:Nat,(⟨F,R,xs,bl,can,pa,ha,fu⟩:Pos).at_ (k:Nat)=xs[k]?.getD 0:=fun k=>by unfold Pos.at_;rw[Int.toNat_natCast]
 have hsl:=qQ ⟨F,R,xs,bl,can,pa,ha,fu⟩ hH.hF.2;replace hOS:=zhd hOS;replace hocc:=zhd hocc;replace hla:=zhd hla;replace hskL:=zhd hskL;go_wp2_with fail;refine(nF OS W).mono ?_;rintro e W4 ⟨rfl,hE4,hb4,hz4⟩;have hS4:=hS.call hb4;have hN4:=hN.trans (Nib.of_below qs hb4 _);have b14:=b1.call hb4;have b74:=b7.call hb4;have b94:=b9.call hb4;have l0:=hS.s.lt;obtain⟨qE,hqE⟩:∃ q,q=W.heap.size:=⟨_,rfl⟩;rw[←hqE]at hE4 hz4 l0 ⊢;replace hqE:=zhd hqE;replace hz4:=zhd hz4;obtain⟨Bs,hBs⟩:∃ Bs:List (Nat×Obj),Bs=[(q1,.cells (aa F R (some ⟨g,o,none⟩) xs.length cc bl can pa ha fu).toArray 26 (0,0)),(q7,.cells #[.pointer (some ⟨qs,0,none⟩)] 69 (0,0)),(q9,.cells #[.int .i64 la] 3 (0,0)),(qE,.cells #[.int .u64 OS] 64 (0,0))]:=⟨_,rfl⟩;have hLd:∀ x∈Bs,ac W4 x.1 x.2:=by
  intro x hx;rw[hBs]at hx;simp only[List.mem_cons,List.not_mem_nil,or_false]at hx;rcases hx with rfl|rfl|rfl|rfl
  ·exact b14
  ·exact b74
  ·exact b94
  ·exact hE4
 have hBD:∀ x∈Bs,x.1<W4.heap.size:=fun x hx=>(hLd x hx).lt
 have hBq:∀ x∈Bs,x.1≠qs:=by
  intro x hx;rw[hBs]at hx;simp only[List.mem_cons,List.not_mem_nil,or_false]at hx;rcases hx with rfl|rfl|rfl|rfl
  ·exact hne.1
  ·exact hne.2.1
  ·exact hne.2.2
  ·show qE≠qs;omega
 have hBt:∀ x∈Bs,∀ cs,x.2≠.cells cs 42 (0,0):=by intro x hx;rw[hBs]at hx;simp only[List.mem_cons,List.not_mem_nil,or_false]at hx;rcases hx with rfl|rfl|rfl|rfl<;>intro cs h<;>(injection h with _ h;exact absurd h (by decide))
 have m1:(q1,Obj.cells (aa F R (some ⟨g,o,none⟩) xs.length cc bl can pa ha fu).toArray 26 (0,0))∈Bs:=by rw[hBs];simp
 have m7:(q7,Obj.cells #[.pointer (some ⟨qs,0,none⟩)] 69 (0,0))∈Bs:=by rw[hBs];simp
 have m9:(q9,Obj.cells #[.int .i64 la] 3 (0,0))∈Bs:=by rw[hBs];simp
 have mE:(qE,Obj.cells #[.int .u64 OS] 64 (0,0))∈Bs:=by rw[hBs];simp
 replace hBs:=zhd hBs;have hw4:w.heap.size≤W4.heap.size:=hN4.size;have hqW4:qs<W4.heap.size:=by have:=hz4.out;omega
 have hbW4:w.heap.size≤W4.heap.size:=hS4.st.b;have hpkl:∀ k,k≤64→(skK ⟨F,R,xs,bl,can,pa,ha,fu⟩ k).length≤899000000:=fun k hk=>by have:=hskl k;omega
 clear hS hN b1 b7 b9 hE4 b14 b74 b94;go_wp2_with fail;refine(wpIn_wide (n:=3)).1 ?_;refine fz (gf:=86) (lb:=#[.pointer (some ⟨qE,0,none⟩)]) rfl (enters_of Tryz.func86 (by kernel_rfl) rfl) (oR qE OS hol) (fun _ _=>rfl)
  (fun c k W=>dV w.heap.size qs F R xs bl can pa ha fu (some ⟨g,o,none⟩) cc occ (.slice none 0 0) w Bs W4.heap.size c (skK ⟨F,R,xs,bl,can,pa,ha,fu⟩ k) W) (fun _ _ _ _=>False) ?hst ?hstx ?hRd ?hsz ?hszx ?h0 ?hbody ?hdone ?hstop ?hpanic
 case hstx=>intro _ _ _ _ _ _ h;exact h.elim
 case hszx=>intro _ _ _ _ _ h;exact h.elim
 case hstop=>intro _ _ _ _ _ _ h;exact h.elim
 case hpanic=>intro _ _ _ _ _ h;exact h.elim
 case hsz=>rintro c k W _ ⟨_,_,_,_,_,h⟩;exact h
 case hRd=>rintro c k W _ ⟨_,h1,_,_,h2,_⟩;exact⟨h2 _ mE,h1.st.t⟩
 case hst=>intro c k W W' hc h ha2;exact h.alt ha2 (Nat.le_refl _) (Nat.le_refl _) hbW4 hqW4 hBD hw4
 case h0=>intro c W hbW hcc hzW;refine⟨_,by rw[hsk0];exact hS4.call hbW,hN4.trans (Nib.of_below qs hbW _),fun k e=>?_,fun x hx=>(hLd x hx).call hbW,by omega⟩;cases e
 case hbody =>
  rintro c k W hcc hk hI hT;refine yF F R xs bl can pa ha fu g o cc occ hH hocc.out ho64 w.heap.size qs q1 q7 q9 (.slice none 0 0) w Bs la hla.out W4.heap.size c k ((bitsL OS)[k]?.getD 0) (howk k hk).1 (by rw[hat];exact(howk k hk).2) (fun i=>skK ⟨F,R,xs,bl,can,pa,ha,fu⟩ i) (hsk k) (hpkl k (by omega)) m1 m7 m9 hbW4 hqW4 hBD hw4 hcc hBq hBt _ ?_ W hI (_,_) rfl;refine⟨?_,?_,?_,?_,?_⟩
  all_goals first|rfl|(simp[ofA];done)|kernel_rfl
 case hdone =>
  rintro c W hcc ⟨v5,hS5,hN5,hA5,hB5,hc5⟩ hD;rw[←hskL.out]at hS5;have b7:ac W q7 (.cells #[.pointer (some ⟨qs,0,none⟩)] 69 (0,0)):=hB5 _ m7;have q5:W.cell? ⟨qs,9,none⟩=some v5:=hS5.s.cells 9;have l5:=hS5.s.lt;have d7:=b7.cells 0;have l7:=b7.lt;obtain⟨LS,hLS⟩:∃ LS,LS=skL ⟨F,R,xs,bl,can,pa,ha,fu⟩:=⟨_,rfl⟩;have hmv:cE ⟨F,R,xs,bl,can,pa,ha,fu⟩=ddN (gO LS) (gO LS).length:=by rw[hLS];rfl
  have hso:=sQ w.heap.size LS.length v5 LS rfl W (by rw[hLS];exact hS5.o) (by rw[hLS];omega);have hlls:LS.length≤4000000:=by rw[hLS];omega
  have hne5:=aY hS5.o hS5.s (by simp);have hne7:=aY hS5.o b7 (by simp);have hneD:=aY hS5.o hD (by simp);have hbW:Bw w W:=hN5.below hS5.q (fun k e=>by cases e) (Nat.le_refl _);have hb5:w.heap.size≤W.heap.size:=hS5.st.b;have hlt5:=fun j e=>(hS5.o.lt j e).1
  have hss:=hS5.s;replace hmv:=zhd hmv;replace hLS:=zhd hLS;obtain⟨up,un,uc,hu⟩:=mL hS5.o;clear hS5 hc5 hS4 hLd;subst hu;go_wp2_with fail;refine hso.mono ?_;rintro e W6 ⟨rfl,L',hp,hs,ho6,hg6⟩;have hL':=rS hp (hs.imp (fun h=>by omega));have hll:LS.length=L'.length:=hp.length_eq.symm;have hs6:=hss.grown hg6 hne5;have b76:=b7.grown hg6 hne7;have hD6:=hD.grown hg6 hneD;have hb6:=hbW.grown hg6 hb5 hlt5;have hco:=nT w.heap.size LS.length _ L' hll hlls W6 ho6;have hne56:=aY ho6 hs6 (by simp);have hneD6:=aY ho6 hD6 (by simp);have hb56:=hb6.size;have hlt6:=fun j e=>(ho6.lt j e).1
  clear hso q5 l5 d7 l7 hss b7 hD hbW hne5 hne7 hneD hg6 hlt5;have q5:W6.cell? ⟨qs,9,none⟩=some (.slice up un uc):=hs6.cells 9;have l5:=hs6.lt;have d7:=b76.cells 0;have l7:=b76.lt;replace hL':=zhd hL';replace hll:=zhd hll;go_wp2_with fail;refine hco.mono ?_;rintro e W7 ⟨v7,rfl,ho7,hg7⟩;have hD7:=hD6.grown hg7 hneD6;have hb7:=hb6.grown hg7 hb56 hlt6;have hneD7:=aY ho7 hD7 (by simp);clear hco q5 l5 d7 l7 hs6 b76 hD6 hne56 hneD6 hg7 hlt6;go_wp2_with fail;have ha7:=ii W7 W4.heap.size (.deferred none);have ho8:(W7.putObj W4.heap.size (.deferred none)).ownsRow w.heap.size 42 7 v7 (cE ⟨F,R,xs,bl,can,pa,ha,fu⟩).length (aD (cE ⟨F,R,xs,bl,can,pa,ha,fu⟩)):=by
   have hr:(gO LS).length=LS.length:=vO LS;rw[hmv.out,hr,←hL'.out];exact jP ho7 (fun k _ e ho=>ha7.hasO ho (by
    rcases Nat.lt_trichotomy k W4.heap.size with h|h|h
    ·exact .inl h
    ·subst h;exact absurd e hneD7
    ·exact .inr h))
  have hb8:=ha7.below hb7 hbW4 (Nat.le_trans hb7.size (Nat.le_refl _));refine kF hD7 ⟨_,results_tmp2 rfl _ _ _,?_⟩;exact hok v7 _ ho8 hb8
theorem fH(F R:Nat)(xs:List Int)(bl:Bool)(can:Nat)(pa ha fu:Int)(pp:Option Addr)(cc:Nat)(hv:pvW F R xs bl can pa ha fu=true)(hca:can<256)(hcc:xs.length≤cc)(w:World)(hg:aM w)(ht:bO w)(hx:Arr .i8 w pp xs):
  Clz 11 #[.agg (aa F R pp xs.length cc bl can pa ha fu).toArray] w (ta ⟨F,R,xs,bl,can,pa,ha,fu⟩ w):=by
 obtain⟨F',R',e1,e2,hF,hR,hlen,hor,hc15,h88,hha,hfu⟩:=eW hv (by omega);obtain rfl:F=F':=by omega
 obtain rfl:R=R':=by omega
 clear e1 e2 hc15 h88;have h9:9≤F*R:=Nat.mul_le_mul hF.1 hR.1;have hFR:F*R≤64:=Nat.mul_le_mul hF.2 hR.2;have hbo:aL F R xs=true:=by unfold aF at hor;rw[Bool.and_eq_true]at hor;exact hor.1
 have hH:fA F R xs can ha fu:=⟨hF,hR,hlen,ea hor,hca,hha,by omega⟩;obtain⟨g,o,rfl,hgw⟩:=bQ hx (j:=0) (by omega);have hgl:g<w.heap.size:=block_lt_of_cell hgw;obtain⟨occ,hocc⟩:∃ occ,occ=(⟨F,R,xs,bl,can,pa,ha,fu⟩:Pos).occ:=⟨_,rfl⟩;have hocc2:occ=setW gNon xs xs.length:=hocc;have hogl:∀(f:Int→Bool),setW f xs xs.length<2^(F*R):=fun f=>by
  rw[hlen];refine Nat.lt_pow_two_of_testBit _ (fun i hi=>?_);rw[setW_bit];simp;omega
 have ho64:occ<2^(F*R):=by rw[hocc2];exact hogl _
 have hpv:=fun W hg hx=>cA F R can pa ha fu bl (some ⟨g,o,none⟩) cc xs (by omega) (by omega) hcc W hg hx
 rw[hv]at hpv;have hsd:=fun W hx=>jj F R (some ⟨g,o,none⟩) cc xs W hx hbo
 have hor2:=lR xs xs.length;rw[←hocc2]at hor2;have hown:eA ⟨F,R,xs,bl,can,pa,ha,fu⟩=setW (if bl then gPos else gNeg) xs xs.length:=rfl;have hskL:skL ⟨F,R,xs,bl,can,pa,ha,fu⟩=skK ⟨F,R,xs,bl,can,pa,ha,fu⟩ (bitsL (eA ⟨F,R,xs,bl,can,pa,ha,fu⟩)).length:=rfl;have hsk:∀ k,skK ⟨F,R,xs,bl,can,pa,ha,fu⟩ (k+1)=skK ⟨F,R,xs,bl,can,pa,ha,fu⟩ k++skC ⟨F,R,xs,bl,can,pa,ha,fu⟩ ((bitsL (eA ⟨F,R,xs,bl,can,pa,ha,fu⟩))[k]?.getD 0):=fun k=>rfl
 have hsk0:skK ⟨F,R,xs,bl,can,pa,ha,fu⟩ 0=[]:=rfl;have hskl:=lL ⟨F,R,xs,bl,can,pa,ha,fu⟩ hF.2;have hbl:=fk (eA ⟨F,R,xs,bl,can,pa,ha,fu⟩);have howk:=fun k (h:k<(bitsL (eA ⟨F,R,xs,bl,can,pa,ha,fu⟩)).length)=>nM (xs:=xs) (bl:=bl) (k:=k) h
 have hol:eA ⟨F,R,xs,bl,can,pa,ha,fu⟩<18446744073709551616:=Nat.lt_of_lt_of_le (show eA ⟨F,R,xs,bl,can,pa,ha,fu⟩<2^(F*R) by rw[hown];exact hogl _) (Nat.pow_le_pow_right (n:=2) (by decide) hFR);have hsl:=qQ ⟨F,R,xs,bl,can,pa,ha,fu⟩ hF.2;have hwl:=hogl gPos;have hbl2:=hogl gNeg;have hp64:2^(F*R)≤18446744073709551616:=Nat.pow_le_pow_right (by decide) hFR;have hoe:=u64_or_nat (setW gPos xs xs.length) (setW gNeg xs xs.length) (by omega) (by omega);rw[hor2]at hoe;rw[←hown]at howk;have hat:∀ k,(⟨F,R,xs,bl,can,pa,ha,fu⟩:Pos).at_ (k:Nat)=xs[k]?.getD 0:=fun k=>by unfold Pos.at_;rw[Int.toNat_natCast]
 have hb8:8≤w.heap.size:=by have:=hg.1.2.2.1.1;omega
 clear hor2 hogl hwl hbl2 hp64 hor hbo hgw;obtain⟨OS,hOS⟩:∃ OS,OS=eA ⟨F,R,xs,bl,can,pa,ha,fu⟩:=⟨_,rfl⟩;rw[←hOS]at hown hskL hsk hbl howk hol;obtain⟨WS,hWS⟩:∃ WS,WS=setW gPos xs xs.length:=⟨_,rfl⟩;obtain⟨BS,hBS⟩:∃ BS,BS=setW gNeg xs xs.length:=⟨_,rfl⟩;rw[←hWS,←hBS]at hsd hoe;have howb:OS=if bl then WS else BS:=by rw[hown,hWS,hBS];cases bl<;>rfl
 have hr1:(R:Int)-1=((R-1:Nat):Int):=by omega
 obtain⟨la,hla⟩:∃ la,la=if bl then R-1 else 0:=⟨_,rfl⟩
 obtain⟨Rs,hRs⟩:∃ Rs,Rs=ta ⟨F,R,xs,bl,can,pa,ha,fu⟩ w:=⟨_,rfl⟩;rw[←hRs];have hB1:=ae w (.cells (aa F R (some ⟨g,o,none⟩) xs.length cc bl can pa ha fu).toArray 26);have hP1:=ac.new w (.cells (aa F R (some ⟨g,o,none⟩) xs.length cc bl can pa ha fu).toArray 26);have hg1:=hg.call hB1;have ht1:bO (w.alloc (.cells (aa F R (some ⟨g,o,none⟩) xs.length cc bl can pa ha fu).toArray 26)):=ht.call hB1;have hx1:=hx.call hB1;replace hRs:=zhd hRs;replace hlen:=zhd hlen;replace hocc:=zhd hocc;replace hocc2:=zhd hocc2;replace hOS:=zhd hOS;replace hWS:=zhd hWS;replace hBS:=zhd hBS;replace howb:=zhd howb;replace hla:=zhd hla;replace hown:=zhd hown;replace hskL:=zhd hskL;replace hr1:=zhd hr1;refine(callsIn_wide (n:=3)).1 ?_;refine callsIn_of_wp_marks Tryz.func11 rfl trivial ?_ rfl;simp only[Tryz.ntmps11,List.size_toArray,List.length_cons,List.length_nil,Nat.reduceAdd,Nat.reduceSub,Array.replicate_succ,Array.replicate_zero,List.push_toArray,List.append_toArray,List.nil_append,List.cons_append];rw[wpIn_wide];go_upto_region 1 with fail;change Code.wp _ _ _ _ (w.alloc (.cells (aa F R (some ⟨g,o,none⟩) xs.length cc bl can pa ha fu).toArray 26));obtain⟨q1,hq1⟩:∃ q1,q1=w.heap.size:=⟨_,rfl⟩;have hz1:(w.alloc (.cells (aa F R (some ⟨g,o,none⟩) xs.length cc bl can pa ha fu).toArray 26)).heap.size=w.heap.size+1:=by simp
 rw[←hq1]at hP1 hz1 ⊢;generalize w.alloc (.cells (aa F R (some ⟨g,o,none⟩) xs.length cc bl can pa ha fu).toArray 26)=W1 at *;replace hq1:=zhd hq1;have⟨c0,l0⟩:=hP1.cl;go_wp2_with fail;refine(hpv W1 hg1.1 hx1).mono ?_;rintro e W2 ⟨rfl,hb2⟩;have hP2:=hP1.call hb2;have hg2:=hg1.call hb2;have ht2:bO W2:=ht1.call hb2;have hx2:=hx1.call hb2;have hB2:=zbc hB1 hb2;clear hpv c0 l0 hg1 ht1 hx1;have⟨c0,l0⟩:=hP2.cl;go_wp2_with fail;refine(hsd W2 hx2).mono ?_;rintro e W3 ⟨rfl,hb3⟩;have hP3:=hP2.call hb3;have hg3:=hg2.call hb3;have ht3:bO W3:=ht2.call hb3;have hx3:=hx2.call hb3;have hB3:=zbc hB2 hb3;clear hsd c0 l0 hg2 ht2 hx2;have hz3:=hb3.size;go_upto_region 4 with fail;have⟨c0,l0⟩:=hP3.cl;have l1:w.heap.size≤W3.heap.size:=hB3.size;go_upto_region 5 with fail;change Code.wp _ _ _ _ ((W3.alloc (.cells (ez F R (some ⟨g,o,none⟩) xs.length cc bl can pa ha fu occ (.slice none 0 0)).toArray 71)).alloc (.cells #[.pointer (some ⟨W3.heap.size,0,none⟩)] 69));have hbA:=(ae W3 (.cells (ez F R (some ⟨g,o,none⟩) xs.length cc bl can pa ha fu occ (.slice none 0 0)).toArray 71)).alloc (by simp) (.cells #[.pointer (some ⟨W3.heap.size,0,none⟩)] 69);have hSx:=(ac.new W3 (.cells (ez F R (some ⟨g,o,none⟩) xs.length cc bl can pa ha fu occ (.slice none 0 0)).toArray 71)).alloc (.cells #[.pointer (some ⟨W3.heap.size,0,none⟩)] 69);have hQC:=ac.new' (W3.alloc (.cells (ez F R (some ⟨g,o,none⟩) xs.length cc bl can pa ha fu occ (.slice none 0 0)).toArray 71)) (.cells #[.pointer (some ⟨W3.heap.size,0,none⟩)] 69) (q:=W3.heap.size+1) (by simp);have hP4:=hP3.call hbA;have hg4:=hg3.call hbA;have ht4:bO _:=ht3.call hbA;have hx4:=hx3.call hbA;have hB4:=zbc hB3 hbA;clear c0 hg3 ht3 hx3;obtain⟨qs,hqs⟩:∃ qs,qs=W3.heap.size:=⟨_,rfl⟩;rw[←hqs]at hSx hQC ⊢;have hl4:qs+1<((W3.alloc (.cells (ez F R (some ⟨g,o,none⟩) xs.length cc bl can pa ha fu occ (.slice none 0 0)).toArray 71)).alloc (.cells #[.pointer (some ⟨qs,0,none⟩)] 69)).heap.size:=by rw[hqs];simp
 have hq1s:q1<qs:=by rw[hqs];exact l0
 have hqw:w.heap.size≤qs:=by rw[hqs];exact l1
 rw[←hqs]at hbA hP4 hg4 ht4 hx4 hB4;replace hqs:=zhd hqs;generalize (W3.alloc (.cells (ez F R (some ⟨g,o,none⟩) xs.length cc bl can pa ha fu occ (.slice none 0 0)).toArray 71)).alloc (.cells #[.pointer (some ⟨qs,0,none⟩)] 69)=W4 at *;clear hbA l0 l1 hz3;have hbL:=ae W4 (.cells #[.int .i64 ((R:Int)-1)] 3);have h9:=ac.new W4 (.cells #[.int .i64 ((R:Int)-1)] 3);have hSx5:=hSx.call hbL;have hQC5:=hQC.call hbL;have hP5:=hP4.call hbL;have hg5:=hg4.call hbL;have ht5:bO _:=ht4.call hbL;have hx5:=hx4.call hbL;have hB5:=zbc hB4 hbL;have⟨c1,l1⟩:=hP4.cl;cases bl
 ·have e8:OS=BS:=howb.out;have e9:la=0:=hla.out;replace e8:=zhd e8;go_upto_region 9 with fail;rename_i k1 hk1 k0 hk0;replace hk1:=zhd hk1;change Code.wp _ _ _ _ (W4.alloc (.cells #[.int .i64 ((R:Int)-1)] 3));obtain⟨q9,hq9⟩:∃ q9,q9=W4.heap.size:=⟨_,rfl⟩;rw[←hq9]at h9 hl4 ⊢;replace hq9:=zhd hq9;generalize W4.alloc (.cells #[.int .i64 ((R:Int)-1)] 3)=W5 at *;clear c1 l1 hSx hQC hg4 ht4 hx4;have⟨c1,l1⟩:=hP5.cl;have f9:=h9.frozen 0;have d9:=h9.cells 0;have l9:=h9.lt;go_wp2_with fail;have hA9:Alt q9 (q9+1) W5 (W5.setCell ⟨q9,0,none⟩ (.int .i64 0)):=Alt.setCell ⟨Nat.le_refl _,Nat.lt_succ_self _⟩;have hbq:w.heap.size≤q9:=by omega
  have hB6:=hA9.below hB5 hbq hB5.size;have hSx6:=hA9.hasO hSx5 (.inl (by omega));have hQC6:=hA9.hasO hQC5 (.inl (by omega));have hP6:=hA9.hasO hP5 (.inl (by omega));have h96:ac (W5.setCell ⟨q9,0,none⟩ (.int .i64 0)) q9 (.cells #[.int .i64 ((0:Nat):Int)] 3 (0,0)):=h9.set_ 0 (.int .i64 0);have hsta:Sta w.heap.size (some ⟨g,o,none⟩) xs (W5.setCell ⟨q9,0,none⟩ (.int .i64 0)):=Sta.below ⟨hg5,ht5,hx5,hb8,hB5.size,fun q e=>by injection e with e;rw[←e];exact hgl⟩ (hA9.below (Below.refl _ _) hbq hB5.size);have hg6:=hsta.g;have ht6:=hsta.t;have hx6:=hsta.x;generalize W5.setCell ⟨q9,0,none⟩ (.int .i64 0)=W6 at *;subst e9;refine hk1.out _ _ ?_;refine wq F R xs false can pa ha fu g o cc occ hH hocc.out ho64 qs q1 (qs+1) q9 OS 0 w hOS.out hol hla.out _ ?_ W6 ⟨⟨hg6,ht6,hx6,hb8,hB6.size,fun q e=>?_⟩,hSx6,⟨rfl,.inl ⟨rfl,rfl⟩⟩,hqw⟩ (Nib.of_below qs ⟨hB6.os,hB6.tape,hB6.output,hB6.size,hB6.block⟩ _)
   hP6 hQC6 h96 ⟨by omega,by omega,by omega⟩ Rs (fun v' w' h1 h2=>?_) _ rfl
  ·rw[e8.out];exact⟨rfl,rfl,rfl,rfl,rfl⟩
  ·injection e with e;rw[←e];exact hgl
  ·rw[hRs.out];exact⟨v',rfl,h1,h2⟩
 ·have e8:OS=WS:=howb.out;have e9:la=R-1:=hla.out;replace e8:=zhd e8;replace e9:=zhd e9;go_upto_region 9 with fail;rename_i k1 hk1 k0 hk0;replace hk1:=zhd hk1;change Code.wp _ _ _ _ (W4.alloc (.cells #[.int .i64 ((R:Int)-1)] 3));obtain⟨q9,hq9⟩:∃ q9,q9=W4.heap.size:=⟨_,rfl⟩;rw[←hq9]at h9 hl4 ⊢;replace hq9:=zhd hq9;generalize W4.alloc (.cells #[.int .i64 ((R:Int)-1)] 3)=W5 at *;clear c1 l1 hSx hQC hg4 ht4 hx4;have⟨c1,l1⟩:=hP5.cl;have f9:=h9.frozen 0;have d9:=h9.cells 0;have l9:=h9.lt;go_wp2_with fail;have hB6:=hB5;have hSx6:=hSx5;have hQC6:=hQC5;have hP6:=hP5;have h96:ac W5 q9 (.cells #[.int .i64 (la:Nat)] 3 (0,0)):=by rw[e9.out,←hr1.out];exact h9
  have hg6:=hg5;have ht6:=ht5;have hx6:=hx5;refine hk1.out _ _ ?_;refine wq F R xs true can pa ha fu g o cc occ hH hocc.out ho64 qs q1 (qs+1) q9 OS la w hOS.out hol hla.out _ ?_ W5 ⟨⟨hg6,ht6,hx6,hb8,hB6.size,fun q e=>?_⟩,hSx6,⟨rfl,.inl ⟨rfl,rfl⟩⟩,hqw⟩ (Nib.of_below qs ⟨hB6.os,hB6.tape,hB6.output,hB6.size,hB6.block⟩ _)
   hP6 hQC6 h96 ⟨by omega,by omega,by omega⟩ Rs (fun v' w' h1 h2=>?_) _ rfl
  ·rw[e8.out];exact⟨rfl,rfl,rfl,rfl,rfl⟩
  ·injection e with e;rw[←e];exact hgl
  ·rw[hRs.out];exact⟨v',rfl,h1,h2⟩
end Go.Proofs.YtefmplccbkmalaaGreatDoor
namespace Go.Proofs.YtefmplccbkmalaaGreatDoor
open Go.RowKit

def kP1:Pos:=⟨3,3,[0,0,6,0,0,0,-6,0,0],false,0,-1,0,1⟩
def kP2:Pos:=⟨3,3,[0,0,6,0,0,0,-6,0,0],true,0,-1,1,1⟩
def kP3:Pos:=⟨3,3,[0,0,6,0,0,0,-6,0,0],true,0,-1,0,1⟩
def kP4:Pos:=⟨3,6,[0,0,6,0,0,0,0,0,0,0,1,0,0,0,0,-6,0,0],true,0,-1,0,1⟩
def kP5:Pos:=⟨8,8,[0,0,6,4,0,0,0,4]++List.replicate 48 0++[0,0,0,0,-6,0,0,0],true,0,-1,4,9⟩
def cq:Nat→List Ret
 | 0=>[]
 | k+1=>cq k++[⟨⟨if k<4 then 1 else 5,2,0⟩,((k%4:Nat):Int)-5,2,0,-1⟩]
theorem kn1:cE kP1=[]:=by decide +kernel
theorem kn2:cE kP2=[⟨⟨1,2,0⟩,0,-1,0,-1⟩,⟨⟨5,2,0⟩,0,-1,0,-1⟩]:=by decide +kernel
theorem kn3:cE kP3=cq 8:=by decide +kernel
def knB(r:Ret):Bool:=(r.pa==10)&&((r.at_==7)&&((r.cp==-1)&&(r.mv.tg==10)))
theorem kn4:(cE kP4).length=25∧(cE kP4).countP knB=2:=by decide +kernel
theorem kn5:∀ k:Nat,k<4→mayW kP5 ⟨⟨4,2,0⟩,0,-1,k,-1⟩=decide (2≤k):=by decide +kernel
theorem kv1:pvW 3 3 kP1.xs false 0 (-1) 0 1=true:=by rw[fB];decide +kernel
theorem kv2:pvW 3 3 kP2.xs true 0 (-1) 1 1=true:=by rw[fB];decide +kernel
theorem kv3:pvW 3 3 kP3.xs true 0 (-1) 0 1=true:=by rw[fB];decide +kernel
theorem kv4:pvW 3 6 kP4.xs true 0 (-1) 0 1=true:=by rw[fB];decide +kernel
theorem kv5:pvW 8 8 kP5.xs true 0 (-1) 4 9=true:=by rw[fB];decide +kernel
def splF(sep:UInt8)(acc:List (List UInt8))(c:UInt8):List (List UInt8):=if c=sep then acc++[[]]else acc.dropLast++[acc.getLastD []++[c]]
def splT(sep:UInt8)(s:List UInt8):Nat→List (List UInt8)
 | 0=>[[]]
 | k+1=>splF sep (splT sep s k) (s[k]?.getD 0)
theorem eZ(sep:UInt8)(s:List UInt8):∀ k,1≤(splT sep s k).length∧(splT sep s k).length≤k+1:=by
 intro k;induction k with
 | zero=>simp[splT]
 | succ k ih =>
  simp only[splT,splF];split
  ·simp;omega
  ·simp;omega
theorem iL(sep:UInt8)(s:List UInt8):∀ k,∀ l∈splT sep s k,l.length≤k:=by
 intro k;induction k with
 | zero=>intro l hl;simp[splT]at hl;simp[hl]
 | succ k ih =>
  intro l hl;simp only[splT,splF]at hl;split at hl
  ·rcases List.mem_append.1 hl with h|h
   ·exact Nat.le_succ_of_le (ih l h)
   ·simp at h;simp[h]
  ·rcases List.mem_append.1 hl with h|h
   ·exact Nat.le_succ_of_le (ih l (List.dropLast_subset _ h))
   ·simp only[List.mem_singleton]at h;rw[h,List.length_append,List.length_singleton];have hne:splT sep s k≠[]:=fun h0=>by have:=(eZ sep s k).1;rw[h0]at this;simp at this
    have hm:=ih ((splT sep s k).getLast hne) (List.getLast_mem hne);rw[List.getLastD_eq_getLast?,List.getLast?_eq_some_getLast hne];simp only[Option.getD_some];omega
def spl(sep:UInt8)(s:List UInt8):List (List UInt8):=splT sep s s.length

def vR:List UInt8:=[112,110,98,114,113,107,97,99,100,101,102,103,104,105,106]
def uV:List UInt8:=[80,78,66,82,81,75,65,67,68,69,70,71,72,73,74]
def ib(p:Int):UInt8:=if p<0 then vR[(-p-1).toNat]?.getD 0 else uV[(p-1).toNat]?.getD 0
def ltrP(c:UInt8):Nat→Int
 | 0=>0
 | k+1=>if(15-(k:Int))≠0∧ib (15-(k:Int))=c then 15-(k:Int)else ltrP c k
def nx(acc:Option (List Int×Bool))(c:UInt8):Option (List Int×Bool) :=
 match acc with
 | none=>none
 | some (l,d)=>if 49≤c.toNat∧c.toNat≤56 then(if d then none else some (l++List.replicate (c.toNat-48) 0,true))else(if ltrP c 31=0 then none else some (l++[ltrP c 31],false))
def rowT(s:List UInt8):Nat→Option (List Int×Bool)
 | 0=>some ([],false)
 | k+1=>nx (rowT s k) (s[k]?.getD 0)
theorem wA:(Tryz.prog.info? 9).map (fun i=>(i.zero,i.size,i.bytes))=some (some (.string (str [])),1,16):=by kernel_rfl
abbrev aX(l:List UInt8):Value:=.string (str l)
def ss(sep:UInt8)(s:List UInt8)(w:World)(k:Nat)(v:Value)(W:World):Prop :=
 k≤s.length∧(∃ g c,v=.slice (some ⟨g,0,none⟩) (splT sep s k).length c)∧W.ownsRow w.heap.size 9 1 v (splT sep s k).length ((splT sep s k).map aX)∧Below w.heap.size w W
theorem mC(sep:UInt8)(s:List UInt8)(k:Nat):(splT sep s k)[(splT sep s k).length-1]? = some ((splT sep s k).getLastD []):=by
 have h:=(eZ sep s k).1;rcases hl:splT sep s k with _|⟨a,l⟩
 ·rw[hl]at h;simp at h
 ·rw[List.getLastD_eq_getLast?,←List.getLast?_eq_getElem?];rw[List.getLast?_eq_some_getLast (by simp)];rfl
theorem nK{sep:UInt8}{s:List UInt8}{k:Nat}(h:s[k]?.getD 0≠sep):((splT sep s k).map aX).set ((splT sep s k).length-1) (aX ((splT sep s k).getLastD []++[s[k]?.getD 0]))=(splT sep s (k+1)).map aX:=by
 have h1:=(eZ sep s k).1;simp only[splT,splF,if_neg h];generalize splT sep s k=L at *;rcases List.eq_nil_or_concat L with rfl|⟨l,x,rfl⟩
 ·simp at h1
 ·simp[List.concat_eq_append]
theorem jC{sep:UInt8}{s:List UInt8}{k:Nat}(h:s[k]?.getD 0≠sep):(splT sep s (k+1)).length=(splT sep s k).length:=by have h1:=(eZ sep s k).1;simp only[splT,splF,if_neg h];simp;omega
theorem kT(l:List UInt8){i:Nat}(h:i<l.length)(W:World):(Instr.sliceAt 9 (.string (str l)) (some (.int .i64 i)) (some (.int .i64 ((i:Int)+1))) none).run Tryz.prog W=.ok (.string (str [l[i]?.getD 0])) W:=by
 have hz:(str l).size=l.length:=cY l;have e:(str l).extract i (i+1)=str [l[i]?.getD 0]:=by
  apply ByteArray.ext
  simp only[ByteArray.data_extract,str];apply Array.ext'
  simp only[List.extract_toArray,List.extract_eq_take_drop,Nat.add_sub_cancel_left,List.drop_eq_getElem_cons h,List.take_succ_cons,List.take_zero];simp[h]
 simp[Instr.sliceAt,go_sem,hz,h];rw[if_pos (by omega),if_pos (by omega),e];simp[h]
theorem jh{W:World}{base n:Nat}{t:TypeId}{v:Value}{xs:List Value}(h:W.ownsRow base t 1 v n xs)(hne:v≠.slice none 0 0):∃ g c,v=.slice (some ⟨g,0,none⟩) n c:=by
 rcases h.2 with⟨h1,h2⟩|⟨g,cap,cur,h1,_⟩
 ·exact absurd h1 hne
 ·exact⟨_,_,h1⟩
theorem sH(s:List UInt8)(w:World)(hs:s.length≤1000):Clz 126 #[.string (str s)] w fun e w'=>(∃ v,e=.returned v∧(∃ g c,v=.slice (some ⟨g,0,none⟩) (spl 32 s).length c)∧w'.ownsRow w.heap.size 9 1 v (spl 32 s).length ((spl 32 s).map aX))∧Below w.heap.size w w':=by
 obtain⟨i9,hi9,hz9,hs9,hy9⟩:=info_parts wA;have hz:=cY s;go_enter Tryz.func126,Tryz.ntmps126;go_wp2_with fail;have hB0:=ae w (.cells #[.string (str [])] 9);have hO0:(w.alloc (.cells #[.string (str [])] 9)).ownsRow w.heap.size 9 1 (.slice (some ⟨w.heap.size,0,none⟩) 1 1) 1 [aX []]:=World.ownsRow_lit w #[.string (str [])] 1 (Nat.le_refl _) (by decide) rfl;show Code.wp _ _ _ _ (w.alloc (.cells #[.string (str [])] 9));generalize w.alloc (.cells #[.string (str [])] 9)=w1 at *;go_loopg [3,4] 1001 (fun q sv iv wr=>∃ i:Nat,q+i=1001∧iv=.int .i64 i∧ss 32 s w i sv wr)
 case atStart=>exact⟨0,rfl,rfl,⟨Nat.zero_le _,⟨_,_,rfl⟩,hO0,hB0⟩⟩
 case round =>
  obtain⟨i,hq,rfl,⟨hi,⟨g,c,rfl⟩,hown,hbr⟩⟩:=hrel;by_cases hlt:i<s.length
  ·have hii:(i:Int)<s.length:=by omega
   have hix:=fun W=>gi s hlt W
   have hsl:=fun W=>kT s hlt W
   obtain⟨x,hx⟩:∃ x,x=s[i]?.getD 0:=⟨_,rfl⟩;obtain⟨y,hy⟩:∃ y:Int,y=x.toNat:=⟨_,rfl⟩;rw[←hx]at hsl;simp only[←hx,←hy]at hix;obtain⟨n,hn⟩:∃ n,n=(splT 32 s i).length:=⟨_,rfl⟩;have hn1:1≤n∧n≤i+1:=by rw[hn];exact eZ 32 s i
   replace hx:=zhd hx;by_cases h32:x=32
   ·have h32i:y=32:=by rw[hy,h32];rfl
    have hnx:splT 32 s (i+1)=splT 32 s i++[[]]:=by simp only[splT,splF];rw[←hx.out,if_pos h32]
    replace hnx:=zhd hnx;rw[←hn]at hown ⊢;replace hn:=zhd hn;clear hy h32 hsl;go_wp2_with (at_builtin;refine fi rfl (.tmp 16) (.tmp 17) 158 rfl w.heap.size 9 i9 (.string (str [])) 1 16 Tryz.underlying158 hi9 hz9 hs9 hy9 rfl (by decide) _ n ((splT 32 s i).map aX) rfl hown [aX []] rfl (by intro u hu;simp at hu;subst hu;rfl) _ rfl rfl (by omega) hbr.size ?_);intro v' w9 hown9 hg9 hne;have hb9:=hbr.grown hg9 hbr.size (fun j e=>(hown.lt j e).1);have hl9:(splT 32 s (i+1)).length=n+1:=by rw[hnx.out,hn.out];simp
    replace hown9:w9.ownsRow w.heap.size 9 1 v' (splT 32 s (i+1)).length ((splT 32 s (i+1)).map aX):=by rw[hl9,hnx.out];simpa using hown9
    replace hl9:=zhd hl9;clear hown hg9;go_wp2_with fail;go_roundg (gk-1)
    case measure=>omega
    case rel=>exact⟨i+1,by omega,by go_num,⟨by omega,jh hown9 hne,hown9,hb9⟩⟩
   ·have h32i:(y==32)=false:=by rw[hy];simp;intro h;exact h32 (UInt8.toNat_inj.1 (by have:(x.toNat:Int)=32:=h;show x.toNat=32;omega))
    have hne:s[i]?.getD 0≠32:=by rw[←hx.out];exact h32
    have hnx:=nK (sep:=32) (s:=s) (k:=i) hne;have hln:=jC (sep:=32) (s:=s) (k:=i) hne;rw[←hx.out]at hnx;have hlc:wr.cell? ⟨g,n-1,none⟩=some (aX ((splT 32 s i).getLastD [])):=by rw[hown.cellAt (n-1) (by omega),List.getElem?_map,hn,mC];rfl
    have hgl:g<wr.heap.size:=(hown.lt g rfl).2;have hfz:=hown.frozenAt (n-1);obtain⟨l,hl⟩:∃ l,l=(splT 32 s i).getLastD []:=⟨_,rfl⟩;rw[←hl]at hlc hnx;have hap:=iz l [x];have hst:=hown.stored (n-1) (aX (l++[x]));rw[hn]at hst;rw[hnx]at hst;rw[←hn]at hst hown ⊢;replace hnx:=zhd hnx;replace hn:=zhd hn;replace hln:=zhd hln;have hlz:(str l).size≤1000:=by rw[cY,hl,List.getLastD_eq_getLast?,List.getLast?_eq_some_getLast (l:=splT 32 s i) (fun h0=>by have:=hn.out;rw[h0]at this;simp at this;omega)];exact Nat.le_trans (iL 32 s i _ (List.getLast_mem _)) (by omega)
    have hxz:(str [x]).size=1:=rfl;replace hl:=zhd hl;replace hst:=zhd hst;have hn0:IntKind.i64.wrap ((n:Int)-1)=((n-1:Nat):Int):=by rw[IntWalk.i64_in _ (by omega)];omega
    clear hy h32 hne;go_wp2_with fail;have hst:=hst.out;go_region;have hgb:=(hown.lt g rfl).1;have hown9:=(hown.stored (n-1) (aX (l++[x]))).1.drew;rw[show((splT 32 s i).map aX).set (n-1) (aX (l++[x]))=(splT 32 s (i+1)).map aX by rw[hn.out];exact hnx.out]at hown9;have hb9:Below w.heap.size w (wr.setCell ⟨g,n-1,none⟩ (aX (l++[x]))).drew:=(hbr.setCell hgb _).drew;have e9:=zhd (hln.out.trans hn.out.symm);generalize (wr.setCell ⟨g,n-1,none⟩ (aX (l++[x]))).drew=w9 at *;clear hown hst;go_wp2_with fail;go_roundg (gk-1)
    case measure=>omega
    case rel=>exact⟨i+1,by omega,by go_num,by unfold ss;rw[e9.out];exact⟨by omega,⟨g,c,rfl⟩,hown9,hb9⟩⟩
  ·have hii:¬(i:Int)<s.length:=by omega
   obtain rfl:i=s.length:=by omega
   go_wp2_with fail;go_ret;exact⟨⟨_,rfl,⟨_,_,rfl⟩,hown⟩,hbr⟩
theorem wM(k:Nat)(hk:k<15)(W:World):(Instr.index 9 (.string {data:=#[112,110,98,114,113,107,97,99,100,101,102,103,104,105,106]}) (.int .i8 k)).run Tryz.prog W=.ok (.int .u8 ((vR[k]?.getD 0).toNat:Int)) W:=by rcases(by omega:k=0∨k=1∨k=2∨k=3∨k=4∨k=5∨k=6∨k=7∨k=8∨k=9∨k=10∨k=11∨k=12∨k=13∨k=14)with rfl|rfl|rfl|rfl|rfl|rfl|rfl|rfl|rfl|rfl|rfl|rfl|rfl|rfl|rfl<;>kernel_rfl
theorem yK(k:Nat)(hk:k<15)(W:World):(Instr.index 9 (.string {data:=#[80,78,66,82,81,75,65,67,68,69,70,71,72,73,74]}) (.int .i8 k)).run Tryz.prog W=.ok (.int .u8 ((uV[k]?.getD 0).toNat:Int)) W:=by rcases(by omega:k=0∨k=1∨k=2∨k=3∨k=4∨k=5∨k=6∨k=7∨k=8∨k=9∨k=10∨k=11∨k=12∨k=13∨k=14)with rfl|rfl|rfl|rfl|rfl|rfl|rfl|rfl|rfl|rfl|rfl|rfl|rfl|rfl|rfl<;>kernel_rfl
theorem rQ(p:Int)(h1:-15≤p)(h2:p≤15)(h0:p≠0)(w:World):Clz 201 #[.int .i8 p] w fun e w'=>e=.returned (.int .u8 ((ib p).toNat:Int))∧w=w':=by
 by_cases h:p<0
 ·have hix:=wM (-p-1).toNat (by omega);rw[show(((-p-1).toNat:Nat):Int)=-p-1 by omega]at hix;have hv:ib p=vR[(-p-1).toNat]?.getD 0:=if_pos h;rw[←hv]at hix;have e1:IntKind.i8.wrap (-p)=-p:=IntWalk.i8_in _ (by omega);have e2:IntKind.i8.wrap (-p-1)=-p-1:=IntWalk.i8_in _ (by omega);clear hv;go_enter Tryz.func201,Tryz.ntmps201;go_wp2_with fail;go_ret;exact⟨rfl,rfl⟩
 ·have hix:=yK (p-1).toNat (by omega);rw[show(((p-1).toNat:Nat):Int)=p-1 by omega]at hix;have hv:ib p=uV[(p-1).toNat]?.getD 0:=if_neg h;rw[←hv]at hix;have e2:IntKind.i8.wrap (p-1)=p-1:=IntWalk.i8_in _ (by omega);clear hv;go_enter Tryz.func201,Tryz.ntmps201;go_wp2_with fail;go_ret;exact⟨rfl,rfl⟩
theorem oN(c:UInt8)(w:World):Clz 178 #[.int .u8 c.toNat] w fun e w'=>e=.returned (.int .i8 (ltrP c 31))∧w=w':=by
 obtain⟨y,hy⟩:∃ y:Int,y=c.toNat:=⟨_,rfl⟩;obtain⟨V,hV⟩:∃ V,V=ltrP c 31:=⟨_,rfl⟩;rw[←hy,←hV];replace hV:=zhd hV;replace hy:=zhd hy;go_enter Tryz.func178,Tryz.ntmps178;go_wp2_with fail;go_loopg [3] 32 (fun q pv wr=>∃ i:Nat,q+i=32∧i≤31∧pv=.int .i8 ((i:Int)-15)∧w=wr∧Hid (V=ltrP c (31-i)))
 case atStart=>exact⟨0,rfl,by omega,rfl,rfl,hV⟩
 case round =>
  obtain⟨i,hq,hi,rfl,rfl,hv⟩:=hrel;obtain⟨p,hp⟩:∃ p:Int,p=(i:Int)-15:=⟨_,rfl⟩;rw[←hp];by_cases hlt:i<31
  ·have hle:p≤15:=by omega
   have hst:ltrP c (31-i)=if p≠0∧ib p=c then p else ltrP c (31-(i+1)):=by rw[show 31-i=(30-i)+1 by omega,show 31-(i+1)=30-i by omega,ltrP,show(15:Int)-((30-i:Nat):Int)=p by omega]
   have e1:IntKind.i8.wrap (p+1)=((i+1:Nat):Int)-15:=by rw[IntWalk.i8_in _ (by omega)];omega
   by_cases h0:p=0
   ·have hv2:Hid (V=ltrP c (31-(i+1))):=zhd (by rw[hv.out,hst,if_neg (by simp[h0])]);subst h0;clear hst hv;go_wp2_with fail;go_roundg (gk-1)
    case measure=>omega
    case rel=>exact⟨i+1,by omega,by omega,by go_num,rfl,hv2⟩
   ·have h0b:(p != 0)=true:=by simp[h0]
    have hlet:=rQ p (by omega) (by omega) h0;rcases hc:(((ib p).toNat:Int)==y)with _|_
    ·have hv2:Hid (V=ltrP c (31-(i+1))):=zhd (by
      rw[hv.out,hst,if_neg];rintro⟨_,h⟩;rw[h,hy.out]at hc;simp at hc)
     replace hp:=zhd hp;clear hst hv;go_wp2_with fail;refine(hlet _).mono ?_;rintro e w1 ⟨rfl,rfl⟩;go_wp2_with fail;go_roundg (gk-1)
     case measure=>omega
     case rel=>exact⟨i+1,by omega,by omega,by go_num,rfl,hv2⟩
    ·have hv2:Hid (V=p):=zhd (by
      rw[hv.out,hst,if_pos];refine⟨h0,UInt8.toNat_inj.1 ?_⟩;have:((ib p).toNat:Int)=y:=by simpa using hc
      have:=hy.out;omega)
     replace hp:=zhd hp;clear hst hv;go_wp2_with fail;refine(hlet _).mono ?_;rintro e w1 ⟨rfl,rfl⟩;go_wp2_with fail;obtain rfl:V=p:=hv2.out;clear hV hv2;go_ret;exact⟨rfl,rfl⟩
  ·have hle:¬p≤15:=by omega
   have hv2:Hid (V=0):=zhd (by rw[hv.out,show 31-i=0 by omega];rfl);replace hp:=zhd hp;go_wp2_with fail;obtain rfl:V=0:=hv2.out;clear hV hv2;go_ret;exact⟨rfl,rfl⟩

def br(d:Nat):UInt8:=UInt8.ofNat (48+d)
theorem tF(d:Nat)(hd:d<10)(W:World):(Instr.sliceAt 9 (.string {data:=#[48,49,50,51,52,53,54,55,56,57]}) (some (.int .i64 d)) (some (.int .i64 ((d:Int)+1))) none).run Tryz.prog W=.ok (.string (str [br d])) W:=by rcases(by omega:d=0∨d=1∨d=2∨d=3∨d=4∨d=5∨d=6∨d=7∨d=8∨d=9)with rfl|rfl|rfl|rfl|rfl|rfl|rfl|rfl|rfl|rfl<;>kernel_rfl
theorem gG(d:Nat)(hd:d<10)(w:World):Clz 128 #[.int .i64 d] w fun e w'=>e=.returned (.string (str [br d]))∧w=w':=by
 have hsl:=tF d hd;have hd1:(d:Int)<10:=by omega
 go_enter Tryz.func128,Tryz.ntmps128;go_wp2_with fail;go_ret;exact⟨rfl,rfl⟩
theorem rE{d:Nat}(hd:d<10):(br d).toNat=48+d:=by rcases(by omega:d=0∨d=1∨d=2∨d=3∨d=4∨d=5∨d=6∨d=7∨d=8∨d=9)with rfl|rfl|rfl|rfl|rfl|rfl|rfl|rfl|rfl|rfl<;>rfl
theorem jl(l:List UInt8)(W:World):(binOp .neq 9 (.string (str l)) (.string (str l))).run Tryz.prog W=.ok (.bool false) W:=by simp[go_sem]
def upD(d i:Nat):Nat:=if i=0 then 0 else d
theorem lp(d:Nat)(hd:d<10)(w:World):Clz 129 #[.string (str [br d])] w fun e w'=>e=.returned (.int .i64 d)∧w=w':=by
 have hz:(str [br d]).size=1:=rfl;have h0:∀ W:World,(Instr.index 9 (.string (str [br d])) (.int .i64 0)).run Tryz.prog W=.ok (.int .u8 (48+(d:Int))) W:=fun W=>by
  have h:=gi [br d] (i:=0) (by simp) W;have e:((br d).toNat:Int)=48+d:=by rw[rE hd];omega
  rw[←e];exact h
 have hlo:¬((48:Int)+d<48):=by omega
 have hhi:¬((57:Int)<48+d):=by omega
 have e1:IntKind.u8.wrap (48+(d:Int)-48)=d:=by rw[show(48:Int)+d-48=d by omega];exact wD (by omega) (by omega)
 have e2:IntKind.i64.wrap (d:Int)=d:=IntWalk.i64_in _ (by omega);have hne:=jl [br d];have hdec:=gG d hd;go_enter Tryz.func129,Tryz.ntmps129;go_wp2_with fail;go_loopg [3,4] 2 (fun q nv iv wr=>∃ i:Nat,q+i=2∧i≤1∧nv=.int .i64 (upD d i:Nat)∧iv=.int .i64 i∧w=wr)
 case atStart=>exact⟨0,rfl,by omega,rfl,rfl,rfl⟩
 case round =>
  obtain⟨i,hq,hi,rfl,rfl,rfl⟩:=hrel;rcases(by omega:i=0∨i=1)with rfl|rfl
  ·rw[show upD d 0=0 from rfl];go_wp2_with fail;go_roundg (gk-1)
   case measure=>omega
   case rel=>exact⟨1,by omega,by omega,by go_num,rfl,rfl⟩
  ·rw[show upD d 1=d from rfl];go_wp2_with fail;refine(hdec _).mono ?_;rintro e w1 ⟨rfl,rfl⟩;go_wp2_with fail;go_ret;exact⟨rfl,rfl⟩

theorem AA(i:Nat)(hi:i<4)(W:World):(binOp .shr 3 (.int .i64 0) (.int .i64 i)).run Tryz.prog W=.ok (.int .i64 0) W:=by rcases(by omega:i=0∨i=1∨i=2∨i=3)with rfl|rfl|rfl|rfl<;>kernel_rfl
theorem me(w:World):Clz 130 #[.string (str [45])] w fun e w'=>e=.returned (.int .i64 0)∧w=w':=by
 have hsh:=fun(i:Nat) hi=>AA i hi
 have hs1:(str []).toList.isEmpty=true:=by rw[di];rfl
 have hs2:([45]==(str [45]).toList)=true:=by rw[di];rfl
 go_enter Tryz.func130,Tryz.ntmps130;go_wp2_with fail;go_loopg [3] 1 (fun q nv wr=>q=1∧nv=.int .i64 0∧w=wr)
 case atStart=>exact⟨rfl,rfl,rfl⟩
 case round =>
  obtain⟨hq0,rfl,rfl⟩:=hrel;go_wp2_with fail;go_loopg [4,5] 5 (fun q ov iv wr=>∃ i:Nat,q+i=5∧i≤4∧ov=.string (str [])∧iv=.int .i64 i∧w=wr)
  case atStart=>exact⟨0,rfl,by omega,rfl,rfl,rfl⟩
  case round =>
   obtain⟨i,hq,hi,rfl,rfl,rfl⟩:=hrel;by_cases hlt:i<4
   ·have hii:(i:Int)<4:=by omega
    have hs:=hsh i hlt;clear hsh;go_wp2_with fail;go_roundg (gk-1)
    case measure=>omega
    case rel=>exact⟨i+1,by omega,by omega,rfl,by go_num,rfl⟩
   ·have hii:¬(i:Int)<4:=by omega
    clear hsh;go_wp2_with fail;go_ret;exact⟨rfl,rfl⟩
def jg(s:List UInt8):List Int:=match rowT s s.length with|some (l,_)=>l|none=>[]
def ow(F:Nat)(s:List UInt8):Bool:=match rowT s s.length with|some (l,_)=>l.length==F|none=>false
def oP(F:Nat)(rk:List (List UInt8)):Bool:=rk.all (ow F)
def brdL(rk:List (List UInt8)):Nat→List Int|0=>[] | k+1=>brdL rk k++jg (rk[rk.length-1-k]?.getD [])
theorem sO(s:List UInt8){k:Nat}(h:rowT s k=none):∀ n,rowT s (k+n)=none:=by
 intro n;induction n with
 | zero=>exact h
 | succ n ih=>rw[←Nat.add_assoc,rowT,ih];rfl
theorem tG{s:List UInt8}{k:Nat}(h:rowT s s.length≠none)(hk:k≤s.length):∃ l d,rowT s k=some (l,d):=by
 rcases hr:rowT s k with _|⟨l,d⟩
 ·have:=sO s hr (s.length-k);rw[show k+(s.length-k)=s.length by omega]at this;exact absurd this h
 ·exact⟨l,d,rfl⟩
theorem uE(s:List UInt8):∀ k l d,rowT s k=some (l,d)→l.length≤8*k:=by
 intro k;induction k with
 | zero=>intro l d h;simp[rowT]at h;simp[←h.1]
 | succ k ih =>
  intro l d h;rw[rowT]at h;rcases hr:rowT s k with _|⟨l',d'⟩
  ·rw[hr]at h;simp[nx]at h
  ·have:=ih l' d' hr;rw[hr]at h;simp only[nx]at h;split at h
   ·rename_i hc;split at h
    ·cases h
    ·simp only[Option.some.injEq,Prod.mk.injEq]at h;rw[←h.1,List.length_append,List.length_replicate];omega
   ·split at h
    ·cases h
    ·simp only[Option.some.injEq,Prod.mk.injEq]at h;rw[←h.1,List.length_append,List.length_singleton];omega
theorem qC{F:Nat}{s:List UInt8}(h:ow F s=true):rowT s s.length≠none∧(jg s).length=F∧∃ d,rowT s s.length=some (jg s,d):=by
 unfold ow at h;unfold jg;rcases hr:rowT s s.length with _|⟨l,d⟩
 ·rw[hr]at h;cases h
 ·rw[hr]at h;exact⟨by simp,by simpa using h,d,rfl⟩
theorem xU{s:List UInt8}{k:Nat}{l:List Int}{d:Bool}{c:UInt8}(hr:rowT s k=some (l,d))(hc:s[k]?.getD 0=c)(h:¬(49≤c.toNat∧c.toNat≤56))(hs:rowT s (k+1)≠none):
  ltrP c 31≠0∧rowT s (k+1)=some (l++[ltrP c 31],false):=by
 rw[rowT,hr,hc]at hs ⊢;simp only[nx,if_neg h]at hs ⊢;by_cases h0:ltrP c 31=0
 ·rw[if_pos h0]at hs;exact absurd rfl hs
 ·rw[if_neg h0];exact⟨h0,rfl⟩
theorem yj{s:List UInt8}{k:Nat}{l:List Int}{d:Bool}{c:UInt8}(hr:rowT s k=some (l,d))(hc:s[k]?.getD 0=c)(h:49≤c.toNat∧c.toNat≤56)(hs:rowT s (k+1)≠none):
  d=false∧rowT s (k+1)=some (l++List.replicate (c.toNat-48) 0,true):=by
 rw[rowT,hr,hc]at hs ⊢;simp only[nx,if_pos h]at hs ⊢;cases d
 ·exact⟨rfl,rfl⟩
 ·exact absurd rfl hs
theorem kh{F:Nat}{rk:List (List UInt8)}(h:oP F rk=true):∀ k,k≤rk.length→(brdL rk k).length=k*F:=by
 intro k;induction k with
 | zero=>intro _;simp[brdL]
 | succ k ih =>
  intro hk;have hm:ow F (rk[rk.length-1-k]?.getD [])=true:=by
   have hi:rk.length-1-k<rk.length:=by omega
   rw[List.getElem?_eq_getElem hi,Option.getD_some];exact List.all_eq_true.1 h _ (List.getElem_mem hi)
  rw[brdL,List.length_append,ih (by omega),(qC hm).2.1,Nat.add_mul,Nat.one_mul]
theorem xS{F:Nat}{rk:List (List UInt8)}(h:oP F rk=true){i:Nat}(hi:i<rk.length):ow F (rk[i]?.getD [])=true:=by rw[List.getElem?_eq_getElem hi,Option.getD_some];exact List.all_eq_true.1 h _ (List.getElem_mem hi)
theorem xR(c:UInt8):∀ k,k≤31→-15≤ltrP c k∧ltrP c k≤15:=by
 intro k;induction k with
 | zero=>intro _;simp[ltrP]
 | succ k ih=>intro hk;have:=ih (by omega);rw[ltrP];split<;>omega
end Go.Proofs.YtefmplccbkmalaaGreatDoor
