import Derived.Test.YtefmplccbkmalaaGreatDoorB02
import Derived.Test.YtefmplccbkmalaaGreatDoorB04
import Derived.Test.YtefmplccbkmalaaGreatDoorB09
set_option maxRecDepth 100000
set_option maxHeartbeats 12800000
namespace Go.Proofs.YtefmplccbkmalaaGreatDoor
open Go.RowKit
attribute [local go_sem] Oper.semAt_some

theorem wW(x:Int)(w:World):Clz 199 #[.int .i64 x] w fun e w'=>e=.returned (.int .i64 (sgn3 x))∧w=w':=by
 by_cases h1:x<0<;>by_cases h2:0<x
 all_goals first
  | (exfalso;omega)
  | (go_enter Tryz.func199,Tryz.ntmps199
     go_wp2
     go_ret
     exact⟨yi (by unfold sgn3;(repeat' split)<;>omega),rfl⟩)
theorem yx(F R a b:Nat)(hF:3≤F∧F≤8)(hR:3≤R∧R≤8)(ha:a<F*R)(hb:b<F*R)(hab:a≠b)(hrk:b/F=a/F)(w:World):
  Clz 170 #[.agg #[.int .i64 F,.int .i64 R],.int .i64 a,.int .i64 b] w fun e w'=>e=.returned (.tuple #[.int .i64 (sgn3 (((b%F:Nat):Int)-(a%F:Nat))),.int .i64 0,.int .i64 0])∧Below w.heap.size w w':=by
 have hA:=ac.new w (.cells #[.int .i64 (F:Int),.int .i64 (R:Int)] 23);have hB:=ae w (.cells #[.int .i64 (F:Int),.int .i64 (R:Int)] 23);have p1:=fun W=>dB F R a hF hR ha W
 have p2:=fun W=>dB F R b hF hR hb W
 rw[hrk]at p2;have hf1:a%F<8:=Nat.lt_of_lt_of_le (Nat.mod_lt _ (by omega)) hF.2;have hf2:b%F<8:=Nat.lt_of_lt_of_le (Nat.mod_lt _ (by omega)) hF.2;have hr1:a/F<64:=Nat.lt_of_le_of_lt (Nat.div_le_self _ _) (Nat.lt_of_lt_of_le ha (Nat.mul_le_mul hF.2 hR.2));have hab':(((a:Nat):Int)==(b:Int))=false:=by simp;omega
 have hs:=fun x W=>wW x W
 have hne:((((b%F:Nat):Int)-((a%F:Nat):Int)) != 0)=true:=by have h1:=Nat.div_add_mod a F;have h2:=Nat.div_add_mod b F;rw[hrk]at h2;simp only[bne_iff_ne,ne_eq];omega
 have h0:sgn3 0=0:=rfl;clear hrk;generalize a%F=u at *;generalize b%F=v at *;generalize a/F=k at *;have⟨hc0,hl0⟩:=hA.cl;go_enter Tryz.func170,Tryz.ntmps170;go_wp2_with fail;refine(p1 _).mono ?_;rintro e w2 ⟨rfl,hb2⟩;have hA2:=hA.call hb2;have hB2:=zbc hB hb2;clear hc0 hl0 hA hB p1;have⟨hc2,hl2⟩:=hA2.cl;go_wp2_with fail;refine(p2 _).mono ?_;rintro e w3 ⟨rfl,hb3⟩;have hB3:=zbc hB2 hb3;clear p2 hc2 hl2;have e1:(k:Int)-k=0:=by omega
 go_wp2_with fail;refine(hs _ _).mono ?_;rintro e w4 ⟨rfl,rfl⟩;go_wp2_with fail;refine(hs _ _).mono ?_;rintro e w4 ⟨rfl,rfl⟩;go_wp2_with fail;go_ret3
 exact⟨rfl,hB3⟩
def btI(w:World)(F R a b:Nat)(qs q1:Nat)(dx dy:Int)(L:List Int)(fin:Nat)(c:Nat)(W:World):Prop :=
 Below w.heap.size w W∧ac W (w.heap.size+1) (.cells #[.int .i64 (b:Int)] 3 (0,0))∧ne F R a dx dy q1 (q1+1) (q1+2) (q1+3) W ∧
 (∃ S:Nat,ac W qs (.cells #[.int .u64 (S:Int)] 64 (0,0))∧S<2^64∧iX b L S=fin)∧c≤W.heap.size
theorem jt{w:World}{F R a b qs q1:Nat}{dx dy:Int}{L:List Int}{fin c:Nat}{W W':World}{lo hi:Nat}(h:btI w F R a b qs q1 dx dy L fin c W)(ha:Alt lo hi W W')(h1:q1+4≤lo)(h2:w.heap.size+2≤lo)(h3:qs<lo):btI w F R a b qs q1 dx dy L fin c W':=by obtain⟨b,i1,⟨r1,r2,r3,r4⟩,⟨S,s1,s2,s3⟩,i5⟩:=h;exact⟨ha.below b (by omega) b.size,ha.hasO i1 (by omega),⟨ha.hasO r1 (by omega),ha.hasO r2 (by omega),ha.hasO r3 (by omega),ha.hasO r4 (by omega)⟩,⟨S,ha.hasO s1 (by omega),s2,s3⟩,Nat.le_trans i5 ha.size⟩
theorem xZ{w:World}{F R a b qs q1:Nat}{dx dy:Int}{L L':List Int}{fin c S':Nat}{W:World}(h:btI w F R a b qs q1 dx dy L fin c W)(hs:S'<2^64)(hf:iX b L' S'=fin)(h1:qs<q1)(h2:w.heap.size+2≤qs):
  btI w F R a b qs q1 dx dy L' fin c (W.setCell ⟨qs,0,none⟩ (.int .u64 (S':Int))).drew∧Alt qs (qs+1) W (W.setCell ⟨qs,0,none⟩ (.int .u64 (S':Int))).drew:=by
 obtain⟨b,i1,⟨r1,r2,r3,r4⟩,⟨S,s1,s2,s3⟩,i5⟩:=h;have ha:Alt qs (qs+1) W (W.setCell ⟨qs,0,none⟩ (.int .u64 (S':Int))).drew:=(Alt.setCell (by simp)).trans (Alt.drewN 1);exact⟨⟨ha.below b (by omega) b.size,ha.hasO i1 (by omega),⟨ha.hasO r1 (by omega),ha.hasO r2 (by omega),ha.hasO r3 (by omega),ha.hasO r4 (by omega)⟩,⟨S',s1.set_ 0 (.int .u64 (S':Int)),hs,hf⟩,Nat.le_trans i5 ha.size⟩,ha⟩
theorem pR(F R a b:Nat)(hF:3≤F∧F≤8)(hR:3≤R∧R≤8)(ha:a<F*R)(hb:b<F*R)(hab:a≠b)(hrk:b/F=a/F)(w:World):
  Clz 118 #[.agg #[.int .i64 F,.int .i64 R],.int .i64 a,.int .i64 b] w fun e w'=>e=.returned (.tuple #[.int .u64 (btwW F R a b:Nat),.int .i64 0])∧Below w.heap.size w w':=by
 have hq64:∀ dx dy,∀ x∈rayL F R a dx dy 8 1,0≤x∧x<64:=by intro dx dy x hx;have:=gV x hx;rw[←Int.natCast_mul]at this;have h2:F*R≤64:=Nat.mul_le_mul hF.2 hR.2;omega
 have hdr:=fun W=>yx F R a b hF hR ha hb hab hrk W
 have hV:btwW F R a b=iX b (rayL F R a (sgn3 (((b%F:Nat):Int)-(a%F:Nat))) 0 8 1) 0:=by unfold btwW;rw[hrk,Int.sub_self];rfl
 have hdx:(-1≤sgn3 (((b%F:Nat):Int)-(a%F:Nat))∧sgn3 (((b%F:Nat):Int)-(a%F:Nat))≤1)∧sgn3 (((b%F:Nat):Int)-(a%F:Nat))≠0:=by
  have h1:=Nat.div_add_mod a F;have h2:=Nat.div_add_mod b F;rw[hrk]at h2;unfold sgn3;split
  ·omega
  ·split
   ·omega
   ·omega
 generalize btwW F R a b=V at *;generalize sgn3 (((b%F:Nat):Int)-(a%F:Nat))=dx at *;replace hV:=zhd hV;refine(callsIn_wide (n:=3)).1 ?_;refine callsIn_of_wp_marks Tryz.func118 rfl trivial ?_ rfl;simp only[Tryz.ntmps118,List.size_toArray,List.length_cons,List.length_nil,Nat.reduceAdd,Nat.reduceSub,Array.replicate_succ,Array.replicate_zero,List.push_toArray,List.append_toArray,List.nil_append,List.cons_append];have hA:=(ac.new w (.cells #[.int .i64 (F:Int),.int .i64 (R:Int)] 23)).alloc (.cells #[.int .i64 (b:Int)] 3);have hO:=ac.new' (w.alloc (.cells #[.int .i64 (F:Int),.int .i64 (R:Int)] 23)) (.cells #[.int .i64 (b:Int)] 3) (q:=w.heap.size+1) (by simp);have hB:=(ae w (.cells #[.int .i64 (F:Int),.int .i64 (R:Int)] 23)).alloc (by simp) (.cells #[.int .i64 (b:Int)] 3);have⟨hcA,hlA⟩:=hA.cl;have⟨hcO,hlO⟩:=hO.cl;gi_wp2_with fail;generalize (w.alloc (.cells #[.int .i64 (F:Int),.int .i64 (R:Int)] 23)).alloc (.cells #[.int .i64 (b:Int)] 3)=v0 at *;refine⟨trivial,(callsIn_wide.2 (hdr _)).mono ?_⟩;rintro e w2 ⟨rfl,hb2⟩;have hA2:=hA.call hb2;have hO2:=hO.call hb2;have hB2:=zbc hB hb2;clear hcA hlA hcO hlO hA hO hB hdr;have⟨hcA,hlA⟩:=hA2.cl;have hb3:=ae w2 (.cells #[.int .u64 0] 64);have hS:=ac.new w2 (.cells #[.int .u64 0] 64);have hA3:=hA2.call hb3;have hO3:=hO2.call hb3;have hB3:=zbc hB2 hb3;have hqs:w.heap.size+2≤w2.heap.size:=by have:=hO2.lt;omega
 gi_wp2_with fail;refine⟨trivial,(callsIn_wide.2 (gZ F R a dx 0 _)).mono ?_⟩;rintro e u0 ⟨rfl,hRd,hbu,hsu⟩;obtain⟨qs,hqq⟩:∃ q,q=w2.heap.size:=⟨_,rfl⟩;rw[←hqq]at hS hqs ⊢;obtain⟨L0,hL0⟩:∃ L,L=rayL F R a dx 0 8 1:=⟨_,rfl⟩;rw[←hL0]at hV;have hqL0:∀ x∈L0,0≤x∧x<64:=by rw[hL0];exact hq64 _ _
 have hOu:=hO3.call hbu;have hSu:=hS.call hbu;have hBu:=zbc hB3 hbu;have hlSu:=hSu.lt;obtain⟨q1,hq1⟩:∃ q,q=(w2.alloc (.cells #[.int .u64 0] 64)).heap.size:=⟨_,rfl⟩;rw[←hq1]at hRd hsu ⊢;have hq1l:qs<q1:=by rw[hq1,hqq];simp
 have hI0:btI w F R a b qs q1 dx 0 L0 V u0.heap.size u0:=⟨hBu,hOu,hRd,⟨0,hSu,by decide,hV.out.symm⟩,Nat.le_refl _⟩;replace hq1:=zhd hq1;replace hL0:=zhd hL0;replace hqq:=zhd hqq;clear hcA hlA hS hOu hSu hRd hbu hV hq64;gi_wp2_with fail;refine cR (gf:=200) (lb:=#[.pointer (some ⟨q1,0,none⟩),.pointer (some ⟨q1+1,0,none⟩),.pointer (some ⟨q1+2,0,none⟩),.pointer (some ⟨q1+3,0,none⟩)]) 0 (fun a W h=>h) rfl (enters_of Tryz.func200 (by kernel_rfl) rfl) (gR F R a dx 0 q1 (q1+1) (q1+2) (q1+3) hF hR ha hdx.1 (by omega) (fun h=>hdx.2 h.1) L0 hL0.out) (fun _ _=>rfl)
  (fun c k W=>btI w F R a b qs q1 dx 0 (L0.drop k) V c W) (fun c W=>btI w F R a b qs q1 dx 0 [] V c W) ?hst0 ?hstx0 ?hRd0 ?hsz0 ?hszx0 ?h00 ?hbody0 ?hfin0 ?hcont0
 case hst0=>intro c k W W' hc h ha;exact jt h ha (by omega) (by omega) (by omega)
 case hstx0=>intro c W W' hc h ha;exact jt h ha (by omega) (by omega) (by omega)
 case hRd0=>intro c k W hc h;exact h.2.2.1
 case hsz0=>intro c k W hc h;exact h.2.2.2.2
 case hszx0=>intro c W hc h;exact h.2.2.2.2
 case hfin0=>intro c W h;rw[List.drop_length]at h;exact h
 case h00=>intro c W hb hc hz;obtain⟨b,i1,⟨r1,r2,r3,r4⟩,⟨S,s1,s2,s3⟩,i5⟩:=jt hI0 (Alt.call (lo:=u0.heap.size) (hi:=u0.heap.size) hb) (by omega) (by omega) (by omega);exact⟨b,i1,⟨r1,r2,r3,r4⟩,⟨S,s1,s2,s3⟩,by omega⟩
 case hbody0 =>
  rintro c k W hc hk h hT;have hkm:L0[k]?.getD 0∈L0:=by rw[List.getElem?_eq_getElem hk];exact List.getElem_mem hk
  have hxb:=hqL0 _ hkm;have hdr:L0.drop k=(L0[k]?.getD 0)::L0.drop (k+1):=by rw[List.getElem?_eq_getElem hk];exact List.drop_eq_getElem_cons hk
  obtain⟨x,hx⟩:∃ x:Nat,L0[k]?.getD 0=x:=⟨(L0[k]?.getD 0).toNat,by omega⟩;rw[hx]at hdr hxb;simp only[hx];have hx64:(x:Int)<64:=by omega
  clear hkm;replace hk:=zhd hk;replace hx:=zhd hx;gi_wp2_with fail;refine⟨fun q o _ h=>h,fun W2 ha hz hrec=>?_⟩;have h2:=jt h ha (by omega) (by omega) (by omega);have h2':=h2;obtain⟨b0,i1,ir,⟨S,s1,s2,s3⟩,i5⟩:=h2';have c9:=s1.cells 0;have f9:=s1.frozen;have l9:=s1.lt;have cO:=i1.cells 0;have lO:=i1.lt;replace hz:=zhd hz;rw[hdr]at s3;simp only[iX,Int.toNat_natCast]at s3;have wo:bits .or .u64 (S:Int) (IntKind.u64.wrap (2^x))=((S|||2^x:Nat):Int):=fp s2 (by omega);have s4:S|||2^x<2^64:=Nat.or_lt_two_pow s2 (Nat.pow_lt_pow_right (by decide) (by omega))
  rcases z1:((x:Int)==(b:Int))with _|_
  ·have z2:¬(x:Int)=b:=by simpa using z1
   rw[if_neg z2]at s3;replace s3:=zhd s3;clear z2;gi_wp2_with fail;gi_region
   all_goals
    replace wo:=zhd wo;obtain⟨h3,h4⟩:=xZ (L':=L0.drop (k+1)) (S':=S|||2^x) h2 s4 s3.out hq1l hqs;generalize (W2.setCell ⟨qs,0,none⟩ (.int .u64 ((S|||2^x:Nat):Int))).drew=W3 at *;clear c9 f9 l9 i1 ir s1 b0 h2 i5 cO lO;gi_wp2_with fail;exact⟨fun q o hq ho=>h4.hasO ho (.inr (by rcases hq with h|h|h<;>omega)),h3⟩
  ·have z2:(x:Int)=b:=by simpa using z1
   rw[if_pos z2]at s3;have h3:btI w F R a b qs q1 dx 0 [] V c W2:=⟨b0,i1,ir,⟨S,s1,s2,s3⟩,i5⟩;replace s3:=zhd s3;clear z2;gi_wp2_with fail;exact⟨fun q o hq ho=>ho,rfl,h3⟩
 intro c0 v1 hcc hJ hD;obtain⟨hB,hO,_,⟨S1,hS,hS1l,hS1⟩,_⟩:=hJ;replace hS1:Hid (S1=V):=zhd hS1;obtain⟨D0,hDD0⟩:∃ D,D=u0.heap.size:=⟨_,rfl⟩;rw[←hDD0]at hD ⊢;have c9:=hS.cells 0;have l9:=hS.lt;have hDl:w.heap.size≤D0:=by rw[hDD0];exact hBu.size
 replace hDD0:=zhd hDD0;gi_wp2_with fail;refine⟨by simp,.inl ⟨_,_,rfl,run_takeDeferred hD,?_⟩⟩;refine⟨_,results_tmp2 rfl _ _ _,rz ?_,?_⟩
 ·rw[hS1.out];rfl
 ·exact dH hB hDl hB.size
end Go.Proofs.YtefmplccbkmalaaGreatDoor
namespace Go.Proofs.YtefmplccbkmalaaGreatDoor
open Go.RowKit

theorem mQ(F R a:Nat)(y:Int)(hF:3≤F∧F≤8)(hR:3≤R∧R≤8)(ha:a<F*R)(hy:-2≤y∧y≤2)(g:Nat)(W:World)(h:ac W g (.cells #[.int .i64 0,.int .i64 y] 181 (0,0))):
  Clz 145 #[.agg #[.int .i64 F,.int .i64 R],.int .i64 a,.slice (some ⟨g,0,none⟩) 1 1] W fun e w'=>e=.returned (.int .u64 (leapW F R a [(0,y)] 1:Nat))∧Below W.heap.size W w':=by
 refine fU F R a g 0 1 [(0,y)] hF hR ha (fun x hx=>by simp at hx;subst hx;exact⟨by simp,hy⟩) (by simp) W ⟨h.lt,fun j hj=>?_⟩;obtain rfl:j=0:=by simp at hj;exact hj
 exact⟨h.cells 0,h.cells 1⟩
def uq(R:Nat)(bl:Bool):Int:=if bl then(R:Int)-2 else 1
theorem sj{a b:Nat}(ha:a<18446744073709551616)(hb:b<18446744073709551616):bits .andNot .u64 (a:Int) (b:Int)=((a&&&(2^64-1-b):Nat):Int):=u64_andNot_nat a b ha hb
theorem tA(F R a oc:Nat)(bl:Bool)(hF:3≤F∧F≤8)(hR:3≤R∧R≤8)(ha:a<F*R)(hoc:oc<2^(F*R))(w:World):
  Clz 120 #[.agg #[.int .i64 F,.int .i64 R],.bool bl,.int .i64 a,.int .u64 (oc:Nat)] w fun e w'=>e=.returned (.tuple #[.int .u64 (stpW F R bl a oc:Nat),.int .i64 0])∧Below w.heap.size w w':=by
 have hA:=ac.new w (.cells #[.int .i64 (F:Int),.int .i64 (R:Int)] 23);have hB:=ae w (.cells #[.int .i64 (F:Int),.int .i64 (R:Int)] 23);have hon:=fun W=>mu F R a oc hF hR ha hoc W
 have hfw:=fun W=>jA bl W
 have hsd:sdI bl=1∨sdI bl=-1:=by cases bl<;>simp[sdI]
 have hlp1:=fun g W h=>mQ F R a (sdI bl) hF hR ha (by omega) g W h
 have hlp2:=fun g W h=>mQ F R a (2*sdI bl) hF hR ha (by omega) g W h
 have hpw:=eE hF hR;have hoc64:oc<18446744073709551616:=Nat.lt_of_lt_of_le hoc hpw;have ho1:leapW F R a [(0,sdI bl)] 1<18446744073709551616:=Nat.lt_of_lt_of_le (bY _ _) hpw;have ho2:leapW F R a [(0,2*sdI bl)] 1<18446744073709551616:=Nat.lt_of_lt_of_le (bY _ _) hpw;have hV:stpW F R bl a oc=if(leapW F R a [(0,sdI bl)] 1&&&(2^64-1-oc))=0∨R<6∨((a/F:Nat):Int)≠uq R bl then leapW F R a [(0,sdI bl)] 1&&&(2^64-1-oc)else(leapW F R a [(0,sdI bl)] 1&&&(2^64-1-oc))|||(leapW F R a [(0,2*sdI bl)] 1&&&(2^64-1-oc)):=rfl
 generalize stpW F R bl a oc=V at *;have e1:=sj ho1 hoc64;have e2:=sj ho2 hoc64;have hn1:leapW F R a [(0,sdI bl)] 1&&&(2^64-1-oc)<18446744073709551616:=Nat.lt_of_le_of_lt Nat.and_le_left ho1;have hn2:leapW F R a [(0,2*sdI bl)] 1&&&(2^64-1-oc)<18446744073709551616:=Nat.lt_of_le_of_lt Nat.and_le_left ho2;have e3:=u64_or_nat _ _ hn1 hn2;generalize leapW F R a [(0,sdI bl)] 1&&&(2^64-1-oc)=n1 at *;generalize leapW F R a [(0,2*sdI bl)] 1&&&(2^64-1-oc)=n2 at *;generalize leapW F R a [(0,sdI bl)] 1=l1 at *;generalize leapW F R a [(0,2*sdI bl)] 1=l2 at *;have e4:sdI bl=if bl then -1 else 1:=rfl
 have e5:uq R bl=if bl then(R:Int)-2 else 1:=rfl
 generalize hsi:sdI bl=up at *;generalize hse:uq R bl=sc at *;clear hsi hse;have hk:Hid (wrap64 ((a:Int)/F)=((a/F:Nat):Int)):=zhd (yG a F (Nat.lt_of_lt_of_le ha (Nat.le_trans (Nat.mul_le_mul hF.2 hR.2) (by decide))));generalize a/F=K at *;replace e1:=zhd e1;replace e2:=zhd e2;replace e3:=zhd e3;replace hV:=zhd hV;have⟨hc0,hl0⟩:=hA.cl;cases bl
 ·simp only[Bool.false_eq_true,if_false]at e4 e5;subst e4;replace e5:=zhd e5;go_enter Tryz.func120,Tryz.ntmps120;go_wp2_with fail;refine(hon _).mono ?_;rintro e w2 ⟨rfl,hb2⟩;have hA2:=hA.call hb2;have hB2:=zbc hB hb2;clear hc0 hl0 hA hB hon;have⟨hc2,hl2⟩:=hA2.cl;go_wp2_with fail;refine(hfw _).mono ?_;rintro e w3 ⟨rfl,rfl⟩;go_wp2_with fail;refine(hlp1 _ _ (ac.new _ _)).mono ?_;rintro e w4 ⟨rfl,hb4⟩;have hb5:=aI (ae _ _) (by simp) hb4;have hA3:=hA2.call hb5;have hB3:=zbc hB2 hb5;clear hc2 hl2 hlp1;have⟨hc2,hl2⟩:=hA3.cl;have e1:=e1.out;have hV:=hV.out;rcases z1:((n1:Int)==0)with _|_
  ·have y1:¬n1=0:=by simpa using z1
   rcases z2:decide ((R:Int)<6)with _|_
   ·have y2:¬R<6:=by simp at z2;omega
    rcases z3:((K:Int) != 1)with _|_
    ·have hV:Hid (V=n1|||n2):=zhd (by rw[hV,e5.out,if_neg (by simp at z3;simp[y1,y2,z3])]);have hk:=hk.out;go_wp2_with fail;refine(hlp2 _ _ (ac.new _ _)).mono ?_;rintro e w5 ⟨rfl,hb4⟩;have hb5:=aI (ae _ _) (by simp) hb4;have hB4:=zbc hB3 hb5;have e2:=e2.out;have e3:=e3.out;go_wp2_with fail;go_ret2
     exact⟨by rw[hV.out];rfl,hB4⟩
    ·have hV:Hid (V=n1):=zhd (by rw[hV,e5.out,if_pos (by simp at z3;simp[z3])]);have hk:=hk.out;go_wp2_with fail;go_ret2
     exact⟨by rw[hV.out];rfl,hB3⟩
   ·have hV:Hid (V=n1):=zhd (by rw[hV,if_pos (by simp at z2;omega)]);go_wp2_with fail;go_ret2
    exact⟨by rw[hV.out];rfl,hB3⟩
  ·have hV:Hid (V=n1):=zhd (by rw[hV,if_pos (by simp at z1;omega)]);go_wp2_with fail;go_ret2
   exact⟨by rw[hV.out];rfl,hB3⟩
 ·simp only[if_true]at e4 e5;subst e4;replace e5:=zhd e5;go_enter Tryz.func120,Tryz.ntmps120;go_wp2_with fail;refine(hon _).mono ?_;rintro e w2 ⟨rfl,hb2⟩;have hA2:=hA.call hb2;have hB2:=zbc hB hb2;clear hc0 hl0 hA hB hon;have⟨hc2,hl2⟩:=hA2.cl;go_wp2_with fail;refine(hfw _).mono ?_;rintro e w3 ⟨rfl,rfl⟩;go_wp2_with fail;refine(hlp1 _ _ (ac.new _ _)).mono ?_;rintro e w4 ⟨rfl,hb4⟩;have hb5:=aI (ae _ _) (by simp) hb4;have hA3:=hA2.call hb5;have hB3:=zbc hB2 hb5;clear hc2 hl2 hlp1;have⟨hc2,hl2⟩:=hA3.cl;have e1:=e1.out;have hV:=hV.out;rcases z1:((n1:Int)==0)with _|_
  ·have y1:¬n1=0:=by simpa using z1
   rcases z2:decide ((R:Int)<6)with _|_
   ·have y2:¬R<6:=by simp at z2;omega
    rcases z3:((K:Int) != (R:Int)-2)with _|_
    ·have hV:Hid (V=n1|||n2):=zhd (by rw[hV,e5.out,if_neg (by simp at z3;simp[y1,y2,z3])]);have hk:=hk.out;go_wp2_with fail;refine(hlp2 _ _ (ac.new _ _)).mono ?_;rintro e w5 ⟨rfl,hb4⟩;have hb5:=aI (ae _ _) (by simp) hb4;have hB4:=zbc hB3 hb5;have e2:=e2.out;have e3:=e3.out;go_wp2_with fail;go_ret2
     exact⟨by rw[hV.out];rfl,hB4⟩
    ·have hV:Hid (V=n1):=zhd (by rw[hV,e5.out,if_pos (by simp at z3;simp[z3])]);have hk:=hk.out;go_wp2_with fail;go_ret2
     exact⟨by rw[hV.out];rfl,hB3⟩
   ·have hV:Hid (V=n1):=zhd (by rw[hV,if_pos (by simp at z2;omega)]);go_wp2_with fail;go_ret2
    exact⟨by rw[hV.out];rfl,hB3⟩
  ·have hV:Hid (V=n1):=zhd (by rw[hV,if_pos (by simp at z1;omega)]);go_wp2_with fail;go_ret2
   exact⟨by rw[hV.out];rfl,hB3⟩
end Go.Proofs.YtefmplccbkmalaaGreatDoor
namespace Go.Proofs.YtefmplccbkmalaaGreatDoor
open Go.RowKit Go.Sort Go.BigFrame

theorem goB(pr K X:Int):((pr != 0)==(K==X))=(true&&(decide (pr≠0)==decide (K=X))):=by
 have e1:(K==X)=decide (K=X):=rfl;have e2:(pr != 0)=decide (pr≠0):=by by_cases h:pr=0<;>simp[h]
 rw[e1,e2];rfl
theorem wZ(F R a oc:Nat)(bl:Bool)(hF:3≤F∧F≤8)(hR:3≤R∧R≤8)(_:oc<2^(F*R)):stpW F R bl a oc<18446744073709551616:=by
 have hp:=eE hF hR;have h1:∀ st,leapW F R a st 1&&&(2^64-1-oc)<18446744073709551616:=fun st=>Nat.lt_of_le_of_lt Nat.and_le_left (Nat.lt_of_lt_of_le (bY _ _) hp)
 unfold stpW;simp only[];repeat' split
 all_goals first
  | exact h1 _
  | exact Nat.or_lt_two_pow (n:=64) (h1 _) (h1 _)
theorem vk(F R a b:Nat)(ca pa ha fu pr:Int)(bl:Bool)(p:Option Addr)(c:Nat)(xs:List Int)(hF:3≤F∧F≤8)(hR:3≤R∧R≤8)(hlen:xs.length=F*R)(hor:aF F R xs=true)(hal:a<F*R)(hbl:b<F*R)(hx0:xs[a]?.getD 0≠0)
  (w:World) (hg:bq w) (hx:Arr .i8 w p xs) :
  Clz 63 #[.agg (aa F R p xs.length c bl ca pa ha fu).toArray,.agg #[.int .i64 a,.int .i64 b,.int .i8 pr]] w fun e w'=>e=.returned (.bool (goesW ⟨F,R,xs,bl,ca,pa,ha,fu⟩ ⟨a,b,pr⟩))∧Below w.heap.size w w':=by
 have hbo:aL F R xs=true:=by unfold aF at hor;simp only[Bool.and_eq_true]at hor;exact hor.1
 have h6:=ea hor;have hocl:setW gNon xs xs.length<2^(F*R):=by
  rw[←hlen];apply Nat.lt_pow_two_of_testBit
  intro i hi;rw[setW_bit];simp;omega
 have hla:a<xs.length:=by omega
 have hlb:b<xs.length:=by omega
 have hax:-6≤xs[a]?.getD 0∧xs[a]?.getD 0≤6:=h6 _ (by rw[List.getElem?_eq_getElem hla];exact List.getElem_mem hla);have hoc:=fun W h=>qt F R ca pa ha fu bl p c xs W h hbo
 have hre:=fun k hk W hg=>iT F R a (setW gNon xs xs.length) k hk hF hR hal hocl W hg
 have hst:=fun W=>tA F R a (setW gNon xs xs.length) bl hF hR hal hocl W
 have hsl:=wZ F R a (setW gNon xs xs.length) bl hF hR hocl;have hpw:=fun W=>nG F R a bl hF hR hal W
 have hV:goesW ⟨F,R,xs,bl,ca,pa,ha,fu⟩ ⟨a,b,pr⟩=if kindI (xs[a]?.getD 0)≠1 then decide (pr=0)&&(reachW F R a (setW gNon xs xs.length) (kindI (xs[a]?.getD 0))).testBit b else
   (stpW F R bl a (setW gNon xs xs.length)|||(if xs[b]?.getD 0=0∧(b:Int)≠pa then 0 else leapW F R a (pwnL bl) 2)).testBit b&&(decide (pr≠0)==decide (((b/F:Nat):Int)=(if bl then 0 else(R:Int)-1))):=rfl
 generalize goesW ⟨F,R,xs,bl,ca,pa,ha,fu⟩ ⟨a,b,pr⟩=V at *;generalize setW gNon xs xs.length=oc at *;have hrl:=fun k=>(reachW_lt k:reachW F R a oc k<_)
 obtain⟨g,o,rfl,hgl,hcc⟩:=hx.at hla;have hca:=hcc a hla;have hcb:=hcc b hlb;obtain⟨x,hxe⟩:∃ x,xs[a]?.getD 0=x:=⟨_,rfl⟩;obtain⟨y,hye⟩:∃ y,xs[b]?.getD 0=y:=⟨_,rfl⟩;rw[hxe]at hca hax hx0 hV;rw[hye]at hcb hV;have hkd:=fun W=>eI x (by omega) W
 have hA:=ac.new w (.cells (aa F R (some ⟨g,o,none⟩) xs.length c bl ca pa ha fu).toArray 26);have hB:=ae w (.cells (aa F R (some ⟨g,o,none⟩) xs.length c bl ca pa ha fu).toArray 26);have hM:=ac.new' (w.alloc (.cells (aa F R (some ⟨g,o,none⟩) xs.length c bl ca pa ha fu).toArray 26)) (.cells #[.int .i64 a,.int .i64 b,.int .i8 pr] 40) (q:=w.heap.size+1) (by simp);have hb0:=ae (w.alloc (.cells (aa F R (some ⟨g,o,none⟩) xs.length c bl ca pa ha fu).toArray 26)) (.cells #[.int .i64 a,.int .i64 b,.int .i8 pr] 40);have hA1:=hA.call hb0;have hB1:=zbc hB hb0;have hg1:=hg.call hB1;have hx1:=hx.call hB1;have hgl1:g<((w.alloc (.cells (aa F R (some ⟨g,o,none⟩) xs.length c bl ca pa ha fu).toArray 26)).alloc (.cells #[.int .i64 a,.int .i64 b,.int .i8 pr] 40)).heap.size:=Nat.lt_of_lt_of_le hgl hB1.size;have hca1:=(iB hB1).1 g (o+a) hgl;have hcb1:=(iB hB1).1 g (o+b) hgl;rw[hca]at hca1;rw[hcb]at hcb1;clear hcc hca hcb hA hB hx hg hgl;have hlt1:=hA1.lt;have hlt2:=hM.lt;have c1:=hA1.cells;have c2:=hM.cells;have hii:(a:Int)<xs.length:=by omega
 have hjj:(b:Int)<xs.length:=by omega
 replace hlen:=zhd hlen;replace hor:=zhd hor;replace hbo:=zhd hbo;replace hxe:=zhd hxe;replace hye:=zhd hye;go_enter Tryz.func63,Tryz.ntmps63;go_wp2_with fail;refine(hkd _).mono ?_;rintro e w2 ⟨rfl,rfl⟩;by_cases hk1:kindI x=1
 ·have hkk:((kindI x:Int) != 1)=false:=by simp[hk1]
  have hR1:stpW F R bl a oc<18446744073709551616:=hsl;generalize stpW F R bl a oc=S1 at *;have hR2:leapW F R a (pwnL bl) 2<18446744073709551616:=Nat.lt_of_lt_of_le (bY _ _) (eE hF hR);generalize leapW F R a (pwnL bl) 2=S2 at *;rw[if_neg (by simp[hk1])]at hV;obtain⟨Lv,hLv⟩:∃ Lv:Int,Lv=if bl then(0:Int)else(R:Int)-1:=⟨_,rfl⟩
  rw[←hLv]at hV;generalize kindI x=k at *;generalize (w.alloc (.cells (aa F R (some ⟨g,o,none⟩) xs.length c bl ca pa ha fu).toArray 26)).alloc (.cells #[.int .i64 a,.int .i64 b,.int .i8 pr] 40)=w1 at *;have hb64:b<64:=Nat.lt_of_lt_of_le hbl (Nat.le_trans (Nat.mul_le_mul hF.2 hR.2) (by decide));have hbi:(b:Int)<64:=by omega
  have hwd:Hid (wrap64 ((b:Int)/F)=((b/F:Nat):Int)):=zhd (yG b F (by omega));generalize b/F=K at *;have hR12:S1|||S2<18446744073709551616:=Nat.or_lt_two_pow (n:=64) hR1 hR2
  have c81:=dK (x:=b) hR1;have c82:=dK (x:=b) hR12;have o0:bits .or .u64 (S1:Int) 0=S1:=by have:=u64_or_nat S1 0 hR1 (by decide);rw[Nat.or_zero]at this;exact this
  have o1:=u64_or_nat S1 S2 hR1 hR2;obtain⟨S12,hS12⟩:∃ n,n=S1|||S2:=⟨_,rfl⟩
  rw[←hS12]at o1 c82 hR12;have hn12:Hid (S1|||S2=S12):=zhd hS12.symm;clear hS12;replace hR1:=zhd hR1;replace o0:=zhd o0;replace o1:=zhd o1;replace hV:=zhd hV;replace c81:=zhd c81;replace c82:=zhd c82;clear hrl hsl hre;cases bl
  all_goals
   simp only[Bool.false_eq_true,if_true,if_false]at hLv;go_wp2_with fail;have m1:=am hA1;have m2:=am hM;have t2:=ax (w:=w1) (fun W h=>hoc W (hx1.call h));have t3:=ax (w:=w1) (fun W _=>hst W);refine ag (by kernel_rfl) (by kernel_rfl) ?_;repeat(go_big_quiet_step (first|with_reducible exact t2 _ _|with_reducible exact t3 _ _))
   refine wpQuiet_nil ?_;intro w3 hb3;have hB3:=zbc hB1 hb3;have hM3:=hM.call hb3;have hA3:=hA1.call hb3;have hcb3:=(iB hb3).1 g (o+b) hgl1;rw[hcb1]at hcb3;clear c1 c2 m1 m2 t2 t3 hlt1 hlt2 hoc hst hM hcb1 hca1;have c1:=hA3.cells;have c2:=hM3.cells;have hlt1:=hA3.lt;have hlt2:=hM3.lt;go_wp2_with fail;refine(hpw _).mono ?_;rintro e w4 ⟨rfl,hb4⟩;have hB4:=zbc hB3 hb4;have hM4:=hM3.call hb4;have hA4:=hA3.call hb4;have hcb4:=(iB hb4).1 g (o+b) (Nat.lt_of_lt_of_le hgl1 hb3.size);rw[hcb3]at hcb4;clear c1 c2 hlt1 hlt2 hpw hcb3;have c1:=hA4.cells;have c2:=hM4.cells;have hlt1:=hA4.lt;have hlt2:=hM4.lt;have m1:=am hA4;have m2:=am hM4;have hwd:=hwd.out;have o0:=o0.out;have o1:=o1.out;have hVn:¬(y=0∧(b:Int)≠pa)→Hid (V=(S12.testBit b&&decide (pr≠0)==decide ((K:Int)=Lv))):=fun h=>zhd (by rw[hV.out,if_neg h,hn12.out])
   rcases z1:(y==0)with _|_
   rotate_left
   rcases z2:((b:Int) != pa)with _|_
   rotate_left
   ·have hV:Hid (V=(S1.testBit b&&decide (pr≠0)==decide ((K:Int)=Lv))):=zhd (by simp at z1 z2;rw[hV.out];simp[z1,z2]);have c8:=c81.out;have hR1:=hR1.out;rcases z3:S1.testBit b with _|_
    ·rw[z3]at c8;go_wp2_with fail;refine ag (by kernel_rfl) (by kernel_rfl) ?_;repeat(go_big_quiet_step (fail))
     refine wpQuiet_nil ?_;intro w5 hb5;go_wp2_with fail;go_ret;exact⟨aV (by rw[hV.out,z3];rfl),zbc hB4 hb5⟩
    ·rw[z3]at c8;go_wp2_with fail;refine ag (by kernel_rfl) (by kernel_rfl) ?_;repeat(go_big_quiet_step (fail))
     refine wpQuiet_nil ?_;intro w5 hb5;go_wp2_with fail;go_ret;exact⟨aV (by rw[hV.out,z3,hLv];exact goB _ _ _),zbc hB4 hb5⟩
   all_goals
    have hV:=hVn (by first|(simp at z1;simp[z1];done)|(simp at z2;simp[z2]));have c8:=c82.out;rcases z3:S12.testBit b with _|_
    ·rw[z3]at c8;go_wp2_with fail;refine ag (by kernel_rfl) (by kernel_rfl) ?_;repeat(go_big_quiet_step (fail))
     refine wpQuiet_nil ?_;intro w5 hb5;go_wp2_with fail;go_ret;exact⟨aV (by rw[hV.out,z3];rfl),zbc hB4 hb5⟩
    ·rw[z3]at c8;go_wp2_with fail;refine ag (by kernel_rfl) (by kernel_rfl) ?_;repeat(go_big_quiet_step (fail))
     refine wpQuiet_nil ?_;intro w5 hb5;go_wp2_with fail;go_ret;exact⟨aV (by rw[hV.out,z3,hLv];exact goB _ _ _),zbc hB4 hb5⟩
 ·have hkk:((kindI x:Int) != 1)=true:=by simp[hk1]
  have hk26:2≤kindI x∧kindI x≤6:=by unfold kindI at hk1 ⊢;split<;>omega
  generalize kindI x=k at *;go_wp2_with fail;generalize (w.alloc (.cells (aa F R (some ⟨g,o,none⟩) xs.length c bl ca pa ha fu).toArray 26)).alloc (.cells #[.int .i64 a,.int .i64 b,.int .i8 pr] 40)=w1 at *;have m1:=am hA1;have m2:=am hM;have t1:=aJ (w:=w1) hkd;have t2:=ax (w:=w1) (fun W h=>hoc W (hx1.call h));have t3:=ax (w:=w1) (fun W h=>hre k hk26 W (hg1.call h));refine ag (by kernel_rfl) (by kernel_rfl) ?_;repeat(go_big_quiet_step (first|with_reducible exact t1 _ _|with_reducible exact t2 _ _|with_reducible exact t3 _ _))
  refine wpQuiet_nil ?_;intro w3 hb3;have hB3:=zbc hB1 hb3;have hM3:=hM.call hb3;have hR3:=hrl k;generalize reachW F R a oc k=S at *;rw[if_pos hk1]at hV;replace hV:=zhd hV;have c8:=dK (x:=b) (Nat.lt_of_lt_of_le hR3 (eE hF hR));have hb64:b<64:=Nat.lt_of_lt_of_le hbl (Nat.le_trans (Nat.mul_le_mul hF.2 hR.2) (by decide));have hbi:(b:Int)<64:=by omega
  clear c1 c2 m1 m2 t1 t2 t3 hlt1 hlt2 hrl hre hst hpw hoc hkd hM;have⟨c2,hlt2⟩:=hM3.cl;rcases z1:(pr==0)with _|_
  ·go_wp2_with fail;go_ret;exact⟨aV (by simp at z1;rw[hV.out];simp[z1]),hB3⟩
  ·rcases z2:S.testBit b with _|_
   all_goals
    rw[z2]at c8;go_wp2_with fail;go_ret;exact⟨aV (by simp at z1;rw[hV.out];simp[z1,z2]),hB3⟩
end Go.Proofs.YtefmplccbkmalaaGreatDoor
namespace Go.Proofs.YtefmplccbkmalaaGreatDoor
open Go Go.Sort Go.RowKit

def vy(o:Op):Bool:=match o with
 | .move _ | .assign _ | .pick _ _ _ | .load _ _ | .binOp _ _ _ _ _ | .unOp _ _ _ | .fieldAddr _ _ _ | .field _ _ _ | .indexAddr _ _ _ | .index _ _ _ | .extract _ _ | .build _ _ | .convert _ _ _=>true
 | _=>false
theorem ve{P:Program}{o:Oper}(h:vy o.op=true)(ρ:Operand→Value)(w:World){f:FuncId}{args:Array Value}{w':World}:(execOp ρ o).run P w≠.ok (.enter f args) w':=by
 have key:∀ s:Sem Value,(do pure (Next.value (←s)):Sem Next).run P w≠.ok (.enter f args) w':=by
  intro s;rw[Sem.run_bind];cases s.run P w with
  | ok v w2=>intro e;cases e
  | halt x w2=>intro e;cases e
 have key3:∀(s:Sem Bool) (g:Bool→Value),(do pure (Next.value (g (←s))):Sem Next).run P w≠.ok (.enter f args) w':=by
  intro s g;rw[Sem.run_bind];cases s.run P w with
  | ok v w2=>intro e;cases e
  | halt x w2=>intro e;cases e
 unfold vy at h;unfold execOp;split at h
 all_goals first
  | (cases h;done)
  | (rename_i e;simp only[e];first|exact key _|exact key3 _ (fun b=>if b=true then _ else _)|(intro e2;cases e2))
section
variable {P:Program} {ops:Array Oper} {C:Nat→World→Prop} {st:List Nat} {tg:List (Nat×Nat)}
def cT(st:List Nat)(listed:Array Bool):Nat:=bX (fun i=>listed.getD i false) st
def dM(P:Program)(ops:Array Oper)(C:Nat→World→Prop)(st:List Nat)(tg:List (Nat×Nat))(i:Nat)(o:Oper)(v:Value)(a:Act):Prop :=
 (Region.wanted o (yielded ops a.tmps)=true∧st.contains i=false∧∀ k,(tg.getD i (1,0)).1≤k→k≤(tg.getD i (1,0)).2→∀ w,C k w→o.quietAt P a (C k) w v) ∨
 (Region.wanted o (yielded ops a.tmps)=true∧v=undef∧∃ j,st[j]? = some i∧∀ w,C j w→∃ w',(execOp a.eval o).run P w=.ok .skip w'∧C (j+1) w') ∨
 (Region.wanted o (yielded ops a.tmps)=false∧st.contains i=false∧v=undef)
def tOp(P:Program)(ops:Array Oper)(C:Nat→World→Prop)(st:List Nat)(tg:List (Nat×Nat))(i:Nat)(K:Act→Prop)(a:Act):Prop:=∃ o v,ops[i]? = some o∧dM P ops C st tg i o v a∧K (a.put o.dst v)
theorem dM.of_same{i:Nat}{o:Oper}{v:Value}{a a':Act}(hy:dM P ops C st tg i o v a)(he:execOp a'.eval o=execOp a.eval o)
  (hw:Region.wanted o (yielded ops a'.tmps)=Region.wanted o (yielded ops a.tmps)):dM P ops C st tg i o v a':=by
 unfold dM Oper.quietAt at *;rw[he,hw];exact hy
theorem uI{i:Nat}{a:Act}{K K':Act→Prop}(h:∀ a,K a→K' a):tOp P ops C st tg i K a→tOp P ops C st tg i K' a:=fun⟨o,v,h1,h2,h3⟩=>⟨o,v,h1,h2,h _ h3⟩
theorem xX{i j:Nat}{oi oj:Oper}{v:Value}(hj:ops[j]? = some oj)(hap:oi.apart ops oj=true)
  (hsi:∀ cs b,oi.op≠.select cs b) (hsj:∀ cs b,oj.op≠.select cs b) {K:Act→Prop} {a:Act}
  (hy:dM P ops C st tg i oi v a) (h:tOp P ops C st tg j K (a.put oi.dst v)) :
  tOp P ops C st tg j (fun a'=>dM P ops C st tg i oi v a'∧K (a'.put oi.dst v)) a:=by
 obtain⟨h1,h2,h3⟩:=Oper.apart_spec hap;obtain⟨o,u,ho,hu,hK⟩:=h;obtain rfl:oj=o:=Option.some.inj (hj.symm.trans ho);refine⟨oj,u,hj,hu.of_same (execOp_put oj hsj a oi.dst v h1).symm (wanted_put oj a oi.dst v h1).symm,?_,?_⟩
 ·exact hy.of_same (execOp_put oi hsi a oj.dst u h3) (wanted_put oi a oj.dst u h3)
 ·rw[←Act.put_comm a v u h2];exact hK
def jf(P:Program)(ops:Array Oper)(C:Nat→World→Prop)(st:List Nat)(tg:List (Nat×Nat))(Q:Act→Prop):Nat→Array Bool→Act→Prop
 | 0,listed,a=>Region.ready .any ops listed=[]∧Q a
 | f+1,listed,a=>(Region.ready .any ops listed=[]→Q a)∧∀ i∈Region.ready .any ops listed,tOp P ops C st tg i (jf P ops C st tg Q f (listed.setIfInBounds i true)) a
theorem nt{Q:Act→Prop}{i:Nat}{oi:Oper}{v:Value}(hi:ops[i]? = some oi)(hsel:∀(j:Nat) (o:Oper) cs b,ops[j]? = some o→o.op≠.select cs b):
  ∀(f:Nat) (listed:Array Bool) (a:Act),
   (∀ j oj,ops[j]? = some oj→j≠i→listed.getD j true=false→(∀ e∈oj.after,Region.binds .any e=true→e.on≠i)→oi.apart ops oj=true) →
   i∈Region.ready .any ops listed→dM P ops C st tg i oi v a →
   jf P ops C st tg Q f (listed.setIfInBounds i true) (a.put oi.dst v)→jf P ops C st tg Q (f+1) listed a:=by
 intro f;induction f with
 | zero =>
  intro listed a _ hr hy H;refine⟨fun h=>(by rw[h]at hr;cases hr),fun j hj=>?_⟩;by_cases hji:j=i
  ·subst hji;exact⟨oi,v,hi,hy,H⟩
  ·have:=ready_mono hj hji;rw[H.1]at this;cases this
 | succ f ih =>
  intro listed a hfree hr hy H;refine⟨fun h=>(by rw[h]at hr;cases hr),fun j hj=>?_⟩;by_cases hji:j=i
  ·subst hji;exact⟨oi,v,hi,hy,H⟩
  ·have h1:=H.2 j (ready_mono hj hji);obtain⟨hjun,oj,hoj,hall⟩:=mem_ready.1 hj;have hnot:∀ e∈oj.after,Region.binds .any e=true→e.on≠i:=fun e he hb heq=>by
    have h1:=hall e he hb;rw[heq,getD_both (mem_ready.1 hr).1]at h1;cases h1
   have h2:=xX hoj (hfree j oj hoj hji hjun hnot) (fun cs b=>hsel i oi cs b hi) (fun cs b=>hsel j oj cs b hoj) hy h1;have hfree':∀ k ok,ops[k]? = some ok→k≠i→(listed.setIfInBounds j true).getD k true=false →
     (∀ e∈ok.after,Region.binds .any e=true→e.on≠i)→oi.apart ops ok=true:=fun k ok hk hki hun hno=>by
    refine hfree k ok hk hki ?_ hno;by_cases hjk:j=k
    ·subst hjk;exact hjun
    ·rw[Go.getD_set_ne true hjk]at hun;exact hun
   refine uI (fun a' h3=>ih (listed.setIfInBounds j true) a' hfree' (ready_mono hr (Ne.symm hji)) h3.1 ?_) h2;rw[Array.setIfInBounds_comm _ _ hji];exact h3.2
def wpT(P:Program)(ops:Array Oper)(C:Nat→World→Prop)(st:List Nat)(tg:List (Nat×Nat))(Q:Act→Prop):List Oper→Nat→Act→Prop
 | [],_,a=>Q a
 | o::l,i,a=>∃ v,dM P ops C st tg i o v a∧wpT P ops C st tg Q l (i+1) (a.put o.dst v)
theorem ln{Q:Act→Prop}(hs:Region.noSelect ops=true):∀(l:List Oper) (k:Nat) (listed:Array Bool) (a:Act),(∀ j,l[j]? = ops[k+j]?) →
  Region.lexFrom .any ops l.length k listed=true→wpT P ops C st tg Q l k a→jf P ops C st tg Q l.length listed a
 | [],_,_,_,_,hB,h=>⟨by simpa[Region.lexFrom]using hB,h⟩
 | o::l,k,listed,a,hl,hB,h=>by
  have h0:ops[k]? = some o:=by simpa using(hl 0).symm
  simp only[List.length_cons,Region.lexFrom,Bool.and_eq_true]at hB;obtain⟨⟨hr,hf⟩,hB'⟩:=hB;obtain⟨v,hy,hK⟩:=h;exact nt h0 (Region.noSelect_spec hs) l.length listed a (Region.free_spec h0 hf) (by simpa using hr) hy
   (ln hs l (k+1) _ _ (fun j=>by have:=hl (j+1);simpa[Nat.add_assoc,Nat.add_comm 1 j]using this) hB' hK)
def loB(ops:Array Oper)(st:List Nat)(tg:List (Nat×Nat))(i:Nat):Bool:=((tg.getD i (1,0)).1==0||(st[(tg.getD i (1,0)).1-1]?).any (fun t=>Region.waitsFor .any ops i t))||(List.range i).any fun j=>Region.waitsFor .any ops i j&&(!st.contains j&&decide ((tg.getD i (1,0)).1≤(tg.getD j (1,0)).1))
def hiB(ops:Array Oper)(st:List Nat)(tg:List (Nat×Nat))(i:Nat):Bool:=(decide (st.length≤(tg.getD i (1,0)).2)||(st[(tg.getD i (1,0)).2]?).any (fun t=>Region.waitsFor .any ops t i))||(List.range ops.size).any fun j=>decide (i<j)&&(Region.waitsFor .any ops j i&&(!st.contains j&&decide ((tg.getD j (1,0)).2≤(tg.getD i (1,0)).2)))
def nQ(ops:Array Oper)(st:List Nat)(tg:List (Nat×Nat)):Bool:=(List.range ops.size).all fun i=>st.contains i||(loB ops st tg i&&hiB ops st tg i)
theorem wK{S:Nat→Bool}(hcl:∀ j o',S j=true→ops[j]? = some o'→∀ e∈o'.after,Region.binds .any e=true→S e.on=true):∀(st:List Nat) (j i:Nat),bi ops st=true→st[j]? = some i→S i=true→j+1≤bX S st:=by
 intro st;induction st with
 | nil=>intro j i _ h;simp at h
 | cons s r ih =>
  intro j i hc hj hi;have hs:S s=true:=by
   rcases j with _|j
   ·simp only[List.getElem?_cons_zero,Option.some.injEq]at hj;rw[hj];exact hi
   ·rcases h:S s with _|_
    ·have:=gN hcl r s hc h i (List.mem_of_getElem? (by simpa using hj));rw[hi]at this;cases this
    ·rfl
  simp only[bX,hs,if_true];rcases j with _|j
  ·omega
  ·have hc2:bi ops r=true:=by
    cases r with
    | nil=>rfl
    | cons x r=>simp only[bi,Bool.and_eq_true]at hc;exact hc.2
   have:=ih j i hc2 (by simpa using hj) hi;omega
theorem yp{S:Nat→Bool}:∀(st:List Nat) (j i:Nat),st[j]? = some i→S i=false→bX S st≤j:=by
 intro st;induction st with
 | nil=>intro j i h;simp at h
 | cons s r ih =>
  intro j i hj hi;rcases j with _|j
  ·simp only[List.getElem?_cons_zero,Option.some.injEq]at hj;subst hj;simp[bX,hi]
  ·have:=ih j i (by simpa using hj) hi;simp only[bX];split<;>omega
structure fy(ops:Array Oper)(listed:Array Bool):Prop where
 size:listed.size=ops.size
 closed:∀ j oj,listed.getD j false=true→ops[j]? = some oj→∀ e∈oj.after,Region.binds .any e=true→listed.getD e.on false=true
theorem fy.set{i:Nat}{listed:Array Bool}(inv:fy ops listed)(hi:i∈Region.ready .any ops listed):fy ops (listed.setIfInBounds i true):=by
 obtain⟨_,oi,hoi,hall⟩:=mem_ready.1 hi;refine⟨by simp[inv.size],fun j oj hl hj e he hb=>?_⟩;by_cases hij:i=j
 ·subst hij;have:oj=oi:=Option.some.inj (hj.symm.trans hoi);subst this;exact getD_set_true (hall e he hb)
 ·rw[Go.getD_set_ne false hij]at hl;exact getD_set_true (inv.closed j oj hl hj e he hb)
theorem mf{i:Nat}{listed:Array Bool}(h:i<listed.size):(fun j=>(listed.setIfInBounds i true).getD j false)=upd (fun j=>listed.getD j false) i:=by
 funext j
 unfold upd;by_cases e:j=i
 ·subst e;simp[h]
 ·rw[if_neg e,Go.getD_set_ne false (fun h=>e h.symm)]
theorem jB{i t:Nat}{listed:Array Bool}(hi:i∈Region.ready .any ops listed)(h:Region.waitsFor .any ops i t=true):listed.getD t false=true:=by obtain⟨_,oi,hoi,hall⟩:=mem_ready.1 hi;obtain⟨oj,hj,e,he,hb,hon⟩:=Region.waitsFor_spec h;have:oj=oi:=Option.some.inj (hj.symm.trans hoi);subst this;rw[←hon];exact hall e he hb
theorem fV{j i:Nat}{listed:Array Bool}(inv:fy ops listed)(hj:listed.getD j false=true)(h:Region.waitsFor .any ops j i=true):listed.getD i false=true:=by obtain⟨oj,h1,e,he,hbd,hon⟩:=Region.waitsFor_spec h;rw[←hon];exact inv.closed j oj hj h1 e he hbd
theorem tv{listed:Array Bool}(hg:nQ ops st tg=true)(hc:bi ops st=true)(inv:fy ops listed):∀(n i:Nat),i<n→i<ops.size→st.contains i=false→(∀ t,Region.waitsFor .any ops i t=true→listed.getD t false=true)→(tg.getD i (1,0)).1≤cT st listed
 | 0,i,h,_,_,_=>by omega
 | n+1,i,hn,hlt,hs,hw=>by
  have h1:=List.all_eq_true.1 hg i (List.mem_range.2 hlt);simp only[hs,Bool.false_or,Bool.and_eq_true]at h1;have ha:=h1.1;unfold loB at ha;simp only[Bool.or_eq_true,beq_iff_eq,Option.any_eq_true,List.any_eq_true,List.mem_range,Bool.and_eq_true,Bool.not_eq_true',decide_eq_true_eq]at ha;rcases ha with(ha|⟨t,ht,h2⟩)|⟨j,hj,h2,h3,h4⟩
  ·omega
  ·have:=wK (S:=fun j=>listed.getD j false) inv.closed st _ t hc ht (hw t h2);unfold cT;omega
  ·have h5:=hw j h2;have:=tv hg hc inv n j (by omega) (by omega) h3 (fun t ht=>fV inv h5 ht);omega
theorem sG{listed:Array Bool}(hg:nQ ops st tg=true)(inv:fy ops listed):∀(n i:Nat),ops.size-i<n→i<ops.size→st.contains i=false→listed.getD i false=false→cT st listed≤(tg.getD i (1,0)).2
 | 0,i,h,_,_,_=>by omega
 | n+1,i,hn,hlt,hs,hl=>by
  have h1:=List.all_eq_true.1 hg i (List.mem_range.2 hlt);simp only[hs,Bool.false_or,Bool.and_eq_true]at h1;have hb:=h1.2;unfold hiB at hb;simp only[Bool.or_eq_true,Option.any_eq_true,List.any_eq_true,List.mem_range,Bool.and_eq_true,Bool.not_eq_true',decide_eq_true_eq]at hb;rcases hb with(hb|⟨t,ht,h2⟩)|⟨j,hj,hij,h2,h3,h4⟩
  ·exact Nat.le_trans (ql _ st) hb
  ·refine yp (S:=fun j=>listed.getD j false) st _ t ht ?_;rcases hx:listed.getD t false with _|_
   ·rfl
   ·rw[fV inv hx h2]at hl;cases hl
  ·rcases hx:listed.getD j false with _|_
   ·have:=sG hg inv n j (by omega) hj h3 hx;omega
   ·rw[fV inv hx h2]at hl;cases hl
theorem zG{i:Nat}{listed:Array Bool}(hg:nQ ops st tg=true)(hc:bi ops st=true)(inv:fy ops listed)(hi:i∈Region.ready .any ops listed)(hs:st.contains i=false):
  (tg.getD i (1,0)).1≤cT st listed∧cT st listed≤(tg.getD i (1,0)).2:=by
 have hlt:i<ops.size:=by obtain⟨_,oi,hoi,_⟩:=mem_ready.1 hi;exact(Array.getElem?_eq_some_iff.1 hoi).1
 exact⟨tv hg hc inv (i+1) i (by omega) hlt hs (fun t ht=>jB hi ht),sG hg inv (ops.size+1) i (by omega) hlt hs (getD_both (mem_ready.1 hi).1)⟩
theorem kL{Q:Act→Prop}{Q':Exit→Act→World→Prop}(hg:nQ ops st tg=true)(hc:bi ops st=true)(hn:st.Nodup)(hlt:∀ s∈st,s<ops.size)(hQ:∀ a w,C st.length w→Q a→Q' .normal a w):
  ∀(f:Nat) (listed:Array Bool) (a:Act) (w:World),fy ops listed→C (cT st listed) w→(Region.ready .any ops listed=[]→cT st listed=st.length)→(∀ l',fy ops l'→Region.ready .any ops l'=[]→cT st l'=st.length) →
   jf P ops C st tg Q f listed a→wpAny P .any ops Q' f listed a w
 | 0,listed,a,w,inv,hw,he,_,h=>⟨h.1,hQ _ _ (by rw[←he h.1];exact hw) h.2⟩
 | f+1,listed,a,w,inv,hw,he,hall,h=>⟨fun h0=>hQ _ _ (by rw[←he h0];exact hw) (h.1 h0),fun i hi=>by
  obtain⟨o,v,ho,hy,hK⟩:=h.2 i hi;have inv':=inv.set hi;have hir:i<listed.size:=by rw[inv.size];exact(Array.getElem?_eq_some_iff.1 ho).1
  have next:∀ w',C (cT st (listed.setIfInBounds i true)) w'→wpAny P .any ops Q' f (listed.setIfInBounds i true) (a.put o.dst v) w':=fun w' hw'=>kL hg hc hn hlt hQ f _ _ w' inv' hw' (hall _ inv') hall hK
  unfold wpOp;simp only[ho];rcases hy with⟨hwd,hs,hq⟩|⟨hwd,rfl,j,hj,ht⟩|⟨hwd,hs,rfl⟩
  ·have hcT:cT st (listed.setIfInBounds i true)=cT st listed:=by
    unfold cT;rw[mf hir]
    exact iy (fun hm=>by have:st.contains i=true:=by simpa using hm
                         rw[hs]at this;cases this)
   rw[hcT]at next;obtain⟨hb1,hb2⟩:=zG hg hc inv hi hs;have h3:=hq _ hb1 hb2 w hw;rw[if_pos hwd];refine .inl ?_;unfold Oper.quietAt at h3;unfold Oper.wp;generalize (execOp a.eval o).run P w=r at *;cases r with
   | ok n w' =>
    cases n<;>simp only[Oper.quietUpon]at h3<;>simp only[Oper.upon]
    case value u=>obtain⟨rfl,rfl⟩:=h3;exact next _ hw
    case skip=>obtain⟨rfl,rfl⟩:=h3;exact next _ hw
    case enter fn args=>obtain⟨rfl,hcall⟩:=h3;exact hcall.mono fun e w'' ⟨he,hw''⟩=>by subst he;exact next _ hw''
   | halt x w'=>simp only[Oper.quietUpon]at h3
  ·have hcl:=inv.closed;have hun:listed.getD i false=false:=getD_both (mem_ready.1 hi).1;obtain⟨e1,e2⟩:=qG (S:=fun j=>listed.getD j false) hcl st j i hc hn hj hun (fun p q hp hpj=>by
    have key:Region.waitsFor .any ops i q=true:=by
     have key2:∀(st:List Nat) (p q i:Nat),bi ops st=true→st[p]? = some q→st[p+1]? = some i→Region.waitsFor .any ops i q=true:=by
      intro st;induction st with
      | nil=>intro p q i _ h;simp at h
      | cons s r ih =>
       intro p q i hc h1 h2;rcases p with _|p
       ·simp only[List.getElem?_cons_zero,Option.some.injEq]at h1;subst h1;cases r with
        | nil=>simp at h2
        | cons t r =>
         simp only[List.getElem?_cons_succ,List.getElem?_cons_zero,Option.some.injEq]at h2;subst h2;simp only[bi,Bool.and_eq_true]at hc;unfold Region.waitsFor;rcases hot:ops[t]? with _|ot
         ·rw[hot]at hc;simp at hc
         ·rw[hot]at hc;simpa using hc.1
       ·have hc2:bi ops r=true:=by
         cases r with
         | nil=>rfl
         | cons x r=>simp only[bi,Bool.and_eq_true]at hc;exact hc.2
        exact ih p q i hc2 (by simpa using h1) (by simpa using h2)
     exact key2 st p q i hc hp (by rw[hpj];exact hj)
    exact jB hi key)
   have hcT:cT st (listed.setIfInBounds i true)=j+1:=by unfold cT;rw[mf hir];exact e2
   rw[hcT]at next;have hwj:C j w:=by have:cT st listed=j:=e1;rw[←this];exact hw
   obtain⟨w',hr,hw'⟩:=ht w hwj;rw[if_pos hwd];refine .inl ?_;unfold Oper.wp;rw[hr];exact next _ hw'
  ·have hcT:cT st (listed.setIfInBounds i true)=cT st listed:=by
    unfold cT;rw[mf hir]
    exact iy (fun hm=>by have:st.contains i=true:=by simpa using hm
                         rw[hs]at this;cases this)
   rw[hcT]at next;rw[if_neg (by rw[hwd];exact Bool.false_ne_true)];exact next _ hw⟩
theorem rF(hb:aW .any ops=true){listed:Array Bool}(inv:fy ops listed)(hr:Region.ready .any ops listed=[]):∀ i,i<ops.size→listed.getD i true=true:=by
 intro i;induction i using Nat.strongRecOn with
 | _ i ih =>
  intro hi;rcases h:listed.getD i true with _|_
  ·exfalso;have hm:i∈Region.ready .any ops listed:=by
    rw[mem_ready];refine⟨h,ops[i],Array.getElem?_eq_getElem hi,fun e he hbd=>?_⟩;have hb':=hb;unfold aW at hb';rw[List.all_eq_true]at hb';have h1:=hb' i (List.mem_range.2 hi);rw[Array.getElem?_eq_getElem hi]at h1;simp only[Option.map_some,Option.getD_some,Array.all_eq_true',Bool.or_eq_true,Bool.not_eq_true',decide_eq_true_eq]at h1;have h2:e.on<i:=by
     rcases h1 e he with h1|h1
     ·rw[hbd]at h1;cases h1
     ·exact h1
    have h3:=ih e.on h2 (by omega);have hl:e.on<listed.size:=by rw[inv.size];omega
    simpa[hl]using h3
   rw[hr]at hm;cases hm
  ·rfl
def stC(Wk:Nat→World)(k:Nat)(w':World):Prop:=∃ p:Regrown,w'=grow (redrawn (Wk k) p.d) p.os
structure As where
 k:Nat
 d:Nat
 os:Array Obj
 deriving Inhabited
def wl(ops:Array Oper)(st:List Nat)(tg:List (Nat×Nat)):Bool:=Region.lexB .any ops&&(aW .any ops&&(nQ ops st tg&&(bi ops st&&(decide st.Nodup&&st.all (fun s=>decide (s<ops.size))))))
theorem aR{id:Nat}{Q:Exit→Act→World→Prop}{a:Act}{w:World}{l:List Oper}(st:List Nat)(tg:List (Nat×Nat))(Wk:Nat→World)(hm:P.follows .mixedOrders=true)(hB:wl l.toArray st tg=true)(h0:Wk 0=w)
  (h:wpT P l.toArray (stC Wk) st tg (fun a'=>∀ w',Below (Wk st.length).heap.size (Wk st.length) w'→Q .normal a' w') l 0 a):(Code.region id l.toArray true).wp P Q a w:=by
 unfold wl at hB;simp only[Bool.and_eq_true,decide_eq_true_eq,List.all_eq_true]at hB;obtain⟨hlex,hb,hg,hc,hn,hlt⟩:=hB;unfold Region.lexB at hlex;simp only[Bool.and_eq_true]at hlex;have hall:∀ l',fy l.toArray l'→Region.ready .any l.toArray l'=[]→cT st l'=st.length:=by
  intro l' inv hr;refine nX (fun s hs=>?_);have hs2:=hlt s hs;have h1:=rF hb inv hr s hs2;have hl:s<l'.size:=by rw[inv.size];exact hs2
  simpa[hl]using h1
 have inv0:fy l.toArray (Array.replicate l.toArray.size false):=⟨by simp,fun j oj hl=>(by rw[getD_replicate_false]at hl;cases hl)⟩;have hc0:cT st (Array.replicate l.toArray.size false)=0:=iU (fun s _=>getD_replicate_false _ _);refine wp_region_any hm ?_;refine kL (C:=stC Wk) hg hc hn hlt (Q:=fun a'=>∀ w',Below (Wk st.length).heap.size (Wk st.length) w'→Q .normal a' w') ?_ _ _ _ _ inv0 ?_ (fun hr=>hall _ inv0 hr) hall ?_
 ·rintro a' w' ⟨p,rfl⟩ hq;exact hq _ (below_regrown _ _ _)
 ·rw[hc0,←h0];exact⟨⟨(Wk 0).drawn+1,#[]⟩,by rw[grow_empty];rfl⟩
 ·have:=ln (P:=P) (C:=stC Wk) (st:=st) (tg:=tg) hlex.1 l 0 (Array.replicate l.toArray.size false) a (by simp) (by simpa using hlex.2) h;simpa using this
section steps
variable {Wk:Nat→World} {Q:Act→Prop} {o:Oper} {l:List Oper} {i:Nat} {a:Act}
theorem a8(k:Nat)(hs:st.contains i=false)(ht:tg.getD i (1,0)=(k,k))
  (h:wpQuiet P ops (fun w'=>∃ p:Regrown,w'=grow (redrawn (Wk k) p.d) p.os) (fun a'=>wpT P ops (stC Wk) st tg Q l (i+1) a') [o] a):wpT P ops (stC Wk) st tg Q (o::l) i a:=by
 simp only[wpQuiet]at h;split at h
 ·rename_i hw;obtain⟨v,h1,h2⟩:=h;refine⟨v,.inl ⟨hw,hs,fun k' hk1 hk2 w hw'=>?_⟩,h2⟩;rw[ht]at hk1 hk2;obtain rfl:k'=k:=Nat.le_antisymm hk2 hk1;exact h1 w hw'
 ·rename_i hw;exact⟨undef,.inr (.inr ⟨by simpa using hw,hs,rfl⟩),h⟩
theorem ci(hs:st.contains i=false)(hc:vy o.op=true)
  (h:wpQuiet P ops (fun w'=>∃ p:As,w'=grow (redrawn (Wk p.k) p.d) p.os) (fun a'=>wpT P ops (stC Wk) st tg Q l (i+1) a') [o] a):wpT P ops (stC Wk) st tg Q (o::l) i a:=by
 simp only[wpQuiet]at h;split at h
 ·rename_i hw;obtain⟨v,h1,h2⟩:=h;refine⟨v,.inl ⟨hw,hs,fun k _ _ w hw'=>?_⟩,h2⟩;obtain⟨p,rfl⟩:=hw';have h3:=h1 _ ⟨⟨k,p.d,p.os⟩,rfl⟩;unfold Oper.quietAt at h3 ⊢;have h4:=fun f args w'=>ve (P:=P) hc a.eval (grow (redrawn (Wk k) p.d) p.os) (f:=f) (args:=args) (w':=w')
  generalize (execOp a.eval o).run P (grow (redrawn (Wk k) p.d) p.os)=r at *;cases r with
  | ok n w' =>
   cases n
   case enter f args=>exact absurd rfl (h4 f args w')
   all_goals exact h3
  | halt x w'=>exact h3
 ·rename_i hw;exact⟨undef,.inr (.inr ⟨by simpa using hw,hs,rfl⟩),h⟩
theorem je{t:Nat→Option Bool}(hg:o.guard=none):Region.wanted o t=true:=by simp[Region.wanted,hg]
theorem rV{w:World}{ty:TypeId}{g b:Nat}{v u:Value}(hi:(P.info? ty).map (·.size)=some 1)(h1:v.oneCell'=true)
  (hc:w.cell? ⟨g,b,none⟩=some u) (hf:w.frozen? ⟨g,b,none⟩=false):(storeVar ty ⟨g,b,none⟩ v).run P w=.ok () (w.setCell ⟨g,b,none⟩ v):=by
 have hv:v.cells=#[v]:=by cases v<;>simp_all [Value.cells,Value.oneCell']
 cases hq:P.info? ty with
 | none=>simp[hq]at hi
 | some i =>
  have hs:i.size=1:=by simpa[hq]using hi
  simp only[storeVar,sizeOf,typeInfo,Sem.run_bind];simp[hq,hs,hv,storeCells,Addr.add_lit,run_store P w _ v _ h1,hc,hf]
theorem lk{A B:Array Obj}{g:Nat}(h:g<A.size)(f:Obj→Obj):(A++B).modify g f=A.modify g f++B:=by
 apply Array.ext_getElem?
 intro k;by_cases hk:k<A.size
 ·rw[Array.getElem?_modify,Array.getElem?_append_left hk,Array.getElem?_append_left (by simpa using hk),Array.getElem?_modify]
 ·rw[Array.getElem?_modify,if_neg (by omega),Array.getElem?_append_right (by omega),Array.getElem?_append_right (by simpa using hk)];simp
theorem dc(j:Nat)(hj:st[j]? = some i)(hg:o.guard=none)(ty:TypeId)(x y:Operand)(ho:o.op=.store ty x y){g b:Nat}{v u:Value}(hx:a.eval x=.pointer (some ⟨g,b,none⟩))(hy:a.eval y=v)
  (hi:(P.info? ty).map (·.size)=some 1) (h1:v.oneCell'=true) (hc:(Wk j).cell? ⟨g,b,none⟩=some u) (hf:(Wk j).frozen? ⟨g,b,none⟩=false) (hW:Wk (j+1)=(Wk j).setCell ⟨g,b,none⟩ v)
  (hd:o.dst=none) (h:wpT P ops (stC Wk) st tg Q l (i+1) a):wpT P ops (stC Wk) st tg Q (o::l) i a:=by
 refine⟨undef,.inr (.inl ⟨je hg,rfl,j,hj,?_⟩),by rw[hd];exact h⟩;rintro w ⟨p,rfl⟩;have hlt:=block_lt_of_cell hc;have hb:=below_regrown (Wk j) p.d p.os;refine⟨grow (redrawn (Wk (j+1)) p.d) p.os,?_,p,rfl⟩;have e1:(grow (redrawn (Wk j) p.d) p.os).setCell ⟨g,b,none⟩ v=grow (redrawn (Wk (j+1)) p.d) p.os:=by rw[hW];unfold World.setCell grow redrawn;simp only;congr 1;exact lk hlt _
 have hr:=rV (P:=P) (ty:=ty) hi h1 ((hb.cell hlt).trans hc) ((hb.frozen hlt).trans hf);unfold execOp;simp only[ho,hx,hy,Instr.storeAt,Instr.sureAddr,Sem.run_bind,Sem.run_pure,Result.andThen_ok,hr,e1]
theorem ew(j:Nat)(hj:st[j]? = some i)(hg:o.guard=none)(ty:TypeId)(x y:Operand)(ho:o.op=.store ty x y){g:Nat}{cells old:Array Value}{t:TypeId}(hx:a.eval x=.pointer (some ⟨g,0,none⟩))(hy:a.eval y=.agg cells)
  (hq:ac (Wk j) g (.cells old t (0,0))) (hi:(P.info? ty).map (·.size)=some cells.size) (hold:old.size=cells.size) (h1:cells.all (·.oneCell')=true) (hW:Wk (j+1)=(Wk j).setRow g cells)
  (hd:o.dst=none) (h:wpT P ops (stC Wk) st tg Q l (i+1) a):wpT P ops (stC Wk) st tg Q (o::l) i a:=by
 refine⟨undef,.inr (.inl ⟨je hg,rfl,j,hj,?_⟩),by rw[hd];exact h⟩;rintro w ⟨p,rfl⟩;have hlt:=hq.lt;have hb:=below_regrown (Wk j) p.d p.os;refine⟨grow (redrawn (Wk (j+1)) p.d) p.os,?_,p,rfl⟩;have e1:(grow (redrawn (Wk j) p.d) p.os).setRow g cells=grow (redrawn (Wk (j+1)) p.d) p.os:=by rw[hW];unfold World.setRow grow redrawn;simp only;congr 1;exact lk hlt _
 have hr:=run_storeVar_row (P:=P) (grow (redrawn (Wk j) p.d) p.os) g t ty old cells (hq.call hb) hi hold h1;unfold execOp;simp only[ho,hx,hy,Instr.storeAt,Instr.sureAddr,Sem.run_bind,Sem.run_pure,Result.andThen_ok,hr,e1]
theorem cm(h:Q a):wpT P ops (stC Wk) st tg Q [] i a:=h
end steps
end
end Go.Proofs.YtefmplccbkmalaaGreatDoor
