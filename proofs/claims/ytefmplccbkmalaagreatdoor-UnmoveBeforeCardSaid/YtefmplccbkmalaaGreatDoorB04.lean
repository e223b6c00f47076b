import Derived.Test.YtefmplccbkmalaaGreatDoorB01
import Derived.Test.YtefmplccbkmalaaGreatDoorB03
import Derived.Lib.QuietBelow
import Derived.BigQuiet
import Derived.StillTail
set_option maxRecDepth 100000
set_option maxHeartbeats 12800000
namespace Go.Proofs.YtefmplccbkmalaaGreatDoor
open Go.RowKit

def dF(F a b:Nat):Int:=((b%F:Nat):Int)-((a%F:Nat):Int)
def dR(F a b:Nat):Int:=((b/F:Nat):Int)-((a/F:Nat):Int)
def distI(F a b:Nat):Int:=max (kindI (dF F a b)) (kindI (dR F a b))
theorem pV(F R a b:Nat)(hF:3≤F∧F≤8)(ha:a<64)(hb:b<64)(w:World):
  Clz 196 #[.agg #[.int .i64 F,.int .i64 R],.int .i64 a,.int .i64 b] w fun e w'=>e=.returned (.int .i64 (distI F a b))∧Below w.heap.size w w':=by
 have hA:=ac.new w (.cells [.int .i64 (F:Int),.int .i64 (R:Int)].toArray 23);have hB:=ae w (.cells [.int .i64 (F:Int),.int .i64 (R:Int)].toArray 23);go_enter Tryz.func196,Tryz.ntmps196;go_wp2_with fail;show Code.wp _ _ _ _ (w.alloc (.cells [.int .i64 (F:Int),.int .i64 (R:Int)].toArray 23));obtain⟨w1,hw1⟩:∃ x,x=w.alloc (.cells [.int .i64 (F:Int),.int .i64 (R:Int)].toArray 23):=⟨_,rfl⟩;rw[←hw1]at hA hB ⊢;clear hw1;refine bE (by kernel_rfl) (by kernel_rfl) [some 9,some 10,some 11,some 12,some 13,some 14,some 7,some 8,none,none] (by rfl) (by rfl) (dS w1 [.int .i64 (F:Int),.int .i64 (R:Int)].toArray a b #[.int .i64 (a%F:Nat),.int .i64 (a/F:Nat)] #[.int .i64 (b%F:Nat),.int .i64 (b/F:Nat)]) (fun S S9 f9 W h hR=>fF S S9 f9 W h hR) (fun f9=>ge f9) ?hstep ?hend
 case hstep =>
  intro S i9 o9 f9 W ho hi hSj hpre hcl hR K hK;have hi:i9<10:=hi;have hR0:=hR;obtain⟨hC,h0,h1,h2,h3,h4,h5,h6,h7,h8⟩:=hR0;have hsz:=hA.call hC;rcases i9 with _|_|_|_|_|_|_|_|_|_|i9
  ·exact ay (og ho) 23 (.tmp 3) (oo ho) (ah rfl rfl) [.int .i64 (F:Int),.int .i64 (R:Int)] (by kernel_rfl) (fun j v hv=>by rw[Nat.zero_add,hsz.cells j];simpa using hv) (hK _ _ (aS hR 0 _ (Below.refl _ _) (by decide) (by refine⟨?_,?_,?_,?_,?_,?_⟩<;>intro h<;>first|rfl|(cases h))))
  ·exact al (og ho) (.tmp 1) (oo ho) (ah rfl rfl) (hK _ _ (aS hR 1 _ (Below.refl _ _) (by decide) (by refine⟨?_,?_,?_,?_,?_,?_⟩<;>intro h<;>first|rfl|(cases h))))
  ·exact aH (og ho) 40 (.tmp 9) (.tmp 10) #[23,3] (oo ho) (ri 0 (h0 (da ho hpre 0))) (ri 1 (h1 (da ho hpre 1))) (fun _ _=>rfl) (aO F R a hF (by omega) W) (by rintro u w9 ⟨h9,hb9⟩;injection h9 with h9;subst h9;exact hK _ _ (aS hR 2 _ hb9 (by decide) (by refine⟨?_,?_,?_,?_,?_,?_⟩<;>intro h<;>first|rfl|(cases h)))) (by rintro ch w9 ⟨h9,_⟩;cases h9) (by rintro w9 ⟨h9,_⟩;cases h9)
  ·exact ay (og ho) 23 (.tmp 3) (oo ho) (ah rfl rfl) [.int .i64 (F:Int),.int .i64 (R:Int)] (by kernel_rfl) (fun j v hv=>by rw[Nat.zero_add,hsz.cells j];simpa using hv) (hK _ _ (aS hR 3 _ (Below.refl _ _) (by decide) (by refine⟨?_,?_,?_,?_,?_,?_⟩<;>intro h<;>first|rfl|(cases h))))
  ·exact al (og ho) (.tmp 2) (oo ho) (ah rfl rfl) (hK _ _ (aS hR 4 _ (Below.refl _ _) (by decide) (by refine⟨?_,?_,?_,?_,?_,?_⟩<;>intro h<;>first|rfl|(cases h))))
  ·exact aH (og ho) 40 (.tmp 12) (.tmp 13) #[23,3] (oo ho) (ri 3 (h3 (da ho hpre 3))) (ri 4 (h4 (da ho hpre 4))) (fun _ _=>rfl) (aO F R b hF (by omega) W) (by rintro u w9 ⟨h9,hb9⟩;injection h9 with h9;subst h9;exact hK _ _ (aS hR 5 _ hb9 (by decide) (by refine⟨?_,?_,?_,?_,?_,?_⟩<;>intro h<;>first|rfl|(cases h)))) (by rintro ch w9 ⟨h9,_⟩;cases h9) (by rintro w9 ⟨h9,_⟩;cases h9)
  ·have hS8:S 8=false:=by
    rcases h:S 8 with _|_
    ·rfl
    ·have:=hcl 8 _ h rfl ⟨6,.data⟩ (by simp) rfl;rw[hSj]at this;cases this
   exact bV (og ho) 85 (oo ho) (ej W) (hK _ _ (dA hR 6 (.inl rfl) hS8))
  ·have hS9:S 9=false:=by
    rcases h:S 9 with _|_
    ·rfl
    ·have:=hcl 9 _ h rfl ⟨7,.data⟩ (by simp) rfl;rw[hSj]at this;cases this
   exact bV (og ho) 85 (oo ho) (ej W) (hK _ _ (dA hR 7 (.inr rfl) hS9))
  ·have hSi:=(da ho hpre 6);obtain⟨q,e1,e2,old,e3,e4,e5⟩:=h6 hSi;exact bI (og ho) 85 (.tmp 7) (.tmp 11) (oo ho) (ri 6 e1) _ old 85 (ri 2 (h2 (da ho hpre 2))) e3 (by kernel_rfl) e4 (by simp[Value.oneCell']) (hK _ _ (gp hR hSi rfl _ e1))
  ·have hSi:=(da ho hpre 7);obtain⟨q,e1,e2,old,e3,e4,e5⟩:=h7 hSi;exact bI (og ho) 85 (.tmp 8) (.tmp 14) (oo ho) (ri 7 e1) _ old 85 (ri 5 (h5 (da ho hpre 5))) e3 (by kernel_rfl) e4 (by simp[Value.oneCell']) (hK _ _ (gr hR hSi rfl _ e1))
  ·omega
 case hend =>
  intro S f9 W hS hR;obtain⟨hC,_,_,_,_,_,_,h6,h7,h8⟩:=hR;obtain⟨q1,e1,l1,o1,hO1,_,z1⟩:=h6 (hS 6 (by decide));obtain⟨q2,e2,l2,o2,hO2,_,z2⟩:=h7 (hS 7 (by decide));replace z1:=z1 (hS 8 (by decide));replace z2:=z2 (hS 9 (by decide));subst z1 z2;clear h6 h7 h8;simp only[ao,Act.put,List.setIfInBounds_toArray,List.set_cons_succ,List.set_cons_zero];rw[e1,e2];clear e1 e2 hS;generalize f9 0=u0,f9 1=u1,f9 2=u2,f9 3=u3,f9 4=u4,f9 5=u5,f9 8=u8,f9 9=u9;have hne:0<F:=by omega
  have b1:=Nat.mod_lt a hne;have b2:=Nat.mod_lt b hne;have b3:=Nat.div_le_self a F;have b4:=Nat.div_le_self b F;have hBW:=zbc hB hC;have hdist:distI F a b=max (kindI (((b%F:Nat):Int)-((a%F:Nat):Int))) (kindI (((b/F:Nat):Int)-((a/F:Nat):Int))):=rfl;generalize a%F=a0,a/F=a1,b%F=b0,b/F=b1' at *;clear hA;obtain⟨df,hdf⟩:∃ x:Int,x=(a0:Int)-(b0:Int):=⟨_,rfl⟩;obtain⟨dr,hdr⟩:∃ x:Int,x=(a1:Int)-(b1':Int):=⟨_,rfl⟩;have hdb:-100<df∧df<100:=by omega
  have hrb:-100<dr∧dr<100:=by omega
  replace hdist:distI F a b=max (kindI df) (kindI dr):=by rw[hdist,show((b0:Nat):Int)-((a0:Nat):Int)=-df by omega,show((b1':Nat):Int)-((a1:Nat):Int)=-dr by omega];unfold kindI;congr 1<;>(split<;>split<;>omega)
  have hwf:IntKind.i64.wrap ((a0:Int)-(b0:Int))=df:=by rw[←hdf];exact IntWalk.i64_in _ (by omega)
  have hwr:IntKind.i64.wrap ((a1:Int)-(b1':Int))=dr:=by rw[←hdr];exact IntWalk.i64_in _ (by omega)
  replace hdf:=zhd hdf;replace hdr:=zhd hdr;replace hdist:=zhd hdist;go_wp2_with fail;refine bG (by kernel_rfl) (by kernel_rfl) [some 15,some 16,some 17,some 18,some 19,some 20,some 21,some 22,some 23,some 24,some 25,some 26,some 27] (by rfl) (by rfl) (fun i=>match i with|0=>.pointer (some ⟨q1,0,none⟩)|1=>.int .i64 ((a0:Nat):Int)|2=>.pointer (some ⟨q2,0,none⟩)|3=>.int .i64 ((b0:Nat):Int)|4=>.int .i64 df|5=>.int .i64 (kindI df)|6=>.pointer (some ⟨q1,1,none⟩)|7=>.int .i64 ((a1:Nat):Int)|8=>.pointer (some ⟨q2,1,none⟩)|9=>.int .i64 ((b1':Nat):Int)|10=>.int .i64 dr|11=>.int .i64 (kindI dr)|12=>.bool (decide (kindI dr<kindI df))|_=>undef) (fun W2=>Below W.heap.size W W2) (Below.refl _ _).drew ?hstep ?hend
  case hstep =>
   intro i9 o9 f9 W2 ho hi hC hf K hK;have hi:i9<13:=hi;rcases i9 with _|_|_|_|_|_|_|_|_|_|_|_|_|i9
   ·exact au (og ho) 85 (.tmp 7) 0 (oo ho) (ah rfl rfl) (n:=0) (by kernel_rfl) (hK _ hC)
   ·exact ap (og ho) 3 (.tmp 15) (oo ho) (ri 0 (da ho hf 0)) (by kernel_rfl) (((hO1.call hC).cells 0)) (hK _ hC)
   ·exact au (og ho) 85 (.tmp 8) 0 (oo ho) (ah rfl rfl) (n:=0) (by kernel_rfl) (hK _ hC)
   ·exact ap (og ho) 3 (.tmp 17) (oo ho) (ri 2 (da ho hf 2)) (by kernel_rfl) (((hO2.call hC).cells 0)) (hK _ hC)
   ·exact aK (og ho) .sub 3 3 (.tmp 16) (.tmp 18) (oo ho) (ri 1 (da ho hf 1)) (ri 3 (da ho hf 3)) (bM _ _ _ _ _ _ _ _) (dD hwf) (hK _ hC)
   ·exact aQ (og ho) 208 (.tmp 19) #[3] (oo ho) (ri 4 (da ho hf 4)) (fun _ _=>rfl) (fI df (by omega) W2) (by rintro u w9 ⟨h9,h10⟩;injection h9 with h9;subst h9;subst h10;exact hK _ hC) (fun _ _ h=>nomatch h.1) (fun _ h=>nomatch h.1)
   ·exact au (og ho) 85 (.tmp 7) 1 (oo ho) (ah rfl rfl) (n:=1) (by kernel_rfl) (hK _ hC)
   ·exact ap (og ho) 3 (.tmp 21) (oo ho) (ri 6 (da ho hf 6)) (by kernel_rfl) (((hO1.call hC).cells 1)) (hK _ hC)
   ·exact au (og ho) 85 (.tmp 8) 1 (oo ho) (ah rfl rfl) (n:=1) (by kernel_rfl) (hK _ hC)
   ·exact ap (og ho) 3 (.tmp 23) (oo ho) (ri 8 (da ho hf 8)) (by kernel_rfl) (((hO2.call hC).cells 1)) (hK _ hC)
   ·exact aK (og ho) .sub 3 3 (.tmp 22) (.tmp 24) (oo ho) (ri 7 (da ho hf 7)) (ri 9 (da ho hf 9)) (bM _ _ _ _ _ _ _ _) (dD hwr) (hK _ hC)
   ·exact aQ (og ho) 208 (.tmp 25) #[3] (oo ho) (ri 10 (da ho hf 10)) (fun _ _=>rfl) (fI dr (by omega) W2) (by rintro u w9 ⟨h9,h10⟩;injection h9 with h9;subst h9;subst h10;exact hK _ hC) (fun _ _ h=>nomatch h.1) (fun _ h=>nomatch h.1)
   ·exact aK (og ho) .gtr 3 3 (.tmp 20) (.tmp 26) (oo ho) (ri 5 (da ho hf 5)) (ri 11 (da ho hf 11)) (bM _ _ _ _ _ _ _ _) (rc _ _ _) (hK _ hC)
   ·omega
  case hend =>
   intro W2 hC2;have hc1:=(hO1.call hC2).cells;have hc2:=(hO2.call hC2).cells;have hl1:=(hO1.call hC2).lt;have hl2:=(hO2.call hC2).lt;have hBW2:=zbc hBW hC2;simp only[ao,Act.put,List.setIfInBounds_toArray,List.set_cons_succ,List.set_cons_zero];by_cases hgt:kindI dr<kindI df
   ·have e0:Hid (distI F a b=kindI df):=zhd (by rw[hdist.out];omega);go_wp2_with fail;refine(fI df (by omega) _).mono ?_;rintro e w3 ⟨rfl,rfl⟩;go_wp2_with fail;go_ret;exact⟨by rw[e0.out];rfl,hBW2⟩
   ·have e0:Hid (distI F a b=kindI dr):=zhd (by rw[hdist.out];omega);go_wp2_with fail;refine(fI dr (by omega) _).mono ?_;rintro e w3 ⟨rfl,rfl⟩;go_wp2_with fail;go_ret;exact⟨by rw[e0.out];rfl,hBW2⟩
def bf(a b:Nat)(df dr:Int):Bool:=!decide (a=b)&&(decide (df=0)||(decide (dr=0)||(decide (df=dr)||decide (df+dr=0))))
def dZ(a b:Nat)(df dr x:Int):Int:=if bf a b df dr then x else 0
theorem jL(F R a b:Nat)(hF:3≤F∧F≤8)(ha:a<64)(hb:b<64)(w:World):
  Clz 197 #[.agg #[.int .i64 F,.int .i64 R],.int .i64 a,.int .i64 b] w fun e w'=>e=.returned (.tuple #[.int .i64 (dZ a b (dF F a b) (dR F a b) (sgnI (dF F a b))),.int .i64 (dZ a b (dF F a b) (dR F a b) (sgnI (dR F a b))),.bool (bf a b (dF F a b) (dR F a b))])∧Below w.heap.size w w':=by
 have hA:=ac.new w (.cells [.int .i64 (F:Int),.int .i64 (R:Int)].toArray 23);have hB:=ae w (.cells [.int .i64 (F:Int),.int .i64 (R:Int)].toArray 23);obtain⟨df,hdf⟩:∃ x:Int,x=dF F a b:=⟨_,rfl⟩;obtain⟨dr,hdr⟩:∃ x:Int,x=dR F a b:=⟨_,rfl⟩;rw[←hdf,←hdr];go_enter Tryz.func197,Tryz.ntmps197;go_wp2_with fail;show Code.wp _ _ _ _ (w.alloc (.cells [.int .i64 (F:Int),.int .i64 (R:Int)].toArray 23));obtain⟨w1,hw1⟩:∃ x,x=w.alloc (.cells [.int .i64 (F:Int),.int .i64 (R:Int)].toArray 23):=⟨_,rfl⟩;rw[←hw1]at hA hB ⊢;clear hw1;refine bE (by kernel_rfl) (by kernel_rfl) [some 13,some 14,some 15,some 16,some 17,some 18,some 9,some 10,none,none] (by rfl) (by rfl) (dS w1 [.int .i64 (F:Int),.int .i64 (R:Int)].toArray a b #[.int .i64 (a%F:Nat),.int .i64 (a/F:Nat)] #[.int .i64 (b%F:Nat),.int .i64 (b/F:Nat)]) (fun S S9 f9 W h hR=>fF S S9 f9 W h hR) (fun f9=>ge f9) ?hstep ?hend
 case hstep =>
  intro S i9 o9 f9 W ho hi hSj hpre hcl hR K hK;have hi:i9<10:=hi;have hR0:=hR;obtain⟨hC,h0,h1,h2,h3,h4,h5,h6,h7,h8⟩:=hR0;have hsz:=hA.call hC;rcases i9 with _|_|_|_|_|_|_|_|_|_|i9
  ·exact ay (og ho) 23 (.tmp 3) (oo ho) (ah rfl rfl) [.int .i64 (F:Int),.int .i64 (R:Int)] (by kernel_rfl) (fun j v hv=>by rw[Nat.zero_add,hsz.cells j];simpa using hv) (hK _ _ (aS hR 0 _ (Below.refl _ _) (by decide) (by refine⟨?_,?_,?_,?_,?_,?_⟩<;>intro h<;>first|rfl|(cases h))))
  ·exact al (og ho) (.tmp 1) (oo ho) (ah rfl rfl) (hK _ _ (aS hR 1 _ (Below.refl _ _) (by decide) (by refine⟨?_,?_,?_,?_,?_,?_⟩<;>intro h<;>first|rfl|(cases h))))
  ·exact aH (og ho) 40 (.tmp 13) (.tmp 14) #[23,3] (oo ho) (ri 0 (h0 (da ho hpre 0))) (ri 1 (h1 (da ho hpre 1))) (fun _ _=>rfl) (aO F R a hF (by omega) W) (by rintro u w9 ⟨h9,hb9⟩;injection h9 with h9;subst h9;exact hK _ _ (aS hR 2 _ hb9 (by decide) (by refine⟨?_,?_,?_,?_,?_,?_⟩<;>intro h<;>first|rfl|(cases h)))) (by rintro ch w9 ⟨h9,_⟩;cases h9) (by rintro w9 ⟨h9,_⟩;cases h9)
  ·exact ay (og ho) 23 (.tmp 3) (oo ho) (ah rfl rfl) [.int .i64 (F:Int),.int .i64 (R:Int)] (by kernel_rfl) (fun j v hv=>by rw[Nat.zero_add,hsz.cells j];simpa using hv) (hK _ _ (aS hR 3 _ (Below.refl _ _) (by decide) (by refine⟨?_,?_,?_,?_,?_,?_⟩<;>intro h<;>first|rfl|(cases h))))
  ·exact al (og ho) (.tmp 2) (oo ho) (ah rfl rfl) (hK _ _ (aS hR 4 _ (Below.refl _ _) (by decide) (by refine⟨?_,?_,?_,?_,?_,?_⟩<;>intro h<;>first|rfl|(cases h))))
  ·exact aH (og ho) 40 (.tmp 16) (.tmp 17) #[23,3] (oo ho) (ri 3 (h3 (da ho hpre 3))) (ri 4 (h4 (da ho hpre 4))) (fun _ _=>rfl) (aO F R b hF (by omega) W) (by rintro u w9 ⟨h9,hb9⟩;injection h9 with h9;subst h9;exact hK _ _ (aS hR 5 _ hb9 (by decide) (by refine⟨?_,?_,?_,?_,?_,?_⟩<;>intro h<;>first|rfl|(cases h)))) (by rintro ch w9 ⟨h9,_⟩;cases h9) (by rintro w9 ⟨h9,_⟩;cases h9)
  ·have hS8:S 8=false:=by
    rcases h:S 8 with _|_
    ·rfl
    ·have:=hcl 8 _ h rfl ⟨6,.data⟩ (by simp) rfl;rw[hSj]at this;cases this
   exact bV (og ho) 85 (oo ho) (ej W) (hK _ _ (dA hR 6 (.inl rfl) hS8))
  ·have hS9:S 9=false:=by
    rcases h:S 9 with _|_
    ·rfl
    ·have:=hcl 9 _ h rfl ⟨7,.data⟩ (by simp) rfl;rw[hSj]at this;cases this
   exact bV (og ho) 85 (oo ho) (ej W) (hK _ _ (dA hR 7 (.inr rfl) hS9))
  ·have hSi:=(da ho hpre 6);obtain⟨q,e1,e2,old,e3,e4,e5⟩:=h6 hSi;exact bI (og ho) 85 (.tmp 9) (.tmp 15) (oo ho) (ri 6 e1) _ old 85 (ri 2 (h2 (da ho hpre 2))) e3 (by kernel_rfl) e4 (by simp[Value.oneCell']) (hK _ _ (gp hR hSi rfl _ e1))
  ·have hSi:=(da ho hpre 7);obtain⟨q,e1,e2,old,e3,e4,e5⟩:=h7 hSi;exact bI (og ho) 85 (.tmp 10) (.tmp 18) (oo ho) (ri 7 e1) _ old 85 (ri 5 (h5 (da ho hpre 5))) e3 (by kernel_rfl) e4 (by simp[Value.oneCell']) (hK _ _ (gr hR hSi rfl _ e1))
  ·omega
 case hend =>
  intro S f9 W hS hR;obtain⟨hC,_,_,_,_,_,_,h6,h7,h8⟩:=hR;obtain⟨q1,e1,l1,o1,hO1,_,z1⟩:=h6 (hS 6 (by decide));obtain⟨q2,e2,l2,o2,hO2,_,z2⟩:=h7 (hS 7 (by decide));replace z1:=z1 (hS 8 (by decide));replace z2:=z2 (hS 9 (by decide));subst z1 z2;clear h6 h7 h8;simp only[ao,Act.put,List.setIfInBounds_toArray,List.set_cons_succ,List.set_cons_zero];rw[e1,e2];clear e1 e2 hS;generalize f9 0=u0,f9 1=u1,f9 2=u2,f9 3=u3,f9 4=u4,f9 5=u5,f9 8=u8,f9 9=u9;have hne:0<F:=by omega
  have b1:=Nat.mod_lt a hne;have b2:=Nat.mod_lt b hne;have b3:=Nat.div_le_self a F;have b4:=Nat.div_le_self b F;have hBW:=zbc hB hC;unfold dF at hdf;unfold dR at hdr;generalize a%F=a0,a/F=a1,b%F=b0,b/F=b1' at *;clear hA;have hdb:-100<df∧df<100:=by omega
  have hrb:-100<dr∧dr<100:=by omega
  have hwf:IntKind.i64.wrap ((b0:Int)-(a0:Int))=df:=by rw[←hdf];exact IntWalk.i64_in _ (by omega)
  have hwr:IntKind.i64.wrap ((b1':Int)-(a1:Int))=dr:=by rw[←hdr];exact IntWalk.i64_in _ (by omega)
  replace hdf:=zhd hdf;replace hdr:=zhd hdr;go_wp2_with fail;refine bG (by kernel_rfl) (by kernel_rfl) [some 19,some 20,some 21,some 22,some 23,some 24,some 25,some 26,some 27,some 28,some 11,some 12] (by rfl) (by rfl) (fun i=>match i with|0=>.pointer (some ⟨q2,0,none⟩)|1=>.int .i64 ((b0:Nat):Int)|2=>.pointer (some ⟨q1,0,none⟩)|3=>.int .i64 ((a0:Nat):Int)|4=>.int .i64 df|5=>.pointer (some ⟨q2,1,none⟩)|6=>.int .i64 ((b1':Nat):Int)|7=>.pointer (some ⟨q1,1,none⟩)|8=>.int .i64 ((a1:Nat):Int)|9=>.int .i64 dr|10=>.int .i64 df|11=>.int .i64 dr|_=>undef) (fun W2=>Below W.heap.size W W2) (Below.refl _ _).drew ?hstep ?hend
  case hstep =>
   intro i9 o9 f9 W2 ho hi hC hf K hK;have hi:i9<12:=hi;rcases i9 with _|_|_|_|_|_|_|_|_|_|_|_|i9
   ·exact au (og ho) 85 (.tmp 10) 0 (oo ho) (ah rfl rfl) (n:=0) (by kernel_rfl) (hK _ hC)
   ·exact ap (og ho) 3 (.tmp 19) (oo ho) (ri 0 (da ho hf 0)) (by kernel_rfl) (((hO2.call hC).cells 0)) (hK _ hC)
   ·exact au (og ho) 85 (.tmp 9) 0 (oo ho) (ah rfl rfl) (n:=0) (by kernel_rfl) (hK _ hC)
   ·exact ap (og ho) 3 (.tmp 21) (oo ho) (ri 2 (da ho hf 2)) (by kernel_rfl) (((hO1.call hC).cells 0)) (hK _ hC)
   ·exact aK (og ho) .sub 3 3 (.tmp 20) (.tmp 22) (oo ho) (ri 1 (da ho hf 1)) (ri 3 (da ho hf 3)) (bM _ _ _ _ _ _ _ _) (dD hwf) (hK _ hC)
   ·exact au (og ho) 85 (.tmp 10) 1 (oo ho) (ah rfl rfl) (n:=1) (by kernel_rfl) (hK _ hC)
   ·exact ap (og ho) 3 (.tmp 24) (oo ho) (ri 5 (da ho hf 5)) (by kernel_rfl) (((hO2.call hC).cells 1)) (hK _ hC)
   ·exact au (og ho) 85 (.tmp 9) 1 (oo ho) (ah rfl rfl) (n:=1) (by kernel_rfl) (hK _ hC)
   ·exact ap (og ho) 3 (.tmp 26) (oo ho) (ri 7 (da ho hf 7)) (by kernel_rfl) (((hO1.call hC).cells 1)) (hK _ hC)
   ·exact aK (og ho) .sub 3 3 (.tmp 25) (.tmp 27) (oo ho) (ri 6 (da ho hf 6)) (ri 8 (da ho hf 8)) (bM _ _ _ _ _ _ _ _) (dD hwr) (hK _ hC)
   ·exact aE (og ho) (.tmp 23) (oo ho) (ri 4 (da ho hf 4)) (hK _ hC)
   ·exact aE (og ho) (.tmp 28) (oo ho) (ri 9 (da ho hf 9)) (hK _ hC)
   ·omega
  case hend =>
   intro W2 hC2;have hBW2:=zbc hBW hC2;simp only[ao,Act.put,List.setIfInBounds_toArray,List.set_cons_succ,List.set_cons_zero];clear hwf hwr hC hC2;have e3:wrap64 (df+dr)=df+dr:=IntWalk.wrap64_in _ (by omega);by_cases hab:a=b
   ·have e0:Hid (bf a b df dr=false):=zhd (by simp[bf,hab]);have c1:((a:Int)==(b:Int))=true:=by simp[hab]
    replace hab:=zhd hab;go_wp2_with fail;go_ret3
    exact⟨by unfold dZ;rw[e0.out];rfl,hBW2⟩
   have c1:((a:Int)==(b:Int))=false:=by simp;omega
   by_cases h1:df=0
   ·have e0:Hid (bf a b df dr=true):=zhd (by simp[bf,hab,h1]);have c2:(df != 0)=false:=by simp[h1]
    replace h1:=zhd h1;go_wp2_with fail;refine(cu df _).mono ?_;rintro e w3 ⟨rfl,rfl⟩;go_wp2_with fail;refine(cu dr _).mono ?_;rintro e w3 ⟨rfl,rfl⟩;go_wp2_with fail;go_ret3
    exact⟨by unfold dZ;rw[e0.out];rfl,hBW2⟩
   have c2:(df != 0)=true:=by simp[h1]
   by_cases h2:dr=0
   ·have e0:Hid (bf a b df dr=true):=zhd (by simp[bf,hab,h2]);have c3:(dr != 0)=false:=by simp[h2]
    replace h2:=zhd h2;go_wp2_with fail;refine(cu df _).mono ?_;rintro e w3 ⟨rfl,rfl⟩;go_wp2_with fail;refine(cu dr _).mono ?_;rintro e w3 ⟨rfl,rfl⟩;go_wp2_with fail;go_ret3
    exact⟨by unfold dZ;rw[e0.out];rfl,hBW2⟩
   have c3:(dr != 0)=true:=by simp[h2]
   by_cases h3:df=dr
   ·have e0:Hid (bf a b df dr=true):=zhd (by simp[bf,hab,h3]);have c4:(df != dr)=false:=by simp[h3]
    replace h3:=zhd h3;go_wp2_with fail;refine(cu df _).mono ?_;rintro e w3 ⟨rfl,rfl⟩;go_wp2_with fail;refine(cu dr _).mono ?_;rintro e w3 ⟨rfl,rfl⟩;go_wp2_with fail;go_ret3
    exact⟨by unfold dZ;rw[e0.out];rfl,hBW2⟩
   have c4:(df != dr)=true:=by simp[h3]
   by_cases h4:df+dr=0
   ·have e0:Hid (bf a b df dr=true):=zhd (by simp[bf,hab,h4]);have c5:(df+dr != 0)=false:=by simp[h4]
    replace h4:=zhd h4;go_wp2_with fail;refine(cu df _).mono ?_;rintro e w3 ⟨rfl,rfl⟩;go_wp2_with fail;refine(cu dr _).mono ?_;rintro e w3 ⟨rfl,rfl⟩;go_wp2_with fail;go_ret3
    exact⟨by unfold dZ;rw[e0.out];rfl,hBW2⟩
   ·have e0:Hid (bf a b df dr=false):=zhd (by simp[bf,h1,h2,h3,h4]);have c5:(df+dr != 0)=true:=by simp[h4]
    go_wp2_with fail;go_ret3
    exact⟨by unfold dZ;rw[e0.out];rfl,hBW2⟩
def numI(f r a b:Int):Int:=if a<0∨f≤a∨b<0∨r≤b then -1 else b*f+a
theorem cN(f r a b:Int)(w:World)(h1:-1000<f∧f<1000)(h3:-1000<a∧a<1000)(h4:-1000<b∧b<1000):Clz 46 #[.agg #[.int .i64 f,.int .i64 r],.int .i64 a,.int .i64 b] w fun e w'=>e=.returned (.int .i64 (numI f r a b))∧Below w.heap.size w w' :=
 mU f r a b w h1 h3 h4
def rayN(F R a:Nat)(df dr:Int)(k:Nat):Int:=numI F R (((a%F:Nat):Int)+k*df) (((a/F:Nat):Int)+k*dr)
def rayL(F R a:Nat)(df dr:Int):Nat→Nat→List Int
 | 0,_=>[]
 | n+1,k=>if rayN F R a df dr k<0 then []else rayN F R a df dr k::rayL F R a df dr n (k+1)
theorem ix(F R a:Nat)(df dr:Int):∀ n k,(rayL F R a df dr n k).length≤n:=by
 intro n;induction n with
 | zero=>intro k;simp[rayL]
 | succ n ih =>
  intro k;simp only[rayL];split
  ·simp
  ·have:=ih (k+1);simp;omega
theorem jX{F R a:Nat}{df dr:Int}{k:Nat}(h:rayN F R a df dr k<0)(n:Nat):rayL F R a df dr n k=[]:=by
 cases n with
 | zero=>rfl
 | succ n=>simp only[rayL];rw[if_pos h]
theorem ki{F R a:Nat}{df dr:Int}{k:Nat}(h:¬rayN F R a df dr k<0)(n:Nat):rayL F R a df dr (n+1) k=rayN F R a df dr k::rayL F R a df dr n (k+1):=by simp only[rayL];rw[if_neg h]
theorem gY{F R a:Nat}(hF:3≤F∧F≤8)(hR:3≤R∧R≤8)(ha:a<F*R):sqB F R a=true:=by
 have h1:bR F R=true:=by simp[bR,sideB];omega
 have h2:(a:Int)<(F:Int)*(R:Int):=by rw[←Int.natCast_mul];omega
 simp[sqB,h1,h2]
theorem bU{F R a:Nat}(hF:3≤F∧F≤8)(hR:3≤R∧R≤8)(ha:a<F*R):a<64∧a%F<F∧a/F<R:=by have h1:F*R≤8*8:=Nat.mul_le_mul hF.2 hR.2;exact⟨by omega,Nat.mod_lt _ (by omega),Nat.div_lt_of_lt_mul ha⟩
theorem jx{k:Nat}{d:Int}(hk:k≤9)(hd:-1≤d∧d≤1):-9≤(k:Int)*d∧(k:Int)*d≤9:=by rcases(by omega:d=-1∨d=0∨d=1)with h|h|h<;>subst h<;>omega
theorem bF{x:Int}(h:-1000≤x∧x≤1000):wrap64 x=x:=IntWalk.wrap64_in _ (by omega)
theorem rH(F R a:Nat)(df dr:Int)(hF:3≤F∧F≤8)(hR:3≤R∧R≤8)(ha:a<F*R)(hdf:-1≤df∧df≤1)(hdr:-1≤dr∧dr≤1)(hn:¬(df=0∧dr=0))(w:World):
  Clz 207 #[.agg #[.int .i64 F,.int .i64 R],.int .i64 a,.int .i64 df,.int .i64 dr] w fun e w'=>(∃ v,e=.returned v∧w'.ownsRow w.heap.size 3 1 v (rayL F R a df dr 8 1).length ((rayL F R a df dr 8 1).map (.int .i64)))∧Below w.heap.size w w':=by
 obtain⟨i3,hi3,hz3,hs3,hy3⟩:=info_parts Tryz.info3;have hA:=ac.new w (.cells [.int .i64 (F:Int),.int .i64 (R:Int)].toArray 23);have hB:=ae w (.cells [.int .i64 (F:Int),.int .i64 (R:Int)].toArray 23);have hv:=gY hF hR ha;obtain⟨ha64,ha0,ha1⟩:=bU hF hR ha;obtain⟨L,hL⟩:∃ L,L=rayL F R a df dr 8 1:=⟨_,rfl⟩;have hLl:L.length≤8:=by rw[hL];exact ix F R a df dr 8 1
 rw[←hL];have hL0:L=[]++rayL F R a df dr (9-1) 1:=by rw[List.nil_append];exact hL
 replace hL:=zhd hL;go_enter Tryz.func207,Tryz.ntmps207;go_wp2_with fail;refine(eV F R a _).mono ?_;rintro e w2 ⟨rfl,hb2⟩;have hA2:=hA.call hb2;have hB2:=zbc hB hb2;clear hA hB;rw[hv];have⟨hc2,hl2⟩:=hA2.cl;have hg:((df==0)=true∧(dr==0)=false)∨(df==0)=false:=by
  by_cases h:df=0
  ·left;exact⟨by simp[h],by simpa using fun h2=>hn ⟨h,h2⟩⟩
  ·right;simp[h]
 have b1:((a%F:Nat):Int)<8:=by omega
 have b2:((a/F:Nat):Int)<8:=by omega
 have b3:(0:Int)≤((a%F:Nat):Int):=Int.natCast_nonneg _;have b4:(0:Int)≤((a/F:Nat):Int):=Int.natCast_nonneg _;have hray:∀ k:Nat,rayN F R a df dr k=numI F R (((a%F:Nat):Int)+k*df) (((a/F:Nat):Int)+k*dr):=fun k=>rfl
 rcases hg with⟨c1,c2⟩|c1
 all_goals
  go_wp2_with fail;refine(aO F R a hF (by omega) _).mono ?_;rintro e w3 ⟨rfl,hb3⟩;have hA3:=hA2.call hb3;have hB3:=zbc hB2 hb3;clear hc2 hl2;go_wp2_with fail;show Code.wp _ _ _ _ (w3.alloc (.cells #[.int .i64 ((a%F:Nat):Int),.int .i64 ((a/F:Nat):Int)] 85));have hA4:=hA3.alloc (.cells #[.int .i64 ((a%F:Nat):Int),.int .i64 ((a/F:Nat):Int)] 85);have hQ4:=ac.new w3 (.cells #[.int .i64 ((a%F:Nat):Int),.int .i64 ((a/F:Nat):Int)] 85);have hB4:=zbc hB3 (ae w3 (.cells #[.int .i64 ((a%F:Nat):Int),.int .i64 ((a/F:Nat):Int)] 85));obtain⟨w4,hw4⟩:∃ x,x=w3.alloc (.cells #[.int .i64 ((a%F:Nat):Int),.int .i64 ((a/F:Nat):Int)] 85):=⟨_,rfl⟩;rw[←hw4]at hA4 hB4 hQ4 ⊢;clear hw4;obtain⟨q1,hq1⟩:∃ x,x=w3.heap.size:=⟨_,rfl⟩;rw[←hq1]at hQ4 ⊢;clear hq1;obtain⟨a0,hea0⟩:∃ x,x=a%F:=⟨_,rfl⟩;obtain⟨a1,hea1⟩:∃ x,x=a/F:=⟨_,rfl⟩;rw[←hea0,←hea1]at hray;rw[←hea0]at b1 b3 hQ4;rw[←hea1]at b2 b4 hQ4;replace hea0:=zhd hea0;replace hea1:=zhd hea1;go_loopg [10,11] 20 (fun q lv kv wr=>∃(k:Nat) (P:List Int),q+k=21∧1≤k∧k≤9∧P.length≤8∧L=P++rayL F R a df dr (9-k) k∧kv=.int .i64 k∧wr.ownsRow w4.heap.size 3 1 lv P.length (P.map (.int .i64))∧Below w4.heap.size w4 wr)
  case atStart=>exact⟨1,[],rfl,by omega,by omega,by simp,hL0,rfl,World.ownsRow_nil _ _ _ _,Below.refl _ _⟩
  case round =>
   clear hL0;obtain⟨k,P,hq,hk1,hk9,hPl,hLP,rfl,hown,hbr⟩:=hrel;have hAr:=hA4.call hbr;have hQr:=hQ4.call hbr;have hcr:=hAr.cells;have hdr':=hQr.cells;have hlr:=hAr.lt;have hmr:=hQr.lt;have hBr:=zbc hB4 hbr;by_cases hk:k≤8
   ·have hk8:(k:Int)≤8:=by omega
    have m1:=jx hk9 hdf;have m2:=jx hk9 hdr;have e1:wrap64 ((k:Int)*df)=k*df:=bF (by omega);have e2:wrap64 ((k:Int)*dr)=k*dr:=bF (by omega);have e3:wrap64 ((a0:Int)+k*df)=a0+k*df:=bF (by omega);have e4:wrap64 ((a1:Int)+k*dr)=a1+k*dr:=bF (by omega);go_wp2_with fail;refine(cN F R (a0+k*df) (a1+k*dr) wr (by omega) (by omega) (by omega)).mono ?_;rintro e w5 ⟨rfl,hb5⟩;have hbr5:=zbc hbr hb5;have hown5:=aA hown hb5;have hBr5:=zbc hBr hb5;rw[←hray k];obtain⟨x,hx⟩:∃ x,x=rayN F R a df dr k:=⟨_,rfl⟩;rw[←hx];clear hown hbr hAr hQr hcr hdr' hlr hmr hBr e1 e2 e3 e4;by_cases hneg:x<0
    ·have hLe:Hid (L=P):=zhd (by rw[hLP,jX (by rw[←hx];exact hneg),List.append_nil]);replace hx:=zhd hx;replace hLP:=zhd hLP;go_wp2_with fail;go_ret;exact⟨⟨_,rfl,by rw[hLe.out];exact bC hown5 hB4.size⟩,hBr5⟩
    ·have hLe:Hid (L=(P++[x])++rayL F R a df dr (9-(k+1)) (k+1)):=zhd (by
      rw[hLP,show 9-k=(9-(k+1))+1 by omega,ki (by rw[←hx];exact hneg),←hx,List.append_assoc];rfl)
     have hP8:(P++[x]).length≤8:=by have h1:=hLl;rw[hLe.out,List.length_append]at h1;omega
     replace hx:=zhd hx;replace hLP:=zhd hLP;go_wp2_with (at_builtin;refine bD rfl (.tmp 48) (.tmp 50) 136 rfl w4.heap.size 3 i3 (.int .i64 0) 8 Tryz.underlying136 hi3 hz3 hs3 hy3 rfl _ P.length (P.map (.int .i64)) rfl hown5 1 [.int .i64 x] rfl (by intro u hu;simp at hu;subst hu;rfl) _ rfl rfl (by omega) hbr5.size ?_);intro v' w9 hown9 hg9 _;have hb9:=(hbr5.alloc hbr5.size (.cells #[.int .i64 x] 3)).grown hg9 (Nat.le_trans hbr5.size (by simp)) (fun j e=>(hown5.lt j e).1);replace hown9:w9.ownsRow w4.heap.size 3 1 v' (P++[x]).length ((P++[x]).map (.int .i64)):=by simpa using hown9
     clear hown5 hg9;go_wp2_with fail;go_roundg (gk-1)
     case measure=>omega
     case rel=>exact⟨k+1,P++[x],by omega,by omega,by omega,hP8,hLe.out,by go_num,hown9,hb9⟩
   ·have hk8:¬(k:Int)≤8:=by omega
    obtain rfl:k=9:=by omega
    have hLe:Hid (L=P):=zhd (by rw[hLP];simp[rayL]);replace hLP:=zhd hLP;go_wp2_with fail;go_ret;exact⟨⟨_,rfl,by rw[hLe.out];exact bC hown hB4.size⟩,hBr⟩
def btwL(L:List Int)(b:Int):List Int:=if elI L b then L.takeWhile (fun x=>!(x==b))else []
theorem oX:∀(L:List Int) (b:Int) (i:Nat),elI (L.take i) b=false→(h:i<L.length)→L[i]=b→L.takeWhile (fun x=>!(x==b))=L.take i:=by
 intro L;induction L with
 | nil=>intro b i _ h;simp at h
 | cons y L ih =>
  intro b i h1 h2 h3;cases i with
  | zero=>simp at h3;simp[h3]
  | succ i=>simp only[List.take_succ_cons,elI,List.any_cons,Bool.or_eq_false_iff]at h1;simp only[List.getElem_cons_succ]at h3;have:=ih b i h1.2 (by simpa using h2) h3;rw[List.takeWhile_cons,h1.1];simp[this]
theorem lD{L:List Int}{b:Int}{i:Nat}(h1:elI (L.take i) b=false)(h2:i<L.length)(h3:L[i]=b):btwL L b=L.take i:=by
 have h4:elI L b=true:=by unfold elI;rw[List.any_eq_true];exact⟨L[i],List.getElem_mem h2,by simp[h3]⟩
 unfold btwL;rw[if_pos h4];exact oX L b i h1 h2 h3
theorem ui{L:List Int}{b:Int}(h:elI L b=false):btwL L b=[]:=by unfold btwL;rw[h];rfl
theorem nW(L:List Int)(b:Int):(btwL L b).length≤L.length:=by
 unfold btwL;split
 ·exact(List.takeWhile_sublist _).length_le
 ·simp
theorem oL{k:IntKind}{W:World}{g o:Nat}{xs:List Int}(i:Nat)(hl:g<W.heap.size)(h:∀ j,j<xs.length→W.cell? ⟨g,o+j,none⟩=some (.int k (xs[j]?.getD 0))):Arr k W (some ⟨g,o,none⟩) (xs.take i):=by refine .inr ⟨g,o,rfl,hl,fun j hj=>?_⟩;rw[List.length_take]at hj;rw[h j (by omega),List.getElem?_take_of_lt (by omega)]
theorem tq(x:Int):-1≤sgnI x∧sgnI x≤1:=by unfold sgnI;split<;>(try split)<;>omega
theorem uH(x:Int):sgnI x=0↔x=0:=by unfold sgnI;split<;>(try split)<;>omega
theorem xY{F a b:Nat}(h:bf a b (dF F a b) (dR F a b)=true):¬(sgnI (dF F a b)=0∧sgnI (dR F a b)=0):=by
 rintro⟨h1,h2⟩;rw[uH]at h1 h2;unfold bf at h;have:a=b:=by
  unfold dF at h1;unfold dR at h2;have e1:a%F=b%F:=by omega
  have e2:a/F=b/F:=by omega
  have:=Nat.div_add_mod a F;have h5:=Nat.div_add_mod b F;rw[e1,e2]at this;omega
 simp[this]at h
def zu(w:World)(k:IntKind)(xs:List Int)(e:Ending)(w':World):Prop :=
 (∃ p c,e=.returned (.slice p xs.length c)∧Arr k w' p xs)∧Below w.heap.size w w'
theorem gP(F R a b:Nat)(hF:3≤F∧F≤8)(hR:3≤R∧R≤8)(ha:a<F*R)(hb:b<F*R)(hln:bf a b (dF F a b) (dR F a b)=true)(w:World):
  Clz 195 #[.agg #[.int .i64 F,.int .i64 R],.int .i64 a,.int .i64 b] w (zu w .i64 (btwL (rayL F R a (sgnI (dF F a b)) (sgnI (dR F a b)) 8 1) b)):=by
 have hA:=ac.new w (.cells [.int .i64 (F:Int),.int .i64 (R:Int)].toArray 23);have hB:=ae w (.cells [.int .i64 (F:Int),.int .i64 (R:Int)].toArray 23);obtain⟨ha64,ha0,ha1⟩:=bU hF hR ha;obtain⟨hb64,hb0,hb1⟩:=bU hF hR hb;have hray:=fun W=>rH F R a (sgnI (dF F a b)) (sgnI (dR F a b)) hF hR ha (tq _) (tq _) (xY hln) W
 have hlin:=fun W=>jL F R a b hF ha64 hb64 W
 have e1:dZ a b (dF F a b) (dR F a b) (sgnI (dF F a b))=sgnI (dF F a b):=by unfold dZ;rw[hln];rfl
 have e2:dZ a b (dF F a b) (dR F a b) (sgnI (dR F a b))=sgnI (dR F a b):=by unfold dZ;rw[hln];rfl
 rw[e1,e2,hln]at hlin;have hLl:=ix F R a (sgnI (dF F a b)) (sgnI (dR F a b)) 8 1;generalize rayL F R a (sgnI (dF F a b)) (sgnI (dR F a b)) 8 1=L at hray hLl ⊢;generalize sgnI (dF F a b)=sf,sgnI (dR F a b)=sr at hray hlin;clear e1 e2;go_enter Tryz.func195,Tryz.ntmps195;go_wp2_with fail;refine(hlin _).mono ?_;rintro e w2 ⟨rfl,hb2⟩;have hA2:=hA.call hb2;have hB2:=zbc hB hb2;have⟨hc2,hl2⟩:=hA2.cl;clear hA hB;go_wp2_with fail;refine(hray _).mono ?_;rintro e w3 ⟨⟨v,rfl,hown⟩,hb3⟩;have hB3:=zbc hB2 hb3;obtain⟨p,c,rfl,hLc,hArr⟩:=dO hown;clear hc2 hl2 hown hray hlin;go_wp2_with fail;go_loopg [11] 20 (fun q iv wr=>∃ i:Nat,q+i=20∧i≤L.length∧iv=.int .i64 i∧Below w3.heap.size w3 wr∧elI (L.take i) b=false)
 case atStart=>exact⟨0,rfl,Nat.zero_le _,rfl,Below.refl _ _,rfl⟩
 case round =>
  obtain⟨i,hq,hi,rfl,hbr,hel⟩:=hrel;have hBr:=zbc hB3 hbr;replace hel:=zhd hel;by_cases hlt:i<L.length
  ·have hii:(i:Int)<L.length:=by omega
   obtain⟨g,o,rfl,hgl,hcc⟩:=(hArr.call hbr).at hlt;have hci:=hcc i hlt;have hget:L[i]?.getD 0=L[i]:=by simp[hlt]
   obtain⟨y,hy⟩:∃ y,y=L[i]?.getD 0:=⟨_,rfl⟩;rw[←hy]at hci hget;replace hget:=zhd hget;replace hcc:=zhd hcc;clear hy;by_cases hyb:y=b
   ·have e0:Hid (btwL L b=L.take i):=zhd (lD hel.out hlt (by rw[←hget.out];exact hyb));have hyb2:(y==(b:Int))=true:=by simp[hyb]
    have hic:(i:Int)≤c:=by omega
    replace hyb:=zhd hyb;go_wp2_with fail;go_ret;refine⟨⟨some ⟨g,o,none⟩,c,?_,?_⟩,hBr⟩
    ·rw[e0.out,List.length_take,Nat.min_eq_left (by omega)];rfl
    ·rw[e0.out];exact oL i hgl hcc.out
   ·have hyb2:(y==(b:Int))=false:=by simp[hyb]
    go_wp2_with fail;go_roundg (gk-1)
    case measure=>omega
    case rel=>exact⟨i+1,by omega,by omega,by go_num,hbr,by have ha:=hel.out;unfold elI at ha ⊢;rw[List.take_succ_eq_append_getElem hlt,List.any_append,ha];simp[←hget.out];exact hyb⟩
  ·have hii:¬(i:Int)<L.length:=by omega
   have e0:Hid (btwL L b=[]):=zhd (ui (by have ha:=hel.out;rwa[List.take_of_length_le (by omega)]at ha));go_wp2_with fail;go_ret;refine⟨⟨none,0,?_,?_⟩,hBr⟩
   ·rw[e0.out];rfl
   ·rw[e0.out];exact .inl rfl
def btwS(F R a b:Nat):List Int:=btwL (rayL F R a (sgnI (dF F a b)) (sgnI (dR F a b)) 8 1) b
def strB(df dr:Int):Bool:=decide (df=0)||decide (dr=0)
def reachB(F R:Nat)(k:Int)(a b oc:Nat):Bool :=
 if k=2 then dF F a b*dF F a b+dR F a b*dR F a b==5 else if k=6 then distI F a b==1 else
  (bf a b (dF F a b) (dR F a b)&&(k==5||(strB (dF F a b) (dR F a b)==(k==4))))&&dt (btwS F R a b) oc
theorem wG{x:Int}(h:-100<x∧x<100):0≤x*x∧x*x<10000:=by
 have h1:(x*x).natAbs=x.natAbs*x.natAbs:=Int.natAbs_mul x x;have h2:x.natAbs*x.natAbs≤99*99:=Nat.mul_le_mul (by omega) (by omega);have h3:0≤x*x:=by rcases Int.le_total 0 x with h|h;exact Int.mul_nonneg h h;exact Int.mul_nonneg_of_nonpos_of_nonpos h h
 omega
theorem ww{F a b:Nat}(hF:3≤F∧F≤8):-100<dF F a b∧dF F a b<100:=by have h1:=Nat.mod_lt a (show 0<F by omega);have h2:=Nat.mod_lt b (show 0<F by omega);unfold dF;omega
theorem wB{F R a b:Nat}(hR:3≤R∧R≤8)(ha:a/F<R)(hb:b/F<R):-100<dR F a b∧dR F a b<100:=by unfold dR;generalize a/F=x,b/F=y at *;omega
theorem gT(F R:Nat)(k:Int)(a b oc:Nat)(hF:3≤F∧F≤8)(hR:3≤R∧R≤8)(ha:a<F*R)(hb:b<F*R)(w:World):
  Clz 165 #[.agg #[.int .i64 F,.int .i64 R],.int .i8 k,.int .i64 a,.int .i64 b,.int .u64 (oc:Nat)] w fun e w'=>e=.returned (.bool (reachB F R k a b oc))∧Below w.heap.size w w':=by
 have hA:=ac.new w (.cells [.int .i64 (F:Int),.int .i64 (R:Int)].toArray 23);have hB:=ae w (.cells [.int .i64 (F:Int),.int .i64 (R:Int)].toArray 23);obtain⟨ha64,ha0,ha1⟩:=bU hF hR ha;obtain⟨hb64,hb0,hb1⟩:=bU hF hR hb;have hdist:=fun W=>pV F R a b hF ha64 hb64 W
 have hlin:=fun W=>jL F R a b hF ha64 hb64 W
 have hbtw:=fun h W=>gP F R a b hF hR ha hb h W
 have hbl:(btwL (rayL F R a (sgnI (dF F a b)) (sgnI (dR F a b)) 8 1) b).length≤8:=Nat.le_trans (nW _ _) (ix _ _ _ _ _ _ _);obtain⟨V,hV⟩:∃ V,V=reachB F R k a b oc:=⟨_,rfl⟩;have hVV:V=if k=2 then dF F a b*dF F a b+dR F a b*dR F a b==5 else if k=6 then distI F a b==1 else
  (bf a b (dF F a b) (dR F a b)&&(k==5||(strB (dF F a b) (dR F a b)==(k==4))))&&dt (btwL (rayL F R a (sgnI (dF F a b)) (sgnI (dR F a b)) 8 1) b) oc:=hV
 rw[←hV];clear hV;have hdb:=ww (a:=a) (b:=b) hF;have hrb:=wB (a:=a) (b:=b) hR ha1 hb1;have hdf:dF F a b=((b%F:Nat):Int)-((a%F:Nat):Int):=rfl;have hdr:dR F a b=((b/F:Nat):Int)-((a/F:Nat):Int):=rfl;generalize btwL (rayL F R a (sgnI (dF F a b)) (sgnI (dR F a b)) 8 1) b=B at hbtw hVV hbl;generalize distI F a b=D at hdist hVV;generalize dF F a b=df,dR F a b=dr at hlin hbtw hVV hdb hrb hdf hdr;replace hVV:=zhd hVV;go_enter Tryz.func165,Tryz.ntmps165;go_wp2_with fail;show Code.wp _ _ _ _ (w.alloc (.cells [.int .i64 (F:Int),.int .i64 (R:Int)].toArray 23));obtain⟨w1,hw1⟩:∃ x,x=w.alloc (.cells [.int .i64 (F:Int),.int .i64 (R:Int)].toArray 23):=⟨_,rfl⟩;rw[←hw1]at hA hB ⊢;clear hw1;refine bE (by kernel_rfl) (by kernel_rfl) [some 19,some 20,some 21,some 22,some 23,some 24,some 11,some 12,none,none] (by rfl) (by rfl) (dS w1 [.int .i64 (F:Int),.int .i64 (R:Int)].toArray a b #[.int .i64 (a%F:Nat),.int .i64 (a/F:Nat)] #[.int .i64 (b%F:Nat),.int .i64 (b/F:Nat)]) (fun S S9 f9 W h hR=>fF S S9 f9 W h hR) (fun f9=>ge f9) ?hstep ?hend
 case hstep =>
  intro S i9 o9 f9 W ho hi hSj hpre hcl hR K hK;have hi:i9<10:=hi;have hR0:=hR;obtain⟨hC,h0,h1,h2,h3,h4,h5,h6,h7,h8⟩:=hR0;have hsz:=hA.call hC;rcases i9 with _|_|_|_|_|_|_|_|_|_|i9
  ·exact ay (og ho) 23 (.tmp 5) (oo ho) (ah rfl rfl) [.int .i64 (F:Int),.int .i64 (R:Int)] (by kernel_rfl) (fun j v hv=>by rw[Nat.zero_add,hsz.cells j];simpa using hv) (hK _ _ (aS hR 0 _ (Below.refl _ _) (by decide) (by refine⟨?_,?_,?_,?_,?_,?_⟩<;>intro h<;>first|rfl|(cases h))))
  ·exact al (og ho) (.tmp 2) (oo ho) (ah rfl rfl) (hK _ _ (aS hR 1 _ (Below.refl _ _) (by decide) (by refine⟨?_,?_,?_,?_,?_,?_⟩<;>intro h<;>first|rfl|(cases h))))
  ·exact aH (og ho) 40 (.tmp 19) (.tmp 20) #[23,3] (oo ho) (ri 0 (h0 (da ho hpre 0))) (ri 1 (h1 (da ho hpre 1))) (fun _ _=>rfl) (aO F R a hF (by omega) W) (by rintro u w9 ⟨h9,hb9⟩;injection h9 with h9;subst h9;exact hK _ _ (aS hR 2 _ hb9 (by decide) (by refine⟨?_,?_,?_,?_,?_,?_⟩<;>intro h<;>first|rfl|(cases h)))) (by rintro ch w9 ⟨h9,_⟩;cases h9) (by rintro w9 ⟨h9,_⟩;cases h9)
  ·exact ay (og ho) 23 (.tmp 5) (oo ho) (ah rfl rfl) [.int .i64 (F:Int),.int .i64 (R:Int)] (by kernel_rfl) (fun j v hv=>by rw[Nat.zero_add,hsz.cells j];simpa using hv) (hK _ _ (aS hR 3 _ (Below.refl _ _) (by decide) (by refine⟨?_,?_,?_,?_,?_,?_⟩<;>intro h<;>first|rfl|(cases h))))
  ·exact al (og ho) (.tmp 3) (oo ho) (ah rfl rfl) (hK _ _ (aS hR 4 _ (Below.refl _ _) (by decide) (by refine⟨?_,?_,?_,?_,?_,?_⟩<;>intro h<;>first|rfl|(cases h))))
  ·exact aH (og ho) 40 (.tmp 22) (.tmp 23) #[23,3] (oo ho) (ri 3 (h3 (da ho hpre 3))) (ri 4 (h4 (da ho hpre 4))) (fun _ _=>rfl) (aO F R b hF (by omega) W) (by rintro u w9 ⟨h9,hb9⟩;injection h9 with h9;subst h9;exact hK _ _ (aS hR 5 _ hb9 (by decide) (by refine⟨?_,?_,?_,?_,?_,?_⟩<;>intro h<;>first|rfl|(cases h)))) (by rintro ch w9 ⟨h9,_⟩;cases h9) (by rintro w9 ⟨h9,_⟩;cases h9)
  ·have hS8:S 8=false:=by
    rcases h:S 8 with _|_
    ·rfl
    ·have:=hcl 8 _ h rfl ⟨6,.data⟩ (by simp) rfl;rw[hSj]at this;cases this
   exact bV (og ho) 85 (oo ho) (ej W) (hK _ _ (dA hR 6 (.inl rfl) hS8))
  ·have hS9:S 9=false:=by
    rcases h:S 9 with _|_
    ·rfl
    ·have:=hcl 9 _ h rfl ⟨7,.data⟩ (by simp) rfl;rw[hSj]at this;cases this
   exact bV (og ho) 85 (oo ho) (ej W) (hK _ _ (dA hR 7 (.inr rfl) hS9))
  ·have hSi:=(da ho hpre 6);obtain⟨q,e1,e2,old,e3,e4,e5⟩:=h6 hSi;exact bI (og ho) 85 (.tmp 11) (.tmp 21) (oo ho) (ri 6 e1) _ old 85 (ri 2 (h2 (da ho hpre 2))) e3 (by kernel_rfl) e4 (by simp[Value.oneCell']) (hK _ _ (gp hR hSi rfl _ e1))
  ·have hSi:=(da ho hpre 7);obtain⟨q,e1,e2,old,e3,e4,e5⟩:=h7 hSi;exact bI (og ho) 85 (.tmp 12) (.tmp 24) (oo ho) (ri 7 e1) _ old 85 (ri 5 (h5 (da ho hpre 5))) e3 (by kernel_rfl) e4 (by simp[Value.oneCell']) (hK _ _ (gr hR hSi rfl _ e1))
  ·omega
 case hend =>
  intro S f9 W hS hR;obtain⟨hC,_,_,_,_,_,_,h6,h7,h8⟩:=hR;obtain⟨q1,e1,l1,o1,hO1,_,z1⟩:=h6 (hS 6 (by decide));obtain⟨q2,e2,l2,o2,hO2,_,z2⟩:=h7 (hS 7 (by decide));replace z1:=z1 (hS 8 (by decide));replace z2:=z2 (hS 9 (by decide));subst z1 z2;clear h6 h7 h8;simp only[ao,Act.put,List.setIfInBounds_toArray,List.set_cons_succ,List.set_cons_zero];rw[e1,e2];clear e1 e2 hS;generalize f9 0=u0,f9 1=u1,f9 2=u2,f9 3=u3,f9 4=u4,f9 5=u5,f9 8=u8,f9 9=u9;have hBW:=zbc hB hC;have hAW:=hA.call hC;generalize a%F=a0,a/F=a1,b%F=b0,b/F=b1' at *;clear hA;have hwf:IntKind.i64.wrap ((b0:Int)-(a0:Int))=df:=by rw[←hdf];exact IntWalk.i64_in _ (by omega)
  have hwr:IntKind.i64.wrap ((b1':Int)-(a1:Int))=dr:=by rw[←hdr];exact IntWalk.i64_in _ (by omega)
  replace hdf:=zhd hdf;replace hdr:=zhd hdr;go_wp2_with fail;refine bG (by kernel_rfl) (by kernel_rfl) [some 25,some 26,some 27,some 28,some 29,some 30,some 31,some 32,some 33,some 34,some 13,some 14] (by rfl) (by rfl) (fun i=>match i with|0=>.pointer (some ⟨q2,0,none⟩)|1=>.int .i64 ((b0:Nat):Int)|2=>.pointer (some ⟨q1,0,none⟩)|3=>.int .i64 ((a0:Nat):Int)|4=>.int .i64 df|5=>.pointer (some ⟨q2,1,none⟩)|6=>.int .i64 ((b1':Nat):Int)|7=>.pointer (some ⟨q1,1,none⟩)|8=>.int .i64 ((a1:Nat):Int)|9=>.int .i64 dr|10=>.int .i64 df|11=>.int .i64 dr|_=>undef) (fun W2=>Below W.heap.size W W2) (Below.refl _ _).drew ?hstep ?hend
  case hstep =>
   intro i9 o9 f9 W2 ho hi hC hf K hK;have hi:i9<12:=hi;rcases i9 with _|_|_|_|_|_|_|_|_|_|_|_|i9
   ·exact au (og ho) 85 (.tmp 12) 0 (oo ho) (ah rfl rfl) (n:=0) (by kernel_rfl) (hK _ hC)
   ·exact ap (og ho) 3 (.tmp 25) (oo ho) (ri 0 (da ho hf 0)) (by kernel_rfl) (((hO2.call hC).cells 0)) (hK _ hC)
   ·exact au (og ho) 85 (.tmp 11) 0 (oo ho) (ah rfl rfl) (n:=0) (by kernel_rfl) (hK _ hC)
   ·exact ap (og ho) 3 (.tmp 27) (oo ho) (ri 2 (da ho hf 2)) (by kernel_rfl) (((hO1.call hC).cells 0)) (hK _ hC)
   ·exact aK (og ho) .sub 3 3 (.tmp 26) (.tmp 28) (oo ho) (ri 1 (da ho hf 1)) (ri 3 (da ho hf 3)) (bM _ _ _ _ _ _ _ _) (dD hwf) (hK _ hC)
   ·exact au (og ho) 85 (.tmp 12) 1 (oo ho) (ah rfl rfl) (n:=1) (by kernel_rfl) (hK _ hC)
   ·exact ap (og ho) 3 (.tmp 30) (oo ho) (ri 5 (da ho hf 5)) (by kernel_rfl) (((hO2.call hC).cells 1)) (hK _ hC)
   ·exact au (og ho) 85 (.tmp 11) 1 (oo ho) (ah rfl rfl) (n:=1) (by kernel_rfl) (hK _ hC)
   ·exact ap (og ho) 3 (.tmp 32) (oo ho) (ri 7 (da ho hf 7)) (by kernel_rfl) (((hO1.call hC).cells 1)) (hK _ hC)
   ·exact aK (og ho) .sub 3 3 (.tmp 31) (.tmp 33) (oo ho) (ri 6 (da ho hf 6)) (ri 8 (da ho hf 8)) (bM _ _ _ _ _ _ _ _) (dD hwr) (hK _ hC)
   ·exact aE (og ho) (.tmp 29) (oo ho) (ri 4 (da ho hf 4)) (hK _ hC)
   ·exact aE (og ho) (.tmp 34) (oo ho) (ri 9 (da ho hf 9)) (hK _ hC)
   ·omega
  case hend =>
   intro W2 hC2;have hBW2:=zbc hBW hC2;have hAW2:=hAW.call hC2;have⟨hcA,hlA⟩:=hAW2.cl;simp only[ao,Act.put,List.setIfInBounds_toArray,List.set_cons_succ,List.set_cons_zero];clear hwf hwr hC hC2 hAW;have g1:=wG hdb;have g2:=wG hrb;have e1:wrap64 (df*df)=df*df:=IntWalk.wrap64_in _ (by omega);have e2:wrap64 (dr*dr)=dr*dr:=IntWalk.wrap64_in _ (by omega);have e3:wrap64 (df*df+dr*dr)=df*df+dr*dr:=IntWalk.wrap64_in _ (by omega);by_cases k2:k=2
   ·have e0:Hid (V=(df*df+dr*dr==5)):=zhd (by rw[hVV.out,if_pos k2]);have c1:(k==2)=true:=by simp[k2]
    replace k2:=zhd k2;go_wp2_with fail;go_ret;exact⟨by rw[e0.out];rfl,hBW2⟩
   by_cases k6:k=6
   ·have e0:Hid (V=(D==1)):=zhd (by rw[hVV.out,if_neg k2,if_pos k6]);have c1:(k==2)=false:=by simp[k2]
    have c2:(k==6)=true:=by simp[k6]
    replace k6:=zhd k6;replace k2:=zhd k2;go_wp2_with fail;refine(hdist _).mono ?_;rintro e w3 ⟨rfl,hb3⟩;go_wp2_with fail;go_ret;exact⟨by rw[e0.out];rfl,zbc hBW2 hb3⟩
   have c1:(k==2)=false:=by simp[k2]
   have c2:(k==6)=false:=by simp[k6]
   replace hVV:Hid (V=((bf a b df dr&&(k==5||(strB df dr==(k==4))))&&dt B oc)):=zhd (by rw[hVV.out,if_neg k2,if_neg k6]);replace k2:=zhd k2;replace k6:=zhd k6;clear g1 g2 e1 e2 e3;go_wp2_with fail;refine(hlin _).mono ?_;rintro e w3 ⟨rfl,hb3⟩;have hBW3:=zbc hBW2 hb3;have hA3:=hAW2.call hb3;have⟨hcA3,hlA3⟩:=hA3.cl;clear hBW2 hAW2 hcA hlA hlin hdist;have hst:((df==0)=true∧strB df dr=true)∨((df==0)=false∧(dr==0)=true∧strB df dr=true)∨((df==0)=false∧(dr==0)=false∧strB df dr=false):=by
    by_cases h1:df=0
    ·left;simp[strB,h1]
    ·by_cases h2:dr=0
     ·right;left;simp[strB,h1,h2]
     ·right;right;simp[strB,h1,h2]
   rcases hl:bf a b df dr with _|_
   ·have e0:Hid (V=false):=zhd (by rw[hVV.out,hl];rfl);replace hVV:=zhd hVV;rcases hst with⟨d1,d2⟩|⟨d1,d3,d2⟩|⟨d1,d3,d2⟩
    all_goals
     go_wp2_with fail;go_ret;exact⟨by rw[e0.out];rfl,hBW3⟩
   ·have hkk:((k==5)=true)∨((k==5)=false∧(k==4)=true)∨((k==5)=false∧(k==4)=false):=by
     rcases h1:(k==5)with _|_
     ·right;rcases h2:(k==4)with _|_
      ·right;exact⟨rfl,rfl⟩
      ·left;exact⟨rfl,rfl⟩
     ·left;rfl
    have hbtw':=hbtw hl w3;clear hbtw;obtain⟨M,hM⟩:∃ M,M=(k==5||(strB df dr==(k==4))):=⟨_,rfl⟩;have e0:Hid (V=(M&&dt B oc)):=zhd (by rw[hVV.out,hl,hM];rfl);rcases hst with⟨d1,d2⟩|⟨d1,d3,d2⟩|⟨d1,d3,d2⟩
    all_goals
     rcases hkk with f1|⟨f1,f2⟩|⟨f1,f2⟩
     all_goals
      (try rw[f1]at hM)
      (try rw[f2]at hM)
      (try rw[d2]at hM)
      replace hM:=zhd hM;go_wp2_with fail;first
       | (refine hbtw'.mono ?_
          rintro e w4 ⟨⟨p,c,rfl,hArr⟩,hb4⟩
          have hBW4:=zbc hBW3 hb4
          clear hb4 hBW3 hA3 hcA3 hlA3
          go_wp2_with fail
          refine(py p c B oc w4 hArr (by omega)).mono ?_
          rintro e w5 ⟨rfl,hb5⟩
          go_wp2_with fail
          go_ret
          exact⟨by rw[e0.out,hM.out];rfl,zbc hBW4 hb5⟩)
       | (go_ret
          exact⟨by rw[e0.out,hM.out];rfl,hBW3⟩)
end Go.Proofs.YtefmplccbkmalaaGreatDoor
namespace Go.Proofs.YtefmplccbkmalaaGreatDoor
open Go Go.Sort Go.RowKit

section
variable {P:Program} {ops:Array Oper} {md:Region.Mode} {C:World→Prop}
def ja(P:Program)(md:Region.Mode)(ops:Array Oper)(C:World→Prop)(n:Nat)(L:Array Bool→Act→Prop):Nat→Array Bool→Act→Prop
 | 0,listed,a=>L listed a
 | f+1,listed,a=>Region.ready md ops listed≠[]∧∀ i∈Region.ready md ops listed,i<n∧qOp P ops C i (ja P md ops C n L f (listed.setIfInBounds i true)) a
theorem gU{n g:Nat}{L:Array Bool→Act→Prop}{Q':Exit→Act→World→Prop}(hL:∀ listed a w,C w→L listed a→wpAny P md ops Q' g listed a w):
  ∀(f:Nat) (listed:Array Bool) (a:Act) (w:World),C w→ja P md ops C n L f listed a→wpAny P md ops Q' (f+g) listed a w
 | 0,listed,a,w,hw,h=>by rw[Nat.zero_add];exact hL _ _ _ hw h
 | f+1,listed,a,w,hw,h=>by
  rw[show f+1+g=(f+g)+1 by omega];exact⟨fun h0=>absurd h0 h.1,fun i hi=>wpOp_of_qOp hw (fun a' w' hw' h'=>gU hL f _ a' w' hw' h') (h.2 i hi).2⟩
theorem oe{n i:Nat}{oi:Oper}{v:Value}{L:Array Bool→Act→Prop}(hi:ops[i]? = some oi)(hsel:∀(j:Nat) (o:Oper) cs b,ops[j]? = some o→o.op≠.select cs b)
  (hs:Region.sinkB md ops n=true) (hc:Region.chainB md ops n=true) (hn:n<ops.size) (hin:i<n)
  (hdone:∀ listed a,L listed a→∀ j∈Region.ready md ops listed,n≤j) :
  ∀(f:Nat) (listed:Array Bool) (a:Act),HeadInv md ops n listed →
   (∀ j oj,ops[j]? = some oj→j≠i→listed.getD j true=false→(∀ e∈oj.after,Region.binds md e=true→e.on≠i)→oi.apart ops oj=true) →
   i∈Region.ready md ops listed→YieldsIn P ops C oi v a →
   ja P md ops C n L f (listed.setIfInBounds i true) (a.put oi.dst v)→ja P md ops C n L (f+1) listed a:=by
 intro f;induction f with
 | zero =>
  intro listed a inv _ hr hy H;have hun:=(mem_ready.1 hr).1;refine⟨fun h=>(by rw[h]at hr;cases hr),fun j hj=>?_⟩;have hjn:j<n:=by
   rcases Nat.lt_or_ge j n with h|h
   ·exact h
   ·exact absurd hj (tail_waits hs hc hn inv _ i rfl hin hun j h)
  refine⟨hjn,?_⟩;by_cases hji:j=i
  ·subst hji;exact hy.qOp hi H
  ·have:=hdone _ _ H j (ready_mono hj hji);omega
 | succ f ih =>
  intro listed a inv hfree hr hy H;have hun:=(mem_ready.1 hr).1;refine⟨fun h=>(by rw[h]at hr;cases hr),fun j hj=>?_⟩;have hjn:j<n:=by
   rcases Nat.lt_or_ge j n with h|h
   ·exact h
   ·exact absurd hj (tail_waits hs hc hn inv _ i rfl hin hun j h)
  refine⟨hjn,?_⟩;by_cases hji:j=i
  ·subst hji;exact hy.qOp hi H
  ·have h1:=(H.2 j (ready_mono hj hji)).2;obtain⟨hjun,oj,hoj,hall⟩:=mem_ready.1 hj;have hnot:∀ e∈oj.after,Region.binds md e=true→e.on≠i:=fun e he hb heq=>by
    have h1:=hall e he hb;rw[heq,getD_both hun]at h1;cases h1
   have h2:=qOp_put hoj (hfree j oj hoj hji hjun hnot) (fun cs b=>hsel i oi cs b hi) (fun cs b=>hsel j oj cs b hoj) hy h1;have hfree':∀ k ok,ops[k]? = some ok→k≠i→(listed.setIfInBounds j true).getD k true=false →
     (∀ e∈ok.after,Region.binds md e=true→e.on≠i)→oi.apart ops ok=true:=fun k ok hk hki hun hno=>by
    refine hfree k ok hk hki ?_ hno;by_cases hjk:j=k
    ·subst hjk;exact hjun
    ·rw[Go.getD_set_ne true hjk]at hun;exact hun
   refine qOp_mono (fun a' h3=>ih (listed.setIfInBounds j true) a' (inv.set hj hjn) hfree' (ready_mono hr (Ne.symm hji)) h3.1 ?_) h2;rw[Array.setIfInBounds_comm _ _ hji];exact h3.2
theorem kl{n g:Nat}{Lq:Act→Prop}(hsel:Region.noSelect ops=true)(hs:Region.sinkB md ops n=true)(hc:Region.chainB md ops n=true)(hn:n<ops.size):
  ∀(l:List Oper) (k:Nat) (listed:Array Bool) (a:Act),(∀ j,j<l.length→l[j]? = ops[k+j]?)→k+l.length=n→HeadInv md ops n listed →
  Region.lexHead md ops g l.length k listed=true→wpQuiet P ops C Lq l a →
  ja P md ops C n (fun listed' a'=>Region.seqB md ops g n listed'=true∧Lq a') l.length listed a
 | [],k,listed,a,_,hk,_,hB,h=>by
  have:k=n:=by simpa using hk
  subst this;exact⟨by simpa[Region.lexHead]using hB,h⟩
 | o::l,k,listed,a,hl,hk,inv,hB,h=>by
  have h0:ops[k]? = some o:=by simpa using(hl 0 (by simp)).symm
  simp only[List.length_cons,Region.lexHead,Bool.and_eq_true]at hB;obtain⟨⟨hr,hf⟩,hB'⟩:=hB;have hkn:k<n:=by simp only[List.length_cons]at hk;omega
  have hr':k∈Region.ready md ops listed:=by simpa using hr
  have hst:qOp P ops C k (wpQuiet P ops C Lq l) a:=by unfold qOp;simp only[h0];exact h
  obtain⟨v,hy,hK⟩:=yieldsIn_of_qOp h0 hst;exact oe h0 (Region.noSelect_spec hsel) hs hc hn hkn (fun listed' a' hL=>seqB_ready hL.1) l.length listed a inv (Region.free_spec h0 hf) hr' hy
   (kl hsel hs hc hn l (k+1) _ _ (fun j hj=>by have:=hl (j+1) (by simp;omega);simpa[Nat.add_assoc,Nat.add_comm 1 j]using this) (by simp only[List.length_cons]at hk;omega) (inv.set hr' hkn) hB' hK)
theorem eu{Q Q':Act→Prop}(hQ:∀ a,Q a→Q' a):∀(l:List Oper) (a:Act),wpQuiet P ops C Q l a→wpQuiet P ops C Q' l a
 | [],a,h=>hQ a h
 | o::l,a,h=>by
  simp only[wpQuiet]at h ⊢;split
  ·rename_i hw;rw[if_pos hw]at h;exact Oper.quiet_mono (fun a' h'=>eu hQ l a' h') h
  ·rename_i hw;rw[if_neg hw]at h;exact eu hQ l _ h
theorem ku{id:Nat}{Q:Exit→Act→World→Prop}{a:Act}{w:World}{l:List Oper}(n:Nat)(hm:P.follows .mixedOrders=true)(hB:Region.lexTailB .any l.toArray n=true)(hC:C w.drew)
  (h:wpQuiet P l.toArray C (fun a'=>∀ w',C w'→wpList P l.toArray Q (l.drop n) a' w') (l.take n) a):(Code.region id l.toArray true).wp P Q a w:=by
 simp only[Region.lexTailB,Bool.and_eq_true,decide_eq_true_eq]at hB;obtain⟨⟨⟨⟨hsel,hn⟩,hs⟩,hc⟩,hlex⟩:=hB;have hn':n<l.length:=by simpa using hn
 have htl:(l.take n).length=n:=by simp;omega
 have hdl:(l.drop n).length=l.toArray.size-n:=by simp
 have inv0:HeadInv .any l.toArray n (Array.replicate l.toArray.size false) :=
  ⟨by simp,fun j oj _ hl=>(by rw[getD_replicate_false]at hl;cases hl),fun t _ ht=>getD_in (by simpa using ht) (getD_replicate_false _ _)⟩
 have H:=kl (md:=.any) (g:=l.toArray.size-n) hsel hs hc hn (l.take n) 0 _ a (fun j hj=>by
  have hj':j<n:=by rw[htl]at hj;exact hj
  simp[hj']) (by simpa using htl) inv0 (by rw[htl];exact hlex) h
 refine wp_region_any hm ?_;have:=gU (Q':=Q) (g:=l.toArray.size-n) (fun listed a' w' hw' hL=>by
  have:=wpAny_of_seq (md:=.any) (Q':=Q) (l.drop n) n listed a' w' (fun j=>by simp[List.getElem?_drop]) (by rw[hdl];exact hL.1) (hL.2 w' hw');rwa[hdl]at this) _ _ _ _ hC H
 rw[htl,show n+(l.toArray.size-n)=l.toArray.size by omega]at this;exact this
theorem aN{id:Nat}{Q:Exit→Act→World→Prop}{a:Act}{w:World}{l:List Oper}(n:Nat)(hm:P.follows .mixedOrders=true)(hB:Region.lexTailB .any l.toArray n=true)
  (h:wpQuiet P l.toArray (fun w'=>∃ p:Regrown,w'=grow (redrawn w p.d) p.os) (fun a'=>∀ w',Below w.heap.size w w'→wpList P l.toArray Q (l.drop n) a' w') (l.take n) a):(Code.region id l.toArray true).wp P Q a w:=by
 refine ku (C:=fun w'=>∃ p:Regrown,w'=grow (redrawn w p.d) p.os) n hm hB ⟨⟨w.drawn+1,#[]⟩,by rw[grow_empty];rfl⟩ ?_;have hq:∀ a',(∀ w',Below w.heap.size w w'→wpList P l.toArray Q (l.drop n) a' w')→∀ w',(∃ p:Regrown,w'=grow (redrawn w p.d) p.os)→wpList P l.toArray Q (l.drop n) a' w':=by rintro a' h' w' ⟨p,rfl⟩;exact h' _ (below_regrown _ _ _)
 exact eu hq _ _ h
theorem ag{id:Nat}{Q:Exit→Act→World→Prop}{a:Act}{w:World}{l:List Oper}(hm:P.follows .mixedOrders=true)(hB:Region.lexB .any l.toArray=true)
  (h:wpQuiet P l.toArray (fun w'=>∃ p:Regrown,w'=grow (redrawn w p.d) p.os) (fun a'=>∀ w',Below w.heap.size w w'→Q .normal a' w') l a):(Code.region id l.toArray true).wp P Q a w:=by
 refine wp_region_quiet_below hm hB ?_;refine eu ?_ _ _ h;rintro a' h' w' ⟨p,rfl⟩;exact h' _ (below_regrown _ _ _)
end
end Go.Proofs.YtefmplccbkmalaaGreatDoor
namespace Go.Proofs.YtefmplccbkmalaaGreatDoor
open Go Go.RowKit Go.Sort Go.BigFrame

theorem am{w:World}{q:Nat}{cs:Array Value}{t:TypeId}(h:ac w q (.cells cs t (0,0)))(d:Nat)(os:Array Obj)(j:Nat):(grow (redrawn w d) os).cell? ⟨q,j,none⟩=cs[j]?:=(h.call (below_regrown w d os)).cells j
theorem ax{P:Program}{f:FuncId}{args:Array Value}{w:World}{v:Value}(h:∀ W,Below w.heap.size w W→Calls P f args W fun e w'=>e=.returned v∧Below W.heap.size W w')(d:Nat)(os:Array Obj):
  Calls P f args (grow (redrawn w d) os) fun e w''=>e=.returned v∧∃ p:Regrown,w''=grow (redrawn w p.d) p.os:=Calls.regrown_of (h _ (below_regrown w d os))
theorem aJ{P:Program}{f:FuncId}{args:Array Value}{w:World}{v:Value}(h:∀ W,Calls P f args W fun e w'=>e=.returned v∧W=w')(d:Nat)(os:Array Obj):
  Calls P f args (grow (redrawn w d) os) fun e w''=>e=.returned v∧∃ p:Regrown,w''=grow (redrawn w p.d) p.os:=(h _).mono fun _ _ ⟨he,hw⟩=>⟨he,⟨d,os⟩,hw.symm⟩
end Go.Proofs.YtefmplccbkmalaaGreatDoor
