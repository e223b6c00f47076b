import Derived.Test.YtefmplccbkmalaaGreatDoorB06
set_option maxRecDepth 100000
set_option maxHeartbeats 12800000
namespace Go.Proofs.YtefmplccbkmalaaGreatDoor
open Go.RowKit

theorem wT{n:Nat}(hn:n≤64):(18446744073709551615:Int)/2^(64-n)=((2^n-1:Nat):Int):=by
 rcases Nat.lt_or_ge n 65 with h|h
 ·have key:∀ n,n<65→(18446744073709551615:Nat)/2^(64-n)=2^n-1:=by decide +kernel
  have:=key n h;rw[←this];simp
 ·omega
theorem r6(F R:Nat)(hF:3≤F∧F≤8)(hR:3≤R∧R≤8)(w:World):Clz 202 #[.agg #[.int .i64 F,.int .i64 R]] w fun e w'=>e=.returned (.int .u64 (2^(F*R)-1:Nat))∧Below w.heap.size w w':=by
 obtain⟨n,hn⟩:∃ n,n=F*R:=⟨_,rfl⟩;have hn64:n≤64:=by rw[hn];exact Nat.mul_le_mul hF.2 hR.2
 have e1:wrap64 ((F:Int)*(R:Int))=(n:Int):=by rw[←Int.natCast_mul,←hn];exact IntWalk.wrap64_in _ (by omega)
 obtain⟨m,hm⟩:∃ m:Nat,m=64-n:=⟨_,rfl⟩;have e2:wrap64 (64-(n:Int))=(m:Int):=by rw[show(64:Int)-n=(m:Int) by omega];exact IntWalk.wrap64_in _ (by omega)
 have hm64:(m:Int)≤64:=by omega
 rw[←hn];replace hn:=zhd hn;replace hm:=zhd hm;go_enter Tryz.func202,Tryz.ntmps202;go_wp2_with fail;go_ret;exact⟨by rw[←wT hn64];rfl,ae _ _⟩
theorem tP(F R:Nat)(hF:3≤F∧F≤8)(hR:3≤R∧R≤8)(w:World):Clz 183 #[.agg #[.int .i64 F,.int .i64 R]] w fun e w'=>e=.returned (.tuple #[.int .u64 (2^(F*R)-1:Nat),.int .i64 0])∧Below w.heap.size w w':=by
 have hA:=ac.new w (.cells #[.int .i64 (F:Int),.int .i64 (R:Int)] 23);have hB:=ae w (.cells #[.int .i64 (F:Int),.int .i64 (R:Int)] 23);have hvs:=fun W=>ed F R W
 rw[oA hF hR]at hvs;have hal:=fun W=>r6 F R hF hR W
 generalize ((2^(F*R)-1:Nat):Int)=V at *;have⟨hc0,hl0⟩:=hA.cl;go_enter Tryz.func183,Tryz.ntmps183;go_wp2_with fail;refine(hvs _).mono ?_;rintro e w2 ⟨rfl,hb2⟩;have hA2:=hA.call hb2;have hB2:=zbc hB hb2;clear hc0 hl0 hA hB;have⟨hc2,hl2⟩:=hA2.cl;go_wp2_with fail;refine(hal _).mono ?_;rintro e w3 ⟨rfl,hb3⟩;go_wp2_with fail;go_ret2
 exact⟨rfl,zbc hB2 hb3⟩
theorem pS{S n:Nat}(hn:n≤64)(hS:S<2^n):bits .andNot .u64 (S:Int) ((2^n-1:Nat):Int)=0:=by
 have h64:(2:Nat)^n≤2^64:=Nat.pow_le_pow_right (by decide) hn;rw[u64_andNot_nat _ _ (by omega) (by omega)];have:S&&&(18446744073709551615-(2^n-1))=0:=by
  apply Nat.eq_of_testBit_eq
  intro i;rw[Nat.testBit_and,Nat.zero_testBit];by_cases hi:i<n
  ·have e1:18446744073709551615-(2^n-1)=2^n*(2^(64-n)-1):=by
    have h1:2^n*2^(64-n)=2^64:=by rw[←Nat.pow_add];congr 1;omega
    rw[Nat.mul_sub,h1,Nat.mul_one];have:=Nat.two_pow_pos n;omega
   have:(2^n*(2^(64-n)-1)).testBit i=false:=by rw[Nat.testBit_two_pow_mul];simp;omega
   rw[e1,this,Bool.and_false]
  ·have:S.testBit i=false:=Nat.testBit_lt_two_pow (Nat.lt_of_lt_of_le hS (Nat.pow_le_pow_right (by decide) (by omega)));rw[this,Bool.false_and]
 rw[this];rfl
theorem mu(F R a S:Nat)(hF:3≤F∧F≤8)(hR:3≤R∧R≤8)(ha:a<F*R)(hS:S<2^(F*R))(w:World):Clz 144 #[.agg #[.int .i64 F,.int .i64 R],.int .i64 a,.int .u64 (S:Nat)] w fun e w'=>e=.returned (.bool true)∧Below w.heap.size w w':=by
 have hA:=ac.new w (.cells #[.int .i64 (F:Int),.int .i64 (R:Int)] 23);have hB:=ae w (.cells #[.int .i64 (F:Int),.int .i64 (R:Int)] 23);have hal:=fun W=>tP F R hF hR W
 have hsv:=fun W=>dn F R a W
 rw[gY hF hR ha]at hsv;have hz:=pS (Nat.mul_le_mul hF.2 hR.2) hS;generalize ((2^(F*R)-1:Nat):Int)=V at *;have⟨hc0,hl0⟩:=hA.cl;go_enter Tryz.func144,Tryz.ntmps144;go_wp2_with fail;refine(hal _).mono ?_;rintro e w2 ⟨rfl,hb2⟩;have hA2:=hA.call hb2;have hB2:=zbc hB hb2;clear hc0 hl0 hA hB;have⟨hc2,hl2⟩:=hA2.cl;go_wp2_with fail;refine(hsv _).mono ?_;rintro e w3 ⟨rfl,hb3⟩;go_wp2_with fail;go_ret;exact⟨rfl,zbc hB2 hb3⟩
def cg(w:World)(g o:Nat)(st:List (Int×Int)):Prop:=g<w.heap.size∧∀ j,j<st.length→w.cell? ⟨g,o+j*2,none⟩=some (.int .i64 (st[j]?.getD (0,0)).1)∧w.cell? ⟨g,o+j*2+1,none⟩=some (.int .i64 (st[j]?.getD (0,0)).2)
theorem cg.call{w w':World}{g o:Nat}{st:List (Int×Int)}(h:cg w g o st)(hb:Below w.heap.size w w'):cg w' g o st :=
 ⟨Nat.lt_of_lt_of_le h.1 hb.size,fun j hj=>⟨(hb.cell (p:=⟨g,o+j*2,none⟩) h.1).trans (h.2 j hj).1,(hb.cell (p:=⟨g,o+j*2+1,none⟩) h.1).trans (h.2 j hj).2⟩⟩
def leapW(F R a:Nat)(st:List (Int×Int)):Nat→Nat
 | 0=>0
 | k+1=>if onB F R (((a%F:Nat):Int)+(st[k]?.getD (0,0)).1) (((a/F:Nat):Int)+(st[k]?.getD (0,0)).2)then leapW F R a st k|||2^((((a%F:Nat):Int)+(st[k]?.getD (0,0)).1)+(((a/F:Nat):Int)+(st[k]?.getD (0,0)).2)*F).toNat else leapW F R a st k
theorem jv{F R:Nat}{a b:Int}(h:onB F R a b=true):∃ n:Nat,a+b*F=n∧n<F*R:=by
 obtain⟨h1,h2,h3,h4⟩:=fX h;obtain⟨x,rfl⟩:∃ x:Nat,a=x:=⟨a.toNat,by omega⟩;obtain⟨y,rfl⟩:∃ y:Nat,b=y:=⟨b.toNat,by omega⟩;refine⟨x+y*F,by simp,?_⟩;have h5:y+1≤R:=by omega
 have h6:=Nat.mul_le_mul_right F h5;rw[Nat.add_mul,Nat.one_mul,Nat.mul_comm R F]at h6;omega
theorem bY{F R a:Nat}(st:List (Int×Int))(k:Nat):leapW F R a st k<2^(F*R):=by
 induction k with
 | zero=>simp[leapW,Nat.two_pow_pos]
 | succ k ih =>
  simp only[leapW];split
  ·rename_i h;obtain⟨n,hn,hl⟩:=jv h;rw[hn,Int.toNat_natCast];exact Nat.or_lt_two_pow ih (Nat.pow_lt_pow_right (by decide) hl)
  ·exact ih
theorem eE{F R:Nat}(hF:3≤F∧F≤8)(hR:3≤R∧R≤8):2^(F*R)≤18446744073709551616:=Nat.pow_le_pow_right (n:=2) (by decide) (Nat.mul_le_mul hF.2 hR.2:F*R≤8*8)
theorem fU(F R a g o c:Nat)(st:List (Int×Int))(hF:3≤F∧F≤8)(hR:3≤R∧R≤8)(ha:a<F*R)(hst:∀ x∈st,(-2≤x.1∧x.1≤2)∧(-2≤x.2∧x.2≤2))(hl:st.length≤100)(w:World)(hs:cg w g o st):
  Clz 145 #[.agg #[.int .i64 F,.int .i64 R],.int .i64 a,.slice (some ⟨g,o,none⟩) st.length c] w fun e w'=>e=.returned (.int .u64 (leapW F R a st st.length:Nat))∧Below w.heap.size w w':=by
 have hA:=ac.new w (.cells #[.int .i64 (F:Int),.int .i64 (R:Int)] 23);have hB:=ae w (.cells #[.int .i64 (F:Int),.int .i64 (R:Int)] 23);have hpl:=fun W=>dB F R a hF hR ha W
 obtain⟨ha64,ha0,ha1⟩:=bU hF hR ha;have hpw:=eE hF hR;have hFR:F*R≤64:=Nat.mul_le_mul hF.2 hR.2;have hlw:=fun k=>bY (F:=F) (R:=R) (a:=a) st k
 have hnx0:∀ k,leapW F R a st (k+1)=if onB F R (((a%F:Nat):Int)+(st[k]?.getD (0,0)).1) (((a/F:Nat):Int)+(st[k]?.getD (0,0)).2)then leapW F R a st k|||2^((((a%F:Nat):Int)+(st[k]?.getD (0,0)).1)+(((a/F:Nat):Int)+(st[k]?.getD (0,0)).2)*F).toNat else leapW F R a st k:=fun k=>rfl
 have hr0n:(0:Int)≤((a/F:Nat):Int):=Int.natCast_nonneg _;have hr0b:((a/F:Nat):Int)<8:=by omega
 have hf0b:((a%F:Nat):Int)<8:=by omega
 have hz:leapW F R a st 0=0:=rfl;generalize leapW F R a st=LW at *;generalize a%F=f0 at *;generalize a/F=r0 at *;have⟨hc0,hl0⟩:=hA.cl;go_enter Tryz.func145,Tryz.ntmps145;go_wp2_with fail;refine(hpl _).mono ?_;rintro e w2 ⟨rfl,hb2⟩;have hA2:=hA.call hb2;have hB2:=zbc hB hb2;have hs2:=hs.call hB2;clear hc0 hl0 hA hB hpl hs;go_wp2_with fail;go_loopg [10,24] 101 (fun q sv iv wr=>∃ i:Nat,q+i=101∧i≤st.length∧iv=.int .i64 i∧sv=.int .u64 (LW i:Nat)∧Below w2.heap.size w2 wr)
 case atStart=>exact⟨0,rfl,Nat.zero_le _,rfl,by rw[hz];rfl,Below.refl _ _⟩
 case round =>
  obtain⟨i,hq,hi,rfl,rfl,hbr⟩:=hrel;have hAr:=hA2.call hbr;have hBr:=zbc hB2 hbr;have⟨hcA,hlA⟩:=hAr.cl;by_cases hlt:i<st.length
  ·have hii:(i:Int)<st.length:=by omega
   have hsr:=hs2.call hbr;obtain⟨hc1,hc2⟩:=hsr.2 i hlt;have hgl:=hsr.1;have hnx:=hnx0 i;have hlwi:=hlw i;have hxm:(st[i]?.getD (0,0))∈st:=by rw[List.getElem?_eq_getElem hlt];exact List.getElem_mem hlt
   obtain⟨⟨x1,x2⟩,x3,x4⟩:=hst _ hxm;obtain⟨dx,hdx⟩:∃ d,d=(st[i]?.getD (0,0)).1:=⟨_,rfl⟩;obtain⟨dy,hdy⟩:∃ d,d=(st[i]?.getD (0,0)).2:=⟨_,rfl⟩;rw[←hdx]at hc1 hnx x1 x2;rw[←hdy]at hc2 hnx x3 x4;clear hxm hdx hdy;generalize LW i=S at *;have e1:wrap64 ((f0:Int)+dx)=f0+dx:=bF (by omega);have e2:wrap64 ((r0:Int)+dy)=r0+dy:=bF (by omega);have hat:=fun W=>ij F R (f0+dx) (r0+dy) hF hR W
   go_wp2_with fail;refine(hat _).mono ?_;rintro e w4 ⟨rfl,hb4⟩;have hb5:=zbc hbr ((ae wr (.cells #[.int .i64 dx,.int .i64 dy] 181)).trans (hb4.mono (by simp)));clear hat hcA hlA hAr hBr hsr hc1 hc2 hgl hbr;rcases hv:onB F R ((f0:Int)+dx) ((r0:Int)+dy)with _|_
   ·have e0:Hid (atV F R (f0+dx) (r0+dy)=.tuple #[.int .i64 0,.int .i64 3]):=zhd (by unfold atV;rw[hv];rfl);rw[hv]at hnx;replace hnx:=zhd (hnx.trans (if_neg (by simp)));rw[e0.out];go_wp2_with fail;go_roundg (gk-1)
    case measure=>omega
    case rel=>exact⟨i+1,by omega,by omega,by go_num,by rw[hnx.out],hb5⟩
   ·obtain⟨n,hn,hnl⟩:=jv hv;have e0:Hid (atV F R (f0+dx) (r0+dy)=.tuple #[.int .i64 (n:Int),.int .i64 0]):=zhd (by unfold atV;rw[hv,hn];rfl);rw[hv,hn,Int.toNat_natCast]at hnx;replace hnx:=zhd (hnx.trans (if_pos rfl));have hn64:n<64:=by omega
    have hn64':(n:Int)<64:=by omega
    rw[e0.out];clear hn;go_wp2_with fail;go_roundg (gk-1)
    case measure=>omega
    case rel=>refine⟨i+1,by omega,by omega,by go_num,?_,hb5⟩;rw[fp (Nat.lt_of_lt_of_le hlwi hpw) hn64,hnx.out]
  ·have hii:¬(i:Int)<st.length:=by omega
   obtain rfl:i=st.length:=by omega
   go_wp2_with fail;go_ret;exact⟨rfl,hBr⟩
end Go.Proofs.YtefmplccbkmalaaGreatDoor
namespace Go.Proofs.YtefmplccbkmalaaGreatDoor
open Go.RowKit
attribute [local go_sem] Oper.semAt_some

def ne(F R a:Nat)(dx dy:Int)(q1 q2 q3 q4:Nat)(W:World):Prop :=
 ac W q1 (.cells #[.int .i64 (F:Int),.int .i64 (R:Int)] 23 (0,0))∧ac W q2 (.cells #[.int .i64 (a:Int)] 3 (0,0))∧ac W q3 (.cells #[.int .i64 dx] 3 (0,0))∧ac W q4 (.cells #[.int .i64 dy] 3 (0,0))
theorem eP{F R:Nat}{a b:Int}:(numI F R a b<0↔onB F R a b=false)∧(onB F R a b=true→numI F R a b=a+b*F):=by
 unfold numI onB;by_cases h:a<0∨(F:Int)≤a∨b<0∨(R:Int)≤b
 ·rw[if_pos h];have:(decide (0≤a)&&(decide (a<F)&&(decide (0≤b)&&decide (b<R))))=false:=by simp;omega
  rw[this];simp
 ·rw[if_neg h];have h2:(decide (0≤a)&&(decide (a<F)&&(decide (0≤b)&&decide (b<R))))=true:=by simp;omega
  rw[h2];refine⟨?_,fun _=>by omega⟩;simp;have:=Int.mul_nonneg (show(0:Int)≤b by omega) (show(0:Int)≤(F:Int) by omega);omega
theorem fQ{F R a:Nat}{dx dy:Int}:∀(n k i:Nat),i<(rayL F R a dx dy n k).length→(rayL F R a dx dy n k)[i]?.getD 0=rayN F R a dx dy (k+i)∧0≤rayN F R a dx dy (k+i):=by
 intro n;induction n with
 | zero=>intro k i h;simp[rayL]at h
 | succ n ih =>
  intro k i h;by_cases hneg:rayN F R a dx dy k<0
  ·rw[jX hneg]at h;simp at h
  ·rw[ki hneg]at h ⊢;cases i with
   | zero=>simp;omega
   | succ i=>have:=ih (k+1) i (by simpa using h);rw[show k+(i+1)=k+1+i by omega];simpa using this
theorem nz{F R a:Nat}{dx dy:Int}:∀(n k:Nat),(rayL F R a dx dy n k).length<n→rayN F R a dx dy (k+(rayL F R a dx dy n k).length)<0:=by
 intro n;induction n with
 | zero=>intro k h;omega
 | succ n ih =>
  intro k h;by_cases hneg:rayN F R a dx dy k<0
  ·rw[jX hneg];simpa using hneg
  ·rw[ki hneg]at h ⊢;have:=ih (k+1) (by simpa using h);simp only[List.length_cons];rw[show k+((rayL F R a dx dy n (k+1)).length+1)=k+1+(rayL F R a dx dy n (k+1)).length by omega];exact this
theorem zC{d:Int}(h:d=-1∨d=1)(x:Int)(hx:0≤x∧x<8):¬(0≤x+8*d∧x+8*d<8):=by rcases h with rfl|rfl<;>omega
theorem Am{F R a:Nat}{dx dy:Int}(hF:3≤F∧F≤8)(hR:3≤R∧R≤8)(ha:a<F*R)(hdx:-1≤dx∧dx≤1)(hdy:-1≤dy∧dy≤1)(hn:¬(dx=0∧dy=0)):rayN F R a dx dy 8<0:=by
 obtain⟨_,h0,h1⟩:=bU hF hR ha;have b3:(0:Int)≤((a/F:Nat):Int):=Int.natCast_nonneg _;have b4:(0:Int)≤((a%F:Nat):Int):=Int.natCast_nonneg _;unfold rayN;rw[eP.1];generalize a/F=r0 at *;generalize a%F=f0 at *;unfold onB;rcases(by omega:(dx=-1∨dx=1)∨(dy=-1∨dy=1))with h|h
 ·have:=zC h f0 (by omega);simp;omega
 ·have:=zC h r0 (by omega);simp;omega
theorem sV{F R a:Nat}{dx dy:Int}(hF:3≤F∧F≤8)(hR:3≤R∧R≤8)(ha:a<F*R)(hdx:-1≤dx∧dx≤1)(hdy:-1≤dy∧dy≤1)(hn:¬(dx=0∧dy=0)):
  (rayL F R a dx dy 8 1).length<8∧rayN F R a dx dy (1+(rayL F R a dx dy 8 1).length)<0:=by
 have h8:=Am hF hR ha hdx hdy hn;have hl:(rayL F R a dx dy 8 1).length<8:=by
  rcases Nat.lt_or_ge (rayL F R a dx dy 8 1).length 8 with h|h
  ·exact h
  ·have:=(fQ (F:=F) (R:=R) (a:=a) (dx:=dx) (dy:=dy) 8 1 7 (by omega)).2;rw[show 1+7=8 by rfl]at this;omega
 exact⟨hl,nz 8 1 hl⟩
theorem zI{dx dy f r:Int}(hdx:-1≤dx∧dx≤1)(hdy:-1≤dy∧dy≤1)(hn:¬(dx=0∧dy=0))(hf:-20≤f∧f≤20)(hr:-20≤r∧r≤20):(100-(dx*(f+dx)+dy*(r+dy))).toNat<(100-(dx*f+dy*r)).toNat:=by rcases(by omega:dx=-1∨dx=0∨dx=1)with rfl|rfl|rfl<;>rcases(by omega:dy=-1∨dy=0∨dy=1)with rfl|rfl|rfl<;>omega
theorem AD{dx dy:Int}(hdx:-1≤dx∧dx≤1)(hdy:-1≤dy∧dy≤1)(hn:¬(dx=0∧dy=0))(W:World):(Builtin.max_ #[3,3,3,3] 3 #[.int .i64 dx,.int .i64 (-dx),.int .i64 dy,.int .i64 (-dy)]).run Tryz.prog W=.ok (.int .i64 1) W:=by
 rcases(by omega:dx=-1∨dx=0∨dx=1)with rfl|rfl|rfl<;>rcases(by omega:dy=-1∨dy=0∨dy=1)with rfl|rfl|rfl
 all_goals first|(exact absurd ⟨rfl,rfl⟩ hn)|kernel_rfl
theorem gR(F R a:Nat)(dx dy:Int)(q1 q2 q3 q4:Nat)(hF:3≤F∧F≤8)(hR:3≤R∧R≤8)(ha:a<F*R)(hdx:-1≤dx∧dx≤1)(hdy:-1≤dy∧dy≤1)(hn:¬(dx=0∧dy=0))(L:List Int)(hL:L=rayL F R a dx dy 8 1):
  rI Tryz.prog 200 #[.pointer (some ⟨q1,0,none⟩),.pointer (some ⟨q2,0,none⟩),.pointer (some ⟨q3,0,none⟩),.pointer (some ⟨q4,0,none⟩)] L.length (fun k=>#[.int .i64 (L[k]?.getD 0)]) (ne F R a dx dy q1 q2 q3 q4) (fun _ _=>False) (fun _=>False):=by
 intro n l J Jx W0 hst hstx hRd hsz hszx h0 hy;have hJ0:=h0 W0.heap.size W0 (Below.refl _ _) (Nat.le_refl _) rfl;obtain⟨hr1,hr2,hr3,hr4⟩:=hRd _ _ _ hJ0;obtain⟨hl8,hend⟩:=sV hF hR ha hdx hdy hn;have hget:=fun i=>fQ (F:=F) (R:=R) (a:=a) (dx:=dx) (dy:=dy) 8 1 i
 rw[←hL]at hl8 hend hget;have hray:∀ k:Nat,rayN F R a dx dy k=numI F R (((a%F:Nat):Int)+k*dx) (((a/F:Nat):Int)+k*dy):=fun k=>rfl
 have hpl:=fun W=>dB F R a hF hR ha W
 obtain⟨ha64,ha0,ha1⟩:=bU hF hR ha;have b3:(0:Int)≤((a/F:Nat):Int):=Int.natCast_nonneg _;have b1:((a/F:Nat):Int)<8:=by omega
 generalize rayN F R a dx dy=rn at *;generalize a/F=r0 at *;generalize a%F=f0 at *;have b2:(f0:Int)<8:=by omega
 replace hL:=zhd hL;have c1:=hr1.cells;have c2:=hr2.cells;have c3:=hr3.cells;have c4:=hr4.cells;have l1:=hr1.lt;have l2:=hr2.lt;have l3:=hr3.lt;have l4:=hr4.lt;refine callsIn_of_wp Tryz.func200 rfl trivial ?_ rfl;simp only[Tryz.ntmps200,List.size_toArray,List.length_cons,List.length_nil,Nat.reduceAdd,Nat.reduceSub,Array.replicate_succ,Array.replicate_zero,List.push_toArray,List.append_toArray,List.nil_append,List.cons_append];gi_wp2_with fail;refine⟨trivial,fun h=>by simp[Fence.wide]at h,(callsIn_wide.2 (hpl _)).mono ?_⟩;rintro e W1 ⟨rfl,hb1⟩;have hJ1:=hst _ _ _ W1 (Nat.le_refl _) hJ0 (Alt.call hb1);clear c1 c2 c3 c4 l1 l2 l3 l4 hpl;have hr1:=hr1.call hb1;have hr2:=hr2.call hb1;have hr3:=hr3.call hb1;have hr4:=hr4.call hb1;have c1:=hr1.cells;have c2:=hr2.cells;have c3:=hr3.cells;have c4:=hr4.cells;have l1:=hr1.lt;have l2:=hr2.lt;have l3:=hr3.lt;have l4:=hr4.lt;clear h0;have hg:((dx==0)=true∧(dy==0)=false)∨(dx==0)=false:=by
  by_cases h:dx=0
  ·left;exact⟨by simp[h],by simpa using fun h2=>hn ⟨h,h2⟩⟩
  ·right;simp[h]
 have w1:wrap64 (-dx)=-dx:=bF (by omega);have w2:wrap64 (-dy)=-dy:=bF (by omega);have hmax:=fun W=>AD hdx hdy hn W
 have m2:¬dx < -8:=by omega
 have m3:¬dy < -8:=by omega
 rcases hg with⟨g1,g2⟩|g1
 all_goals
  gi_wp2_with fail;gi_loopw [6,7] (fun fv rv wr=>∃ k:Nat,k≤L.length∧fv=.int .i64 ((f0:Int)+k*dx)∧rv=.int .i64 ((r0:Int)+k*dy)∧J W0.heap.size k wr) (fun fv rv _=>(100-(dx*intOf fv+dy*intOf rv)).toNat)
  case atStart=>exact⟨0,Nat.zero_le _,by simp,by simp,hJ1⟩
  case round =>
   obtain⟨k,hk,rfl,rfl,hJ⟩:=hrel;clear hr1 hr2 hr3 hr4 c1 c2 c3 c4 l1 l2 l3 l4 hmax;obtain⟨hr1,hr2,hr3,hr4⟩:=hRd _ _ _ hJ;have c1:=hr1.cells;have c2:=hr2.cells;have c3:=hr3.cells;have c4:=hr4.cells;have l1:=hr1.lt;have l2:=hr2.lt;have l3:=hr3.lt;have l4:=hr4.lt;have p1:=jx (k:=k) (by omega) hdx;have p2:=jx (k:=k) (by omega) hdy;have p3:((k+1:Nat):Int)*dx=k*dx+dx:=by rw[Int.natCast_add];simp[Int.add_mul]
   have p4:((k+1:Nat):Int)*dy=k*dy+dy:=by rw[Int.natCast_add];simp[Int.add_mul]
   have e1:wrap64 ((f0:Int)+k*dx+dx)=f0+k*dx+dx:=bF (by omega);have e2:wrap64 ((r0:Int)+k*dy+dy)=r0+k*dy+dy:=bF (by omega);have hrk:=hray (1+k);rw[show(1+k)=k+1 by omega,p3,p4,←Int.add_assoc,←Int.add_assoc]at hrk;have hat:=fun W=>ij F R ((f0:Int)+k*dx+dx) ((r0:Int)+k*dy+dy) hF hR W
   have hno:=(eP (F:=F) (R:=R) (a:=(f0:Int)+k*dx+dx) (b:=(r0:Int)+k*dy+dy));rw[←hrk]at hno;gi_wp2_with fail;gi_region
   gi_wp2_with fail;refine⟨trivial,fun h=>by simp[Fence.wide]at h,(callsIn_wide.2 (hat _)).mono ?_⟩;rintro e W2 ⟨rfl,hb2⟩;have hb2':Below wr.heap.size wr W2:=(Below.refl wr.heap.size wr).drew.trans hb2;have hJ2:=hst _ _ _ W2 (Nat.le_refl _) hJ (Alt.call hb2');clear hr1 hr2 hr3 hr4 c1 c2 c3 c4 l1 l2 l3 l4 hJ hat;rcases hv:onB F R ((f0:Int)+k*dx+dx) ((r0:Int)+k*dy+dy)with _|_
   ·have e0:Hid (atV F R ((f0:Int)+k*dx+dx) ((r0:Int)+k*dy+dy)=.tuple #[.int .i64 0,.int .i64 3]):=zhd (by unfold atV;rw[hv];rfl);have hneg:=hno.1.2 hv;have hkL:k=L.length:=by
     rcases Nat.lt_or_ge k L.length with h|h
     ·have:=(hget k h).2;rw[show 1+k=k+1 by omega]at this;omega
     ·omega
    rw[e0.out];replace hrk:=zhd hrk;replace hno:=zhd hno;replace hkL:=zhd hkL;replace p3:=zhd p3;replace p4:=zhd p4;gi_wp2_with fail;refine⟨(fun f h=>by cases h),?_⟩;gi_wp2_with fail;refine bodyPost_ret (results_none rfl _ _ _) rfl ?_;exact⟨W0.heap.size,Nat.le_refl _,.inl ⟨⟨_,rfl⟩,.inl (by rw[←hkL.out];exact hJ2)⟩⟩
   ·have hkL:k<L.length:=by
     rcases Nat.lt_or_ge k L.length with h|h
     ·exact h
     ·obtain rfl:k=L.length:=by omega
      rw[show 1+L.length=L.length+1 by omega]at hend;rw[hno.1.1 hend]at hv;cases hv
    have hLk:L[k]?.getD 0=rn (k+1):=by have:=(hget k hkL).1;rwa[show 1+k=k+1 by omega]at this
    have e0:Hid (atV F R ((f0:Int)+k*dx+dx) ((r0:Int)+k*dy+dy)=.tuple #[.int .i64 (L[k]?.getD 0),.int .i64 0]):=zhd (by unfold atV;rw[hv,hLk,hno.2 hv];rfl);have hyk:=hy W0.heap.size k W2 (Nat.le_refl _) hkL hJ2 (fun q h1 h2=>by omega);change YieldAt _ _ _ _ #[.int .i64 (L[k]?.getD 0)] _ _ at hyk;rw[e0.out];generalize L[k]?.getD 0=x at hyk hLk e0 ⊢;obtain⟨fn,tmps,assign,body,hy1,hR⟩:=hyk;replace hrk:=zhd hrk;replace hno:=zhd hno;replace hLk:=zhd hLk;replace p3:=zhd p3;replace p4:=zhd p4;gi_wp2_with fail;refine⟨fun h=>by simp[Fence.wide]at h,(jD hR).mono ?_⟩;rintro e W' (⟨rfl,hJ',_⟩|⟨rfl,hJx⟩)
    ·gi_wp2_with fail;go_roundw
     case rel=>exact⟨k+1,hkL,by rw[p3.out,Int.add_assoc],by rw[p4.out,Int.add_assoc],hJ'⟩
     case measure=>exact zI hdx hdy hn (by omega) (by omega)
    ·gi_wp2_with fail;refine bodyPost_ret (results_none rfl _ _ _) rfl ?_;exact⟨W0.heap.size,Nat.le_refl _,.inl ⟨⟨_,rfl⟩,.inr ⟨k,hkL,hJx⟩⟩⟩
def AR(F R a:Nat)(dx dy:Int)(w:World)(e:Ending)(w':World):Prop :=
 e=.returned (.func (.func 200) #[] #[.pointer (some ⟨w.heap.size,0,none⟩),.pointer (some ⟨w.heap.size+1,0,none⟩),.pointer (some ⟨w.heap.size+2,0,none⟩),.pointer (some ⟨w.heap.size+3,0,none⟩)]) ∧
 ne F R a dx dy w.heap.size (w.heap.size+1) (w.heap.size+2) (w.heap.size+3) w'∧Below w.heap.size w w'∧w.heap.size+4≤w'.heap.size
theorem gZ(F R a:Nat)(dx dy:Int)(w:World):Clz 171 #[.agg #[.int .i64 F,.int .i64 R],.int .i64 a,.int .i64 dx,.int .i64 dy] w (AR F R a dx dy w):=by go_enter Tryz.func171,Tryz.ntmps171;go_wp2_with fail;go_ret;have h1:=ac.new w (.cells #[.int .i64 (F:Int),.int .i64 (R:Int)] 23);have h2:=ac.new' (w.alloc (.cells #[.int .i64 (F:Int),.int .i64 (R:Int)] 23)) (.cells #[.int .i64 (a:Int)] 3) (q:=w.heap.size+1) (by simp);have h3:=ac.new' ((w.alloc (.cells #[.int .i64 (F:Int),.int .i64 (R:Int)] 23)).alloc (.cells #[.int .i64 (a:Int)] 3)) (.cells #[.int .i64 dx] 3) (q:=w.heap.size+2) (by simp);have h4:=ac.new' (((w.alloc (.cells #[.int .i64 (F:Int),.int .i64 (R:Int)] 23)).alloc (.cells #[.int .i64 (a:Int)] 3)).alloc (.cells #[.int .i64 dx] 3)) (.cells #[.int .i64 dy] 3) (q:=w.heap.size+3) (by simp);refine⟨rfl,⟨((h1.alloc _).alloc _).alloc _,(h2.alloc _).alloc _,h3.alloc _,h4⟩,(((ae w _).alloc (by simp) _).alloc (by simp;omega) _).alloc (by simp;omega) _,by simp⟩
def bN(oc:Nat):List Int→Nat→Nat
 | [],S=>S
 | x::r,S=>if oc.testBit x.toNat then S|||2^x.toNat else bN oc r (S|||2^x.toNat)
def slideW(F R a oc:Nat)(st:List (Int×Int)):Nat→Nat
 | 0=>0
 | k+1=>bN oc (rayL F R a (st[k]?.getD (0,0)).1 (st[k]?.getD (0,0)).2 8 1) (slideW F R a oc st k)
theorem tX{oc n:Nat}:∀(L:List Int) (S:Nat),(∀ x∈L,0≤x∧x<n)→S<2^n→bN oc L S<2^n:=by
 intro L;induction L with
 | nil=>intro S _ h;exact h
 | cons x r ih =>
  intro S hL hS;have hx:=hL x (by simp);have h1:S|||2^x.toNat<2^n:=Nat.or_lt_two_pow hS (Nat.pow_lt_pow_right (by decide) (by omega))
  simp only[bN];split
  ·exact h1
  ·exact ih _ (fun y hy=>hL y (by simp[hy])) h1
theorem gV{F R a:Nat}{dx dy:Int}:∀ x∈rayL F R a dx dy 8 1,0≤x∧x<F*R:=by
 intro x hx;obtain⟨i,hi,e⟩:=List.getElem_of_mem hx;have hg:=fQ (F:=F) (R:=R) (a:=a) (dx:=dx) (dy:=dy) 8 1 i hi;rw[List.getElem?_eq_getElem hi]at hg;simp only[Option.getD_some]at hg;rw[e]at hg;have h0:0≤x:=by rw[hg.1];exact hg.2
 refine⟨h0,?_⟩;have h1:=hg.1;unfold rayN at h1;have hno:=eP (F:=F) (R:=R) (a:=((a%F:Nat):Int)+((1+i:Nat):Int)*dx) (b:=((a/F:Nat):Int)+((1+i:Nat):Int)*dy);rw[←h1]at hno;rcases hv:onB F R (((a%F:Nat):Int)+((1+i:Nat):Int)*dx) (((a/F:Nat):Int)+((1+i:Nat):Int)*dy)with _|_
 ·have:=hno.1.2 hv;omega
 ·obtain⟨n,hn,hl⟩:=jv hv;rw[hno.2 hv,hn,←Int.natCast_mul];omega
def slI(w:World)(F R a oc g o:Nat)(st:List (Int×Int))(q1:Nat)(dx dy:Int)(L:List Int)(fin:Nat)(E:List Nat)(c:Nat)(W:World):Prop :=
 Below w.heap.size w W∧ac W w.heap.size (.cells #[.int .i64 (F:Int),.int .i64 (R:Int)] 23 (0,0))∧ac W (w.heap.size+1) (.cells #[.int .u64 (oc:Int)] 64 (0,0))∧ne F R a dx dy q1 (q1+1) (q1+2) (q1+3) W ∧
 (∃ S:Nat,ac W (w.heap.size+2) (.cells #[.int .u64 (S:Int)] 64 (0,0))∧S<2^64∧bN oc L S=fin)∧cg W g o st∧c≤W.heap.size∧∀ p∈E,ac W p (.deferred (some []))
theorem bW{w:World}{F R a oc g o:Nat}{st:List (Int×Int)}{q1:Nat}{dx dy:Int}{L:List Int}{fin:Nat}{E:List Nat}{c:Nat}{W W':World}{lo hi:Nat}(h:slI w F R a oc g o st q1 dx dy L fin E c W)(ha:Alt lo hi W W')(h1:q1+4≤lo)(h2:w.heap.size+3≤lo)(h3:g<lo)(h4:∀ p∈E,p<lo):slI w F R a oc g o st q1 dx dy L fin E c W':=by
 obtain⟨b,i1,i2,⟨r1,r2,r3,r4⟩,⟨S,s1,s2,s3⟩,⟨t1,t2⟩,i5,i6⟩:=h;have hcell:∀ j,W'.cell? ⟨g,j,none⟩=W.cell? ⟨g,j,none⟩:=by intro j;unfold World.cell?;rw[ha.block g t1 (.inl h3)]
 refine⟨ha.below b (by omega) b.size,ha.hasO i1 (by omega),ha.hasO i2 (by omega),⟨ha.hasO r1 (by omega),ha.hasO r2 (by omega),ha.hasO r3 (by omega),ha.hasO r4 (by omega)⟩,⟨S,ha.hasO s1 (by omega),s2,s3⟩,⟨Nat.lt_of_lt_of_le t1 ha.size,fun j hj=>?_⟩,Nat.le_trans i5 ha.size,fun p hp=>ha.hasO (i6 p hp) (.inl (h4 p hp))⟩;rw[hcell,hcell];exact t2 j hj
theorem eh{w:World}{F R a oc g o:Nat}{st:List (Int×Int)}{q1:Nat}{dx dy:Int}{L L':List Int}{fin:Nat}{E:List Nat}{c S':Nat}{W:World}(h:slI w F R a oc g o st q1 dx dy L fin E c W)(hs:S'<2^64)(hf:bN oc L' S'=fin)(h1:w.heap.size+3≤q1)(h3:g<w.heap.size)(h4:∀ p∈E,w.heap.size+3≤p):
  slI w F R a oc g o st q1 dx dy L' fin E c (W.setCell ⟨w.heap.size+1+1,0,none⟩ (.int .u64 (S':Int))).drew∧Alt (w.heap.size+2) (w.heap.size+3) W (W.setCell ⟨w.heap.size+1+1,0,none⟩ (.int .u64 (S':Int))).drew:=by
 obtain⟨b,i1,i2,⟨r1,r2,r3,r4⟩,⟨S,s1,s2,s3⟩,⟨t1,t2⟩,i5,i6⟩:=h;have ha:Alt (w.heap.size+2) (w.heap.size+3) W (W.setCell ⟨w.heap.size+1+1,0,none⟩ (.int .u64 (S':Int))).drew:=(Alt.setCell (by simp)).trans (Alt.drewN 1);refine⟨?_,ha⟩;have hS:=s1.set_ 0 (.int .u64 (S':Int));generalize hW3:(W.setCell ⟨w.heap.size+1+1,0,none⟩ (.int .u64 (S':Int))).drew=W' at *;have hS':ac W' (w.heap.size+2) (.cells #[.int .u64 (S':Int)] 64 (0,0)):=by rw[←hW3];exact hS
 have hcell:∀ j,W'.cell? ⟨g,j,none⟩=W.cell? ⟨g,j,none⟩:=by intro j;unfold World.cell?;rw[ha.block g t1 (.inl (by omega))]
 refine⟨ha.below b (by omega) b.size,ha.hasO i1 (by omega),ha.hasO i2 (by omega),⟨ha.hasO r1 (by omega),ha.hasO r2 (by omega),ha.hasO r3 (by omega),ha.hasO r4 (by omega)⟩,⟨S',hS',hs,hf⟩,⟨Nat.lt_of_lt_of_le t1 ha.size,fun j hj=>?_⟩,Nat.le_trans i5 ha.size,fun p hp=>ha.hasO (i6 p hp) (.inr (h4 p hp))⟩;rw[hcell,hcell];exact t2 j hj
theorem dK{oc x:Nat}(ho:oc<2^64):(bits .and .u64 ((oc:Int)/2^x) 1==1)=oc.testBit x:=by
 have h1:oc/2^x≤oc:=Nat.div_le_self _ _;rw[gA,show(1:Int)=((1:Nat):Int)from rfl,u64_and_nat _ _ (by omega) (by decide),nat_mask1,Nat.testBit_eq_decide_div_mod_eq];by_cases h:oc/2^x%2=1
 ·rw[h];rfl
 ·have:oc/2^x%2=0:=by omega
  rw[this];rfl
theorem cR{n:Nat}{P:Program}{g:Operand}{ps:Array Tmp}{assign body:Code}{Q:Exit→Act→World→Prop}{a:Act}{w:World}
  {gf:Nat} {lb:Array Value} {N:Nat} {encs:Nat→Array Value} {Rd:World→Prop} {T:TypeId→Prop} (id:Nat)
  (hQ:∀ a W,Q .normal a W→Q (.exit id) a W)
  (hg:a.eval g=.func (.func gf) #[] lb) (eg:∀ args w,(callFunc gf args).run P w=.ok (.enter gf args) w)
  (hseq:rI P gf lb N encs Rd (fun _ _=>False) T) (hps:∀ k,k<N→(encs k).size=ps.size)
  (I:Nat→Nat→World→Prop) (J:Nat→World→Prop)
  (hst:∀ c k W W',w.heap.size+2≤c→I c k W→Alt w.heap.size c W W'→I c k W')
  (hstx:∀ c W W',w.heap.size+2≤c→J c W→Alt w.heap.size c W W'→J c W')
  (hRd:∀ c k W,w.heap.size+2≤c→I c k W→Rd W) (hsz:∀ c k W,w.heap.size+2≤c→I c k W→c≤W.heap.size) (hszx:∀ c W,w.heap.size+2≤c→J c W→c≤W.heap.size)
  (h0:∀ c W,Below w.heap.size w W→w.heap.size+2≤c→W.heap.size=c→I c 0 W)
  (hbody:∀ c k W,w.heap.size+2≤c→k<N→I c k W→rm T w.heap.size c W →
   assign.wpIn (Fence.wide.inRound (w.heap.size+1)) n P (Exit.then (fun a₁ W₁=>(∀ q o,(w.heap.size≤q∧q<c)→ac W q o→ac W₁ q o) ∧
     ∀ W₂,Alt (w.heap.size+1) (w.heap.size+2) W₁ W₂→W₂.heap.size=W₁.heap.size→(∃ r,ac W₂ (w.heap.size+1) (.loop r)) →
      body.wpIn (Fence.wide.inRound (w.heap.size+1)) n P (nf (w.heap.size+1) w.heap.size (I c) (fun j W=>j=.exit id∧J c W) k (fun D q=>D+2≤q∧q<c) W₂) a₁ W₂) (fun _ _ _=>False))
    {tmps:=(ps.zip (encs k)).foldl (fun t (p,v)=>t.setIfInBounds p v) a.tmps,defers:=[]} W)
  (hfin:∀ c W,I c N W→J c W)
  (hcont:∀ c W,w.heap.size+2≤c→J c W→ac W w.heap.size (.deferred (some []))→Q .normal {a with defers:={ target:=.collected w.heap.size,args:=#[]}::a.defers} W) :
  (Code.rangeFunc g ps assign body).wpIn Fence.wide n P Q a w:=by
 refine fz hg eg hseq hps I (fun c j _ W=>j=.exit id∧J c W) hst (fun c j k W W' hc h ha=>⟨h.1,hstx c W W' hc h.2 ha⟩) hRd hsz (fun c j k W hc h=>hszx c W hc h.2) h0 hbody (fun c W hc h hD=>hcont c W hc (hfin c W h) hD) ?_ ?_
 ·rintro c j k W hc _ ⟨rfl,h⟩ hD;exact wpIn_exit (hQ _ _ (hcont c W hc h hD))
 ·intro _ _ _ _ _ h;exact h.elim
theorem mo(F R a oc g o c:Nat)(st:List (Int×Int))(d0 d1 d2 d3 e0 e1 e2 e3:Int)(hst:st=[(d0,e0),(d1,e1),(d2,e2),(d3,e3)])(hF:3≤F∧F≤8)(hR:3≤R∧R≤8)(ha:a<F*R)
  (hb0:-1≤d0∧d0≤1) (hb1:-1≤d1∧d1≤1) (hb2:-1≤d2∧d2≤1) (hb3:-1≤d3∧d3≤1) (hc0:-1≤e0∧e0≤1) (hc1:-1≤e1∧e1≤1) (hc2:-1≤e2∧e2≤1) (hc3:-1≤e3∧e3≤1)
  (hn0:¬(d0=0∧e0=0)) (hn1:¬(d1=0∧e1=0)) (hn2:¬(d2=0∧e2=0)) (hn3:¬(d3=0∧e3=0)) (hoc:oc<2^64) (w:World) (hs:cg w g o st) :
  Clz 146 #[.agg #[.int .i64 F,.int .i64 R],.int .i64 a,.int .u64 (oc:Nat),.slice (some ⟨g,o,none⟩) 4 c] w fun e w'=>e=.returned (.int .u64 (slideW F R a oc st 4:Nat))∧Below w.heap.size w w':=by
 have hq64:∀ dx dy,∀ x∈rayL F R a dx dy 8 1,0≤x∧x<64:=by intro dx dy x hx;have:=gV x hx;rw[←Int.natCast_mul]at this;have h2:F*R≤64:=Nat.mul_le_mul hF.2 hR.2;omega
 obtain⟨V,hV⟩:∃ V,V=slideW F R a oc st 4:=⟨_,rfl⟩;rw[←hV];replace hV:=zhd hV;refine(callsIn_wide (n:=3)).1 ?_;refine callsIn_of_wp_marks Tryz.func146 rfl trivial ?_ rfl;simp only[Tryz.ntmps146,List.size_toArray,List.length_cons,List.length_nil,Nat.reduceAdd,Nat.reduceSub,Array.replicate_succ,Array.replicate_zero,List.push_toArray,List.append_toArray,List.nil_append,List.cons_append];gi_wp2_with fail;have hgw:=hs.1;have hA:=(ac.new w (.cells #[.int .i64 (F:Int),.int .i64 (R:Int)] 23)).alloc (.cells #[.int .u64 (oc:Int)] 64) |>.alloc (.cells #[.int .u64 0] 64)
 have hO:=(ac.new' (w.alloc (.cells #[.int .i64 (F:Int),.int .i64 (R:Int)] 23)) (.cells #[.int .u64 (oc:Int)] 64) (q:=w.heap.size+1) (by simp)).alloc (.cells #[.int .u64 0] 64);have hS:=ac.new' ((w.alloc (.cells #[.int .i64 (F:Int),.int .i64 (R:Int)] 23)).alloc (.cells #[.int .u64 (oc:Int)] 64)) (.cells #[.int .u64 0] 64) (q:=w.heap.size+2) (by simp);have hB:=((ae w (.cells #[.int .i64 (F:Int),.int .i64 (R:Int)] 23)).alloc (by simp) (.cells #[.int .u64 (oc:Int)] 64)).alloc (by simp;omega) (.cells #[.int .u64 0] 64);have hs0:=hs.call hB;generalize ((w.alloc (.cells #[.int .i64 (F:Int),.int .i64 (R:Int)] 23)).alloc (.cells #[.int .u64 (oc:Int)] 64)).alloc (.cells #[.int .u64 0] 64)=v0 at *;obtain⟨S0,hS0⟩:∃ S0:Nat,S0=0:=⟨_,rfl⟩;have hS0':(0:Int)=(S0:Int):=by rw[hS0];rfl
 rw[hS0']at hS;have hS0l:S0<2^64:=by rw[hS0];decide
 replace hS0:=zhd hS0;clear hS0';have hE0:∀ p∈([]:List Nat),ac v0 p (.deferred (some [])):=fun p hp=>by simp at hp
 have hEw0:∀ p∈([]:List Nat),w.heap.size+3≤p:=fun p hp=>by simp at hp
 refine wpIn_loop_rounds 5 ?_;rw[roundsIn_succ];obtain⟨hx0,hy0⟩:=hs0.2 0 (by rw[hst];simp);have hgl:=hs0.1;have⟨hcA,hlA⟩:=hA.cl;rw[hst]at hx0 hy0;simp only[Nat.zero_mul,Nat.add_zero,List.getElem?_cons_zero,Option.getD_some]at hx0 hy0;gi_wp2_with fail;refine⟨trivial,(callsIn_wide.2 (gZ F R a d0 e0 _)).mono ?_⟩;rintro e u0 ⟨rfl,hRd,hbu,hsu⟩;obtain⟨L0,hL0⟩:∃ L,L=rayL F R a d0 e0 8 1:=⟨_,rfl⟩;obtain⟨f0,hf0⟩:∃ f,f=bN oc L0 S0:=⟨_,rfl⟩;have hqL0:∀ x∈L0,0≤x∧x<64:=by rw[hL0];exact hq64 _ _
 have hbs:=ae v0 (.cells #[.int .i64 d0,.int .i64 e0] 181);have hAu:=(hA.call hbs).call hbu;have hOu:=(hO.call hbs).call hbu;have hSu:=(hS.call hbs).call hbu;have hBu:=aI (zbc hB hbs) (Nat.le_trans hB.size hbs.size) hbu;have hsv:=(hs0.call hbs).call hbu;have hEu:∀ p∈([]:List Nat),ac u0 p (.deferred (some [])):=fun p hp=>((hE0 p hp).call hbs).call hbu
 have hElt:∀ p∈([]:List Nat),p<u0.heap.size:=fun p hp=>(hEu p hp).lt
 have hglu:=hsv.1;have hlSu:=hSu.lt;obtain⟨q1,hq1⟩:∃ q,q=(v0.alloc (.cells #[.int .i64 d0,.int .i64 e0] 181)).heap.size:=⟨_,rfl⟩;rw[←hq1]at hRd hsu ⊢;have hq1l:w.heap.size+3≤q1:=by rw[hq1];have:=hS.lt;simp;omega
 have hI0:slI w F R a oc g o st q1 d0 e0 L0 f0 [] u0.heap.size u0:=⟨hBu,hAu,hOu,hRd,⟨S0,hSu,hS0l,hf0.symm⟩,hsv,Nat.le_refl _,hEu⟩;replace hq1:=zhd hq1;replace hL0:=zhd hL0;replace hf0:=zhd hf0;replace hst:=zhd hst;clear hA hO hS hB hs0 hbs hbu hcA hlA hgl hx0 hy0 hAu hOu hSu hRd hEu hE0;gi_wp2_with fail;refine cR (gf:=200) (lb:=#[.pointer (some ⟨q1,0,none⟩),.pointer (some ⟨q1+1,0,none⟩),.pointer (some ⟨q1+2,0,none⟩),.pointer (some ⟨q1+3,0,none⟩)]) 2 (fun a W h=>h) rfl (enters_of Tryz.func200 (by kernel_rfl) rfl) (gR F R a d0 e0 q1 (q1+1) (q1+2) (q1+3) hF hR ha hb0 hc0 hn0 L0 hL0.out) (fun _ _=>rfl)
  (fun c k W=>slI w F R a oc g o st q1 d0 e0 (L0.drop k) f0 [] c W) (fun c W=>slI w F R a oc g o st q1 d0 e0 [] f0 [] c W) ?hst0 ?hstx0 ?hRd0 ?hsz0 ?hszx0 ?h00 ?hbody0 ?hfin0 ?hcont0
 case hst0=>intro c k W W' hc h ha;exact bW h ha (by omega) (by omega) (by omega) hElt
 case hstx0=>intro c W W' hc h ha;exact bW h ha (by omega) (by omega) (by omega) hElt
 case hRd0=>intro c k W hc h;exact h.2.2.2.1
 case hsz0=>intro c k W hc h;exact h.2.2.2.2.2.2.1
 case hszx0=>intro c W hc h;exact h.2.2.2.2.2.2.1
 case hfin0=>intro c W h;rw[List.drop_length]at h;exact h
 case h00=>intro c W hb hc hz;obtain⟨b,i1,i2,⟨r1,r2,r3,r4⟩,⟨S,s1,s2,s3⟩,i4,i5,i6⟩:=bW hI0 (Alt.call (lo:=u0.heap.size) (hi:=u0.heap.size) hb) (by omega) (by omega) (by omega) hElt;exact⟨b,i1,i2,⟨r1,r2,r3,r4⟩,⟨S,s1,s2,s3⟩,i4,by omega,i6⟩
 case hbody0 =>
  rintro c k W hc hk h hT;have hkm:L0[k]?.getD 0∈L0:=by rw[List.getElem?_eq_getElem hk];exact List.getElem_mem hk
  have hxb:=hqL0 _ hkm;have hdr:L0.drop k=(L0[k]?.getD 0)::L0.drop (k+1):=by rw[List.getElem?_eq_getElem hk];exact List.drop_eq_getElem_cons hk
  obtain⟨x,hx⟩:∃ x:Nat,L0[k]?.getD 0=x:=⟨(L0[k]?.getD 0).toNat,by omega⟩;rw[hx]at hdr hxb;simp only[hx];have hx64:(x:Int)<64:=by omega
  clear hkm;replace hk:=zhd hk;replace hx:=zhd hx;gi_wp2_with fail;refine⟨fun q o _ h=>h,fun W2 ha hz hrec=>?_⟩;have h2:=bW h ha (by omega) (by omega) (by omega) (fun p hp=>by have:=hElt p hp;omega);have h2':=h2;obtain⟨b,i1,i2,ir,⟨S,s1,s2,s3⟩,i4,i5,i6⟩:=h2';have c9:=s1.cells 0;have f9:=s1.frozen;have l9:=s1.lt;replace hz:=zhd hz;rw[hdr]at s3;simp only[bN,Int.toNat_natCast]at s3;have wo:bits .or .u64 (S:Int) (IntKind.u64.wrap (2^x))=((S|||2^x:Nat):Int):=fp s2 (by omega);have s4:S|||2^x<2^64:=Nat.or_lt_two_pow s2 (Nat.pow_lt_pow_right (by decide) (by omega))
  have c8:=dK (x:=x) hoc;have hlD:w.heap.size+3≤u0.heap.size:=by omega
  gi_wp2_with fail;gi_region
  all_goals
   replace wo:=zhd wo;rcases ht:oc.testBit x with _|_
   ·rw[ht]at s3 c8;obtain⟨h3,h4⟩:=eh (L':=L0.drop (k+1)) (S':=S|||2^x) h2 s4 (by simpa using s3) hq1l hgw hEw0;generalize (W2.setCell ⟨w.heap.size+1+1,0,none⟩ (.int .u64 ((S|||2^x:Nat):Int))).drew=W3 at *;have c6:=h3.2.2.1.cells 0;have l6:=h3.2.2.1.lt;clear c9 f9 l9 i1 i2 ir i4 i6 s1 b h2 i5;replace s3:=zhd s3;gi_wp2_with fail;exact⟨fun q o hq ho=>h4.hasO ho (.inr (by rcases hq with h|h|h<;>omega)),h3⟩
   ·rw[ht]at s3 c8;obtain⟨h3,h4⟩:=eh (L':=[]) (S':=S|||2^x) h2 s4 (by simpa[bN]using s3) hq1l hgw hEw0;generalize (W2.setCell ⟨w.heap.size+1+1,0,none⟩ (.int .u64 ((S|||2^x:Nat):Int))).drew=W3 at *;have c6:=h3.2.2.1.cells 0;have l6:=h3.2.2.1.lt;clear c9 f9 l9 i1 i2 ir i4 i6 s1 b h2 i5;replace s3:=zhd s3;gi_wp2_with fail;exact⟨fun q o hq ho=>h4.hasO ho (.inr (by rcases hq with h|h<;>omega)),rfl,h3⟩
 intro c0 v1 hcc hJ hD;obtain⟨hB,hA,hO,_,⟨S1,hS,hS1l,hS1⟩,hs0,_,hEE⟩:=hJ;replace hS1:Hid (S1=f0):=zhd hS1;obtain⟨D0,hDD0⟩:∃ D,D=u0.heap.size:=⟨_,rfl⟩;rw[←hDD0]at hD ⊢;have hEw1:∀ p∈([D0]:List Nat),w.heap.size+3≤p:=by
  intro p hp;rcases List.mem_cons.1 hp with rfl|hp
  ·omega
  ·exact hEw0 p hp
 have hE1:∀ p∈([D0]:List Nat),ac v1 p (.deferred (some [])):=by
  intro p hp;rcases List.mem_cons.1 hp with rfl|hp
  ·exact hD
  ·exact hEE p hp
 have hDlt0:∀ p∈([]:List Nat),p<D0:=by rw[hDD0];exact hElt
 replace hDD0:=zhd hDD0;clear hI0 hElt hsu hq1l hq1 hlSu hglu hsv hBu hD hEE hcc hqL0 hEw0;gi_wp2_with fail;rw[roundsIn_succ];obtain⟨hx1,hy1⟩:=hs0.2 1 (by rw[hst.out];simp);have hgl:=hs0.1;have⟨hcA,hlA⟩:=hA.cl;rw[hst.out]at hx1 hy1;simp only[Nat.one_mul,List.getElem?_cons_zero,List.getElem?_cons_succ,Option.getD_some]at hx1 hy1;gi_wp2_with fail;refine⟨trivial,(callsIn_wide.2 (gZ F R a d1 e1 _)).mono ?_⟩;rintro e u1 ⟨rfl,hRd,hbu,hsu⟩;obtain⟨L1,hL1⟩:∃ L,L=rayL F R a d1 e1 8 1:=⟨_,rfl⟩;obtain⟨f1,hf1⟩:∃ f,f=bN oc L1 S1:=⟨_,rfl⟩;have hqL1:∀ x∈L1,0≤x∧x<64:=by rw[hL1];exact hq64 _ _
 have hbs:=ae v1 (.cells #[.int .i64 d1,.int .i64 e1] 181);have hAu:=(hA.call hbs).call hbu;have hOu:=(hO.call hbs).call hbu;have hSu:=(hS.call hbs).call hbu;have hBu:=aI (zbc hB hbs) (Nat.le_trans hB.size hbs.size) hbu;have hsv:=(hs0.call hbs).call hbu;have hEu:∀ p∈([D0]:List Nat),ac u1 p (.deferred (some [])):=fun p hp=>((hE1 p hp).call hbs).call hbu
 have hElt:∀ p∈([D0]:List Nat),p<u1.heap.size:=fun p hp=>(hEu p hp).lt
 have hglu:=hsv.1;have hlSu:=hSu.lt;obtain⟨q1,hq1⟩:∃ q,q=(v1.alloc (.cells #[.int .i64 d1,.int .i64 e1] 181)).heap.size:=⟨_,rfl⟩;rw[←hq1]at hRd hsu ⊢;have hq1l:w.heap.size+3≤q1:=by rw[hq1];have:=hS.lt;simp;omega
 have hI0:slI w F R a oc g o st q1 d1 e1 L1 f1 [D0] u1.heap.size u1:=⟨hBu,hAu,hOu,hRd,⟨S1,hSu,hS1l,hf1.symm⟩,hsv,Nat.le_refl _,hEu⟩;replace hq1:=zhd hq1;replace hL1:=zhd hL1;replace hf1:=zhd hf1;skip
 clear hA hO hS hB hs0 hbs hbu hcA hlA hgl hx1 hy1 hAu hOu hSu hRd hEu hE1;gi_wp2_with fail;refine cR (gf:=200) (lb:=#[.pointer (some ⟨q1,0,none⟩),.pointer (some ⟨q1+1,0,none⟩),.pointer (some ⟨q1+2,0,none⟩),.pointer (some ⟨q1+3,0,none⟩)]) 2 (fun a W h=>h) rfl (enters_of Tryz.func200 (by kernel_rfl) rfl) (gR F R a d1 e1 q1 (q1+1) (q1+2) (q1+3) hF hR ha hb1 hc1 hn1 L1 hL1.out) (fun _ _=>rfl)
  (fun c k W=>slI w F R a oc g o st q1 d1 e1 (L1.drop k) f1 [D0] c W) (fun c W=>slI w F R a oc g o st q1 d1 e1 [] f1 [D0] c W) ?hst1 ?hstx1 ?hRd1 ?hsz1 ?hszx1 ?h01 ?hbody1 ?hfin1 ?hcont1
 case hst1=>intro c k W W' hc h ha;exact bW h ha (by omega) (by omega) (by omega) hElt
 case hstx1=>intro c W W' hc h ha;exact bW h ha (by omega) (by omega) (by omega) hElt
 case hRd1=>intro c k W hc h;exact h.2.2.2.1
 case hsz1=>intro c k W hc h;exact h.2.2.2.2.2.2.1
 case hszx1=>intro c W hc h;exact h.2.2.2.2.2.2.1
 case hfin1=>intro c W h;rw[List.drop_length]at h;exact h
 case h01=>intro c W hb hc hz;obtain⟨b,i1,i2,⟨r1,r2,r3,r4⟩,⟨S,s1,s2,s3⟩,i4,i5,i6⟩:=bW hI0 (Alt.call (lo:=u1.heap.size) (hi:=u1.heap.size) hb) (by omega) (by omega) (by omega) hElt;exact⟨b,i1,i2,⟨r1,r2,r3,r4⟩,⟨S,s1,s2,s3⟩,i4,by omega,i6⟩
 case hbody1 =>
  rintro c k W hc hk h hT;have hkm:L1[k]?.getD 0∈L1:=by rw[List.getElem?_eq_getElem hk];exact List.getElem_mem hk
  have hxb:=hqL1 _ hkm;have hdr:L1.drop k=(L1[k]?.getD 0)::L1.drop (k+1):=by rw[List.getElem?_eq_getElem hk];exact List.drop_eq_getElem_cons hk
  obtain⟨x,hx⟩:∃ x:Nat,L1[k]?.getD 0=x:=⟨(L1[k]?.getD 0).toNat,by omega⟩;rw[hx]at hdr hxb;simp only[hx];have hx64:(x:Int)<64:=by omega
  clear hkm;replace hk:=zhd hk;replace hx:=zhd hx;gi_wp2_with fail;refine⟨fun q o _ h=>h,fun W2 ha hz hrec=>?_⟩;have h2:=bW h ha (by omega) (by omega) (by omega) (fun p hp=>by have:=hElt p hp;omega);have h2':=h2;obtain⟨b,i1,i2,ir,⟨S,s1,s2,s3⟩,i4,i5,i6⟩:=h2';have c9:=s1.cells 0;have f9:=s1.frozen;have l9:=s1.lt;replace hz:=zhd hz;rw[hdr]at s3;simp only[bN,Int.toNat_natCast]at s3;have wo:bits .or .u64 (S:Int) (IntKind.u64.wrap (2^x))=((S|||2^x:Nat):Int):=fp s2 (by omega);have s4:S|||2^x<2^64:=Nat.or_lt_two_pow s2 (Nat.pow_lt_pow_right (by decide) (by omega))
  have c8:=dK (x:=x) hoc;have hlD:w.heap.size+3≤u1.heap.size:=by omega
  gi_wp2_with fail;gi_region
  all_goals
   replace wo:=zhd wo;rcases ht:oc.testBit x with _|_
   ·rw[ht]at s3 c8;obtain⟨h3,h4⟩:=eh (L':=L1.drop (k+1)) (S':=S|||2^x) h2 s4 (by simpa using s3) hq1l hgw hEw1;generalize (W2.setCell ⟨w.heap.size+1+1,0,none⟩ (.int .u64 ((S|||2^x:Nat):Int))).drew=W3 at *;have c6:=h3.2.2.1.cells 0;have l6:=h3.2.2.1.lt;clear c9 f9 l9 i1 i2 ir i4 i6 s1 b h2 i5;replace s3:=zhd s3;gi_wp2_with fail;exact⟨fun q o hq ho=>h4.hasO ho (.inr (by rcases hq with h|h|h<;>omega)),h3⟩
   ·rw[ht]at s3 c8;obtain⟨h3,h4⟩:=eh (L':=[]) (S':=S|||2^x) h2 s4 (by simpa[bN]using s3) hq1l hgw hEw1;generalize (W2.setCell ⟨w.heap.size+1+1,0,none⟩ (.int .u64 ((S|||2^x:Nat):Int))).drew=W3 at *;have c6:=h3.2.2.1.cells 0;have l6:=h3.2.2.1.lt;clear c9 f9 l9 i1 i2 ir i4 i6 s1 b h2 i5;replace s3:=zhd s3;gi_wp2_with fail;exact⟨fun q o hq ho=>h4.hasO ho (.inr (by rcases hq with h|h<;>omega)),rfl,h3⟩
 intro c1 v2 hcc hJ hD;obtain⟨hB,hA,hO,_,⟨S2,hS,hS2l,hS2⟩,hs0,_,hEE⟩:=hJ;replace hS2:Hid (S2=f1):=zhd hS2;obtain⟨D1,hDD1⟩:∃ D,D=u1.heap.size:=⟨_,rfl⟩;rw[←hDD1]at hD ⊢;have hEw2:∀ p∈([D1,D0]:List Nat),w.heap.size+3≤p:=by
  intro p hp;rcases List.mem_cons.1 hp with rfl|hp
  ·omega
  ·exact hEw1 p hp
 have hE2:∀ p∈([D1,D0]:List Nat),ac v2 p (.deferred (some [])):=by
  intro p hp;rcases List.mem_cons.1 hp with rfl|hp
  ·exact hD
  ·exact hEE p hp
 have hDlt1:∀ p∈([D0]:List Nat),p<D1:=by rw[hDD1];exact hElt
 replace hDD1:=zhd hDD1;clear hI0 hElt hsu hq1l hq1 hlSu hglu hsv hBu hD hEE hcc hqL1 hEw1;gi_wp2_with fail;rw[roundsIn_succ];obtain⟨hx2,hy2⟩:=hs0.2 2 (by rw[hst.out];simp);have hgl:=hs0.1;have⟨hcA,hlA⟩:=hA.cl;rw[hst.out]at hx2 hy2;simp only[Nat.reduceMul,List.getElem?_cons_zero,List.getElem?_cons_succ,Option.getD_some]at hx2 hy2;gi_wp2_with fail;refine⟨trivial,(callsIn_wide.2 (gZ F R a d2 e2 _)).mono ?_⟩;rintro e u2 ⟨rfl,hRd,hbu,hsu⟩;obtain⟨L2,hL2⟩:∃ L,L=rayL F R a d2 e2 8 1:=⟨_,rfl⟩;obtain⟨f2,hf2⟩:∃ f,f=bN oc L2 S2:=⟨_,rfl⟩;have hqL2:∀ x∈L2,0≤x∧x<64:=by rw[hL2];exact hq64 _ _
 have hbs:=ae v2 (.cells #[.int .i64 d2,.int .i64 e2] 181);have hAu:=(hA.call hbs).call hbu;have hOu:=(hO.call hbs).call hbu;have hSu:=(hS.call hbs).call hbu;have hBu:=aI (zbc hB hbs) (Nat.le_trans hB.size hbs.size) hbu;have hsv:=(hs0.call hbs).call hbu;have hEu:∀ p∈([D1,D0]:List Nat),ac u2 p (.deferred (some [])):=fun p hp=>((hE2 p hp).call hbs).call hbu
 have hElt:∀ p∈([D1,D0]:List Nat),p<u2.heap.size:=fun p hp=>(hEu p hp).lt
 have hglu:=hsv.1;have hlSu:=hSu.lt;obtain⟨q1,hq1⟩:∃ q,q=(v2.alloc (.cells #[.int .i64 d2,.int .i64 e2] 181)).heap.size:=⟨_,rfl⟩;rw[←hq1]at hRd hsu ⊢;have hq1l:w.heap.size+3≤q1:=by rw[hq1];have:=hS.lt;simp;omega
 have hI0:slI w F R a oc g o st q1 d2 e2 L2 f2 [D1,D0] u2.heap.size u2:=⟨hBu,hAu,hOu,hRd,⟨S2,hSu,hS2l,hf2.symm⟩,hsv,Nat.le_refl _,hEu⟩;replace hq1:=zhd hq1;replace hL2:=zhd hL2;replace hf2:=zhd hf2;skip
 clear hA hO hS hB hs0 hbs hbu hcA hlA hgl hx2 hy2 hAu hOu hSu hRd hEu hE2;gi_wp2_with fail;refine cR (gf:=200) (lb:=#[.pointer (some ⟨q1,0,none⟩),.pointer (some ⟨q1+1,0,none⟩),.pointer (some ⟨q1+2,0,none⟩),.pointer (some ⟨q1+3,0,none⟩)]) 2 (fun a W h=>h) rfl (enters_of Tryz.func200 (by kernel_rfl) rfl) (gR F R a d2 e2 q1 (q1+1) (q1+2) (q1+3) hF hR ha hb2 hc2 hn2 L2 hL2.out) (fun _ _=>rfl)
  (fun c k W=>slI w F R a oc g o st q1 d2 e2 (L2.drop k) f2 [D1,D0] c W) (fun c W=>slI w F R a oc g o st q1 d2 e2 [] f2 [D1,D0] c W) ?hst2 ?hstx2 ?hRd2 ?hsz2 ?hszx2 ?h02 ?hbody2 ?hfin2 ?hcont2
 case hst2=>intro c k W W' hc h ha;exact bW h ha (by omega) (by omega) (by omega) hElt
 case hstx2=>intro c W W' hc h ha;exact bW h ha (by omega) (by omega) (by omega) hElt
 case hRd2=>intro c k W hc h;exact h.2.2.2.1
 case hsz2=>intro c k W hc h;exact h.2.2.2.2.2.2.1
 case hszx2=>intro c W hc h;exact h.2.2.2.2.2.2.1
 case hfin2=>intro c W h;rw[List.drop_length]at h;exact h
 case h02=>intro c W hb hc hz;obtain⟨b,i1,i2,⟨r1,r2,r3,r4⟩,⟨S,s1,s2,s3⟩,i4,i5,i6⟩:=bW hI0 (Alt.call (lo:=u2.heap.size) (hi:=u2.heap.size) hb) (by omega) (by omega) (by omega) hElt;exact⟨b,i1,i2,⟨r1,r2,r3,r4⟩,⟨S,s1,s2,s3⟩,i4,by omega,i6⟩
 case hbody2 =>
  rintro c k W hc hk h hT;have hkm:L2[k]?.getD 0∈L2:=by rw[List.getElem?_eq_getElem hk];exact List.getElem_mem hk
  have hxb:=hqL2 _ hkm;have hdr:L2.drop k=(L2[k]?.getD 0)::L2.drop (k+1):=by rw[List.getElem?_eq_getElem hk];exact List.drop_eq_getElem_cons hk
  obtain⟨x,hx⟩:∃ x:Nat,L2[k]?.getD 0=x:=⟨(L2[k]?.getD 0).toNat,by omega⟩;rw[hx]at hdr hxb;simp only[hx];have hx64:(x:Int)<64:=by omega
  clear hkm;replace hk:=zhd hk;replace hx:=zhd hx;gi_wp2_with fail;refine⟨fun q o _ h=>h,fun W2 ha hz hrec=>?_⟩;have h2:=bW h ha (by omega) (by omega) (by omega) (fun p hp=>by have:=hElt p hp;omega);have h2':=h2;obtain⟨b,i1,i2,ir,⟨S,s1,s2,s3⟩,i4,i5,i6⟩:=h2';have c9:=s1.cells 0;have f9:=s1.frozen;have l9:=s1.lt;replace hz:=zhd hz;rw[hdr]at s3;simp only[bN,Int.toNat_natCast]at s3;have wo:bits .or .u64 (S:Int) (IntKind.u64.wrap (2^x))=((S|||2^x:Nat):Int):=fp s2 (by omega);have s4:S|||2^x<2^64:=Nat.or_lt_two_pow s2 (Nat.pow_lt_pow_right (by decide) (by omega))
  have c8:=dK (x:=x) hoc;have hlD:w.heap.size+3≤u2.heap.size:=by omega
  gi_wp2_with fail;gi_region
  all_goals
   replace wo:=zhd wo;rcases ht:oc.testBit x with _|_
   ·rw[ht]at s3 c8;obtain⟨h3,h4⟩:=eh (L':=L2.drop (k+1)) (S':=S|||2^x) h2 s4 (by simpa using s3) hq1l hgw hEw2;generalize (W2.setCell ⟨w.heap.size+1+1,0,none⟩ (.int .u64 ((S|||2^x:Nat):Int))).drew=W3 at *;have c6:=h3.2.2.1.cells 0;have l6:=h3.2.2.1.lt;clear c9 f9 l9 i1 i2 ir i4 i6 s1 b h2 i5;replace s3:=zhd s3;gi_wp2_with fail;exact⟨fun q o hq ho=>h4.hasO ho (.inr (by rcases hq with h|h|h<;>omega)),h3⟩
   ·rw[ht]at s3 c8;obtain⟨h3,h4⟩:=eh (L':=[]) (S':=S|||2^x) h2 s4 (by simpa[bN]using s3) hq1l hgw hEw2;generalize (W2.setCell ⟨w.heap.size+1+1,0,none⟩ (.int .u64 ((S|||2^x:Nat):Int))).drew=W3 at *;have c6:=h3.2.2.1.cells 0;have l6:=h3.2.2.1.lt;clear c9 f9 l9 i1 i2 ir i4 i6 s1 b h2 i5;replace s3:=zhd s3;gi_wp2_with fail;exact⟨fun q o hq ho=>h4.hasO ho (.inr (by rcases hq with h|h<;>omega)),rfl,h3⟩
 intro c2 v3 hcc hJ hD;obtain⟨hB,hA,hO,_,⟨S3,hS,hS3l,hS3⟩,hs0,_,hEE⟩:=hJ;replace hS3:Hid (S3=f2):=zhd hS3;obtain⟨D2,hDD2⟩:∃ D,D=u2.heap.size:=⟨_,rfl⟩;rw[←hDD2]at hD ⊢;have hEw3:∀ p∈([D2,D1,D0]:List Nat),w.heap.size+3≤p:=by
  intro p hp;rcases List.mem_cons.1 hp with rfl|hp
  ·omega
  ·exact hEw2 p hp
 have hE3:∀ p∈([D2,D1,D0]:List Nat),ac v3 p (.deferred (some [])):=by
  intro p hp;rcases List.mem_cons.1 hp with rfl|hp
  ·exact hD
  ·exact hEE p hp
 have hDlt2:∀ p∈([D1,D0]:List Nat),p<D2:=by rw[hDD2];exact hElt
 replace hDD2:=zhd hDD2;clear hI0 hElt hsu hq1l hq1 hlSu hglu hsv hBu hD hEE hcc hqL2 hEw2;gi_wp2_with fail;rw[roundsIn_succ];obtain⟨hx3,hy3⟩:=hs0.2 3 (by rw[hst.out];simp);have hgl:=hs0.1;have⟨hcA,hlA⟩:=hA.cl;rw[hst.out]at hx3 hy3;simp only[Nat.reduceMul,List.getElem?_cons_zero,List.getElem?_cons_succ,Option.getD_some]at hx3 hy3;gi_wp2_with fail;refine⟨trivial,(callsIn_wide.2 (gZ F R a d3 e3 _)).mono ?_⟩;rintro e u3 ⟨rfl,hRd,hbu,hsu⟩;obtain⟨L3,hL3⟩:∃ L,L=rayL F R a d3 e3 8 1:=⟨_,rfl⟩;obtain⟨f3,hf3⟩:∃ f,f=bN oc L3 S3:=⟨_,rfl⟩;have hqL3:∀ x∈L3,0≤x∧x<64:=by rw[hL3];exact hq64 _ _
 have hbs:=ae v3 (.cells #[.int .i64 d3,.int .i64 e3] 181);have hAu:=(hA.call hbs).call hbu;have hOu:=(hO.call hbs).call hbu;have hSu:=(hS.call hbs).call hbu;have hBu:=aI (zbc hB hbs) (Nat.le_trans hB.size hbs.size) hbu;have hsv:=(hs0.call hbs).call hbu;have hEu:∀ p∈([D2,D1,D0]:List Nat),ac u3 p (.deferred (some [])):=fun p hp=>((hE3 p hp).call hbs).call hbu
 have hElt:∀ p∈([D2,D1,D0]:List Nat),p<u3.heap.size:=fun p hp=>(hEu p hp).lt
 have hglu:=hsv.1;have hlSu:=hSu.lt;obtain⟨q1,hq1⟩:∃ q,q=(v3.alloc (.cells #[.int .i64 d3,.int .i64 e3] 181)).heap.size:=⟨_,rfl⟩;rw[←hq1]at hRd hsu ⊢;have hq1l:w.heap.size+3≤q1:=by rw[hq1];have:=hS.lt;simp;omega
 have hI0:slI w F R a oc g o st q1 d3 e3 L3 f3 [D2,D1,D0] u3.heap.size u3:=⟨hBu,hAu,hOu,hRd,⟨S3,hSu,hS3l,hf3.symm⟩,hsv,Nat.le_refl _,hEu⟩;replace hq1:=zhd hq1;replace hL3:=zhd hL3;replace hf3:=zhd hf3;skip
 clear hA hO hS hB hs0 hbs hbu hcA hlA hgl hx3 hy3 hAu hOu hSu hRd hEu hE3;gi_wp2_with fail;refine cR (gf:=200) (lb:=#[.pointer (some ⟨q1,0,none⟩),.pointer (some ⟨q1+1,0,none⟩),.pointer (some ⟨q1+2,0,none⟩),.pointer (some ⟨q1+3,0,none⟩)]) 2 (fun a W h=>h) rfl (enters_of Tryz.func200 (by kernel_rfl) rfl) (gR F R a d3 e3 q1 (q1+1) (q1+2) (q1+3) hF hR ha hb3 hc3 hn3 L3 hL3.out) (fun _ _=>rfl)
  (fun c k W=>slI w F R a oc g o st q1 d3 e3 (L3.drop k) f3 [D2,D1,D0] c W) (fun c W=>slI w F R a oc g o st q1 d3 e3 [] f3 [D2,D1,D0] c W) ?hst3 ?hstx3 ?hRd3 ?hsz3 ?hszx3 ?h03 ?hbody3 ?hfin3 ?hcont3
 case hst3=>intro c k W W' hc h ha;exact bW h ha (by omega) (by omega) (by omega) hElt
 case hstx3=>intro c W W' hc h ha;exact bW h ha (by omega) (by omega) (by omega) hElt
 case hRd3=>intro c k W hc h;exact h.2.2.2.1
 case hsz3=>intro c k W hc h;exact h.2.2.2.2.2.2.1
 case hszx3=>intro c W hc h;exact h.2.2.2.2.2.2.1
 case hfin3=>intro c W h;rw[List.drop_length]at h;exact h
 case h03=>intro c W hb hc hz;obtain⟨b,i1,i2,⟨r1,r2,r3,r4⟩,⟨S,s1,s2,s3⟩,i4,i5,i6⟩:=bW hI0 (Alt.call (lo:=u3.heap.size) (hi:=u3.heap.size) hb) (by omega) (by omega) (by omega) hElt;exact⟨b,i1,i2,⟨r1,r2,r3,r4⟩,⟨S,s1,s2,s3⟩,i4,by omega,i6⟩
 case hbody3 =>
  rintro c k W hc hk h hT;have hkm:L3[k]?.getD 0∈L3:=by rw[List.getElem?_eq_getElem hk];exact List.getElem_mem hk
  have hxb:=hqL3 _ hkm;have hdr:L3.drop k=(L3[k]?.getD 0)::L3.drop (k+1):=by rw[List.getElem?_eq_getElem hk];exact List.drop_eq_getElem_cons hk
  obtain⟨x,hx⟩:∃ x:Nat,L3[k]?.getD 0=x:=⟨(L3[k]?.getD 0).toNat,by omega⟩;rw[hx]at hdr hxb;simp only[hx];have hx64:(x:Int)<64:=by omega
  clear hkm;replace hk:=zhd hk;replace hx:=zhd hx;gi_wp2_with fail;refine⟨fun q o _ h=>h,fun W2 ha hz hrec=>?_⟩;have h2:=bW h ha (by omega) (by omega) (by omega) (fun p hp=>by have:=hElt p hp;omega);have h2':=h2;obtain⟨b,i1,i2,ir,⟨S,s1,s2,s3⟩,i4,i5,i6⟩:=h2';have c9:=s1.cells 0;have f9:=s1.frozen;have l9:=s1.lt;replace hz:=zhd hz;rw[hdr]at s3;simp only[bN,Int.toNat_natCast]at s3;have wo:bits .or .u64 (S:Int) (IntKind.u64.wrap (2^x))=((S|||2^x:Nat):Int):=fp s2 (by omega);have s4:S|||2^x<2^64:=Nat.or_lt_two_pow s2 (Nat.pow_lt_pow_right (by decide) (by omega))
  have c8:=dK (x:=x) hoc;have hlD:w.heap.size+3≤u3.heap.size:=by omega
  gi_wp2_with fail;gi_region
  all_goals
   replace wo:=zhd wo;rcases ht:oc.testBit x with _|_
   ·rw[ht]at s3 c8;obtain⟨h3,h4⟩:=eh (L':=L3.drop (k+1)) (S':=S|||2^x) h2 s4 (by simpa using s3) hq1l hgw hEw3;generalize (W2.setCell ⟨w.heap.size+1+1,0,none⟩ (.int .u64 ((S|||2^x:Nat):Int))).drew=W3 at *;have c6:=h3.2.2.1.cells 0;have l6:=h3.2.2.1.lt;clear c9 f9 l9 i1 i2 ir i4 i6 s1 b h2 i5;replace s3:=zhd s3;gi_wp2_with fail;exact⟨fun q o hq ho=>h4.hasO ho (.inr (by rcases hq with h|h|h<;>omega)),h3⟩
   ·rw[ht]at s3 c8;obtain⟨h3,h4⟩:=eh (L':=[]) (S':=S|||2^x) h2 s4 (by simpa[bN]using s3) hq1l hgw hEw3;generalize (W2.setCell ⟨w.heap.size+1+1,0,none⟩ (.int .u64 ((S|||2^x:Nat):Int))).drew=W3 at *;have c6:=h3.2.2.1.cells 0;have l6:=h3.2.2.1.lt;clear c9 f9 l9 i1 i2 ir i4 i6 s1 b h2 i5;replace s3:=zhd s3;gi_wp2_with fail;exact⟨fun q o hq ho=>h4.hasO ho (.inr (by rcases hq with h|h<;>omega)),rfl,h3⟩
 intro c3 v4 hcc hJ hD;obtain⟨hB,hA,hO,_,⟨S4,hS,hS4l,hS4⟩,hs0,_,hEE⟩:=hJ;replace hS4:Hid (S4=f3):=zhd hS4;obtain⟨D3,hDD3⟩:∃ D,D=u3.heap.size:=⟨_,rfl⟩;rw[←hDD3]at hD ⊢;have hEw4:∀ p∈([D3,D2,D1,D0]:List Nat),w.heap.size+3≤p:=by
  intro p hp;rcases List.mem_cons.1 hp with rfl|hp
  ·omega
  ·exact hEw3 p hp
 have hE4:∀ p∈([D3,D2,D1,D0]:List Nat),ac v4 p (.deferred (some [])):=by
  intro p hp;rcases List.mem_cons.1 hp with rfl|hp
  ·exact hD
  ·exact hEE p hp
 have hDlt3:∀ p∈([D2,D1,D0]:List Nat),p<D3:=by rw[hDD3];exact hElt
 replace hDD3:=zhd hDD3;clear hI0 hElt hsu hq1l hq1 hlSu hglu hsv hBu hD hEE hcc hqL3 hEw3;gi_wp2_with fail;rw[roundsIn_succ];have hc9:=hS.cells 0;have hl9:=hS.lt;gi_wp2_with fail;have hv:S4=V:=by rw[hV.out,hst.out];simp only[slideW,List.getElem?_cons_zero,List.getElem?_cons_succ,Option.getD_some];rw[hS4.out,hf3.out,hL3.out,hS3.out,hf2.out,hL2.out,hS2.out,hf1.out,hL1.out,hS1.out,hf0.out,hL0.out,hS0.out]
 have m32:=hDlt3 D2 (by simp);have m31:=hDlt3 D1 (by simp);have m30:=hDlt3 D0 (by simp);have m21:=hDlt2 D1 (by simp);have m20:=hDlt2 D0 (by simp);have m10:=hDlt1 D0 (by simp);have x3:=hE4 D3 (by simp);have x2:=hE4 D2 (by simp);have x1:=hE4 D1 (by simp);have x0:=hE4 D0 (by simp);have k3:=hEw4 D3 (by simp);have k2:=hEw4 D2 (by simp);have k1:=hEw4 D1 (by simp);have k0:=hEw4 D0 (by simp);refine⟨by simp,.inl ⟨_,_,rfl,run_takeDeferred x3,by simp,.inl ⟨_,_,rfl,run_takeDeferred ((World.putObj_heap_other (k:=D2) (by omega)).trans x2),by simp,
  .inl ⟨_,_,rfl,run_takeDeferred ((World.putObj_heap_other (k:=D1) (by omega)).trans ((World.putObj_heap_other (k:=D1) (by omega)).trans x1)),by simp,
  .inl ⟨_,_,rfl,run_takeDeferred ((World.putObj_heap_other (k:=D0) (by omega)).trans ((World.putObj_heap_other (k:=D0) (by omega)).trans ((World.putObj_heap_other (k:=D0) (by omega)).trans x0))),?_⟩⟩⟩⟩⟩
 refine⟨_,results_tmp rfl _ _ _,rz ?_,?_⟩
 ·show Value.int .u64 (S4:Int)=_;rw[hv]
 ·exact dH (dH (dH (dH hB (by omega) hB.size) (by omega) (by simpa using hB.size)) (by omega) (by simpa using hB.size)) (by omega) (by simpa using hB.size)
end Go.Proofs.YtefmplccbkmalaaGreatDoor
