import Derived.Test.YtefmplccbkmalaaGreatDoorB18
import Derived.Test.YtefmplccbkmalaaGreatDoorB22
import Derived.Test.YtefmplccbkmalaaGreatDoorB23
set_option maxRecDepth 100000
set_option maxHeartbeats 12800000
namespace Go.Proofs.YtefmplccbkmalaaGreatDoor
open Go.RowKit Go.Sort Go.BigFrame

abbrev s4:ByteArray:=str [101,49,99,49]
theorem AO(W:World):(Instr.sliceAt 9 (.string s4) none (some (.int .i64 2)) none).run Tryz.prog W=.ok (.string (str (nmL 4))) W:=by kernel_rfl
theorem AU(W:World):(Instr.sliceAt 9 (.string s4) (some (.int .i64 2)) (some (.int .i64 4)) none).run Tryz.prog W=.ok (.string (str (nmL 2))) W:=by kernel_rfl
theorem At(W:World):(Instr.alloc 40 true (.tuple #[])).run Tryz.prog W=.ok (.pointer (some ⟨W.heap.size,0,none⟩)) (W.alloc (.cells #[.int .i64 0,.int .i64 0,.int .i8 0] 40)):=by kernel_rfl
section
variable {P:Program} {o:Oper} {a:Act} {w:World} {K:Act→World→Prop} {Q:Exit→Act→World→Prop}
theorem mt{t:Nat→Option Bool}{X:Prop}(hg:o.guard=none)(ty:TypeId)(x:Operand)(lo hi:Option Operand)(ho:o.op=.slice ty x lo hi none){v u:Value}{l h:Option Value}(hx:a.eval x=v)(hl:lo.map a.eval=l)(hh:hi.map a.eval=h)
  (hr:(Instr.sliceAt ty v l h none).run P w=.ok u w) (hk:K (a.put o.dst u) w):if Region.wanted o t=true then o.wp P a w K Q else X:=by
 refine bm hg ?_;unfold Oper.wp execOp;simp only[ho,hx,hl,hh,Option.map_none,Sem.run_bind,hr,Result.andThen_ok,Sem.run_pure];exact hk
end
def rC:Nat→Value
 | 0=>.agg #[.int .i64 8,.int .i64 8] | 1=>.string s4|2=>.string (str (nmL 4))|3=>.int .i64 (4:Nat)|4=>.agg #[.int .i64 8,.int .i64 8] | 5=>.string s4|6=>.string (str (nmL 2))|7=>.int .i64 (2:Nat)|8=>.agg #[.int .i64 4,.int .i64 2,.int .i8 0] | _=>undef
def oH(n0:Nat)(w0:World):Bool→Bool→Value→World→Prop
 | _,true,u,w=>∃ q,u=.pointer (some ⟨q,0,none⟩)∧n0≤q∧ac w q (.cells #[.int .i64 4,.int .i64 2,.int .i8 0] 40 (0,0))∧RowKit.Below n0 w0 w
 | true,false,u,w=>∃ q,u=.pointer (some ⟨q,0,none⟩)∧n0≤q∧ac w q (.cells #[.int .i64 0,.int .i64 0,.int .i8 0] 40 (0,0))∧RowKit.Below n0 w0 w
 | false,false,_,w=>RowKit.Below n0 w0 w
theorem n9{n0:Nat}{w0 w:World}{a b:Bool}{u:Value}(h:oH n0 w0 a b u w):RowKit.Below n0 w0 w:=by
 rcases b with _|_
 ·rcases a with _|_
  ·exact h
  ·obtain⟨_,_,_,_,h⟩:=h;exact h
 ·obtain⟨_,_,_,_,h⟩:=h;exact h
theorem tk{n0:Nat}{w0 w w':World}{a b:Bool}{u:Value}(h:oH n0 w0 a b u w)(hb:Bw w w')(hn:n0≤w0.heap.size):oH n0 w0 a b u w':=by
 have h2:RowKit.Below n0 w0 w':=aI (n9 h) (Nat.le_trans hn (n9 h).size) hb;rcases b with _|_
 ·rcases a with _|_
  ·exact h2
  ·obtain⟨q,e1,e2,e3,_⟩:=h;exact⟨q,e1,e2,e3.call hb,h2⟩
 ·obtain⟨q,e1,e2,e3,_⟩:=h;exact⟨q,e1,e2,e3.call hb,h2⟩
theorem Ai(W:World)(q2:Nat)(h2:ac W q2 (.cells #[.int .i64 8,.int .i64 8] 23 (0,0)))(A:Act)(Q:Exit→Act→World→Prop)(ha1:A.tmps.getD 1 undef=.string s4)(ha2:A.tmps.getD 2 undef=.pointer (some ⟨q2,0,none⟩))(hsz:53≤A.tmps.size)
  (hok:∀ f w' q,f 9=.pointer (some ⟨q,0,none⟩)→W.heap.size≤q→ac w' q (.cells #[.int .i64 4,.int .i64 2,.int .i8 0] 40 (0,0))→Bw W w'→Q .normal (ao [some 17,some 18,some 19,some 20,some 21,some 22,some 23,some 24,some 25,some 6,none] f 0 A) w')
  (cd:Code) (hcd:Tryz.f71.body.bind (dh 3)=some cd):cd.wp Tryz.prog Q A W:=by
 obtain rfl:=Option.some.inj ((show Tryz.f71.body.bind (dh 3)=some _ from rfl).symm.trans hcd);clear hcd;refine bE (by kernel_rfl) (by kernel_rfl) [some 17,some 18,some 19,some 20,some 21,some 22,some 23,some 24,some 25,some 6,none] (by rfl) (by rfl)
  (fun S f wv=>(∀ i,i<9→S i=true→f i=rC i)∧oH W.heap.size W (S 9) (S 10) (f 9) wv) ?hcong ?h0 ?hstep ?hend
 case hcong=>rintro S S' f wv hSS ⟨h1,h2⟩;refine⟨fun i hi h=>h1 i hi (by rw[hSS i (Nat.lt_of_lt_of_le hi (by decide))];exact h),?_⟩;rw[←hSS 9 (by decide),←hSS 10 (by decide)];exact h2
 case h0=>exact fun f=>⟨fun i _ h=>(by cases h),(Below.refl _ _).drew⟩
 case hstep =>
  rintro S i o f wv ho hi hSi hpre hcl ⟨hf,hR⟩ K hK;have hi:i<11:=hi;have keep:∀ u w',i<9→u=rC i→Bw wv w'→(∀ j,j<9→upd S i j=true→(if j=i then u else f j)=rC j)∧oH W.heap.size W (upd S i 9) (upd S i 10) (if 9=i then u else f 9) w':=by
   intro u w' h9 hu hb;refine⟨fun j hj hSj=>?_,?_⟩
   ·by_cases e:j=i
    ·subst e;simpa using hu
    ·simp only[e,if_false];exact hf j hj (by simpa[upd,e]using hSj)
   ·simp only[upd,show ¬9=i by omega,show ¬10=i by omega,if_false];exact tk hR hb (Nat.le_refl _)
  have hv:∀ j,o.after.toList.any (fun e=>Region.binds .any e&&(e.on==j))=true→j<9→f j=rC j:=fun j hj h9=>by
   rw[List.any_eq_true]at hj;obtain⟨e,he,h⟩:=hj;simp only[Bool.and_eq_true,beq_iff_eq]at h;have:=hpre e (by simpa using he) h.1;rw[h.2]at this;exact hf j h9 this
  have hB:=n9 hR;have hR0:=Below.refl wv.heap.size wv;rcases(by omega:i=0∨i=1∨i=2∨i=3∨i=4∨i=5∨i=6∨i=7∨i=8∨i=9∨i=10)with rfl|rfl|rfl|rfl|rfl|rfl|rfl|rfl|rfl|rfl|rfl
  ·exact ay (og ho) 23 (.tmp 2) (oo ho) (ah rfl ha2) [.int .i64 8,.int .i64 8] (by kernel_rfl) (fun j u hu=>by rw[Nat.zero_add,(h2.call hB).cells j];simpa using hu) (hK _ wv (keep _ _ (by decide) rfl hR0))
  ·exact al (og ho) (.tmp 1) (oo ho) (ah rfl ha1) (hK _ wv (keep _ _ (by decide) rfl hR0))
  ·exact mt (og ho) 9 (.tmp 18) none (some (.const (.int .i64 2))) (oo ho) (aB rfl 1 rfl (Nat.lt_of_lt_of_le (by decide) hsz) (hv 1 (ov ho) (by decide))) rfl rfl (AO wv) (hK _ wv (keep _ _ (by decide) rfl hR0))
  ·exact aH (og ho) 131 (.tmp 17) (.tmp 19) #[23,9] (oo ho) (aB rfl 0 rfl (Nat.lt_of_lt_of_le (by decide) hsz) (hv 0 (ov ho) (by decide))) (aB rfl 2 rfl (Nat.lt_of_lt_of_le (by decide) hsz) (hv 2 (ov ho) (by decide))) (fun _ _=>rfl) (aG 4 (by decide) wv)
    (by rintro u w9 ⟨h9,hb9⟩;injection h9 with h9;subst h9;exact hK _ w9 (keep _ _ (by decide) rfl hb9)) (by rintro ch w9 ⟨h9,_⟩;cases h9) (by rintro w9 ⟨h9,_⟩;cases h9)
  ·exact ay (og ho) 23 (.tmp 2) (oo ho) (ah rfl ha2) [.int .i64 8,.int .i64 8] (by kernel_rfl) (fun j u hu=>by rw[Nat.zero_add,(h2.call hB).cells j];simpa using hu) (hK _ wv (keep _ _ (by decide) rfl hR0))
  ·exact al (og ho) (.tmp 1) (oo ho) (ah rfl ha1) (hK _ wv (keep _ _ (by decide) rfl hR0))
  ·exact mt (og ho) 9 (.tmp 22) (some (.const (.int .i64 2))) (some (.const (.int .i64 4))) (oo ho) (aB rfl 5 rfl (Nat.lt_of_lt_of_le (by decide) hsz) (hv 5 (ov ho) (by decide))) rfl rfl (AU wv) (hK _ wv (keep _ _ (by decide) rfl hR0))
  ·exact aH (og ho) 131 (.tmp 21) (.tmp 23) #[23,9] (oo ho) (aB rfl 4 rfl (Nat.lt_of_lt_of_le (by decide) hsz) (hv 4 (ov ho) (by decide))) (aB rfl 6 rfl (Nat.lt_of_lt_of_le (by decide) hsz) (hv 6 (ov ho) (by decide))) (fun _ _=>rfl) (aG 2 (by decide) wv)
    (by rintro u w9 ⟨h9,hb9⟩;injection h9 with h9;subst h9;exact hK _ w9 (keep _ _ (by decide) rfl hb9)) (by rintro ch w9 ⟨h9,_⟩;cases h9) (by rintro w9 ⟨h9,_⟩;cases h9)
  ·exact mm (og ho) 40 0 1 (.tmp 20) (.tmp 24) (oo ho) (aB rfl 3 rfl (Nat.lt_of_lt_of_le (by decide) hsz) (hv 3 (ov ho) (by decide))) (aB rfl 7 rfl (Nat.lt_of_lt_of_le (by decide) hsz) (hv 7 (ov ho) (by decide))) (cs:=#[.int .i64 4,.int .i64 2,.int .i8 0]) (by kernel_rfl) (hK _ wv (keep _ _ (by decide) rfl hR0))
  ·have h10:S 10=false:=by
    rcases hs:S 10 with _|_
    ·rfl
    ·have h4:=hcl 10 _ hs rfl ⟨9,.data⟩ (by simp) rfl;rw[hSi]at h4;cases h4
   rw[hSi,h10]at hR;have hB2:Bw W wv:=hR;refine bV (og ho) 40 (oo ho) (At wv) (hK _ _ ⟨fun j hj h3=>by show(if j=9 then _ else f j)=_;rw[if_neg (by omega)];exact hf j hj (by simpa[upd,show ¬j=9 by omega]using h3),?_⟩);rw[show upd S 9 9=true by simp[upd],show upd S 9 10=false by simp[upd,h10]];exact⟨_,rfl,hB2.size,ac.new wv (.cells #[.int .i64 0,.int .i64 0,.int .i8 0] 40),hB2.alloc hB2.size _⟩
  ·have h9:S 9=true:=hpre ⟨9,.data⟩ (oa ho) rfl;rw[h9,hSi]at hR;obtain⟨q,e1,e2,e3,e4⟩:∃ q,f 9=.pointer (some ⟨q,0,none⟩)∧W.heap.size≤q∧ac wv q (.cells #[.int .i64 0,.int .i64 0,.int .i8 0] 40 (0,0))∧Bw W wv:=hR;refine bI (og ho) 40 (.tmp 6) (.tmp 25) (oo ho) (aB rfl 9 rfl (Nat.lt_of_lt_of_le (by decide) hsz) e1) #[.int .i64 4,.int .i64 2,.int .i8 0] #[.int .i64 0,.int .i64 0,.int .i8 0] 40 (aB rfl 8 rfl (Nat.lt_of_lt_of_le (by decide) hsz) (hv 8 (ov ho) (by decide))) e3 (by kernel_rfl) rfl (by simp[Value.oneCell']) (hK _ _ ⟨fun j hj h3=>by show(if j=10 then _ else f j)=_;rw[if_neg (by omega)];exact hf j hj (by simpa[upd,show ¬j=10 by omega]using h3),?_⟩);rw[show upd S 10 10=true by simp[upd]];have hfin:∃ q,(if 9=10 then undef else f 9)=.pointer (some ⟨q,0,none⟩)∧W.heap.size≤q∧ac (wv.setRow q #[.int .i64 4,.int .i64 2,.int .i8 0]) q (.cells #[.int .i64 4,.int .i64 2,.int .i8 0] 40 (0,0))∧Bw W (wv.setRow q #[.int .i64 4,.int .i64 2,.int .i8 0]):=⟨q,e1,e2,ak e3,aj e4 e2 e4.size⟩;obtain⟨q',k1,k2,k3,k4⟩:=hfin;rcases upd S 10 9 with _|_<;>exact⟨q,e1,e2,ak e3,aj e4 e2 e4.size⟩
 case hend =>
  rintro S f wv hSS ⟨hf,hR⟩;rw[hSS 10 (by decide)]at hR;obtain⟨q,h1,h2,h3,h4⟩:∃ q,f 9=.pointer (some ⟨q,0,none⟩)∧W.heap.size≤q∧ac wv q (.cells #[.int .i64 4,.int .i64 2,.int .i8 0] 40 (0,0))∧Bw W wv:=by rcases S 9 with _|_<;>exact hR
  exact hok f wv q h1 h2 h3 h4
theorem pF(w:World):Clz 71 #[.agg #[.int .i64 8,.int .i64 8],.string s4] w fun e w'=>e=.returned (.tuple #[.agg #[.int .i64 4,.int .i64 2,.int .i8 0],.bool true])∧Bw w w':=by
 obtain⟨W1,hW1⟩:∃ W1,W1=(w.alloc (.cells #[.int .i64 8,.int .i64 8] 23)).alloc (.cells #[.int .i64 0,.int .i64 0,.int .i8 0] 40):=⟨_,rfl⟩;have hB:Bw w W1:=by subst hW1;exact(ae w _).alloc (by simp) _
 have hA:ac W1 w.heap.size (.cells #[.int .i64 8,.int .i64 8] 23 (0,0)):=by subst hW1;exact(ac.new w _).alloc _
 have hO:ac W1 (w.heap.size+1) (.cells #[.int .i64 0,.int .i64 0,.int .i8 0] 40 (0,0)):=by subst hW1;exact ac.new' _ _ (by simp)
 have hmv:∀ W,Clz 21 #[.agg #[.int .i64 8,.int .i64 8],.agg #[.int .i64 4,.int .i64 2,.int .i8 0]] W fun e w'=>e=.returned (.bool true)∧Bw W w':=fun W=>by
  have h:=fm 8 8 ⟨4,2,0⟩ W;rw[show mvB 8 8 ⟨4,2,0⟩=true from by decide +kernel]at h;exact h
 have hl:s4.size=4:=by decide +kernel
 replace hW1:=zhd hW1;go_enter Tryz.func71,Tryz.ntmps71;go_upto_region 1 with fail;change Code.wp _ _ _ _ ((w.alloc (.cells #[.int .i64 8,.int .i64 8] 23)).alloc (.cells #[.int .i64 0,.int .i64 0,.int .i8 0] 40));rw[←hW1.out];go_upto_region 3 with fail;refine Ai W1 w.heap.size hA _ _ rfl rfl (by simp) ?_ _ rfl;intro f w3 q h9 hq hr hb3;have hA3:=hA.call hb3;have hO3:=hO.call hb3;have hB3:=zbc hB hb3;have hq0:w.heap.size≤q:=Nat.le_trans hB.size hq;have⟨c0,l0⟩:=hA3.cl;have⟨c1,l1⟩:=hr.cl;clear hA hO hB;simp only[ao,h9];go_simp;go_wp2_with fail;refine(hmv w3).mono ?_;rintro e w4 ⟨rfl,hb4⟩;have hO4:=hO3.call hb4;have hr4:=hr.call hb4;have hB4:=zbc hB3 hb4;clear hmv c0 l0 c1 l1 hr h9;have⟨c1,l1⟩:=hr4.cl;have⟨hi,ho⟩:=zrw 40 (A:=(#[.int .i64 4,.int .i64 2,.int .i8 0]:Array Value)) (by kernel_rfl) (by simp[Value.oneCell']);go_wp2_with (first|((refine ai rfl 40 (.tmp 4) (.tmp 52) rfl (w.heap.size+1) (#[.int .i64 4,.int .i64 2,.int .i8 0]) rfl rfl 40 _ hO4 hi.out rfl ho.out ?_);rintro w9 rfl)|fail);refine bodyPost_ret (aU (fn:=Tryz.f71) Tryz.results71 rfl (ak (cells:=#[.int .i64 4,.int .i64 2,.int .i8 0]) hO4) (by kernel_rfl) (by kernel_rfl) rfl) rfl ?_;exact⟨rfl,aj hB4 (by omega) hB4.size⟩
theorem uU(pp:Option Addr)(n cc:Nat)(bl:Bool)(ca pa ha fu:Int)(w:World):Clz 26 #[.agg (aa 8 8 pp n cc bl ca pa ha fu).toArray,.string s4] w fun e w'=>e=.returned (.agg #[.int .i64 4,.int .i64 2,.int .i8 0])∧Bw w w':=by
 obtain⟨W1,hW1⟩:∃ W1,W1=(w.alloc (.cells (aa 8 8 pp n cc bl ca pa ha fu).toArray 26)).alloc (.cells #[.int .i64 0,.int .i64 0,.int .i8 0] 40):=⟨_,rfl⟩;have hB:Bw w W1:=by subst hW1;exact(ae w _).alloc (by simp) _
 have hA:ac W1 w.heap.size (.cells (aa 8 8 pp n cc bl ca pa ha fu).toArray 26 (0,0)):=by subst hW1;exact(ac.new w _).alloc _
 have hO:ac W1 (w.heap.size+1) (.cells #[.int .i64 0,.int .i64 0,.int .i8 0] 40 (0,0)):=by subst hW1;exact ac.new' _ _ (by simp)
 have⟨c0,l0⟩:=hA.cl;replace hW1:=zhd hW1;generalize hs4:s4=S4 at *;have hmp:=fun W=>pF W
 rw[hs4]at hmp;replace hs4:=zhd hs4;go_enter Tryz.func26,Tryz.ntmps26;go_upto_region 1 with fail;change Code.wp _ _ _ _ ((w.alloc (.cells (aa 8 8 pp n cc bl ca pa ha fu).toArray 26)).alloc (.cells #[.int .i64 0,.int .i64 0,.int .i8 0] 40));rw[←hW1.out];go_wp2_with fail;refine(hmp W1).mono ?_;rintro e w3 ⟨rfl,hb3⟩;have hO3:=hO.call hb3;have hB3:=zbc hB hb3;have hbx:=ae w3 (.cells #[.int .i64 4,.int .i64 2,.int .i8 0] 40);have hX:=ac.new w3 (.cells #[.int .i64 4,.int .i64 2,.int .i8 0] 40);have hO4:=hO3.call hbx;have hB4:=zbc hB3 hbx;clear hmp c0 l0 hA hO hB hbx;have⟨c1,l1⟩:=hX.cl;have⟨hi,ho⟩:=zrw 40 (A:=(#[.int .i64 4,.int .i64 2,.int .i8 0]:Array Value)) (by kernel_rfl) (by simp[Value.oneCell']);go_upto_region 2 with fail;generalize w3.alloc (.cells #[.int .i64 4,.int .i64 2,.int .i8 0] 40)=w4 at *;go_wp2_with (first|((refine ai rfl 40 (.tmp 4) (.tmp 14) rfl (w.heap.size+1) (#[.int .i64 4,.int .i64 2,.int .i8 0]) rfl rfl 40 _ hO4 hi.out rfl ho.out ?_);rintro w9 rfl)|fail);refine bodyPost_ret (bg (fn:=Tryz.f26) Tryz.results26 rfl (ak (cells:=#[.int .i64 4,.int .i64 2,.int .i8 0]) hO4) (by kernel_rfl)) rfl ?_;exact⟨rfl,aj hB4 (by omega) hB4.size⟩
def kaF(q14:Nat)(q15:Nat)(X:Nat→Value):Array Value:=(litB (fun i=>match i with|11=>.int .i64 2|14=>.pointer (some ⟨q14,0,none⟩)|15=>.pointer (some ⟨q15,0,none⟩)|i=>X i) 0 152).toArray
def kaT(T:Array Value)(q14:Nat)(q15:Nat):Prop:=T.size=152∧ofA T 11=.int .i64 2∧ofA T 14=.pointer (some ⟨q14,0,none⟩)∧ofA T 15=.pointer (some ⟨q15,0,none⟩)
theorem kaT.fr{T:Array Value}{q14:Nat}{q15:Nat}(h:kaT T q14 q15):∃ X,T=kaF q14 q15 X:=by obtain⟨hs,h11,h14,h15⟩:=h;refine⟨ofA T,(frB T hs).trans (congrArg (fun X=>(litB X 0 152).toArray) (funext fun i=>?_))⟩;split<;>first|assumption|rfl
structure KnS(w:World)(q14 q15:Nat)(p:Option Addr)(c:Nat)(ca:Int)(W:World):Prop where
 hb:Bw w W
 hp:ac W q14 (.cells (aa 8 8 p kP5.xs.length c true 0 (-1) 4 9).toArray 26 (0,0))
 hr:ac W q15 (.cells (⟨⟨4,2,0⟩,0,-1,ca,-1⟩:Ret).cs.toArray 42 (0,0))
 hx:Arr .i8 W p kP5.xs
theorem KnS.call{w:World}{q14 q15:Nat}{p:Option Addr}{c:Nat}{ca:Int}{W W':World}(h:KnS w q14 q15 p c ca W)(hb:Bw W W'):KnS w q14 q15 p c ca W':=⟨aI h.hb h.hb.size hb,h.hp.call hb,h.hr.call hb,h.hx.call hb⟩
theorem xl{w:World}{p:Option Addr}{xs:List Int}(h:Arr .i8 w p xs){q i:Nat}{v:Value}(hq:∀ b o,p=some ⟨b,o,none⟩→b≠q):Arr .i8 (w.setCell ⟨q,i,none⟩ v) p xs:=by
 rcases h with h|⟨b,o,rfl,hb,hc⟩
 ·exact .inl h
 ·have hne:b≠q:=hq b o rfl;have ha:Alt q (q+1) w (w.setCell ⟨q,i,none⟩ v):=Alt.setCell ⟨Nat.le_refl _,Nat.lt_succ_self _⟩;refine .inr ⟨b,o,rfl,Nat.lt_of_lt_of_le hb ha.size,fun j hj=>?_⟩;rw[←hc j hj];exact World.cell?_of_block (w:=w) (ha.block b hb (by omega))
theorem AI(q14 q15:Nat)(p:Option Addr)(c:Nat)(hc:kP5.xs.length≤c)(w:World)(hg:aM w)(T:Array Value)(hT:kaT T q14 q15)(W:World)(hq:w.heap.size≤q15∧q14≠q15)(hap:∀ b o,p=some ⟨b,o,none⟩→b≠q15)(hS:KnS w q14 q15 p c 0 W)
  (cd:Code) (hcd:Tryz.f9.body.map (aq 14)=some cd):cd.wp Tryz.prog (bodyPost Tryz.prog Tryz.f9 fun e w'=>e=.returned (.bool true)∧Bw w w') {tmps:=T,defers:=[]} W:=by
 obtain rfl:=Option.some.inj ((show Tryz.f9.body.map (aq 14)=some _ from rfl).symm.trans hcd);clear hcd;simp only[aq];obtain⟨X,rfl⟩:=hT.fr;clear hT;dsimp only[kaF,litB,Nat.reduceAdd];have hv5:=kv5;have his:∀(k:Nat),k<4→∀ W,aM W→Arr .i8 W p kP5.xs→Clz 20 #[.agg (aa 8 8 p kP5.xs.length c true 0 (-1) 4 9).toArray,.agg #[.int .i64 4,.int .i64 2,.int .i8 0,.int .i8 0,.int .i64 (-1),.int .u8 k,.int .i64 (-1)]] W fun e w'=>e=.returned (.tuple #[.bool (decide (2≤k)),.int .i64 0])∧Bw W w':=fun k hk W hg hx=>by
  have h:=mB 8 8 kP5.xs true 0 (-1) 4 9 ⟨⟨4,2,0⟩,0,-1,k,-1⟩ p c (by rw[show pvW ((8:Nat):Int) ((8:Nat):Int) kP5.xs true ((0:Nat):Int) (-1) 4 9=true from hv5,Bool.true_and];show mvB 8 8 ⟨4,2,0⟩=true;decide +kernel) (by decide) (by show(0:Int)≤(k:Int)∧(k:Int)<256;omega) hc W hg hx;rw[show mayW ⟨8,8,kP5.xs,true,((0:Nat):Int),-1,4,9⟩ ⟨⟨4,2,0⟩,0,-1,k,-1⟩=decide (2≤k)from kn5 k hk]at h;exact h
 clear hv5;go_wp2_with fail;go_loopg [16] 5 (fun q iv wr=>∃(k:Nat) (ca:Int),q+k=5∧k≤4∧iv=.int .u8 k∧KnS w q14 q15 p c ca wr)
 case atStart=>exact⟨0,0,rfl,Nat.zero_le _,rfl,hS⟩
 case round =>
  obtain⟨k,ca,hq5,hk,rfl,hSr⟩:=hrel;by_cases hlt:k<4
  ·have hki:(k:Int)<4:=by omega
   have r5:=hSr.hr.cells 5;have f5:=hSr.hr.frozen 5;have l5:=hSr.hr.lt;have hk3:=his k hlt;go_upto_region 32 with fail;have hA:Alt q15 (q15+1) wr (wr.setCell ⟨q15,5,none⟩ (.int .u8 k)):=Alt.setCell ⟨Nat.le_refl _,Nat.lt_succ_self _⟩;have hr2:=hSr.hr.set_ 5 (.int .u8 k);rw[List.setIfInBounds_toArray]at hr2;have hS2:KnS w q14 q15 p c k (wr.setCell ⟨q15,5,none⟩ (.int .u8 k)):=⟨hA.below hSr.hb hq.1 hSr.hb.size,hA.hasO hSr.hp (by omega),hr2,xl hSr.hx hap⟩;generalize wr.setCell ⟨q15,5,none⟩ (.int .u8 k)=w2 at *;clear r5 f5 l5 hSr hr2 hA;have c1:=hS2.hp.cells;have l1:=hS2.hp.lt;have c2:∀ j,w2.cell? ⟨q15,j,none⟩=(#[.int .i64 4,.int .i64 2,.int .i8 0,.int .i8 0,.int .i64 (-1),.int .u8 k,.int .i64 (-1)]:Array Value)[j]?:=hS2.hr.cells;have l2:=hS2.hr.lt;have hk4:=hk3 w2 (hg.call hS2.hb) hS2.hx;clear hk3;go_wp2_with fail;refine hk4.mono ?_;rintro e w3 ⟨rfl,hb3⟩;have hS3:=hS2.call hb3;clear hk4 c1 l1 c2 l2 hS2;by_cases h2:2≤k
   ·have h2i:(k:Int)≥2:=by omega
    go_wp2_with fail;go_roundg (gk-1)
    case measure=>omega
    case rel=>exact⟨k+1,k,by omega,by omega,by go_num,hS3⟩
   ·have h2i:¬(k:Int)≥2:=by omega
    go_wp2_with fail;go_roundg (gk-1)
    case measure=>omega
    case rel=>exact⟨k+1,k,by omega,by omega,by go_num,hS3⟩
  ·obtain rfl:k=4:=by omega
   go_wp2_with fail;go_ret;exact⟨rfl,hSr.hb⟩
theorem Ao(W:World):Clz 25 #[.string ⟨#[51,120,51,32,107,50,47,51,47,50,75,32,119,32,45,32,45,32,48,32,49]⟩] W fun e w'=>(∃ p c,e=.returned (.agg (aa 3 3 p kP1.xs.length c false 0 (-1) 0 1).toArray)∧kP1.xs.length≤c∧Arr .i8 w' p kP1.xs)∧Bw W w':=by have h:=ga [51,120,51,32,107,50,47,51,47,50,75,32,119,32,45,32,45,32,48,32,49] [107,50,47,51,47,50,75] [[107,50],[51],[50,75]] 3 3 0 1 false W (by decide) (by decide +kernel) (by decide) (by decide +kernel) rfl (by decide) (by decide) (by decide +kernel) (by decide) (by decide) (by decide +kernel);rw[show brdL [[107,50],[51],[50,75]] 3=kP1.xs from by decide +kernel]at h;exact h
theorem AG(W:World):Clz 25 #[.string ⟨#[51,120,51,32,107,50,47,51,47,50,75,32,98,32,45,32,45,32,49,32,49]⟩] W fun e w'=>(∃ p c,e=.returned (.agg (aa 3 3 p kP2.xs.length c true 0 (-1) 1 1).toArray)∧kP2.xs.length≤c∧Arr .i8 w' p kP2.xs)∧Bw W w':=by have h:=ga [51,120,51,32,107,50,47,51,47,50,75,32,98,32,45,32,45,32,49,32,49] [107,50,47,51,47,50,75] [[107,50],[51],[50,75]] 3 3 1 1 true W (by decide) (by decide +kernel) (by decide) (by decide +kernel) rfl (by decide) (by decide) (by decide +kernel) (by decide) (by decide) (by decide +kernel);rw[show brdL [[107,50],[51],[50,75]] 3=kP2.xs from by decide +kernel]at h;exact h
theorem An(W:World):Clz 25 #[.string ⟨#[51,120,51,32,107,50,47,51,47,50,75,32,98,32,45,32,45,32,48,32,49]⟩] W fun e w'=>(∃ p c,e=.returned (.agg (aa 3 3 p kP3.xs.length c true 0 (-1) 0 1).toArray)∧kP3.xs.length≤c∧Arr .i8 w' p kP3.xs)∧Bw W w':=by have h:=ga [51,120,51,32,107,50,47,51,47,50,75,32,98,32,45,32,45,32,48,32,49] [107,50,47,51,47,50,75] [[107,50],[51],[50,75]] 3 3 0 1 true W (by decide) (by decide +kernel) (by decide) (by decide +kernel) rfl (by decide) (by decide) (by decide +kernel) (by decide) (by decide) (by decide +kernel);rw[show brdL [[107,50],[51],[50,75]] 3=kP3.xs from by decide +kernel]at h;exact h
theorem AM(W:World):Clz 25 #[.string ⟨#[51,120,54,32,107,50,47,51,47,49,80,49,47,51,47,51,47,50,75,32,98,32,45,32,45,32,48,32,49]⟩] W fun e w'=>(∃ p c,e=.returned (.agg (aa 3 6 p kP4.xs.length c true 0 (-1) 0 1).toArray)∧kP4.xs.length≤c∧Arr .i8 w' p kP4.xs)∧Bw W w':=by have h:=ga [51,120,54,32,107,50,47,51,47,49,80,49,47,51,47,51,47,50,75,32,98,32,45,32,45,32,48,32,49] [107,50,47,51,47,49,80,49,47,51,47,51,47,50,75] [[107,50],[51],[49,80,49],[51],[51],[50,75]] 3 6 0 1 true W (by decide) (by decide +kernel) (by decide) (by decide +kernel) rfl (by decide) (by decide) (by decide +kernel) (by decide) (by decide) (by decide +kernel);rw[show brdL [[107,50],[51],[49,80,49],[51],[51],[50,75]] 6=kP4.xs from by decide +kernel]at h;exact h
theorem AJ(W:World):Clz 25 #[.string ⟨#[56,120,56,32,52,107,51,47,56,47,56,47,56,47,56,47,56,47,56,47,50,75,82,51,82,32,98,32,45,32,45,32,52,32,57]⟩] W fun e w'=>(∃ p c,e=.returned (.agg (aa 8 8 p kP5.xs.length c true 0 (-1) 4 9).toArray)∧kP5.xs.length≤c∧Arr .i8 w' p kP5.xs)∧Bw W w':=by have h:=ga [56,120,56,32,52,107,51,47,56,47,56,47,56,47,56,47,56,47,56,47,50,75,82,51,82,32,98,32,45,32,45,32,52,32,57] [52,107,51,47,56,47,56,47,56,47,56,47,56,47,56,47,50,75,82,51,82] [[52,107,51],[56],[56],[56],[56],[56],[56],[50,75,82,51,82]] 8 8 4 9 true W (by decide) (by decide +kernel) (by decide) (by decide +kernel) rfl (by decide) (by decide) (by decide +kernel) (by decide) (by decide) (by decide +kernel);rw[show brdL [[52,107,51],[56],[56],[56],[56],[56],[56],[50,75,82,51,82]] 8=kP5.xs from by decide +kernel]at h;exact h

def kbF(nn:Int)(X:Nat→Value):Array Value:=(litB (fun i=>match i with|11=>.int .i64 nn|i=>X i) 0 152).toArray
def kbT(T:Array Value)(nn:Int):Prop:=T.size=152∧ofA T 11=.int .i64 nn
theorem kbT.fr{T:Array Value}{nn:Int}(h:kbT T nn):∃ X,T=kbF nn X:=by obtain⟨hs,h11⟩:=h;refine⟨ofA T,(frB T hs).trans (congrArg (fun X=>(litB X 0 152).toArray) (funext fun i=>?_))⟩;split<;>first|assumption|rfl
theorem Av(w:World)(hg:aM w)(T:Array Value)(hT:kbT T 2)(W:World)(hB:Bw w W)
  (cd:Code) (hcd:Tryz.f9.body.map (aq 12)=some cd):cd.wp Tryz.prog (bodyPost Tryz.prog Tryz.f9 fun e w'=>e=.returned (.bool true)∧Bw w w') {tmps:=T,defers:=[]} W:=by
 obtain rfl:=Option.some.inj ((show Tryz.f9.body.map (aq 12)=some _ from rfl).symm.trans hcd);clear hcd;simp only[aq];obtain⟨X,rfl⟩:=hT.fr;clear hT;dsimp only[kbF,litB,Nat.reduceAdd];obtain⟨Rs,hRs⟩:∃ Rs:Ending→World→Prop,Rs=fun e w'=>e=.returned (.bool true)∧Bw w w':=⟨_,rfl⟩
 rw[←hRs];replace hRs:=zhd hRs;have hp5:=AJ W;go_wp2_with fail;refine hp5.mono ?_;rintro e W2 ⟨⟨p,c,rfl,hc,hx⟩,hb2⟩;have hB2:=zbc hB hb2;have hgW:w.heap.size≤W.heap.size:=hB.size;have hbx:=ae W2 (.cells (aa 8 8 p kP5.xs.length c true 0 (-1) 4 9).toArray 26);have hX:=ac.new W2 (.cells (aa 8 8 p kP5.xs.length c true 0 (-1) 4 9).toArray 26);have hx3:=hx.call hbx;have hB3:=zbc hB2 hbx;have hs3:(W2.alloc (.cells (aa 8 8 p kP5.xs.length c true 0 (-1) 4 9).toArray 26)).heap.size=W2.heap.size+1:=by simp
 clear hp5 hB hbx hx;go_upto_region 27 with fail;change Code.wp _ _ _ _ (W2.alloc (.cells (aa 8 8 p kP5.xs.length c true 0 (-1) 4 9).toArray 26));generalize W2.alloc (.cells (aa 8 8 p kP5.xs.length c true 0 (-1) 4 9).toArray 26)=W3 at *;have hmv:=uU p kP5.xs.length c true 0 (-1) 4 9 W3;have⟨c0,l0⟩:=hX.cl;have hap:∀ b o,p=some ⟨b,o,none⟩→b<W3.heap.size:=fun b o e=>by
  rcases hx3 with h|⟨b',o',e',h,_⟩
  ·exact absurd h (by decide)
  ·rw[e]at e';injection e' with e';injection e' with e1 e2;omega
 rename_i k0 hk0;replace hk0:=zhd hk0;go_wp2_with fail;refine hmv.mono ?_;rintro e W4 ⟨rfl,hb4⟩;have hB4:=zbc hB3 hb4;have hX4:=hX.call hb4;have hx4:=hx3.call hb4;have hq:W2.heap.size<W4.heap.size:=by have:=hX4.lt;omega
 have h34:W3.heap.size≤W4.heap.size:=hb4.size;have hbr:=ae W4 (.cells (⟨⟨4,2,0⟩,0,-1,0,-1⟩:Ret).cs.toArray 42);have hr:=ac.new W4 (.cells (⟨⟨4,2,0⟩,0,-1,0,-1⟩:Ret).cs.toArray 42);clear hmv c0 l0 hX hx3;go_wp2_with fail;refine hk0.out _ _ ?_;rw[hRs.out];refine AI W2.heap.size W4.heap.size p c hc w hg _ ?_ _ ⟨hB4.size,by omega⟩ (fun b o e=>by have:=hap b o e;omega) ⟨zbc hB4 hbr,hX4.call hbr,hr,hx4.call hbr⟩ _ rfl;exact⟨rfl,rfl,rfl,rfl⟩
def kdF(v:Value)(nn:Int)(X:Nat→Value):Array Value:=(litB (fun i=>match i with|3=>v|11=>.int .i64 nn|i=>X i) 0 152).toArray
def kdT(T:Array Value)(v:Value)(nn:Int):Prop:=T.size=152∧ofA T 3=v∧ofA T 11=.int .i64 nn
theorem kdT.fr{T:Array Value}{v:Value}{nn:Int}(h:kdT T v nn):∃ X,T=kdF v nn X:=by obtain⟨hs,h3,h11⟩:=h;refine⟨ofA T,(frB T hs).trans (congrArg (fun X=>(litB X 0 152).toArray) (funext fun i=>?_))⟩;split<;>first|assumption|rfl
theorem zL(r:Ret):knB r=((r.pa==10)&&((r.at_==7)&&((r.cp==-1)&&(r.mv.tg==10)))):=rfl
theorem AQ(w:World)(hg:aM w)(L:List Ret)(hL:L.length=25)(hc2:L.countP knB=2)(p:Option Addr)(c:Nat)(T:Array Value)(hT:kdT T (.slice p 25 c) 0)(W:World)(hB:Bw w W)(hR:cS W p L)
  (cd:Code) (hcd:Tryz.f9.body.map (aq 11)=some cd):cd.wp Tryz.prog (bodyPost Tryz.prog Tryz.f9 fun e w'=>e=.returned (.bool true)∧Bw w w') {tmps:=T,defers:=[]} W:=by
 obtain rfl:=Option.some.inj ((show Tryz.f9.body.map (aq 11)=some _ from rfl).symm.trans hcd);clear hcd;simp only[aq];obtain⟨X,rfl⟩:=hT.fr;clear hT;dsimp only[kdF,litB,Nat.reduceAdd];obtain⟨Rs,hRs⟩:∃ Rs:Ending→World→Prop,Rs=fun e w'=>e=.returned (.bool true)∧Bw w w':=⟨_,rfl⟩
 rw[←hRs];replace hRs:=zhd hRs;obtain⟨g,rfl,_,_⟩:=hR.at (j:=0) (by omega);go_upto_region 20 with fail;rename_i k1 hk1 k0 hk0;replace hk1:=zhd hk1;go_wp2_with fail;go_loopg [11,100] 27 (fun q nv iv wr=>∃(k:Nat) (N:Int),q+k=27∧k≤25∧iv=.int .i64 k∧nv=.int .i64 N∧Hid (((L.take k).countP knB:Int)=N)∧Bw W wr)
 case atStart=>exact⟨0,0,by omega,Nat.zero_le _,rfl,rfl,zhd rfl,Below.refl _ _⟩
 case round =>
  obtain⟨k,N,hq,hk,rfl,rfl,hN,hBr⟩:=hrel;by_cases hlt:k<25
  ·have hki:(k:Int)<25:=by omega
   have hkL:k<L.length:=by omega
   obtain⟨g',e,hg',hx⟩:=(hR.call hBr).at (j:=k) hkL;injection e with e;injection e with e e2;subst e;clear e2;obtain⟨r,hr⟩:∃ r,r=L[k]?.getD zeroRet:=⟨_,rfl⟩;rw[←hr]at hx;have hnx:((L.take (k+1)).countP knB:Int)=((L.take k).countP knB:Int)+(if knB r then 1 else 0):=by rw[List.take_succ_eq_append_getElem hkL,List.countP_append,hr,List.getElem?_eq_getElem hkL,Option.getD_some];simp only[List.countP_cons,List.countP_nil];split<;>simp
   have hNb:0≤N∧N≤25:=by have h1:=List.countP_le_length (p:=knB) (l:=L.take k);rw[List.length_take]at h1;have:=hN.out;omega
   replace hr:=zhd hr;go_upto_region 23 with(first|(refine jd rfl 42 (.tmp 102) rfl rfl r.cs (by kernel_rfl) hx ?_)|fail);change Code.wp _ _ _ _ (wr.alloc (.cells r.cs.toArray 42));have hB3:=zbc hBr (ae wr (.cells r.cs.toArray 42));have hX:=ac.new wr (.cells r.cs.toArray 42);generalize wr.alloc (.cells r.cs.toArray 42)=w3 at *;have c1:∀ j,w3.cell? ⟨wr.heap.size,j,none⟩=(#[.int .i64 r.mv.fr,.int .i64 r.mv.tg,.int .i8 r.mv.pr,.int .i8 r.cp,.int .i64 r.at_,.int .u8 r.ca,.int .i64 r.pa]:Array Value)[j]?:=hX.cells;have l1:=hX.lt;clear hx hX hBr;have hkb:=zL r;rcases z1:(r.pa==10)with _|_
   ·have hn2:Hid (((L.take (k+1)).countP knB:Int)=N):=zhd (by rw[hnx,(by rw[hkb,z1];rfl:knB r=false),hN.out];simp);clear hnx;go_wp2_with fail;go_roundg (gk-1)
    case measure=>omega
    case rel=>exact⟨k+1,N,by omega,by omega,by go_num,rfl,hn2,hB3⟩
   ·rcases z2:(r.at_==7)with _|_
    ·have hn2:Hid (((L.take (k+1)).countP knB:Int)=N):=zhd (by rw[hnx,(by rw[hkb,z1,z2];rfl:knB r=false),hN.out];simp);clear hnx;go_wp2_with fail;go_roundg (gk-1)
     case measure=>omega
     case rel=>exact⟨k+1,N,by omega,by omega,by go_num,rfl,hn2,hB3⟩
    ·rcases z3:(r.cp==-1)with _|_
     ·have hn2:Hid (((L.take (k+1)).countP knB:Int)=N):=zhd (by rw[hnx,(by rw[hkb,z1,z2,z3];rfl:knB r=false),hN.out];simp);clear hnx;go_wp2_with fail;go_roundg (gk-1)
      case measure=>omega
      case rel=>exact⟨k+1,N,by omega,by omega,by go_num,rfl,hn2,hB3⟩
     ·rcases z4:(r.mv.tg==10)with _|_
      ·have hn2:Hid (((L.take (k+1)).countP knB:Int)=N):=zhd (by rw[hnx,(by rw[hkb,z1,z2,z3,z4];rfl:knB r=false),hN.out];simp);clear hnx;go_wp2_with fail;go_roundg (gk-1)
       case measure=>omega
       case rel=>exact⟨k+1,N,by omega,by omega,by go_num,rfl,hn2,hB3⟩
      ·have hn2:Hid (((L.take (k+1)).countP knB:Int)=N+1):=zhd (by rw[hnx,hkb,z1,z2,z3,z4,hN.out];rfl);clear hnx;go_wp2_with fail;go_roundg (gk-1)
       case measure=>omega
       case rel=>exact⟨k+1,N+1,by omega,by omega,by go_num,by go_num,hn2,hB3⟩
  ·obtain rfl:k=25:=by omega
   have hN2:N=2:=by have h:=hN.out;rw[List.take_of_length_le (Nat.le_of_eq hL),hc2]at h;omega
   subst hN2;go_wp2_with fail;refine hk1.out _ _ ?_;rw[hRs.out];refine Av w hg _ ?_ _ (zbc hB hBr) _ rfl;exact⟨rfl,rfl⟩
def keF(v1:Value)(v3:Value)(v7:Value)(X:Nat→Value):Array Value:=(litB (fun i=>match i with|1=>v1|2=>.int .i64 0|3=>v3|4=>.int .i64 0|7=>v7|i=>X i) 0 152).toArray
def keT(T:Array Value)(v1:Value)(v3:Value)(v7:Value):Prop:=T.size=152∧ofA T 1=v1∧ofA T 2=.int .i64 0∧ofA T 3=v3∧ofA T 4=.int .i64 0∧ofA T 7=v7
theorem keT.fr{T:Array Value}{v1:Value}{v3:Value}{v7:Value}(h:keT T v1 v3 v7):∃ X,T=keF v1 v3 v7 X:=by obtain⟨hs,h1,h2,h3,h4,h7⟩:=h;refine⟨ofA T,(frB T hs).trans (congrArg (fun X=>(litB X 0 152).toArray) (funext fun i=>?_))⟩;split<;>first|assumption|rfl

def kfF(v7:Value)(X:Nat→Value):Array Value:=(litB (fun i=>match i with|7=>v7|i=>X i) 0 152).toArray
def kfT(T:Array Value)(v7:Value):Prop:=T.size=152∧ofA T 7=v7
theorem kfT.fr{T:Array Value}{v7:Value}(h:kfT T v7):∃ X,T=kfF v7 X:=by obtain⟨hs,h7⟩:=h;refine⟨ofA T,(frB T hs).trans (congrArg (fun X=>(litB X 0 152).toArray) (funext fun i=>?_))⟩;split<;>first|assumption|rfl
theorem Ap(W:World)(p:Option Addr)(c:Nat)(hc:kP1.xs.length≤c)(hg:aM W)(ht:bO W)(hx:Arr .i8 W p kP1.xs):Clz 11 #[.agg (aa 3 3 p kP1.xs.length c false 0 (-1) 0 1).toArray] W fun e w'=>(∃ p' c',e=.returned (.tuple #[.slice p' 0 c',.int .i64 0])∧cS w' p' (([]:List Ret)))∧Bw W w':=by have h:=fH 3 3 kP1.xs false 0 (-1) 0 1 p c kv1 (by decide) hc W hg ht hx;refine Calls.mono h ?_;rintro e w' ⟨v,rfl,ho,hb⟩;have hm:cE ⟨(3:Nat),(3:Nat),kP1.xs,false,((0:Nat):Int),-1,0,1⟩=([]:List Ret):=kn1;rw[hm]at ho;obtain⟨p',c',rfl,hr⟩:=fR ho;have hl:(([]:List Ret)).length=0:=rfl;rw[hl];exact⟨⟨p',c',rfl,hr⟩,hb⟩
theorem Az(W:World)(p:Option Addr)(c:Nat)(hc:kP2.xs.length≤c)(hg:aM W)(ht:bO W)(hx:Arr .i8 W p kP2.xs):Clz 11 #[.agg (aa 3 3 p kP2.xs.length c true 0 (-1) 1 1).toArray] W fun e w'=>(∃ p' c',e=.returned (.tuple #[.slice p' 2 c',.int .i64 0])∧cS w' p' (([⟨⟨1,2,0⟩,0,-1,0,-1⟩,⟨⟨5,2,0⟩,0,-1,0,-1⟩]:List Ret)))∧Bw W w':=by have h:=fH 3 3 kP2.xs true 0 (-1) 1 1 p c kv2 (by decide) hc W hg ht hx;refine Calls.mono h ?_;rintro e w' ⟨v,rfl,ho,hb⟩;have hm:cE ⟨(3:Nat),(3:Nat),kP2.xs,true,((0:Nat):Int),-1,1,1⟩=([⟨⟨1,2,0⟩,0,-1,0,-1⟩,⟨⟨5,2,0⟩,0,-1,0,-1⟩]:List Ret):=kn2;rw[hm]at ho;obtain⟨p',c',rfl,hr⟩:=fR ho;have hl:(([⟨⟨1,2,0⟩,0,-1,0,-1⟩,⟨⟨5,2,0⟩,0,-1,0,-1⟩]:List Ret)).length=2:=rfl;rw[hl];exact⟨⟨p',c',rfl,hr⟩,hb⟩
theorem AE(W:World)(p:Option Addr)(c:Nat)(hc:kP3.xs.length≤c)(hg:aM W)(ht:bO W)(hx:Arr .i8 W p kP3.xs):Clz 11 #[.agg (aa 3 3 p kP3.xs.length c true 0 (-1) 0 1).toArray] W fun e w'=>(∃ p' c',e=.returned (.tuple #[.slice p' 8 c',.int .i64 0])∧cS w' p' (cq 8))∧Bw W w':=by have h:=fH 3 3 kP3.xs true 0 (-1) 0 1 p c kv3 (by decide) hc W hg ht hx;refine Calls.mono h ?_;rintro e w' ⟨v,rfl,ho,hb⟩;have hm:cE ⟨(3:Nat),(3:Nat),kP3.xs,true,((0:Nat):Int),-1,0,1⟩=cq 8:=kn3;rw[hm]at ho;obtain⟨p',c',rfl,hr⟩:=fR ho;have hl:(cq 8).length=8:=(by decide);rw[hl];exact⟨⟨p',c',rfl,hr⟩,hb⟩
theorem Ar(W:World)(p:Option Addr)(c:Nat)(hc:kP4.xs.length≤c)(hg:aM W)(ht:bO W)(hx:Arr .i8 W p kP4.xs):Clz 11 #[.agg (aa 3 6 p kP4.xs.length c true 0 (-1) 0 1).toArray] W fun e w'=>(∃ p' c',e=.returned (.tuple #[.slice p' 25 c',.int .i64 0])∧cS w' p' (cE kP4))∧Bw W w':=by have h:=fH 3 6 kP4.xs true 0 (-1) 0 1 p c kv4 (by decide) hc W hg ht hx;refine Calls.mono h ?_;rintro e w' ⟨v,rfl,ho,hb⟩;have hm:cE ⟨(3:Nat),(6:Nat),kP4.xs,true,((0:Nat):Int),-1,0,1⟩=cE kP4:=rfl;rw[hm]at ho;obtain⟨p',c',rfl,hr⟩:=fR ho;have hl:(cE kP4).length=25:=kn4.1;rw[hl];exact⟨⟨p',c',rfl,hr⟩,hb⟩
theorem kn9(w:World)(hg:aM w)(p1 p3 p7:Option Addr)(c1 c3 c7:Nat)(T:Array Value)(hT:keT T (.slice p1 8 c1) (.slice p3 25 c3) (.slice p7 8 c7))(W:World)(hB:Bw w W)(hR1:cS W p1 (cq 8))(hR3:cS W p3 (cE kP4))(hR7:cS W p7 (cq 8))
  (cd:Code) (hcd:Tryz.f9.body.map (aq 9)=some cd):cd.wp Tryz.prog (bodyPost Tryz.prog Tryz.f9 fun e w'=>e=.returned (.bool true)∧Bw w w') {tmps:=T,defers:=[]} W:=by
 obtain rfl:=Option.some.inj ((show Tryz.f9.body.map (aq 9)=some _ from rfl).symm.trans hcd);clear hcd;simp only[aq];obtain⟨X,rfl⟩:=hT.fr;clear hT;dsimp only[keF,litB,Nat.reduceAdd];obtain⟨Rs,hRs⟩:∃ Rs:Ending→World→Prop,Rs=fun e w'=>e=.returned (.bool true)∧Bw w w':=⟨_,rfl⟩
 rw[←hRs];replace hRs:=zhd hRs;have hsm:=kp p1 p7 c1 c7 (cq 8) (cq 8) (by decide) W hR1 hR7;rw[show(cq 8).length=8 from by decide,show decide (cq 8=cq 8)=true from by simp]at hsm;obtain⟨L4,hL4⟩:∃ L4,L4=cE kP4:=⟨_,rfl⟩;have hk4:=kn4;rw[←hL4]at hR3 hk4;replace hL4:=True.intro;go_wp2_with fail;refine hsm.mono ?_;rintro e W2 ⟨rfl,hb2⟩;clear hsm;go_upto_region 19 with fail;rename_i k0 hk0;replace hk0:=zhd hk0;go_wp2_with fail;refine hk0.out _ _ ?_;rw[hRs.out];refine AQ w hg L4 hk4.1 hk4.2 p3 c3 _ ?_ W2 (zbc hB hb2) (hR3.call hb2) _ rfl;exact⟨rfl,rfl,rfl⟩
theorem kn7(w:World)(hg:aM w)(ht:bO w)(p7:Option Addr)(c7:Nat)(T:Array Value)(hT:kfT T (.slice p7 8 c7))(W:World)(hB:Bw w W)(hR7:cS W p7 (cq 8))
  (cd:Code) (hcd:Tryz.f9.body.map (aq 7)=some cd):cd.wp Tryz.prog (bodyPost Tryz.prog Tryz.f9 fun e w'=>e=.returned (.bool true)∧Bw w w') {tmps:=T,defers:=[]} W:=by
 obtain rfl:=Option.some.inj ((show Tryz.f9.body.map (aq 7)=some _ from rfl).symm.trans hcd);clear hcd;simp only[aq];obtain⟨X,rfl⟩:=hT.fr;clear hT;dsimp only[kfF,litB,Nat.reduceAdd];obtain⟨Rs,hRs⟩:∃ Rs:Ending→World→Prop,Rs=fun e w'=>e=.returned (.bool true)∧Bw w w':=⟨_,rfl⟩
 rw[←hRs];replace hRs:=zhd hRs;obtain⟨LW,hLW⟩:∃ LW,LW=cq 8:=⟨_,rfl⟩;obtain⟨L4,hL4⟩:∃ L4,L4=cE kP4:=⟨_,rfl⟩;have hm3:=AE;have hm4:=Ar;rw[←hLW]at hR7 hm3;rw[←hL4]at hm4;replace hLW:=zhd hLW;replace hL4:=zhd hL4;go_upto_region 15 with fail;rename_i k0 hk0;have hp3:=An W;have hp4:=fun W=>AM W
 go_wp2_with fail;refine hp3.mono ?_;rintro e W2 ⟨⟨p,c,rfl,hc,hx⟩,hb2⟩;have hB2:=zbc hB hb2;have hR2:=hR7.call hb2;have hmm:=hm3 W2 p c hc (hg.call hB2) (ht.call hB2) hx;clear hp3 hB hm3;go_wp2_with fail;refine hmm.mono ?_;rintro e W3 ⟨⟨p1,c1,rfl,hR1⟩,hb3⟩;have hB3:=zbc hB2 hb3;have hR3:=hR2.call hb3;clear hmm hx;go_upto_region 16 with fail;rename_i k1 hk1;replace hk1:=zhd hk1;go_wp2_with fail;refine(hp4 W3).mono ?_;rintro e W4 ⟨⟨p',c',rfl,hc',hx'⟩,hb4⟩;have hB4:=zbc hB3 hb4;have hR4:=hR3.call hb4;have hR14:=hR1.call hb4;have hmm:=hm4 W4 p' c' hc' (hg.call hB4) (ht.call hB4) hx';clear hp4 hm4;go_wp2_with fail;refine hmm.mono ?_;rintro e W5 ⟨⟨p3,c3,rfl,hR35⟩,hb5⟩;have hB5:=zbc hB4 hb5;have hR5:=hR4.call hb5;have hR15:=hR14.call hb5;clear hmm hx';go_wp2_with fail;refine hk1.out _ _ ?_;rw[hRs.out];rw[hLW.out]at hR5 hR15;rw[hL4.out]at hR35;refine kn9 w hg p1 p3 p7 c1 c3 c7 _ ?_ W5 hB5 hR15 hR35 hR5 _ rfl;exact⟨rfl,rfl,rfl,rfl,rfl,rfl⟩
theorem oZ{W:World}{ops:Array Oper}{rest:List Oper}{o:Oper}{a:Act}{Q:Exit→Act→World→Prop}(hgd:o.guard=none)(s x:Operand)(ho:o.op=.call {callee:=.builtin .append,args:=#[s,x],argTypes:=#[30,30]})
  (base:Nat) (v:Value) (L:List Ret) (hs:a.eval s=v) (hown:W.ownsRow base 42 7 v L.length (L.flatMap Ret.cs)) (r:Ret) (q:Nat) (hq:q<W.heap.size) (hqv:ac W q (.cells r.cs.toArray 42 (0,0))) (hx:a.eval x=.slice (some ⟨q,0,none⟩) 1 1)
  (hbytes:L.length≤1000000000) (hbase:base≤W.heap.size)
  (h:∀ v' w',w'.ownsRow base 42 7 v' (L++[r]).length ((L++[r]).flatMap Ret.cs)→W.grownBy w' v.ownBlock→et W v v'→wpList Tryz.prog ops Q rest (a.put o.dst v') w'):wpList Tryz.prog ops Q (o::rest) a W :=
 wpList_plain hgd fun _ hK=>oS s x ho base v L hs hown r q hq hqv hx hbytes hbase (fun v' w' h1 h2 h3=>hK _ _ (h v' w' h1 h2 h3))
theorem Aa{i j:Nat}(hi:i<2)(hj:j<4){fr:Int}(hf:fr=if i=0 then 1 else 5):cq (4*i+j+1)=cq (4*i+j)++[⟨⟨fr,2,0⟩,(j:Int)-5,2,0,-1⟩]:=by
 have e1:(4*i+j<4)↔i=0:=by omega
 have e2:(4*i+j)%4=j:=by omega
 simp only[cq,e2,hf];by_cases h:i=0
 ·rw[if_pos (e1.2 h),if_pos h]
 ·rw[if_neg (fun h2=>h (e1.1 h2)),if_neg h]
theorem uy:∀ k,(cq k).length=k:=by
 intro k;induction k with
 | zero=>rfl
 | succ k ih=>simp[cq,ih]

def kwF(q5:Nat)(q6:Nat)(X:Nat→Value):Array Value:=(litB (fun i=>match i with|5=>.pointer (some ⟨q5,0,none⟩)|6=>.pointer (some ⟨q6,0,none⟩)|7=>.slice none 0 0|i=>X i) 0 152).toArray
def kwT(T:Array Value)(q5:Nat)(q6:Nat):Prop:=T.size=152∧ofA T 5=.pointer (some ⟨q5,0,none⟩)∧ofA T 6=.pointer (some ⟨q6,0,none⟩)∧ofA T 7=.slice none 0 0
theorem kwT.fr{T:Array Value}{q5:Nat}{q6:Nat}(h:kwT T q5 q6):∃ X,T=kwF q5 q6 X:=by obtain⟨hs,h5,h6,h7⟩:=h;refine⟨ofA T,(frB T hs).trans (congrArg (fun X=>(litB X 0 152).toArray) (funext fun i=>?_))⟩;split<;>first|assumption|rfl
theorem kn6(w:World)(hg:aM w)(ht:bO w)(q5 q6:Nat)(T:Array Value)(hT:kwT T q5 q6)(W:World)(hB:Bw w W)(h5:ac W q5 (.cells #[.int .i64 1,.int .i64 2,.int .i8 0] 40 (0,0)))(h6:ac W q6 (.cells #[.int .i64 5,.int .i64 2,.int .i8 0] 40 (0,0)))
  (cd:Code) (hcd:Tryz.f9.body.map (aq 6)=some cd):cd.wp Tryz.prog (bodyPost Tryz.prog Tryz.f9 fun e w'=>e=.returned (.bool true)∧Bw w w') {tmps:=T,defers:=[]} W:=by
 obtain rfl:=Option.some.inj ((show Tryz.f9.body.map (aq 6)=some _ from rfl).symm.trans hcd);clear hcd;simp only[aq];obtain⟨X,rfl⟩:=hT.fr;clear hT;dsimp only[kwF,litB,Nat.reduceAdd];obtain⟨Rs,hRs⟩:∃ Rs:Ending→World→Prop,Rs=fun e w'=>e=.returned (.bool true)∧Bw w w':=⟨_,rfl⟩
 rw[←hRs];replace hRs:=zhd hRs;have hws:=fun i j hi hj fr hf=>Aa (i:=i) (j:=j) hi hj (fr:=fr) hf
 have hwl:=uy;have hw0:cq 0=[]:=rfl;obtain⟨WL,hWL⟩:∃ WL,WL=cq:=⟨_,rfl⟩;rw[←hWL]at hws hwl hw0;replace hWL:=zhd hWL;have⟨c5,l5⟩:=h5.cl;have⟨c6,l6⟩:=h6.cl;have hb1:=ae W (.cells #[.int .i64 1,.int .i64 2,.int .i8 0,.int .i64 5,.int .i64 2,.int .i8 0] 40);have hM:=ac.new W (.cells #[.int .i64 1,.int .i64 2,.int .i8 0,.int .i64 5,.int .i64 2,.int .i8 0] 40);have hz:(W.alloc (.cells #[.int .i64 1,.int .i64 2,.int .i8 0,.int .i64 5,.int .i64 2,.int .i8 0] 40)).heap.size=W.heap.size+1:=by simp
 have hgW:w.heap.size≤W.heap.size:=hB.size;go_upto_region 7 with fail;rename_i k1 hk1 k0 hk0;replace hk1:=zhd hk1;go_wp2_with fail;change Code.wp _ _ _ _ (W.alloc (.cells #[.int .i64 1,.int .i64 2,.int .i8 0,.int .i64 5,.int .i64 2,.int .i8 0] 40));generalize W.alloc (.cells #[.int .i64 1,.int .i64 2,.int .i8 0,.int .i64 5,.int .i64 2,.int .i8 0] 40)=W1 at *;obtain⟨gM,hgM⟩:∃ g,g=W.heap.size:=⟨_,rfl⟩;rw[←hgM]at hM hz hgW hb1 ⊢;replace hgM:=zhd hgM;have hnil:W1.ownsRow gM 42 7 (.slice none 0 0) (WL 0).length (aD (WL 0)):=by rw[hw0];exact⟨rfl,.inl ⟨rfl,rfl⟩⟩
 clear c5 l5 c6 l6;go_loopg [7,56] 4 (fun q v7 iv wr=>∃ i:Nat,q+i=4∧i≤2∧iv=.int .i64 i∧wr.ownsRow gM 42 7 v7 (WL (4*i)).length (aD (WL (4*i)))∧RowKit.Below gM W wr∧ac wr gM (.cells #[.int .i64 1,.int .i64 2,.int .i8 0,.int .i64 5,.int .i64 2,.int .i8 0] 40 (0,0))∧gM+1≤wr.heap.size)
 case atStart=>exact⟨0,rfl,Nat.zero_le _,rfl,hnil,hb1,hM,by omega⟩
 case round =>
  clear hnil hM hz;obtain⟨i,hq,hi,rfl,hown,hBr,hMr,hzr⟩:=hrel;by_cases hlt:i<2
  ·have hii:(i:Int)<2:=by omega
   obtain⟨fr,hfr⟩:∃ fr:Int,fr=if i=0 then 1 else 5:=⟨_,rfl⟩
   have hm0:wr.cell? ⟨gM,i*3,none⟩=some (.int .i64 fr):=by rw[hMr.cells,hfr];rcases(by omega:i=0∨i=1)with rfl|rfl<;>rfl
   have hm1:wr.cell? ⟨gM,i*3+1,none⟩=some (.int .i64 2):=by rw[hMr.cells];rcases(by omega:i=0∨i=1)with rfl|rfl<;>rfl
   have hm2:wr.cell? ⟨gM,i*3+2,none⟩=some (.int .i8 0):=by rw[hMr.cells];rcases(by omega:i=0∨i=1)with rfl|rfl<;>rfl
   have hlM:=hMr.lt;have hws2:=fun j hj=>hws i j hlt hj fr hfr
   replace hfr:=zhd hfr;have hbx:=ae wr (.cells #[.int .i64 fr,.int .i64 2,.int .i8 0] 40);have hF:=ac.new wr (.cells #[.int .i64 fr,.int .i64 2,.int .i8 0] 40);have hown1:=aA hown hbx;have hM1:=hMr.call hbx;have hB1:=aI hBr (by omega) hbx;have hz1:wr.heap.size+1≤(wr.alloc (.cells #[.int .i64 fr,.int .i64 2,.int .i8 0] 40)).heap.size:=by simp
   go_upto_region 10 with fail;change Code.wp _ _ _ _ (wr.alloc (.cells #[.int .i64 fr,.int .i64 2,.int .i8 0] 40));generalize wr.alloc (.cells #[.int .i64 fr,.int .i64 2,.int .i8 0] 40)=w2 at *;clear hm0 hm1 hm2 hlM hown hMr hbx;obtain⟨q9,hq9⟩:∃ q,q=wr.heap.size:=⟨_,rfl⟩;rw[←hq9]at hF hz1 ⊢;have hq9g:gM<q9:=by omega
   replace hq9:=zhd hq9;go_wp2_with fail;obtain⟨g1,hg1⟩:∃ x,x=gk:=⟨_,rfl⟩;subst hg1;go_loopg [7,10] 5 (fun q v7 iv wr=>∃(j:Nat) (wz:World),wz=wr∧q+j=5∧j≤4∧iv=.int .i8 ((j:Int)-5)∧wz.ownsRow gM 42 7 v7 (WL (4*i+j)).length (aD (WL (4*i+j)))∧RowKit.Below gM W wz∧ac wz gM (.cells #[.int .i64 1,.int .i64 2,.int .i8 0,.int .i64 5,.int .i64 2,.int .i8 0] 40 (0,0))∧ac wz q9 (.cells #[.int .i64 fr,.int .i64 2,.int .i8 0] 40 (0,0)))
   case atStart=>exact⟨0,_,rfl,rfl,Nat.zero_le _,rfl,hown1,hB1,hM1,hF⟩
   case round =>
    clear hown1 hF hz1;obtain⟨j,wz,rfl,hqj,hj,rfl,hown,hBz,hMz,hFz⟩:=hrel;by_cases hjl:j<4
    ·have hji:(j:Int)-5≤-2:=by omega
     have hwn:=zhd (hws2 j hjl);have⟨hF0,hFl⟩:=hFz.cl;have hbx:=ae wz (.cells (⟨⟨fr,2,0⟩,(j:Int)-5,2,0,-1⟩:Ret).cs.toArray 42);have hX:=ac.new wz (.cells (⟨⟨fr,2,0⟩,(j:Int)-5,2,0,-1⟩:Ret).cs.toArray 42);have hMx:=hMz.call hbx;have hFx:=hFz.call hbx;have hwz:gM≤wz.heap.size:=by omega
     have hBx:=aI hBz hwz hbx;have hownx:=aA hown hbx;have hzx:wz.heap.size<(wz.alloc (.cells (⟨⟨fr,2,0⟩,(j:Int)-5,2,0,-1⟩:Ret).cs.toArray 42)).heap.size:=by simp
     have hbzx:=Nat.le_trans hwz (Nat.le_of_lt hzx);have hneM:=aY hownx hMx (by simp);have hneF:=aY hownx hFx (by simp);have hll:=hwl (4*i+j);have hltx:=fun k e=>(hownx.lt k e).1
     have hBxs:=hBx.size;go_wp2_with (at_builtin;refine oZ rfl (.tmp 64) (.tmp 68) rfl gM _ (WL (4*i+j)) rfl hownx ⟨⟨fr,2,0⟩,(j:Int)-5,2,0,-1⟩ wz.heap.size hzx hX rfl (by omega) hbzx ?_);intro v8 w8 ho8 hg8 _;have hM8:=hMx.grown hg8 hneM;have hF8:=hFx.grown hg8 hneF;have hB8:=hBx.grown hg8 hbzx hltx;have ho9:w8.ownsRow gM 42 7 v8 (WL (4*i+j+1)).length (aD (WL (4*i+j+1))):=by rw[hwl,hwn.out,retsV_app];exact ho8
     clear ho8;have hsz8:=hM8.lt;clear hownx hMx hFx hBx hX hbx hneM hneF hltx hg8 hown hBz hMz hFz hF0 hFl hzx hbzx hBxs;go_wp2_with fail;go_roundg (gk-1)
     case measure=>omega
     case rel=>exact⟨j+1,_,rfl,by omega,by omega,by go_num,ho9,hB8,hM8,hF8⟩
    ·obtain rfl:j=4:=by omega
     have h44:4*i+4=4*(i+1):=by omega
     rw[h44]at hown;have hlm:=hFz.lt;have hzz:gM+1≤wz.heap.size:=by omega
     clear hFz;go_wp2_with fail;go_roundg (g1-1)
     case measure=>omega
     case rel=>exact⟨i+1,by omega,by omega,by go_num,hown,hBz,hMz,hzz⟩
  ·obtain rfl:i=2:=by omega
   rw[hWL.out]at hown;have hown8:wr.ownsRow gM 42 7 u7 (cq 8).length (aD (cq 8)):=hown;obtain⟨p7,c7,e7,hr7⟩:=fR hown8;rw[show(cq 8).length=8 from by decide]at e7;clear hown hown8;subst e7;go_wp2_with fail;refine hk1.out _ _ ?_;rw[hRs.out];refine kn7 w hg ht p7 c7 _ ?_ wr (hB.trans (hBr.mono hgW)) hr7 _ rfl;exact⟨rfl,rfl⟩
def kL2:List Ret:=[⟨⟨1,2,0⟩,0,-1,0,-1⟩,⟨⟨5,2,0⟩,0,-1,0,-1⟩]

def kxF(v1:Value)(v3:Value)(q5:Nat)(q6:Nat)(X:Nat→Value):Array Value:=(litB (fun i=>match i with|1=>v1|2=>.int .i64 0|3=>v3|4=>.int .i64 0|5=>.pointer (some ⟨q5,0,none⟩)|6=>.pointer (some ⟨q6,0,none⟩)|i=>X i) 0 152).toArray
def kxT(T:Array Value)(v1:Value)(v3:Value)(q5:Nat)(q6:Nat):Prop:=T.size=152∧ofA T 1=v1∧ofA T 2=.int .i64 0∧ofA T 3=v3∧ofA T 4=.int .i64 0∧ofA T 5=.pointer (some ⟨q5,0,none⟩)∧ofA T 6=.pointer (some ⟨q6,0,none⟩)
theorem kxT.fr{T:Array Value}{v1:Value}{v3:Value}{q5:Nat}{q6:Nat}(h:kxT T v1 v3 q5 q6):∃ X,T=kxF v1 v3 q5 q6 X:=by obtain⟨hs,h1,h2,h3,h4,h5,h6⟩:=h;refine⟨ofA T,(frB T hs).trans (congrArg (fun X=>(litB X 0 152).toArray) (funext fun i=>?_))⟩;split<;>first|assumption|rfl
theorem AB(w:World)(hg:aM w)(ht:bO w)(q5 q6:Nat)(p1 p3:Option Addr)(c1 c3:Nat)(T:Array Value)(hT:kxT T (.slice p1 0 c1) (.slice p3 2 c3) q5 q6)(W:World)(hB:Bw w W)(h5:ac W q5 (.cells #[.int .i64 1,.int .i64 2,.int .i8 0] 40 (0,0)))(h6:ac W q6 (.cells #[.int .i64 5,.int .i64 2,.int .i8 0] 40 (0,0)))(hR3:cS W p3 kL2)
  (cd:Code) (hcd:Tryz.f9.body.map (aq 4)=some cd):cd.wp Tryz.prog (bodyPost Tryz.prog Tryz.f9 fun e w'=>e=.returned (.bool true)∧Bw w w') {tmps:=T,defers:=[]} W:=by
 obtain rfl:=Option.some.inj ((show Tryz.f9.body.map (aq 4)=some _ from rfl).symm.trans hcd);clear hcd;simp only[aq];obtain⟨X,rfl⟩:=hT.fr;clear hT;dsimp only[kxF,litB,Nat.reduceAdd];obtain⟨Rs,hRs⟩:∃ Rs:Ending→World→Prop,Rs=fun e w'=>e=.returned (.bool true)∧Bw w w':=⟨_,rfl⟩
 rw[←hRs];replace hRs:=zhd hRs;have⟨c5,l5⟩:=h5.cl;have⟨c6,l6⟩:=h6.cl;have hbx:=ae W (.cells (aD kL2).toArray 42);have hB1:=zbc hB hbx;have h51:=h5.call hbx;have h61:=h6.call hbx;have hR31:=hR3.call hbx;have hR7:cS (W.alloc (.cells (aD kL2).toArray 42)) (some ⟨W.heap.size,0,none⟩) kL2:=by refine .inr ⟨W.heap.size,rfl,by simp,fun j hj i v hv=>?_⟩;have hx:=ac.new W (.cells (aD kL2).toArray 42);rw[hx.cells];have h7:i<7:=(List.getElem?_eq_some_iff.1 hv).1;have hg:=gh kL2 j i v hj hv;rw[List.getElem?_toArray];exact hg
 have hsm:=kp p3 (some ⟨W.heap.size,0,none⟩) c3 2 kL2 kL2 (by decide) (W.alloc (.cells (aD kL2).toArray 42)) hR31 hR7;rw[show kL2.length=2 from rfl,show decide (kL2=kL2)=true from by simp]at hsm;go_wp2_with fail;refine hsm.mono ?_;rintro e W2 ⟨rfl,hb2⟩;have h52:=h51.call hb2;have h62:=h61.call hb2;have hB2:=zbc hB1 hb2;clear hsm c5 l5 c6 l6 hbx h51 h61;go_upto_region 6 with fail;rename_i k0 hk0;replace hk0:=zhd hk0;go_wp2_with fail;refine hk0.out _ _ ?_;rw[hRs.out];refine kn6 w hg ht q5 q6 _ ?_ W2 hB2 h52 h62 _ rfl;exact⟨rfl,rfl,rfl,rfl⟩
theorem iR(w:World)(hg:aM w)(ht:bO w):Clz 9 #[] w fun e w'=>e=.returned (.bool true)∧Bw w w':=by
 obtain⟨Rs,hRs⟩:∃ Rs:Ending→World→Prop,Rs=fun e w'=>e=.returned (.bool true)∧Bw w w':=⟨_,rfl⟩
 rw[←hRs];replace hRs:=zhd hRs;have hm1:=Ap;have hm2:=Az;obtain⟨K2,hK2⟩:∃ K2,K2=kL2:=⟨_,rfl⟩;have hm2:∀(W:World) (p:Option Addr) (c:Nat),kP2.xs.length≤c→aM W→bO W→Arr .i8 W p kP2.xs→Clz 11 #[.agg (aa 3 3 p kP2.xs.length c true 0 (-1) 1 1).toArray] W fun e w'=>(∃ p' c',e=.returned (.tuple #[.slice p' 2 c',.int .i64 0])∧cS w' p' K2)∧Bw W w':=by rw[hK2];exact hm2
 replace hK2:=zhd hK2;have hp1:=Ao w;have hp2:=fun W=>AG W
 go_enter Tryz.func9,Tryz.ntmps9;go_wp2_with fail;refine hp1.mono ?_;rintro e W2 ⟨⟨p,c,rfl,hc,hx⟩,hb2⟩;have hmm:=hm1 W2 p c hc (hg.call hb2) (ht.call hb2) hx;clear hp1 hm1;go_wp2_with fail;refine hmm.mono ?_;rintro e W3 ⟨⟨p1,c1,rfl,hR1⟩,hb3⟩;have hB3:=zbc hb2 hb3;clear hmm hx;go_wp2_with fail;refine(hp2 W3).mono ?_;rintro e W4 ⟨⟨p',c',rfl,hc',hx'⟩,hb4⟩;have hB4:=zbc hB3 hb4;have hmm:=hm2 W4 p' c' hc' (hg.call hB4) (ht.call hB4) hx';clear hp2 hm2;go_wp2_with fail;refine hmm.mono ?_;rintro e W5 ⟨⟨p3,c3,rfl,hR3⟩,hb5⟩;have hB5:=zbc hB4 hb5;clear hmm hx';have hbb:=(ae W5 (.cells #[.int .i64 1,.int .i64 2,.int .i8 0] 40)).alloc (by simp) (.cells #[.int .i64 5,.int .i64 2,.int .i8 0] 40);have h5:=(ac.new W5 (.cells #[.int .i64 1,.int .i64 2,.int .i8 0] 40)).alloc (.cells #[.int .i64 5,.int .i64 2,.int .i8 0] 40);have h6:=ac.new' (W5.alloc (.cells #[.int .i64 1,.int .i64 2,.int .i8 0] 40)) (.cells #[.int .i64 5,.int .i64 2,.int .i8 0] 40) (q:=W5.heap.size+1) (by simp);have hR35:=hR3.call hbb;have hB6:=zbc hB5 hbb;go_upto_region 3 with fail;rename_i k0 hk0;replace hk0:=zhd hk0;go_wp2_with fail;refine hk0.out _ _ ?_;rw[hRs.out];rw[hK2.out]at hR35;refine AB w hg ht W5.heap.size (W5.heap.size+1) p1 p3 c1 c3 _ ?_ _ hB6 h5 h6 hR35 _ rfl;exact⟨rfl,rfl,rfl,rfl,rfl,rfl,rfl⟩
theorem iO(f r:Int)(pp:Option Addr)(n cc:Nat)(bl:Bool)(ca pa ha fu:Int)(w:World):
  Clz 8 #[.agg (aa f r pp n cc bl ca pa ha fu).toArray] w fun e w'=>e=.returned (.bool (decide ((n:Int)≤64)))∧Bw w w':=by
 have hB:=ae w (.cells (aa f r pp n cc bl ca pa ha fu).toArray 26);have hA:=ac.new w (.cells (aa f r pp n cc bl ca pa ha fu).toArray 26);have⟨c0,l0⟩:=hA.cl;go_enter Tryz.func8,Tryz.ntmps8;go_wp2_with fail;go_ret;exact⟨rfl,hB⟩
def bxR(n0:Nat)(x:Ret)(w:World):Bool→Bool→Value→Prop
 | _,true,u=>∃ q,u=.pointer (some ⟨q,0,none⟩)∧n0≤q∧ac w q (.cells x.cs.toArray 42 (0,0))
 | true,false,u=>∃ q,u=.pointer (some ⟨q,0,none⟩)∧n0≤q∧ac w q (.cells zeroRet.cs.toArray 42 (0,0))
 | false,false,_=>True
theorem bxR.call{n0:Nat}{x:Ret}{w w':World}{a b:Bool}{u:Value}(h:bxR n0 x w a b u)(hb:Bw w w'):bxR n0 x w' a b u:=by
 rcases b with _|_
 ·rcases a with _|_
  ·trivial
  ·obtain⟨q,e1,e2,e3⟩:=h;exact⟨q,e1,e2,e3.call hb⟩
 ·obtain⟨q,e1,e2,e3⟩:=h;exact⟨q,e1,e2,e3.call hb⟩
theorem bxR.far{n0:Nat}{x:Ret}{w:World}{a b:Bool}{u:Value}{q:Nat}(h:bxR n0 x w a b u)(cs:Array Value)(hq:a=true→u≠.pointer (some ⟨q,0,none⟩))(hab:b=true→a=true):bxR n0 x (w.setRow q cs) a b u:=by
 rcases b with _|_
 ·rcases a with _|_
  ·trivial
  ·obtain⟨q',e1,e2,e3⟩:=h;exact⟨q',e1,e2,e3.setRow_far (fun e=>hq rfl (by rw[e1,e]))⟩
 ·obtain⟨q',e1,e2,e3⟩:=h;exact⟨q',e1,e2,e3.setRow_far (fun e=>hq (hab rfl) (by rw[e1,e]))⟩
theorem bxR.made{n0:Nat}{x:Ret}{w:World}{a b:Bool}{u:Value}(h:bxR n0 x w a b u)(hab:a=true∨b=true):∃ q,u=.pointer (some ⟨q,0,none⟩)∧q<w.heap.size:=by
 rcases b with _|_
 ·rcases a with _|_
  ·simp at hab
  ·obtain⟨q',e1,e2,e3⟩:=h;exact⟨q',e1,e3.lt⟩
 ·obtain⟨q',e1,e2,e3⟩:=h;exact⟨q',e1,e3.lt⟩
theorem dN(W:World)(old new:Array Value)(t:TypeId):Bw W ((W.alloc (.cells old t)).setRow W.heap.size new):=aj (ae W _) (Nat.le_refl _) (by simp)
theorem dQ(W:World)(old new:Array Value)(t:TypeId):ac ((W.alloc (.cells old t)).setRow W.heap.size new) W.heap.size (.cells new t (0,0)):=ak (ac.new W _)
theorem foldl_len{α β:Type}(f:List α→β→List α)(h:∀ x c,(f x c).length=x.length):∀(l:List β) (x:List α),(l.foldl f x).length=x.length:=by
 intro l;induction l with
 | nil=>intro x;rfl
 | cons c l ih=>intro x;rw[List.foldl_cons,ih,h]
theorem wg(P:Pos)(r:Ret):∃ ys,befW P r=⟨P.F,P.R,ys,!P.bl,r.ca,r.pa,max 0 (P.ha-1),if !P.bl then P.fu-1 else P.fu⟩∧ys.length=P.xs.length:=by
 refine⟨(befW P r).xs,rfl,?_⟩;unfold befW;simp only;rw[jo,foldl_len,List.length_set,List.length_set];intro x c;generalize (if r.mv.pr≠0 then pcI 1 !P.bl else P.at_ r.mv.tg)=o;split
 ·rw[List.length_set,List.length_set]
 ·rfl
theorem tL(xs:List Int)(b:Bool)(c p:Int):posE xs xs b b c c p p=true:=by simp[posE]
theorem xz{F R:Nat}{xs:List Int}{pa:Int}{a b:Nat}(hF:3≤F∧F≤8)(hR:3≤R∧R≤8)(hal:a<F*R)(hbl:b<F*R):0≤dq F R xs pa a b→(dq F R xs pa a b).toNat<F*R:=by
 obtain⟨_,_,ha1⟩:=bU hF hR hal;obtain⟨_,hb0,_⟩:=bU hF hR hbl;unfold dq;split
 ·intro _;unfold numI;have z1:(0:Int)≤((a/F:Nat):Int):=Int.natCast_nonneg _;have z2:(0:Int)≤((b%F:Nat):Int):=Int.natCast_nonneg _;rw[if_neg (by omega)];have h1:(((a/F:Nat):Int)*F+((b%F:Nat):Int)).toNat=a/F*F+b%F:=by
   rw[←Int.natCast_mul,←Int.natCast_add,Int.toNat_natCast]
  rw[h1];have h2:=Nat.mul_le_mul_right F (show a/F+1≤R from ha1);rw[Nat.add_mul,Nat.one_mul,Nat.mul_comm R F]at h2;omega
 ·split
  ·intro _;rw[Int.toNat_natCast];exact hbl
  ·intro h;omega
def bK(P:Pos)(m:Mv):Pos :=
 let a:=m.fr.toNat
 let b:=m.tg.toNat
 let own:=P.xs[a]?.getD 0
 let AT:=dq P.F P.R P.xs P.pa a b
 {F:=P.F,R:=P.R,xs:=f8 (casR P m) (proX m.pr own b (((capX AT P.xs).set a 0).set b own)),bl:=!P.bl,ca:=(caK P.ca.toNat a b 4:Nat),pa:=eL P.F P.R own (a%P.F) (a/P.F) (b/P.F),ha:=if kindI own=1∨0≤AT then 0 else P.ha+1,fu:=if P.bl then P.fu+1 else P.fu}
def kw(P:Pos)(m:Mv)(n:Nat)(w:World)(e:Ending)(w':World):Prop :=
 ∃ q cap,e=.returned (.agg (aa P.F P.R (some ⟨q,0,none⟩) n cap (bK P m).bl (bK P m).ca (bK P m).pa (bK P m).ha (bK P m).fu).toArray)∧Bw w w'∧w.heap.size≤q∧aC w' q cap (bK P m).xs
theorem iJ(F R:Nat)(xs:List Int)(bl:Bool)(can:Nat)(pa ha fu:Int)(a b:Nat)(pr:Int)(p:Option Addr)(cc:Nat)(hF:3≤F∧F≤8)(hR:3≤R∧R≤8)(hal:a<F*R)(hbl:b<F*R)(hlen:xs.length=F*R)(hca:can<256)(h88:∀ c∈az,can/c.bit%2=1→F=8∧R=8)(h6:∀ x∈xs,-6≤x∧x≤6)(hha:0≤ha∧ha≤10000)(hfu:-10000≤fu∧fu≤10000)(hpr:0≤pr∧pr≤5)(w:World)(hx:Arr .i8 w p xs):
  Clz 116 #[.agg (aa F R p xs.length cc bl can pa ha fu).toArray,.agg #[.int .i64 a,.int .i64 b,.int .i8 pr]] w (kw ⟨F,R,xs,bl,can,pa,ha,fu⟩ ⟨a,b,pr⟩ xs.length w):=by
 have hax:a<xs.length:=by rw[hlen];exact hal
 obtain⟨g,o,rfl,hgl,hcc⟩:=hx.at hax;obtain⟨W1,hW1⟩:∃ W1,W1=((w.alloc (.cells (aa F R (some ⟨g,o,none⟩) xs.length cc bl can pa ha fu).toArray 26)).alloc (.cells #[.int .i64 a,.int .i64 b,.int .i8 pr] 40)).alloc (.cells af.toArray 26):=⟨_,rfl⟩;have hB:Bw w W1:=by subst hW1;exact((ae w _).alloc (by simp) _).alloc (by simp<;>omega) _
 have hP:ac W1 w.heap.size (.cells (aa F R (some ⟨g,o,none⟩) xs.length cc bl can pa ha fu).toArray 26 (0,0)):=by subst hW1;exact((ac.new w _).alloc _).alloc _
 have hM:ac W1 (w.heap.size+1) (.cells #[.int .i64 a,.int .i64 b,.int .i8 pr] 40 (0,0)):=by subst hW1;exact(ac.new' _ _ (by simp)).alloc _
 have hO:ac W1 (w.heap.size+1+1) (.cells af.toArray 26 (0,0)):=by subst hW1;exact ac.new' _ _ (by simp)
 have hl64:xs.length≤64:=by rw[hlen];exact Nat.mul_le_mul hF.2 hR.2
 have hy6:=h6 (xs[a]?.getD 0) (by rw[List.getElem?_eq_getElem hax];exact List.getElem_mem _);have hcp:=jK F R can pa ha fu bl g o cc xs W1 (hx.call hB) (by omega) (by omega);have hcap:=fun W h=>gm F R xs bl can pa ha fu a b pr (some ⟨g,o,none⟩) cc hF hR hlen hal hbl h6 W h
 have hATl:=xz (xs:=xs) (pa:=pa) hF hR hal hbl;rw[←hlen]at hATl;obtain⟨own,hown⟩:∃ y,y=xs[a]?.getD 0:=⟨_,rfl⟩;obtain⟨AT,hAT⟩:∃ y,y=dq F R xs pa a b:=⟨_,rfl⟩;have haf:kw ⟨F,R,xs,bl,can,pa,ha,fu⟩ ⟨a,b,pr⟩ xs.length w=fun e w'=>∃ q cap,e=.returned (.agg (aa F R (some ⟨q,0,none⟩) xs.length cap (!bl) (caK can a b 4:Nat) (eL F R own (a%F) (a/F) (b/F)) (if kindI own=1∨0≤AT then 0 else ha+1) (if bl then fu+1 else fu)).toArray)∧Bw w w'∧w.heap.size≤q∧aC w' q cap (f8 (casR ⟨F,R,xs,bl,can,pa,ha,fu⟩ ⟨a,b,pr⟩) (proX pr own b (((capX AT xs).set a 0).set b own))):=by subst hown hAT;rfl
 rw[haf];clear haf;rw[←hown]at hy6;rw[←hAT]at hcap hATl;have h4:=fun q0 q1 q4 q5 qa cap T hT Rs W hQ hS hok cd hcd=>af4 w F R xs bl can pa ha fu a b pr (some ⟨g,o,none⟩) cc q0 q1 q4 q5 qa cap own AT T hT xs Rs hF hR hal hbl hlen hca h88 h6 hx hha hfu hy6 hpr hATl rfl W hQ hS hok cd hcd
 obtain⟨Rs,hRs⟩:∃ Rs:Ending→World→Prop,Rs=fun e w'=>∃ q cap,e=.returned (.agg (aa F R (some ⟨q,0,none⟩) xs.length cap (!bl) (caK can a b 4:Nat) (eL F R own (a%F) (a/F) (b/F)) (if kindI own=1∨0≤AT then 0 else ha+1) (if bl then fu+1 else fu)).toArray)∧Bw w w'∧w.heap.size≤q∧aC w' q cap (f8 (casR ⟨F,R,xs,bl,can,pa,ha,fu⟩ ⟨a,b,pr⟩) (proX pr own b (((capX AT xs).set a 0).set b own))):=⟨_,rfl⟩
 rw[←hRs];have hai:(a:Int)<xs.length:=by omega
 have⟨c0,l0⟩:=hP.cl;replace hRs:=zhd hRs;replace hlen:=zhd hlen;replace hown:=zhd hown;replace hAT:=zhd hAT;have hW0:=hB.size;replace hW1:=zhd hW1;clear hgl hcc h6 h88;go_enter Tryz.func116,Tryz.ntmps116;go_upto_region 1 with fail;change Code.wp _ _ _ _ (((w.alloc (.cells (aa F R (some ⟨g,o,none⟩) xs.length cc bl can pa ha fu).toArray 26)).alloc (.cells #[.int .i64 a,.int .i64 b,.int .i8 pr] 40)).alloc (.cells af.toArray 26));rw[←hW1.out];go_wp2_with fail;refine hcp.mono ?_;rintro e W2 ⟨qa,cap,rfl,hb2,hqa,hY⟩;have hP2:=hP.call hb2;have hM2:=hM.call hb2;have hO2:=hO.call hb2;have hB2:=zbc hB hb2;have hO1:=hO.lt;clear c0 l0 hP hM hO hB hcp;have⟨hi,ho⟩:=zrw 26 (A:=(aa F R (some ⟨qa,0,none⟩) xs.length cap bl can pa ha fu).toArray) (by kernel_rfl) (by simp[Value.oneCell']);have hZ:=ac.new W2 (.cells af.toArray 26);go_upto_region 2 with(first|((refine ai rfl 26 (.tmp 5) (.tmp 16) rfl W2.heap.size ((aa F R (some ⟨qa,0,none⟩) xs.length cap bl can pa ha fu).toArray) rfl rfl 26 _ hZ hi.out rfl ho.out ?_);rintro w3 rfl)|fail);have hbx:=dN W2 af.toArray ((aa F R (some ⟨qa,0,none⟩) xs.length cap bl can pa ha fu).toArray) 26;have hN:=dQ W2 af.toArray ((aa F R (some ⟨qa,0,none⟩) xs.length cap bl can pa ha fu).toArray) 26;change Code.wp _ _ _ _ ((W2.alloc (.cells af.toArray 26)).setRow W2.heap.size ((aa F R (some ⟨qa,0,none⟩) xs.length cap bl can pa ha fu).toArray));generalize (W2.alloc (.cells af.toArray 26)).setRow W2.heap.size ((aa F R (some ⟨qa,0,none⟩) xs.length cap bl can pa ha fu).toArray)=W3 at *;have hS:AfS w F R xs bl can pa ha fu a b pr (some ⟨g,o,none⟩) cc w.heap.size (w.heap.size+1) (w.heap.size+1+1) W2.heap.size qa cap xs (aa F R (some ⟨qa,0,none⟩) xs.length cap bl can pa ha fu) W3:=⟨zbc hB2 hbx,hP2.call hbx,hM2.call hbx,hO2.call hbx,hY.call hbx,hN⟩;have hQ:AfQ w w.heap.size (w.heap.size+1) (w.heap.size+1+1) qa W2.heap.size:=⟨Nat.le_refl _,by omega,by omega,by omega,hY.lt⟩;clear hi ho hZ hbx hN hY;generalize W2.heap.size=q5 at *;have p1:∀ j,W3.cell? ⟨w.heap.size+1,j,none⟩=(#[.int .i64 a,.int .i64 b,.int .i8 pr]:Array Value)[j]?:=hS.m.cells;have l1:=hS.m.lt;have p0:∀ j,W3.cell? ⟨w.heap.size,j,none⟩=(aa F R (some ⟨g,o,none⟩) xs.length cc bl can pa ha fu).toArray[j]?:=hS.p.cells;have l0:=hS.p.lt;have⟨p5,l5⟩:=hS.t.cl;have hv:=hS.y.cell hax;rw[←hown.out]at hv;go_upto_region 3 with fail;rename_i k3 hk3;replace hk3:=zhd hk3;go_wp2_with fail;refine(hcap W3 (hx.call hS.bw)).mono ?_;rintro e W4 ⟨rfl,hb4⟩;have hS4:=hS.call hb4;clear p1 l1 p0 l0 p5 l5 hv hS hcap;go_wp2_with fail;refine hk3.out _ _ ?_;refine h4 _ _ _ _ _ _ _ ?_ Rs W4 hQ hS4 ?_ _ ?_
 ·exact⟨rfl,rfl,rfl,rfl,rfl,rfl,rfl⟩
 ·intro w' hb hO;rw[hRs.out];exact⟨qa,cap,rfl,hb,Nat.le_trans hW0 hqa,hO⟩
 ·exact rfl
end Go.Proofs.YtefmplccbkmalaaGreatDoor
