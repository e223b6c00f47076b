import Derived.Test.YtefmplccbkmalaaGreatDoorB01
import Derived.Test.YtefmplccbkmalaaGreatDoorB02
import Derived.Maps.AppendAt
import Derived.Maps.OwnIn
import Derived.Lib.AppendStr
import Derived.Laws.OwnMore
import Derived.Laws.BitsAllLaws
set_option maxRecDepth 100000
set_option maxHeartbeats 12800000
namespace Go.Proofs.YtefmplccbkmalaaGreatDoor
open Go.RowKit

abbrev ar(f r:Int)(p:Option Addr)(n c:Nat):List Value:=[.int .i64 f,.int .i64 r,.slice p n c]
def orB(x:Int):Bool:=decide (-6≤x)&&decide (x≤6)
def aL(f r:Int)(xs:List Int):Bool:=bR f r&&(decide ((xs.length:Int)=f*r)&&xs.all pOk)
def aF(f r:Int)(xs:List Int):Bool:=aL f r xs&&xs.all orB
theorem iP{f r:Int}{xs:List Int}(h:bR f r=false):aL f r xs=false:=by simp[aL,h]
theorem lu{f r:Int}{xs:List Int}(h:(xs.length:Int)≠f*r):aL f r xs=false:=by simp[aL,h]
theorem rZ{f r:Int}{xs:List Int}{i:Nat}(hi:i<xs.length){x:Int}(hx:xs[i]=x)(h:pOk x=false):aL f r xs=false:=by
 have:xs.all pOk=false:=by rw[List.all_eq_false];exact⟨x,by rw[←hx];exact List.getElem_mem hi,by simp[h]⟩
 simp[aL,this]
theorem cK{f r:Int}{xs:List Int}(h:aL f r xs=true):bR f r=true∧(xs.length:Int)=f*r∧∀ x∈xs,pOk x=true:=by simp only[aL,Bool.and_eq_true,decide_eq_true_eq,List.all_eq_true]at h;exact⟨h.1,h.2.1,h.2.2⟩
theorem sW{f r:Int}{xs:List Int}(h1:bR f r=true)(h2:(xs.length:Int)=f*r)(h3:xs.all pOk=true):aL f r xs=true:=by simp[aL,h1,h2,h3]
theorem sP{f r:Int}{xs:List Int}{i:Nat}(hi:i<xs.length){x:Int}(hx:xs[i]=x)(h:orB x=false):aF f r xs=false:=by
 have:xs.all orB=false:=by rw[List.all_eq_false];exact⟨x,by rw[←hx];exact List.getElem_mem hi,by simp[h]⟩
 simp[aF,this]
theorem lG(x:Int):orB x=(decide (x=0)||oOk x):=by
 by_cases h:x=0
 ·subst h;rfl
 ·simp[orB,oOk,h]
theorem xj(x:Int):gb x=!orB x:=by rw[lG];simp[gb]
theorem it{xs:List Int}{g:Int→Bool}{i:Nat}(hlt:i<xs.length)(h:(xs.take i).all g=true){x:Int}(hx:xs[i]=x)(hg:g x=true):(xs.take (i+1)).all g=true:=by rw[List.take_succ_eq_append_getElem hlt,List.all_append,h];simp[hx,hg]

theorem oJ(f r:Int)(p:Option Addr)(c:Nat)(xs:List Int)(w:World)(hx:Arr .i8 w p xs):
  Clz 96 #[.agg (ar f r p xs.length c).toArray] w fun e w'=>e=.returned (.bool (aL f r xs))∧Below w.heap.size w w':=by
 have hb:=ae w (.cells (ar f r p xs.length c).toArray 68);have hA:=ac.new w (.cells (ar f r p xs.length c).toArray 68);go_enter Tryz.func96,Tryz.ntmps96;go_wp2_with fail;refine(oW f r _).mono ?_;rintro e w1 ⟨rfl,hb1⟩;have hb':=zbc hb hb1;have hA1:=hA.call hb1;have⟨hc1,hl1⟩:=hA1.cl;rcases hs:bR f r with _|_
 ·have e0:=zhd (iP (xs:=xs) hs);go_wp2_with fail;go_ret;exact⟨by rw[e0.out];rfl,hb'⟩
 ·have hm:=cM hs;have e1:wrap64 (f*r)=f*r:=IntWalk.wrap64_in _ (by omega);by_cases hlen:(xs.length:Int)=f*r
  ·have hlen64:xs.length≤64:=by omega
   have hx1:=hx.call hb';have hb2:(((xs.length:Int)) != f*r)=false:=by rw[hlen];simp
   replace hs:=zhd hs;clear hA hb hx;replace hlen:=zhd hlen;go_wp2_with fail;clear hc1;go_loopg [3] 65 (fun q iv wr=>∃ i:Nat,q+i=65∧i≤xs.length∧iv=.int .i64 i∧Below w1.heap.size w1 wr∧(xs.take i).all pOk=true)
   case atStart=>exact⟨0,rfl,Nat.zero_le _,rfl,Below.refl _ _,rfl⟩
   case round =>
    obtain⟨i,hq,hi,rfl,hbr,ha⟩:=hrel;replace ha:=zhd ha;have hcr:=(hA1.call hbr).cells;have hlr:=(hA1.call hbr).lt;have hbr':=zbc hb' hbr;by_cases hlt:i<xs.length
    ·have hii:(i:Int)<xs.length:=by omega
     obtain⟨b,o,rfl,hbl,hc⟩:=(hx1.call hbr).at hlt;have hci:=hc i hlt;have hget:xs[i]?.getD 0=xs[i]:=by simp[hlt]
     obtain⟨x,hxv⟩:∃ x,x=xs[i]?.getD 0:=⟨_,rfl⟩;rw[←hxv]at hci hget;replace hget:=zhd hget;clear hc hxv;go_wp2_with fail;refine(nb _ _).mono ?_;rintro e w2 ⟨rfl,rfl⟩;rcases hbd:pOk x with _|_
     ·have e0:=zhd (rZ (f:=f) (r:=r) hlt hget.out.symm hbd);go_wp2_with fail;go_ret;exact⟨by rw[e0.out];rfl,hbr'⟩
     ·go_wp2_with fail;go_roundg (gk-1)
      case measure=>omega
      case rel=>exact⟨i+1,by omega,by omega,by go_num,hbr,it hlt ha.out hget.out.symm hbd⟩
    ·have hii:¬(i:Int)<xs.length:=by omega
     have e0:=zhd (sW hs.out hlen.out (by have ha:=ha.out;rwa[List.take_of_length_le (by omega)]at ha));go_wp2_with fail;go_ret;exact⟨by rw[e0.out];rfl,hbr'⟩
  ·have e0:=zhd (lu hlen);have hb2:(((xs.length:Int)) != f*r)=true:=by simp[hlen]
   replace hs:=zhd hs;clear hA hb hx;go_wp2_with fail;go_ret;exact⟨by rw[e0.out];rfl,hb'⟩
theorem i7(f r:Int)(p:Option Addr)(c:Nat)(xs:List Int)(w:World)(hx:Arr .i8 w p xs):
  Clz 36 #[.agg (ar f r p xs.length c).toArray] w fun e w'=>e=.returned (.bool (aF f r xs))∧Below w.heap.size w w':=by
 have hb:=ae w (.cells (ar f r p xs.length c).toArray 68);have hA:=ac.new w (.cells (ar f r p xs.length c).toArray 68);have⟨hc0,hl0⟩:=hA.cl;go_enter Tryz.func36,Tryz.ntmps36;go_wp2_with fail;refine(oJ f r p c xs _ (hx.call hb)).mono ?_;rintro e w1 ⟨rfl,hb1⟩;have hb':=zbc hb hb1;have hA1:=hA.call hb1;rcases hs:aL f r xs with _|_
 ·have e0:Hid (aF f r xs=false):=zhd (by simp[aF,hs]);go_wp2_with fail;go_ret;exact⟨by rw[e0.out];rfl,hb'⟩
 ·obtain⟨hs1,hlen,hall⟩:=cK hs;have hm:=cM hs1;have hlen64:xs.length≤64:=by omega
  have hx1:=hx.call hb';clear hA hb hx hc0 hl0 hs1 hlen hm hall;go_wp2_with fail;go_loopg [3] 65 (fun q iv wr=>∃ i:Nat,q+i=65∧i≤xs.length∧iv=.int .i64 i∧Below w1.heap.size w1 wr∧(xs.take i).all orB=true)
  case atStart=>exact⟨0,rfl,Nat.zero_le _,rfl,Below.refl _ _,rfl⟩
  case round =>
   obtain⟨i,hq,hi,rfl,hbr,ha⟩:=hrel;replace ha:=zhd ha;have hcr:=(hA1.call hbr).cells;have hlr:=(hA1.call hbr).lt;have hbr':=zbc hb' hbr;by_cases hlt:i<xs.length
   ·have hii:(i:Int)<xs.length:=by omega
    obtain⟨b,o,rfl,hbl,hc⟩:=(hx1.call hbr).at hlt;have hci:=hc i hlt;have hget:xs[i]?.getD 0=xs[i]:=by simp[hlt]
    obtain⟨x,hxv⟩:∃ x,x=xs[i]?.getD 0:=⟨_,rfl⟩;rw[←hxv]at hci hget;replace hget:=zhd hget;clear hc hxv;by_cases h0:x=0
    ·have ht:=zhd (it hlt ha.out hget.out.symm (show orB x=true by subst h0;rfl));have h00:(x != 0)=false:=by simp[h0]
     go_wp2_with fail;go_roundg (gk-1)
     case measure=>omega
     case rel=>exact⟨i+1,by omega,by omega,by go_num,hbr,ht.out⟩
    ·have h00:(x != 0)=true:=by simp[h0]
     go_wp2_with fail;refine(qg _ _).mono ?_;rintro e w2 ⟨rfl,rfl⟩;rcases hbd:oOk x with _|_
     ·have e0:=zhd (sP (f:=f) (r:=r) hlt hget.out.symm (by rw[lG,hbd];simp[h0]));go_wp2_with fail;go_ret;exact⟨by rw[e0.out];rfl,hbr'⟩
     ·have ht:=zhd (it hlt ha.out hget.out.symm (show orB x=true by rw[lG,hbd];simp));go_wp2_with fail;go_roundg (gk-1)
      case measure=>omega
      case rel=>exact⟨i+1,by omega,by omega,by go_num,hbr,ht.out⟩
   ·have hii:¬(i:Int)<xs.length:=by omega
    have e0:Hid (aF f r xs=true):=zhd (by have ha:=ha.out;rw[List.take_of_length_le (by omega)]at ha;simp[aF,hs,ha]);go_wp2_with fail;go_ret;exact⟨by rw[e0.out];rfl,hbr'⟩
theorem bE{P:Program}{id:Nat}{ops:Array Oper}{Q:Exit→Act→World→Prop}{a:Act}{w:World}(hm:P.follows .mixedOrders=true)(hb:aW .any ops=true)
  (ds:List (Option Tmp)) (hds:ops.toList.map (·.dst)=ds) (hok:bn ds=true)
  (R:(Nat→Bool)→(Nat→Value)→World→Prop) (hcong:∀ S S' f w,(∀ i,i<ops.size→S i=S' i)→R S f w→R S' f w) (h0:∀ f,R (fun _=>false) f w.drew)
  (hstep:∀ S i o f w,ops[i]? = some o→i<ops.size→S i=false→(∀ e∈o.after,Region.binds .any e=true→S e.on=true) →
   (∀ j o',S j=true→ops[j]? = some o'→∀ e∈o'.after,Region.binds .any e=true→S e.on=true)→R S f w →
   ∀ K:Act→World→Prop,(∀ u w',R (upd S i) (fun j=>if j=i then u else f j) w'→K ((ao ds f 0 a).put o.dst u) w') →
   if Region.wanted o (yielded ops (ao ds f 0 a).tmps)=true then o.wp P (ao ds f 0 a) w K Q else K ((ao ds f 0 a).put o.dst undef) w)
  (hend:∀ S f w,(∀ i,i<ops.size→S i=true)→R S f w→Q .normal (ao ds f 0 a) w):(Code.region id ops true).wp P Q a w:=by
 refine fx hm hb (fun S a' w=>∃ f,a'=ao ds f 0 a∧R S f w ∧
  (∀ j o',S j=true→ops[j]? = some o'→∀ e∈o'.after,Region.binds .any e=true→S e.on=true)) ?_ ⟨jp ds a,(iI _ _ _ _ (fun i t h=>by simp[jp,h]) hok).symm,h0 _,fun j o' h=>(by cases h)⟩ ?_ ?_
 ·rintro S S' a' w hS ⟨f,h1,h2,h4⟩;refine⟨f,h1,hcong _ _ _ _ hS h2,fun j o' hj ho e he hbd=>?_⟩;have hj2:j<ops.size:=(Array.getElem?_eq_some_iff.1 ho).1;have hb':=hb;unfold aW at hb';rw[List.all_eq_true]at hb';have h:=hb' j (List.mem_range.2 hj2);rw[ho]at h;simp only[Option.map_some,Option.getD_some]at h;rw[Array.all_eq_true]at h;obtain⟨k,hk,rfl⟩:=Array.getElem_of_mem he;have h5:=h k hk;rw[hbd]at h5;simp only[Bool.not_true,Bool.false_or,decide_eq_true_eq]at h5;rw[←hS _ (by omega)];exact h4 j o' (by rw[hS _ hj2];exact hj) ho _ he hbd
 ·rintro S a' w i hi hSi hpre ⟨f,rfl,hR,hcl⟩;refine hstep S i _ f w (Array.getElem?_eq_getElem hi) hi hSi hpre hcl hR _ ?_;intro u w' hR';refine⟨_,by have:=lW ds hok f 0 a i _ (nO hds hi) u;rw[Nat.zero_add]at this;exact this,hR',fun j o' hj ho e he hbd=>?_⟩;unfold upd at hj ⊢;by_cases e2:e.on=i
  ·simp[e2]
  ·simp only[e2,if_false];by_cases e3:j=i
   ·subst e3;have:o'=ops[j]:=by rw[Array.getElem?_eq_getElem hi]at ho;exact(Option.some.inj ho).symm
    subst this;exact hpre e he hbd
   ·simp only[e3,if_false]at hj;exact hcl j o' hj ho e he hbd
 ·rintro S a' w hS ⟨f,rfl,hR,_⟩;exact hend S f w hS hR

structure cn(q:Nat)(v:Value)(w w':World):Prop where
 os:w'.os=w.os
 tape:w'.tape=w.tape
 output:w'.output=w.output
 size:w.heap.size≤w'.heap.size
 block:∀ k,k<w.heap.size→k≠q→v.ownBlock≠some k→w'.heap[k]? = w.heap[k]?
theorem cn.refl(q:Nat)(v:Value)(w:World):cn q v w w:=⟨rfl,rfl,rfl,Nat.le_refl _,fun _ _ _ _=>rfl⟩
def et(w:World)(v v':Value):Prop:=∀ k,v'.ownBlock=some k→v.ownBlock=some k∨w.heap.size≤k
theorem et.refl(w:World)(v:Value):et w v v:=fun _ h=>.inl h
theorem et.trans{w w':World}{v v' v'':Value}(h:et w v v')(h2:et w' v' v'')(hs:w.heap.size≤w'.heap.size):et w v v'':=by
 intro k hk;rcases h2 k hk with h3|h3
 ·exact h k h3
 ·exact .inr (Nat.le_trans hs h3)
theorem cn.trans{q:Nat}{v v':Value}{w w' w'':World}(h:cn q v w w')(hn:et w v v')(h2:cn q v' w' w''):cn q v w w'' :=
 ⟨h2.os.trans h.os,h2.tape.trans h.tape,h2.output.trans h.output,Nat.le_trans h.size h2.size,fun k hk hq hv=>(h2.block k (Nat.lt_of_lt_of_le hk h.size) hq (fun e=>by
  rcases hn k e with h3|h3
  ·exact hv h3
  ·omega)).trans (h.block k hk hq hv)⟩
theorem cn.hasO{q k:Nat}{v:Value}{w w':World}{o:Obj}(h:cn q v w w')(ho:ac w k o)(hq:k≠q)(hv:v.ownBlock≠some k):ac w' k o:=(h.block k ho.lt hq hv).trans ho
theorem cn.below{q B:Nat}{v:Value}{w0 w w':World}(h:cn q v w w')(hb:Below B w0 w)(hB:B≤w.heap.size)(hq:B≤q)(hv:∀ k,v.ownBlock=some k→B≤k):Below B w0 w' :=
 hb.trans ⟨h.os,h.tape,h.output,h.size,fun k hk=>h.block k (by omega) (by omega) (fun e=>by have:=hv k e;omega)⟩
theorem cn.drewN{q:Nat}{v:Value}{w w':World}(h:cn q v w w')(n:Nat):cn q v w (w'.drewN n):=⟨h.os,h.tape,h.output,h.size,h.block⟩
theorem cn.drew{q:Nat}{v:Value}{w w':World}(h:cn q v w w'):cn q v w w'.drew:=⟨h.os,h.tape,h.output,h.size,h.block⟩
theorem cn.setCell{q:Nat}{v:Value}{w w':World}(h:cn q v w w')(i:Nat)(u:Value):cn q v w (w'.setCell ⟨q,i,none⟩ u) :=
 ⟨h.os,h.tape,h.output,by simp[World.setCell];exact h.size,fun k hk hq hv=>(Below.heap_setCell w' ⟨q,i,none⟩ u k (fun e=>hq e)).trans (h.block k hk hq hv)⟩
theorem cn.alloc{q:Nat}{v:Value}{w w':World}(h:cn q v w w')(o:Obj):cn q v w (w'.alloc o) :=
 ⟨h.os,h.tape,h.output,Nat.le_trans h.size (by simp),fun k hk hq hv=>(Below.heap_alloc w' o k (Nat.lt_of_lt_of_le hk h.size)).trans (h.block k hk hq hv)⟩
theorem cn.grown{q:Nat}{v v':Value}{w w' w'':World}(h:cn q v w w')(hn:et w v v')(hg:w'.grownBy w'' v'.ownBlock):cn q v w w'' :=
 h.trans hn ⟨hg.os,hg.tape,hg.output,hg.size,fun k hk _ hv=>hg.block k hk (fun e=>hv e.symm)⟩

theorem bD{P:Program}{W:World}{ops:Array Oper}{rest:List Oper}{o:Oper}{a:Act}{Q:Exit→Act→World→Prop}(hgd:o.guard=none)(s x:Operand)(t:TypeId)
  (ho:o.op=.call {callee:=.builtin .append,args:=#[s,x],argTypes:=#[t,t]})
  (base:Nat) (e:TypeId) (i:TypeInfo) (z:Value) (bytes:Nat) (ht:P.underlying t=some (.slice e)) (hi:P.info? e=some i) (hz:i.zero=some z)
  (hsize:i.size=1) (hby:i.bytes=bytes) (hzs:z.cells.size=1)
  (v:Value) (n:Nat) (xs:List Value) (hs:a.eval s=v) (hown:W.ownsRow base e 1 v n xs)
  (m:Nat) (news:List Value) (hl:news.length=m) (h1:∀ u∈news,u.oneCell'=true) (q:Nat) (hq:q=W.heap.size) (hx:a.eval x=.slice (some ⟨q,0,none⟩) m m)
  (hbytes:(n+m)*(bytes+1)≤140737488355328) (hbase:base≤W.heap.size)
  (h:∀ v' w',w'.ownsRow base e 1 v' (n+m) (xs++news)→(W.alloc (.cells news.toArray e)).grownBy w' v.ownBlock→et W v v'→wpList P ops Q rest (a.put o.dst v') w') :
  wpList P ops Q (o::rest) a (W.alloc (.cells news.toArray e)):=by
 subst hq;have hb1:(n+m)*bytes≤140737488355328:=Nat.le_trans (Nat.mul_le_mul_left _ (by omega)) hbytes;have hb2:n+m≤maxLen:=by have:(n+m)*1≤(n+m)*(bytes+1):=Nat.mul_le_mul_left _ (by omega);unfold maxLen;omega
 refine wpList_append_own_at _ hgd s x t ho base e i z 1 bytes ht hi hz hsize hby hzs (by decide) v n xs hs (hown.alloc _) ⟨W.heap.size,0,none⟩ m m news hx (by omega) ?_ h1 hb2 hb1 (by simp;omega) ?_
 ·intro j u hu;rw[Addr.add_lit];have:=(ac.new W (.cells news.toArray e)).cells j;rw[Nat.zero_add,this];simpa using hu
 ·intro v' w' ho' hg _ hloc;refine h v' w' ho' hg (fun k hk=>?_);rcases hloc with e2|e2
  ·rw[e2]at hk;exact .inl hk
  ·rw[e2]at hk;injection hk with hk;simp at hk;right;omega
theorem qK(W:World)(base:Nat)(e:TypeId)(vs:List Value)(hb:base≤W.heap.size)(hl:vs.length≤maxLen):
  (W.alloc (.cells vs.toArray e)).ownsRow base e 1 (.slice (some ⟨W.heap.size,0,none⟩) vs.length vs.length) vs.length vs:=by
 refine⟨by omega,.inr ⟨W.heap.size,vs.length,vs.toArray,rfl,hb,ac.new _ _,Nat.le_refl _,hl,by simp,by simp⟩⟩

theorem dO{W:World}{base:Nat}{t:TypeId}{v:Value}{k:IntKind}{xs:List Int}(h:W.ownsRow base t 1 v xs.length (xs.map (.int k))):∃ p c,v=.slice p xs.length c∧xs.length≤c∧Arr k W p xs:=by
 have h':=h;rcases h.2 with⟨rfl,h2⟩|⟨g,cap,cur,rfl,hg,hh,hc,_⟩
 ·have:xs=[]:=List.eq_nil_of_length_eq_zero h2;subst this;exact⟨none,0,rfl,Nat.le_refl _,.inl rfl⟩
 ·refine⟨_,cap,rfl,hc,.inr ⟨g,0,rfl,(h'.lt g rfl).2,fun j hj=>?_⟩⟩;rw[Nat.zero_add,h'.cellAt _ (by omega)];simp[hj]

theorem Tryz.info3:(Tryz.prog.info? 3).map (fun i=>(i.zero,i.size,i.bytes))=some (some (.int .i64 0),1,8):=by kernel_rfl
section ops
variable {P:Program} {o:Oper} {a:Act} {w:World} {K:Act→World→Prop} {Q:Exit→Act→World→Prop} {t:Nat→Option Bool} {X:Prop}
theorem bV(hg:o.guard=none)(ty:TypeId)(ho:o.op=.alloc ty){r:Value}{w':World}(hr:(Instr.alloc ty true (.tuple #[])).run P w=.ok r w')(h:K (a.put o.dst r) w'):if Region.wanted o t=true then o.wp P a w K Q else X:=by refine bm hg ?_;unfold Oper.wp execOp;simp only[ho,Sem.run_bind,hr,Result.andThen_ok,Sem.run_pure];exact h
theorem mm(hg:o.guard=none)(ty:TypeId)(i1 i2:Nat)(x1 x2:Operand)(ho:o.op=.build ty #[(i1,x1),(i2,x2)]){v1 v2:Value}(h1:a.eval x1=v1)(h2:a.eval x2=v2){cs:Array Value}
  (hb:P.built ty [(i1,v1),(i2,v2)]=some cs) (h:K (a.put o.dst (.agg cs)) w):if Region.wanted o t=true then o.wp P a w K Q else X:=by
 refine bm hg ?_;have e:(#[(i1,x1),(i2,x2)].map fun(i,x)=>(i,a.eval x)).toList=[(i1,v1),(i2,v2)]:=by simp[h1,h2]
 refine wp_build ty _ ho (by rw[e,hb];rfl) ?_;rw[e,hb];exact h
theorem nl(hg:o.guard=none)(s x:Operand)(ty:TypeId)(ho:o.op=.call {callee:=.builtin .append,args:=#[s,x],argTypes:=#[ty,ty]})
  (base:Nat) (e:TypeId) (i:TypeInfo) (z:Value) (bytes:Nat) (ht:P.underlying ty=some (.slice e)) (hi:P.info? e=some i) (hz:i.zero=some z)
  (hsize:i.size=1) (hby:i.bytes=bytes) (hzs:z.cells.size=1) (k:IntKind) {p:Option Addr} {c:Nat} {xs:List Int}
  (hs:a.eval s=.slice none 0 0) (hx:a.eval x=.slice p xs.length c) (hp:p=none→c=0) (hA:Arr k w p xs)
  (hbytes:xs.length*(bytes+1)≤140737488355328) (hbase:base≤w.heap.size)
  (h:∀ v' w',w'.ownsRow base e 1 v' xs.length (xs.map (.int k))→Below w.heap.size w w'→(∀ b,v'.ownBlock=some b→w.heap.size≤b)→K (a.put o.dst v') w'):if Region.wanted o t=true then o.wp P a w K Q else X:=by
 have hown:w.ownsRow base e 1 (.slice none 0 0) 0 []:=World.ownsRow_nil _ _ _ _;rcases p with _|ad
 ·rcases hA with rfl|⟨b,o',e',_⟩
  ·rw[hp rfl]at hx;refine bm hg ?_;have hr:=run_append_owned_none (P:=P) (w:=w) base ty o.type e i 1 ht hi (.slice none 0 0) 0 [] hown;unfold Oper.wp execOp;have hx':a.eval x=.slice none 0 0:=hx;simp only[ho,resolve,invoke,builtin,Sem.run_bind,Sem.run_pure,Result.andThen_ok,List.map_toArray,List.map_cons,List.map_nil,hs,hx',hr];exact h _ _ hown (Below.refl _ _) (fun b e=>by cases e)
  ·cases e'
 ·refine mq hg s x ty ho base e i z 1 bytes ht hi hz hsize hby hzs (by decide) _ 0 [] hs hown ad xs.length c (xs.map (.int k)) hx (by simp) ?_ ?_ (by rw[Nat.zero_add];exact hbytes) hbase ?_
  ·intro j u hu;have hj:j<xs.length:=by have:=(List.getElem?_eq_some_iff.1 hu).1;simpa using this
   obtain⟨b,o',e',hb,hc⟩:=hA.at (i:=j) hj;injection e' with e';subst e';rw[Addr.add_lit,hc j hj];simp[hj]at hu ⊢;exact hu
  ·intro u hu;obtain⟨y,_,rfl⟩:=List.mem_map.1 hu;rfl
  ·intro v' w' h1 h2 h3;refine h v' w' (by simpa using h1) ((Below.refl w.heap.size w).grown h2 (Nat.le_refl _) (fun j e=>by cases e)) (fun b e=>?_);rcases h3 with h3|h3
   ·rw[h3]at e;cases e
   ·rw[h3]at e;injection e with e;omega
theorem gd(hw:Region.wanted o t=true)(h:if Region.wanted {o with guard:=none} t=true then({o with guard:=none}:Oper).wp P a w K Q else X):if Region.wanted o t=true then o.wp P a w K Q else X:=by rw[if_pos hw];rw[if_pos (show Region.wanted {o with guard:=none} t=true from rfl)]at h;exact h
theorem rD(hg:o.guard=none)(f1 t1:TypeId)(x:Operand)(ho:o.op=.convert f1 t1 x){v u:Value}(hx:a.eval x=v)(hr:(convert f1 t1 v).run P w=.ok u w)(h:K (a.put o.dst u) w):if Region.wanted o t=true then o.wp P a w K Q else X:=by refine bm hg ?_;unfold Oper.wp execOp;simp only[ho,hx,Sem.run_bind,hr,Result.andThen_ok,Sem.run_pure];exact h
theorem cx(hg:o.guard=none)(c x y:Operand)(ho:o.op=.pick c x y){v:Value}(hc:a.eval c=.bool true)(hx:a.eval x=v)(h:K (a.put o.dst v) w):if Region.wanted o t=true then o.wp P a w K Q else X:=by refine bm hg ?_;unfold Oper.wp execOp;simp only[ho,hc,asBool,hx,Sem.run_bind,Sem.run_pure,Result.andThen_ok,if_true];exact h
theorem aK(hg:o.guard=none)(b:BinOp)(t1 t2:TypeId)(x y:Operand)(ho:o.op=.binOp b t1 x y t2){v1 v2 u:Value}(hx:a.eval x=v1)(hy:a.eval y=v2)(hq:(eqGuard b t1 x y v1 v2).run P w=.ok () w)(hr:(binOp b t1 v1 v2).run P w=.ok u w)(h:K (a.put o.dst u) w):if Region.wanted o t=true then o.wp P a w K Q else X:=by refine bm hg ?_;unfold Oper.wp execOp;simp only[ho,hx,hy,hq,hr,Sem.run_bind,Sem.run_pure,Result.andThen_ok];exact h
theorem aT(hg:o.guard=none)(ty:TypeId)(x y:Operand)(ho:o.op=.indexAddr ty x y){v u r:Value}(hx:a.eval x=v)(hy:a.eval y=u)(hr:(Instr.indexAt ty v u).run P w=.ok r w)(h:K (a.put o.dst r) w):if Region.wanted o t=true then o.wp P a w K Q else X:=by refine bm hg ?_;unfold Oper.wp execOp;simp only[ho,hx,hy,Sem.run_bind,hr,Result.andThen_ok,Sem.run_pure];exact h
theorem ee(hg:o.guard=none)(fid:Nat)(x y z:Operand)(ts:Array TypeId)(ho:o.op=.call {callee:=.value (.func fid),args:=#[x,y,z],argTypes:=ts}){v u r:Value}(hx:a.eval x=v)(hy:a.eval y=u)(hz:a.eval z=r)
  (he:∀ args w,(callFunc fid args).run P w=.ok (.enter fid args) w) {R:Ending→World→Prop} (hc:Calls P fid #[v,u,r] w R) (hret:∀ u w',R (.returned u) w'→K (a.put o.dst u) w') (hpan:∀ ch w',R (.panicked ch) w'→Q (.panic ch) a w') (hout:∀ w',¬R .outgrown w') :
  if Region.wanted o t=true then o.wp P a w K Q else X:=by
 refine bm hg ?_;have hr:(execOp a.eval o).run P w=.ok (.enter fid #[v,u,r]) w:=by have hf:a.eval (.func fid)=.func (.func fid) #[] #[]:=rfl;unfold execOp;simp[ho,resolve,hf,hx,hy,hz,Deferred.ofValue,invoke,he]
 unfold Oper.wp;rw[hr,Oper.upon_enter];refine hc.mono ?_;intro e w' h;cases e with
 | returned u=>exact hret u w' h
 | panicked ch=>exact hpan ch w' h
 | outgrown=>exact absurd h (hout w')
theorem js(hg:o.guard=none)(p1:UnOp)(ty:TypeId)(x:Operand)(ho:o.op=.unOp p1 ty x){v u:Value}(hx:a.eval x=v)(hr:(Op.unary p1 v).run P w=.ok u w)(h:K (a.put o.dst u) w):if Region.wanted o t=true then o.wp P a w K Q else X:=by refine bm hg ?_;unfold Oper.wp execOp;simp only[ho,hx,Sem.run_bind,hr,Result.andThen_ok,Sem.run_pure];exact h
theorem fN(hg:o.guard=none)(c x y:Operand)(ho:o.op=.pick c x y){v:Value}(hc:a.eval c=.bool false)(hx:a.eval y=v)(h:K (a.put o.dst v) w):if Region.wanted o t=true then o.wp P a w K Q else X:=by refine bm hg ?_;unfold Oper.wp execOp;simp only[ho,hc,asBool,hx,Sem.run_bind,Sem.run_pure,Result.andThen_ok,Bool.false_eq_true,if_false];exact h
theorem bt(hw:Region.wanted o t=false)(h:X):if Region.wanted o t=true then o.wp P a w K Q else X:=by rw[if_neg (by rw[hw];simp)];exact h
theorem lg(hg:o.guard=none)(x:Operand)(ty:TypeId)(ho:o.op=.call {callee:=.builtin .len,args:=#[x],argTypes:=#[ty]}){e:TypeId}(ht:P.underlying ty=some (.slice e)){p:Option Addr}{n c:Nat}(hx:a.eval x=.slice p n c)(h:K (a.put o.dst (.int .i64 n)) w):if Region.wanted o t=true then o.wp P a w K Q else X:=by refine bm hg ?_;unfold Oper.wp execOp;simp only[ho,resolve,invoke,builtin,Sem.run_bind,Sem.run_pure,Result.andThen_ok,List.map_toArray,List.map_cons,List.map_nil,hx,Builtin.len_,List.getElem?_toArray,List.getElem?_cons_zero,run_underlying ht,goInt];exact h
end ops
theorem t8{o:Oper}{ops:Array Oper}{ds:List (Option Tmp)}{f:Nat→Value}{a:Act}(hok:bn ds=true)(j:Nat)(want:Bool)(tm:Tmp)(hgu:o.guard=some (j,want))(hd:(ops[j]?).bind (·.dst)=some tm)(hi:ds[j]? = some (some tm))(hs:tm<a.tmps.size)(hf:f j=.bool want):
  Region.wanted o (yielded ops (ao ds f 0 a).tmps)=true:=by
 have h1:=ck (f:=f) hok j hi hs hf;have h2:(ao ds f 0 a).tmps[tm]? = some (.bool want):=by
  rw[Array.getD_eq_getD_getElem?]at h1;rcases h:(ao ds f 0 a).tmps[tm]? with _|u
  ·rw[h]at h1;cases h1
  ·rw[h]at h1;exact congrArg some h1
 have hd':(Option.bind (ops[j]?) fun x=>x.dst)=some tm:=hd;have hy:yielded ops (ao ds f 0 a).tmps j=some want:=by unfold yielded;rw[hd',Option.bind_some,h2]
 unfold Region.wanted;rw[hgu];simp only[hy,beq_self_eq_true]
theorem pM{o:Oper}{ops:Array Oper}{ds:List (Option Tmp)}{f:Nat→Value}{a:Act}(hok:bn ds=true)(j:Nat)(want b:Bool)(tm:Tmp)(hgu:o.guard=some (j,want))(hd:(ops[j]?).bind (·.dst)=some tm)(hi:ds[j]? = some (some tm))(hs:tm<a.tmps.size)(hf:f j=.bool b)(hb:b≠want):
  Region.wanted o (yielded ops (ao ds f 0 a).tmps)=false:=by
 have h1:=ck (f:=f) hok j hi hs hf;have h2:(ao ds f 0 a).tmps[tm]? = some (.bool b):=by
  rw[Array.getD_eq_getD_getElem?]at h1;rcases h:(ao ds f 0 a).tmps[tm]? with _|u
  ·rw[h]at h1;cases h1
  ·rw[h]at h1;exact congrArg some h1
 have hd':(Option.bind (ops[j]?) fun x=>x.dst)=some tm:=hd;have hy:yielded ops (ao ds f 0 a).tmps j=some b:=by unfold yielded;rw[hd',Option.bind_some,h2]
 unfold Region.wanted;rw[hgu];simp only[hy];cases b<;>cases want<;>simp_all
theorem uw{o:Oper}{ops:Array Oper}{ds:List (Option Tmp)}{f:Nat→Value}{a:Act}{i j:Nat}{want b:Bool}{tm:Tmp}(ho:ops[i]? = some o)(hf:f j=.bool b)(hgu:(ops[i]?).map (·.guard)=some (some (j,want)):=by rfl)(hd:(ops[j]?).bind (·.dst)=some tm:=by rfl)(hok:bn ds=true:=by rfl)(hi:ds[j]? = some (some tm):=by rfl)(hs:tm<a.tmps.size:=by simp)(hb:b≠want:=by decide):
  Region.wanted o (yielded ops (ao ds f 0 a).tmps)=false:=pM hok j want b tm (og ho hgu) hd hi hs hf hb
theorem wo{o:Oper}{ops:Array Oper}{ds:List (Option Tmp)}{f:Nat→Value}{a:Act}{i j:Nat}{want:Bool}{tm:Tmp}(ho:ops[i]? = some o)(hf:f j=.bool want)(hgu:(ops[i]?).map (·.guard)=some (some (j,want)):=by rfl)(hd:(ops[j]?).bind (·.dst)=some tm:=by rfl)(hok:bn ds=true:=by rfl)(hi:ds[j]? = some (some tm):=by rfl)(hs:tm<a.tmps.size:=by simp):
  Region.wanted o (yielded ops (ao ds f 0 a).tmps)=true:=t8 hok j want tm (og ho hgu) hd hi hs hf
theorem rj(b:Bool)(W:World):(Op.unary .not (.bool b)).run Tryz.prog W=.ok (.bool (!b)) W:=by simp[go_sem]
theorem xI(x y:Int)(W:World):(binOp .sub 3 (.int .i64 x) (.int .i64 y)).run Tryz.prog W=.ok (.int .i64 (IntKind.i64.wrap (x-y))) W:=by simp[go_sem]
theorem ym(x y:Int)(W:World):(binOp .add 3 (.int .i64 x) (.int .i64 y)).run Tryz.prog W=.ok (.int .i64 (IntKind.i64.wrap (x+y))) W:=by simp[go_sem]
theorem ya(x y:Int)(W:World):(binOp .mul 3 (.int .i64 x) (.int .i64 y)).run Tryz.prog W=.ok (.int .i64 (IntKind.i64.wrap (x*y))) W:=by simp[go_sem]
theorem xi(x y:Int)(W:World):(binOp .eql 3 (.int .i64 x) (.int .i64 y)).run Tryz.prog W=.ok (.bool (x==y)) W:=by simp[go_sem]
theorem yb(x y:Int)(W:World):(binOp .neq 3 (.int .i64 x) (.int .i64 y)).run Tryz.prog W=.ok (.bool (x != y)) W:=by simp[go_sem]
theorem rc(x y:Int)(W:World):(binOp .gtr 3 (.int .i64 x) (.int .i64 y)).run Tryz.prog W=.ok (.bool (decide (y<x))) W:=by simp[go_sem]
theorem vG(x y:Int)(W:World):(binOp .or 64 (.int .u64 x) (.int .u64 y)).run Tryz.prog W=.ok (.int .u64 (bits .or .u64 x y)) W:=by simp[go_sem]
theorem bM(b:BinOp)(t:TypeId)(x y:Operand)(k:IntKind)(u v:Int)(W:World):(eqGuard b t x y (.int k u) (.int k v)).run Tryz.prog W=.ok () W:=by unfold eqGuard;cases b<;>simp[go_sem]
theorem iM(f r:Int)(p:Option Addr)(c:Nat)(xs:List Int)(w:World)(hx:Arr .i8 w p xs):
  Clz 73 #[.agg (ar f r p xs.length c).toArray] w fun e w'=>e=.returned (.bool (aL f r xs))∧Below w.heap.size w w':=by
 have hb:=ae w (.cells (ar f r p xs.length c).toArray 68);have hA:=ac.new w (.cells (ar f r p xs.length c).toArray 68);go_enter Tryz.func73,Tryz.ntmps73;go_wp2_with fail;refine(pQ f r _).mono ?_;rintro e w1 ⟨rfl,hb1⟩;have hb':=zbc hb hb1;have hA1:=hA.call hb1;have⟨hc1,hl1⟩:=hA1.cl;rcases hs:bR f r with _|_
 ·have e0:=zhd (iP (xs:=xs) hs);have e2:dW f r=(0,2):=by simp[dW,hs]
  rw[e2];go_wp2_with fail;go_ret;exact⟨by rw[e0.out];rfl,hb'⟩
 ·have hm:=cM hs;have e2:dW f r=(f*r,0):=by simp[dW,hs]
  rw[e2];by_cases hlen:(xs.length:Int)=f*r
  ·have hlen64:xs.length≤64:=by omega
   have hx1:=hx.call hb';have hb2:(((xs.length:Int))==f*r)=true:=by rw[hlen];simp
   clear e2;replace hlen:=zhd hlen;replace hs:=zhd hs;clear hA hb hx;go_wp2_with fail;refine(jF 134 iY (fun _ _=>rfl) rY p c xs w1 hx1 (by omega)).mono ?_;rintro e w2 ⟨rfl,hb3⟩;have e0:Hid (aL f r xs=!xs.any iY):=zhd (by
    have:(!xs.any iY)=xs.all pOk:=by rw[List.any_eq_not_all_not];simp[iY]
    rw[this];simp[aL,hs.out,hlen.out])
   go_wp2_with fail;go_ret;exact⟨aV e0.out.symm,zbc hb' hb3⟩
  ·have e0:=zhd (lu hlen);have hb2:(((xs.length:Int))==f*r)=false:=by simp[hlen]
   clear e2;replace hs:=zhd hs;clear hA hb hx;go_wp2_with fail;go_ret;exact⟨by rw[e0.out];rfl,hb'⟩
theorem ji(f r:Int)(p:Option Addr)(c:Nat)(xs:List Int)(w:World)(hx:Arr .i8 w p xs):
  Clz 123 #[.agg (ar f r p xs.length c).toArray] w fun e w'=>e=.returned (.bool (aF f r xs))∧Below w.heap.size w w':=by
 have hb:=ae w (.cells (ar f r p xs.length c).toArray 68);have hA:=ac.new w (.cells (ar f r p xs.length c).toArray 68);have⟨hc0,hl0⟩:=hA.cl;go_enter Tryz.func123,Tryz.ntmps123;go_wp2_with fail;refine(iM f r p c xs _ (hx.call hb)).mono ?_;rintro e w1 ⟨rfl,hb1⟩;have hb':=zbc hb hb1;have hA1:=hA.call hb1;have⟨hc1,hl1⟩:=hA1.cl;rcases hs:aL f r xs with _|_
 ·have e0:Hid (aF f r xs=false):=zhd (by simp[aF,hs]);go_wp2_with fail;go_ret;exact⟨by rw[e0.out];rfl,hb'⟩
 ·obtain⟨hs1,hlen,hall⟩:=cK hs;have hm:=cM hs1;have hlen64:xs.length≤64:=by omega
  have hx1:=hx.call hb';clear hA hb hx hc0 hl0 hs1 hlen hm hall;go_wp2_with fail;refine(jF 173 gb (fun _ _=>rfl) vm p c xs w1 hx1 (by omega)).mono ?_;rintro e w2 ⟨rfl,hb3⟩;have e0:Hid (aF f r xs=!xs.any gb):=zhd (by
   have:(!xs.any gb)=xs.all orB:=by rw[List.any_eq_not_all_not];simp[xj]
   rw[this];simp[aF,hs])
  go_wp2_with fail;go_ret;exact⟨aV e0.out.symm,zbc hb' hb3⟩
abbrev aa(f r:Int)(p:Option Addr)(n c:Nat)(bl:Bool)(ca pa ha fu:Int):List Value:=[.int .i64 f,.int .i64 r,.slice p n c,.bool bl,.int .u8 ca,.int .i64 pa,.int .i64 ha,.int .i64 fu]
theorem cX(f r ca pa ha fu:Int)(bl:Bool)(p:Option Addr)(n c:Nat)(w:World):
  Clz 35 #[.agg (aa f r p n c bl ca pa ha fu).toArray] w fun e w'=>e=.returned (.agg (ar f r p n c).toArray)∧Below w.heap.size w w':=by
 have hA:=ac.new w (.cells (aa f r p n c bl ca pa ha fu).toArray 26);have hB:=hA.alloc (.cells #[.int .i64 0,.int .i64 0,.slice none 0 0] 68);have hC:=ac.new' (w.alloc (.cells (aa f r p n c bl ca pa ha fu).toArray 26)) (.cells #[.int .i64 0,.int .i64 0,.slice none 0 0] 68) (q:=w.heap.size+1) (by simp);have hD:=ac.new' (w.alloc (.cells (aa f r p n c bl ca pa ha fu).toArray 26)) (.cells (ar f r p n c).toArray 68) (q:=w.heap.size+1) (by simp);have hb:=(ae w (.cells (aa f r p n c bl ca pa ha fu).toArray 26)).alloc (by simp) (.cells (ar f r p n c).toArray 68);have⟨hc0,hl0⟩:=hB.cl;have hl1:=hC.lt;go_enter Tryz.func35,Tryz.ntmps35;go_wp2_with fail;refine bodyPost_ret (bg (fn:=Tryz.f35) Tryz.results35 rfl hD (by kernel_rfl)) rfl ?_;exact⟨rfl,hb⟩

def setW(g:Int→Bool)(xs:List Int):Nat→Nat
 | 0=>0
 | k+1=>if g (xs[k]?.getD 0)then setW g xs k|||2^k else setW g xs k
theorem ek(g:Int→Bool)(xs:List Int){k:Nat}(hk:k≤64):setW g xs k<18446744073709551616:=by
 have h:∀ k,setW g xs k<2^k:=by
  intro k;induction k with
  | zero=>simp[setW]
  | succ k ih =>
   have h2:setW g xs k<2^(k+1):=Nat.lt_of_lt_of_le ih (Nat.pow_le_pow_right (by decide) (by omega));simp only[setW];split
   ·exact Nat.or_lt_two_pow h2 (Nat.pow_lt_pow_right (by decide) (by omega))
   ·exact h2
 exact Nat.lt_of_lt_of_le (h k) (Nat.pow_le_pow_right (n:=2) (by decide) hk)
theorem setW_bit(g:Int→Bool)(xs:List Int)(k i:Nat):(setW g xs k).testBit i=(decide (i<k)&&g (xs[i]?.getD 0)):=by
 induction k with
 | zero=>simp[setW]
 | succ k ih =>
  simp only[setW];by_cases hg:g (xs[k]?.getD 0)=true
  ·rw[if_pos hg,Nat.testBit_or,ih,Nat.testBit_two_pow];by_cases e:k=i
   ·subst e;simp[hg]
   ·have:decide (i<k+1)=decide (i<k):=by congr 1;simp;omega
    simp[e,this]
  ·rw[if_neg hg,ih];by_cases e:k=i
   ·subst e;simp[hg]
   ·have:decide (i<k+1)=decide (i<k):=by congr 1;simp;omega
    rw[this]
theorem qP{i:Nat}(hi:i<64):IntKind.u64.wrap (2^i)=((2^i:Nat):Int):=by
 have h:(2^i:Nat)<18446744073709551616:=Nat.pow_lt_pow_right (n:=64) (by decide) hi;have h2:((2:Int)^i)=((2^i:Nat):Int):=by simp
 obtain⟨n,hn⟩:∃ n:Nat,n=2^i:=⟨_,rfl⟩;rw[h2,←hn];rw[←hn]at h;simp only[IntKind.wrap,IntKind.bits,IntKind.signed];simp;omega
theorem fp{a i:Nat}(ha:a<18446744073709551616)(hi:i<64):bits .or .u64 (a:Int) (IntKind.u64.wrap (2^i))=((a|||2^i:Nat):Int):=by have h:(2^i:Nat)<18446744073709551616:=Nat.pow_lt_pow_right (n:=64) (by decide) hi;rw[qP hi,u64_or_nat _ _ ha h]
def whR(w:World)(g:Int→Bool)(xs:List Int)(i:Nat)(sv iv:Value)(wr:World):Prop :=
 i≤xs.length∧iv=.int .i64 i∧sv=.int .u64 (setW g xs i:Nat)∧Below w.heap.size w wr
theorem mJ(fn:Nat)(g:Int→Bool)(hcf:∀ args w,(callFunc fn args).run Tryz.prog w=.ok (.enter fn args) w)(hf:∀ x w,Clz fn #[.int .i8 x] w fun e w'=>e=.returned (.bool (g x))∧w=w')
  (f r:Int) (p:Option Addr) (c:Nat) (xs:List Int) (w:World) (hx:Arr .i8 w p xs) (hl:xs.length≤64) :
  Clz 83 #[.agg (ar f r p xs.length c).toArray,.func (.func fn) #[] #[]] w fun e w'=>e=.returned (.int .u64 (setW g xs xs.length:Nat))∧Below w.heap.size w w':=by
 have hb:=ae w (.cells (ar f r p xs.length c).toArray 68);have hA:=ac.new w (.cells (ar f r p xs.length c).toArray 68);have⟨hc0,hl0⟩:=hA.cl;go_enter Tryz.func83,Tryz.ntmps83;go_wp2_with fail;go_loopg [5,11] 65 (fun q sv iv wr=>∃ i:Nat,q+i=65∧whR w g xs i sv iv wr)
 case atStart=>exact⟨0,rfl,Nat.zero_le _,rfl,rfl,hb⟩
 case round =>
  obtain⟨i,hq,hi,rfl,rfl,hbr⟩:=hrel;by_cases hlt:i<xs.length
  ·have hii:(i:Int)<xs.length:=by omega
   obtain⟨b,o,rfl,hbl,hc⟩:=(hx.call hbr).at hlt;have hci:=hc i hlt;obtain⟨x,hxv⟩:∃ x,x=xs[i]?.getD 0:=⟨_,rfl⟩;rw[←hxv]at hci;replace hxv:=zhd hxv;clear hc hc0;go_wp2_with fail;refine(hf _ _).mono ?_;rintro e w1 ⟨rfl,rfl⟩;rcases hbd:g x with _|_
   ·go_wp2_with fail;go_roundg (gk-1)
    case measure=>omega
    case rel=>exact⟨i+1,by omega,by omega,by go_num,by simp only[setW,←hxv.out,hbd];rfl,hbr⟩
   ·have hi64:i<64:=by omega
    go_wp2_with fail;go_roundg (gk-1)
    case measure=>omega
    case rel=>exact⟨i+1,by omega,by omega,by go_num,by rw[fp (ek g xs (by omega)) hi64];simp only[setW,←hxv.out,hbd];rfl,hbr⟩
  ·have hii:¬(i:Int)<xs.length:=by omega
   obtain rfl:i=xs.length:=by omega
   go_wp2_with fail;go_ret;exact⟨rfl,hbr⟩
def gPos(x:Int):Bool:=decide (0<x)
def gNeg(x:Int):Bool:=decide (x<0)
def gNon(x:Int):Bool:=!decide (x=0)
theorem vx(x:Int)(w:World):Clz 84 #[.int .i8 x] w fun e w'=>e=.returned (.bool (gPos x))∧w=w':=by go_enter Tryz.func84,Tryz.ntmps84;go_wp2_with fail;go_ret;exact⟨rfl,rfl⟩
theorem vL(x:Int)(w:World):Clz 85 #[.int .i8 x] w fun e w'=>e=.returned (.bool (gNeg x))∧w=w':=by go_enter Tryz.func85,Tryz.ntmps85;go_wp2_with fail;go_ret;exact⟨rfl,rfl⟩
theorem lR(xs:List Int)(k:Nat):setW gPos xs k|||setW gNeg xs k=setW gNon xs k:=by
 apply Nat.eq_of_testBit_eq
 intro i;rw[Nat.testBit_or,setW_bit,setW_bit,setW_bit];by_cases h:i<k
 ·simp only[h,decide_true,Bool.true_and,gPos,gNeg,gNon];by_cases h1:xs[i]?.getD 0=0
  ·simp[h1]
  ·by_cases h2:0<xs[i]?.getD 0
   ·simp[h1,h2]
   ·have:xs[i]?.getD 0<0:=by omega
    simp[h1,this]
 ·simp[h]
theorem jj(f r:Int)(p:Option Addr)(c:Nat)(xs:List Int)(w:World)(hx:Arr .i8 w p xs)(hok:aL f r xs=true):
  Clz 28 #[.agg (ar f r p xs.length c).toArray] w fun e w'=>e=.returned (.tuple #[.int .u64 (setW gPos xs xs.length:Nat),.int .u64 (setW gNeg xs xs.length:Nat),.int .i64 0])∧Below w.heap.size w w':=by
 obtain⟨hs1,hlen,_⟩:=cK hok;have hm:=cM hs1;have hl:xs.length≤64:=by omega
 have hb:=ae w (.cells (ar f r p xs.length c).toArray 68);have hA:=ac.new w (.cells (ar f r p xs.length c).toArray 68);have⟨hc0,hl0⟩:=hA.cl;clear hs1 hlen hm;go_enter Tryz.func28,Tryz.ntmps28;go_wp2_with fail;refine(iM f r p c xs _ (hx.call hb)).mono ?_;rintro e w1 ⟨rfl,hb1⟩;have hb':=zbc hb hb1;have hx1:=hx.call hb';have hA1:=hA.call hb1;clear hA hb hx hc0 hl0;rw[hok];go_wp2_with fail;refine bG (by kernel_rfl) (by kernel_rfl) [some 8,some 9,some 10,some 11,some 2,some 3,some 4] (by rfl) (by rfl) (fun i=>match i with|0=>.agg (ar f r p xs.length c).toArray|1=>.int .u64 (setW gPos xs xs.length:Nat)|2=>.agg (ar f r p xs.length c).toArray|3=>.int .u64 (setW gNeg xs xs.length:Nat)|4=>.int .u64 (setW gPos xs xs.length:Nat)|5=>.int .u64 (setW gNeg xs xs.length:Nat)|6=>.int .i64 0|_=>undef) (fun W=>Below w1.heap.size w1 W) (Below.refl _ _).drew ?hstep ?hend
 case hstep =>
  intro i9 o9 f9 W ho hi hC hf K hK;have hi:i9<7:=hi;rcases i9 with _|_|_|_|_|_|_|i9
  ·exact ay (og ho) 68 (.tmp 1) (oo ho) (ah rfl rfl) (ar f r p xs.length c) (by kernel_rfl) (fun j v hv=>by rw[Nat.zero_add,(hA1.call hC).cells j];simpa using hv) (hK _ hC)
  ·exact aH (og ho) 83 (.tmp 8) (.func 84) #[68,117] (oo ho) (ri 0 (da ho hf 0)) rfl (fun _ _=>rfl) (mJ 84 gPos (fun _ _=>rfl) vx f r p c xs W (hx1.call hC) hl) (by rintro u w9 ⟨h9,hb9⟩;injection h9 with h9;subst h9;exact hK _ (zbc hC hb9)) (fun _ _ h=>nomatch h.1) (fun _ h=>nomatch h.1)
  ·exact ay (og ho) 68 (.tmp 1) (oo ho) (ah rfl rfl) (ar f r p xs.length c) (by kernel_rfl) (fun j v hv=>by rw[Nat.zero_add,(hA1.call hC).cells j];simpa using hv) (hK _ hC)
  ·exact aH (og ho) 83 (.tmp 10) (.func 85) #[68,117] (oo ho) (ri 2 (da ho hf 2)) rfl (fun _ _=>rfl) (mJ 85 gNeg (fun _ _=>rfl) vL f r p c xs W (hx1.call hC) hl) (by rintro u w9 ⟨h9,hb9⟩;injection h9 with h9;subst h9;exact hK _ (zbc hC hb9)) (fun _ _ h=>nomatch h.1) (fun _ h=>nomatch h.1)
  ·exact aE (og ho) (.tmp 9) (oo ho) (ri 1 (da ho hf 1)) (hK _ hC)
  ·exact aE (og ho) (.tmp 11) (oo ho) (ri 3 (da ho hf 3)) (hK _ hC)
  ·exact aE (og ho) (.const (.int .i64 0)) (oo ho) rfl (hK _ hC)
  ·omega
 case hend=>intro W hC;go_wp2_with fail;refine bodyPost_ret (results_tmp3 (fn:=Tryz.f28) Tryz.results28 _ _ _) (by rw[ce]) ?_;refine⟨?_,zbc hb' hC⟩;rw[ck rfl 4 rfl (by simp) rfl,ck rfl 5 rfl (by simp) rfl,ck rfl 6 rfl (by simp) rfl];rfl
theorem nu(f r:Int)(p:Option Addr)(c:Nat)(xs:List Int)(w:World)(hx:Arr .i8 w p xs)(hok:aL f r xs=true):
  Clz 175 #[.agg (ar f r p xs.length c).toArray] w fun e w'=>e=.returned (.int .u64 (setW gNon xs xs.length:Nat))∧Below w.heap.size w w':=by
 obtain⟨hs1,hlen,_⟩:=cK hok;have hm:=cM hs1;have hl:xs.length≤64:=by omega
 have hb:=ae w (.cells (ar f r p xs.length c).toArray 68);have hA:=ac.new w (.cells (ar f r p xs.length c).toArray 68);have⟨hc0,hl0⟩:=hA.cl;have e1:bits .or .u64 (setW gPos xs xs.length:Nat) (setW gNeg xs xs.length:Nat)=((setW gNon xs xs.length:Nat):Int):=by rw[u64_or_nat _ _ (ek _ _ hl) (ek _ _ hl),lR]
 clear hs1 hlen hm;go_enter Tryz.func175,Tryz.ntmps175;go_wp2_with fail;refine(jj f r p c xs _ (hx.call hb) hok).mono ?_;rintro e w1 ⟨rfl,hb1⟩;have hb':=zbc hb hb1;go_wp2_with fail;go_ret;exact⟨by rw[←e1];rfl,hb'⟩

def idxs(g:Int→Bool)(xs:List Int):Nat→List Int
 | 0=>[]
 | k+1=>if g (xs[k]?.getD 0)then idxs g xs k++[(k:Int)]else idxs g xs k
theorem ff(g:Int→Bool)(xs:List Int)(k:Nat):(idxs g xs k).length≤k:=by
 induction k with
 | zero=>simp[idxs]
 | succ k ih =>
  simp only[idxs];split
  ·simp;omega
  ·omega
def lsR(w:World)(g:Int→Bool)(xs:List Int)(i:Nat)(sv iv:Value)(wr:World):Prop :=
 i≤xs.length∧iv=.int .i64 i∧wr.ownsRow w.heap.size 3 1 sv (idxs g xs i).length ((idxs g xs i).map (.int .i64))∧Below w.heap.size w wr
theorem pU(f r x:Int)(p:Option Addr)(c:Nat)(xs:List Int)(w:World)(hx:Arr .i8 w p xs)(hl:xs.length≤64):
  Clz 98 #[.agg (ar f r p xs.length c).toArray,.int .i8 x] w fun e w'=>(∃ v,e=.returned v∧w'.ownsRow w.heap.size 3 1 v (idxs (·==x) xs xs.length).length ((idxs (·==x) xs xs.length).map (.int .i64)))∧Below w.heap.size w w':=by
 obtain⟨i3,hi3,hz3,hs3,hy3⟩:=info_parts Tryz.info3;have hb:=ae w (.cells (ar f r p xs.length c).toArray 68);have hA:=ac.new w (.cells (ar f r p xs.length c).toArray 68);go_enter Tryz.func98,Tryz.ntmps98;go_wp2_with fail;show Code.wp _ _ _ _ (w.alloc (.cells (ar f r p xs.length c).toArray 68));obtain⟨w1,hw1⟩:∃ x,x=w.alloc (.cells (ar f r p xs.length c).toArray 68):=⟨_,rfl⟩;have hx1:=hx.call hb;rw[←hw1]at hA hb hx1 ⊢;clear hw1 hx;go_loopg [5,6] 65 (fun q sv iv wr=>∃ i:Nat,q+i=65∧lsR w1 (·==x) xs i sv iv wr)
 case atStart=>exact⟨0,rfl,⟨Nat.zero_le _,rfl,World.ownsRow_nil _ _ _ _,Below.refl _ _⟩⟩
 case round =>
  obtain⟨i,hq,⟨hi,rfl,hown,hbr⟩⟩:=hrel;have hcr:=(hA.call hbr).cells;have hlr:=(hA.call hbr).lt;by_cases hlt:i<xs.length
  ·have hii:(i:Int)<xs.length:=by omega
   obtain⟨b,o,rfl,hbl,hc⟩:=(hx1.call hbr).at hlt;have hci:=hc i hlt;obtain⟨y,hyv⟩:∃ y,y=xs[i]?.getD 0:=⟨_,rfl⟩;rw[←hyv]at hci;have hlen:=ff (·==x) xs i;have hnx:idxs (·==x) xs (i+1)=if(·==x) y then idxs (·==x) xs i++[(i:Int)]else idxs (·==x) xs i:=by rw[hyv];rfl
   replace hyv:=zhd hyv;clear hc;rcases hyx:(y==x)with _|_
   ·replace hnx:idxs (·==x) xs (i+1)=idxs (·==x) xs i:=by rw[hnx,if_neg (by simp;simpa using hyx)]
    replace hnx:=zhd hnx;go_wp2_with fail;go_roundg (gk-1)
    case measure=>omega
    case rel=>exact⟨i+1,by omega,⟨by omega,by go_num,by rw[hnx.out];exact hown,hbr⟩⟩
   ·replace hnx:idxs (·==x) xs (i+1)=idxs (·==x) xs i++[(i:Int)]:=by rw[hnx,if_pos (by simpa using hyx)]
    replace hnx:=zhd hnx;go_wp2_with (at_builtin;refine bD rfl (.tmp 21) (.tmp 23) 136 rfl w1.heap.size 3 i3 (.int .i64 0) 8 Tryz.underlying136 hi3 hz3 hs3 hy3 rfl _ (idxs (·==x) xs i).length ((idxs (·==x) xs i).map (.int .i64)) rfl hown 1 [.int .i64 (i:Int)] rfl (by intro u hu;simp at hu;subst hu;rfl) _ rfl rfl (by omega) hbr.size ?_);intro v' w9 hown9 hg9 _;have hb9:=(hbr.alloc hbr.size (.cells #[.int .i64 (i:Int)] 3)).grown hg9 (Nat.le_trans hbr.size (by simp)) (fun j e=>(hown.lt j e).1);replace hown9:w9.ownsRow w1.heap.size 3 1 v' (idxs (·==x) xs (i+1)).length ((idxs (·==x) xs (i+1)).map (.int .i64)):=by rw[hnx.out];simpa using hown9
    clear hown hg9;go_wp2_with fail;go_roundg (gk-1)
    case measure=>omega
    case rel=>exact⟨i+1,by omega,⟨by omega,by go_num,hown9,hb9⟩⟩
  ·have hii:¬(i:Int)<xs.length:=by omega
   obtain rfl:i=xs.length:=by omega
   go_wp2_with fail;go_ret;exact⟨⟨_,rfl,bC hown hb.size⟩,zbc hb hbr⟩
theorem fL(f r d:Int)(p:Option Addr)(c:Nat)(xs:List Int)(w:World)(hx:Arr .i8 w p xs)(hl:xs.length≤64):
  Clz 158 #[.agg (ar f r p xs.length c).toArray,.int .i64 d] w fun e w'=>(∃ v,e=.returned v∧w'.ownsRow w.heap.size 3 1 v (idxs (fun z=>sgnI z==d) xs xs.length).length ((idxs (fun z=>sgnI z==d) xs xs.length).map (.int .i64)))∧Below w.heap.size w w':=by
 obtain⟨i3,hi3,hz3,hs3,hy3⟩:=info_parts Tryz.info3;have hb:=ae w (.cells (ar f r p xs.length c).toArray 68);have hA:=ac.new w (.cells (ar f r p xs.length c).toArray 68);go_enter Tryz.func158,Tryz.ntmps158;go_wp2_with fail;show Code.wp _ _ _ _ (w.alloc (.cells (ar f r p xs.length c).toArray 68));obtain⟨w1,hw1⟩:∃ x,x=w.alloc (.cells (ar f r p xs.length c).toArray 68):=⟨_,rfl⟩;have hx1:=hx.call hb;rw[←hw1]at hA hb hx1 ⊢;clear hw1 hx;go_loopg [5,6] 65 (fun q sv iv wr=>∃ i:Nat,q+i=65∧lsR w1 (fun z=>sgnI z==d) xs i sv iv wr)
 case atStart=>exact⟨0,rfl,⟨Nat.zero_le _,rfl,World.ownsRow_nil _ _ _ _,Below.refl _ _⟩⟩
 case round =>
  obtain⟨i,hq,⟨hi,rfl,hown,hbr⟩⟩:=hrel;have hcr:=(hA.call hbr).cells;have hlr:=(hA.call hbr).lt;by_cases hlt:i<xs.length
  ·have hii:(i:Int)<xs.length:=by omega
   obtain⟨b,o,rfl,hbl,hc⟩:=(hx1.call hbr).at hlt;have hci:=hc i hlt;obtain⟨y,hyv⟩:∃ y,y=xs[i]?.getD 0:=⟨_,rfl⟩;rw[←hyv]at hci;have hlen:=ff (fun z=>sgnI z==d) xs i;have hnx:idxs (fun z=>sgnI z==d) xs (i+1)=if(fun z=>sgnI z==d) y then idxs (fun z=>sgnI z==d) xs i++[(i:Int)]else idxs (fun z=>sgnI z==d) xs i:=by rw[hyv];rfl
   replace hyv:=zhd hyv;clear hc;go_wp2_with fail;refine(jE y _).mono ?_;rintro e w2 ⟨rfl,rfl⟩;rcases hyx:(sgnI y==d)with _|_
   ·replace hnx:idxs (fun z=>sgnI z==d) xs (i+1)=idxs (fun z=>sgnI z==d) xs i:=by rw[hnx,if_neg (by simp;simpa using hyx)]
    replace hnx:=zhd hnx;go_wp2_with fail;go_roundg (gk-1)
    case measure=>omega
    case rel=>exact⟨i+1,by omega,⟨by omega,by go_num,by rw[hnx.out];exact hown,hbr⟩⟩
   ·replace hnx:idxs (fun z=>sgnI z==d) xs (i+1)=idxs (fun z=>sgnI z==d) xs i++[(i:Int)]:=by rw[hnx,if_pos (by simpa using hyx)]
    replace hnx:=zhd hnx;go_wp2_with (at_builtin;refine bD rfl (.tmp 22) (.tmp 24) 136 rfl w1.heap.size 3 i3 (.int .i64 0) 8 Tryz.underlying136 hi3 hz3 hs3 hy3 rfl _ (idxs (fun z=>sgnI z==d) xs i).length ((idxs (fun z=>sgnI z==d) xs i).map (.int .i64)) rfl hown 1 [.int .i64 (i:Int)] rfl (by intro u hu;simp at hu;subst hu;rfl) _ rfl rfl (by omega) hbr.size ?_);intro v' w9 hown9 hg9 _;have hb9:=(hbr.alloc hbr.size (.cells #[.int .i64 (i:Int)] 3)).grown hg9 (Nat.le_trans hbr.size (by simp)) (fun j e=>(hown.lt j e).1);replace hown9:w9.ownsRow w1.heap.size 3 1 v' (idxs (fun z=>sgnI z==d) xs (i+1)).length ((idxs (fun z=>sgnI z==d) xs (i+1)).map (.int .i64)):=by rw[hnx.out];simpa using hown9
    clear hown hg9;go_wp2_with fail;go_roundg (gk-1)
    case measure=>omega
    case rel=>exact⟨i+1,by omega,⟨by omega,by go_num,hown9,hb9⟩⟩
  ·have hii:¬(i:Int)<xs.length:=by omega
   obtain rfl:i=xs.length:=by omega
   go_wp2_with fail;go_ret;exact⟨⟨_,rfl,bC hown hb.size⟩,zbc hb hbr⟩
def cF(S:Nat)(x:Int):Bool:=decide (0≤x)&&(decide (x<64)&&S.testBit x.toNat)
theorem wj{S:Nat}{x:Int}(h:¬(0≤x∧x<64)):cF S x=false:=by
 unfold cF;by_cases h1:0≤x
 ·have:¬x<64:=fun h2=>h ⟨h1,h2⟩
  simp[this]
 ·simp[h1]
theorem dz(S n:Nat)(hn:n<64):cF S n=S.testBit n:=by
 unfold cF;have:(n:Int)<64:=by omega
 simp[this]
theorem gA(S n:Nat):((S:Int)/2^n)=((S/2^n:Nat):Int):=by simp
theorem vq(S n:Nat):(((S:Int)/2^n).tmod 2==1)=S.testBit n:=by
 rw[gA,Nat.testBit_eq_decide_div_mod_eq];obtain⟨m,hm⟩:∃ m,m=S/2^n:=⟨_,rfl⟩;rw[←hm];have h:((m:Int)).tmod 2=((m%2:Nat):Int):=rfl;rw[h];by_cases h2:m%2=1
 ·simp[h2]
 ·have:m%2=0:=by omega
  simp[this]
theorem fG(S:Nat)(x:Int)(w:World):Clz 204 #[.int .u64 (S:Nat),.int .i64 x] w fun e w'=>e=.returned (.bool (cF S x))∧w=w':=by
 go_enter Tryz.func204,Tryz.ntmps204;by_cases h:0≤x∧x<64
 ·obtain⟨n,rfl⟩:∃ n:Nat,x=n:=⟨x.toNat,by omega⟩;have h2:(n:Int)<64:=h.2;rw[dz S n (by omega)];go_wp2_with fail;go_ret;exact⟨aV (vq S n),rfl⟩
 ·have e0:=zhd (wj (S:=S) h);by_cases h1:0≤x
  ·have h2:¬x<64:=fun h3=>h ⟨h1,h3⟩
   go_wp2_with fail;go_ret;exact⟨by rw[e0.out];rfl,rfl⟩
  ·go_wp2_with fail;go_ret;exact⟨by rw[e0.out];rfl,rfl⟩
def elI(l:List Int)(x:Int):Bool:=l.any (·==x)
theorem px(p:Option Addr)(c:Nat)(xs:List Int)(x:Int)(w:World)(hx:Arr .i64 w p xs)(hl:xs.length≤1000):
  Clz 190 #[.slice p xs.length c,.int .i64 x] w fun e w'=>e=.returned (.bool (elI xs x))∧Below w.heap.size w w':=by
 go_enter Tryz.func190,Tryz.ntmps190;go_wp2_with fail;go_loopg [5] 1001 (fun q iv wr=>∃ i:Nat,q+i=1001∧i≤xs.length∧iv=.int .i64 i∧Below w.heap.size w wr∧elI (xs.take i) x=false)
 case atStart=>exact⟨0,rfl,Nat.zero_le _,rfl,Below.refl _ _,rfl⟩
 case round =>
  obtain⟨i,hq,hi,rfl,hb,ha⟩:=hrel;replace ha:=zhd ha;by_cases hlt:i<xs.length
  ·have hii:(i:Int)<xs.length:=by omega
   obtain⟨b,o,rfl,hbl,hc⟩:=(hx.call hb).at hlt;have hci:=hc i hlt;have hget:xs[i]?.getD 0=xs[i]:=by simp[hlt]
   obtain⟨y,hxv⟩:∃ y,y=xs[i]?.getD 0:=⟨_,rfl⟩;rw[←hxv]at hci hget;replace hget:=zhd hget;clear hc hxv;by_cases hyx:y=x
   ·have e1:Hid (elI xs x=true):=zhd (by unfold elI;rw[List.any_eq_true];exact⟨xs[i],List.getElem_mem hlt,by rw[←hget.out];simp[hyx]⟩);have hyx2:(y==x)=true:=by simp[hyx]
    go_wp2_with fail;go_ret;exact⟨by rw[e1.out];rfl,hb⟩
   ·have hyx2:(y==x)=false:=by simp[hyx]
    go_wp2_with fail;go_roundg (gk-1)
    case measure=>omega
    case rel=>exact⟨i+1,by omega,by omega,by go_num,hb,by have ha:=ha.out;unfold elI at ha ⊢;rw[List.take_succ_eq_append_getElem hlt,List.any_append,ha];simp[←hget.out];exact hyx⟩
  ·have hii:¬(i:Int)<xs.length:=by omega
   have e1:Hid (elI xs x=false):=zhd (by have ha:=ha.out;rwa[List.take_of_length_le (by omega)]at ha);go_wp2_with fail;go_ret;exact⟨by rw[e1.out];rfl,hb⟩
def dt(l:List Int)(S:Nat):Bool:=l.all fun x=>!cF S x
theorem py(p:Option Addr)(c:Nat)(xs:List Int)(S:Nat)(w:World)(hx:Arr .i64 w p xs)(hl:xs.length≤1000):
  Clz 198 #[.slice p xs.length c,.int .u64 (S:Nat)] w fun e w'=>e=.returned (.bool (dt xs S))∧Below w.heap.size w w':=by
 go_enter Tryz.func198,Tryz.ntmps198;go_wp2_with fail;go_loopg [5] 1001 (fun q iv wr=>∃ i:Nat,q+i=1001∧i≤xs.length∧iv=.int .i64 i∧Below w.heap.size w wr∧dt (xs.take i) S=true)
 case atStart=>exact⟨0,rfl,Nat.zero_le _,rfl,Below.refl _ _,rfl⟩
 case round =>
  obtain⟨i,hq,hi,rfl,hb,ha⟩:=hrel;replace ha:=zhd ha;by_cases hlt:i<xs.length
  ·have hii:(i:Int)<xs.length:=by omega
   obtain⟨b,o,rfl,hbl,hc⟩:=(hx.call hb).at hlt;have hci:=hc i hlt;have hget:xs[i]?.getD 0=xs[i]:=by simp[hlt]
   obtain⟨y,hxv⟩:∃ y,y=xs[i]?.getD 0:=⟨_,rfl⟩;rw[←hxv]at hci hget;replace hget:=zhd hget;clear hc hxv;go_wp2_with fail;refine(fG S y _).mono ?_;rintro e w2 ⟨rfl,rfl⟩;rcases hyx:cF S y with _|_
   ·go_wp2_with fail;go_roundg (gk-1)
    case measure=>omega
    case rel=>exact⟨i+1,by omega,by omega,by go_num,hb,it hlt ha.out hget.out.symm (by rw[hyx];rfl)⟩
   ·have e1:Hid (dt xs S=false):=zhd (by unfold dt;rw[List.all_eq_false];exact⟨xs[i],List.getElem_mem hlt,by rw[←hget.out];simp[hyx]⟩);go_wp2_with fail;go_ret;exact⟨by rw[e1.out];rfl,hb⟩
  ·have hii:¬(i:Int)<xs.length:=by omega
   have e1:Hid (dt xs S=true):=zhd (by have ha:=ha.out;rwa[List.take_of_length_le (by omega)]at ha);go_wp2_with fail;go_ret;exact⟨by rw[e1.out];rfl,hb⟩
def gc(w1:World)(S:Nat→Bool)(f:Nat→Value)(W:World)(i j:Nat)(P:Array Value):Prop :=
 S i=true→∃ q,f i=.pointer (some ⟨q,0,none⟩)∧w1.heap.size≤q∧∃ old,ac W q (.cells old 85 (0,0))∧old.size=2∧(S j=true→old=P)
def dS(w1:World)(sz:Array Value)(A B:Int)(P1 P2:Array Value)(S:Nat→Bool)(f:Nat→Value)(W:World):Prop :=
 Below w1.heap.size w1 W∧(S 0=true→f 0=.agg sz)∧(S 1=true→f 1=.int .i64 A)∧(S 2=true→f 2=.agg P1)∧(S 3=true→f 3=.agg sz)∧(S 4=true→f 4=.int .i64 B)∧(S 5=true→f 5=.agg P2) ∧
 gc w1 S f W 6 8 P1∧gc w1 S f W 7 9 P2∧(S 6=true→S 7=true→f 6≠f 7)
theorem fF{w1:World}{sz:Array Value}{A B:Int}{P1 P2:Array Value}(S S':Nat→Bool)(f:Nat→Value)(W:World)(h:∀ i,i<10→S i=S' i)(hR:dS w1 sz A B P1 P2 S f W):dS w1 sz A B P1 P2 S' f W:=by unfold dS gc at hR ⊢;rw[←h 0 (by decide),←h 1 (by decide),←h 2 (by decide),←h 3 (by decide),←h 4 (by decide),←h 5 (by decide),←h 6 (by decide),←h 7 (by decide),←h 8 (by decide),←h 9 (by decide)];exact hR
theorem ge{w1:World}{sz:Array Value}{A B:Int}{P1 P2:Array Value}(f:Nat→Value):dS w1 sz A B P1 P2 (fun _=>false) f w1.drew :=
 ⟨(Below.refl _ _).drew,(fun h=>by cases h),(fun h=>by cases h),(fun h=>by cases h),(fun h=>by cases h),(fun h=>by cases h),(fun h=>by cases h),(fun h=>by cases h),(fun h=>by cases h),(fun h=>by cases h)⟩
theorem fC{w1:World}{S:Nat→Bool}{f:Nat→Value}{W W':World}{i j k:Nat}{P:Array Value}(h:gc w1 S f W i j P)(hk:k≠i∧k≠j)(v:Value)(hb:Below W.heap.size W W'):
  gc w1 (upd S k) (fun x=>if x=k then v else f x) W' i j P:=by
 intro hi;have hi':S i=true:=by simpa[upd,Ne.symm hk.1]using hi
 obtain⟨q,e1,e2,old,e3,e4,e5⟩:=h hi';refine⟨q,by simp[Ne.symm hk.1,e1],e2,old,e3.call hb,e4,fun hj=>e5 (by simpa[upd,Ne.symm hk.2]using hj)⟩
theorem aS{w1:World}{sz:Array Value}{A B:Int}{P1 P2:Array Value}{S:Nat→Bool}{f:Nat→Value}{W W':World}(hR:dS w1 sz A B P1 P2 S f W)(i:Nat)(v:Value)(hb:Below W.heap.size W W')
  (hi:i<6) (hv:(i=0→v=.agg sz)∧(i=1→v=.int .i64 A)∧(i=2→v=.agg P1)∧(i=3→v=.agg sz)∧(i=4→v=.int .i64 B)∧(i=5→v=.agg P2)) :
  dS w1 sz A B P1 P2 (upd S i) (fun j=>if j=i then v else f j) W':=by
 obtain⟨h,h0,h1,h2,h3,h4,h5,h6,h7,h8⟩:=hR;obtain⟨v0,v1,v2,v3,v4,v5⟩:=hv;refine⟨zbc h hb,?_,?_,?_,?_,?_,?_,fC h6 (by omega) v hb,fC h7 (by omega) v hb,fun a b=>?_⟩
 ·intro hs;by_cases e:0=i
  ·show(if _=i then v else f _)=_;rw[if_pos e];exact v0 e.symm
  ·show(if _=i then _ else f _)=_;rw[if_neg e];exact h0 (by simpa[upd,e]using hs)
 ·intro hs;by_cases e:1=i
  ·show(if _=i then v else f _)=_;rw[if_pos e];exact v1 e.symm
  ·show(if _=i then _ else f _)=_;rw[if_neg e];exact h1 (by simpa[upd,e]using hs)
 ·intro hs;by_cases e:2=i
  ·show(if _=i then v else f _)=_;rw[if_pos e];exact v2 e.symm
  ·show(if _=i then _ else f _)=_;rw[if_neg e];exact h2 (by simpa[upd,e]using hs)
 ·intro hs;by_cases e:3=i
  ·show(if _=i then v else f _)=_;rw[if_pos e];exact v3 e.symm
  ·show(if _=i then _ else f _)=_;rw[if_neg e];exact h3 (by simpa[upd,e]using hs)
 ·intro hs;by_cases e:4=i
  ·show(if _=i then v else f _)=_;rw[if_pos e];exact v4 e.symm
  ·show(if _=i then _ else f _)=_;rw[if_neg e];exact h4 (by simpa[upd,e]using hs)
 ·intro hs;by_cases e:5=i
  ·show(if _=i then v else f _)=_;rw[if_pos e];exact v5 e.symm
  ·show(if _=i then _ else f _)=_;rw[if_neg e];exact h5 (by simpa[upd,e]using hs)
 ·have e6:¬6=i:=by omega
  have e7:¬7=i:=by omega
  show(if 6=i then v else f 6)≠(if 7=i then v else f 7);rw[if_neg e6,if_neg e7];exact h8 (by simpa[upd,e6]using a) (by simpa[upd,e7]using b)
theorem pl{w1:World}{S:Nat→Bool}{f:Nat→Value}{W:World}{i j:Nat}{P:Array Value}(h:gc w1 S f W i j P)(hi:S i=true):f i≠.pointer (some ⟨W.heap.size,0,none⟩):=by obtain⟨q,e1,e2,old,e3,_⟩:=h hi;rw[e1];intro e;injection e with e;injection e with e;injection e with e;have:=e3.lt;omega
theorem dA{w1:World}{sz:Array Value}{A B:Int}{P1 P2:Array Value}{S:Nat→Bool}{f:Nat→Value}{W:World}(hR:dS w1 sz A B P1 P2 S f W)(i:Nat)(hi:i=6∨i=7)(hS:S (i+2)=false):
  dS w1 sz A B P1 P2 (upd S i) (fun j=>if j=i then .pointer (some ⟨W.heap.size,0,none⟩)else f j) (W.alloc (.cells #[.int .i64 0,.int .i64 0] 85)):=by
 obtain⟨h,h0,h1,h2,h3,h4,h5,h6,h7,h8⟩:=hR;have hb:=ae W (.cells #[.int .i64 0,.int .i64 0] 85);have hO:=ac.new W (.cells #[.int .i64 0,.int .i64 0] 85);refine⟨zbc h hb,?_,?_,?_,?_,?_,?_,?_,?_,?_⟩
 ·intro hs;have e:¬0=i:=by omega
  show(if _=i then _ else f _)=_;rw[if_neg e];exact h0 (by simpa[upd,e]using hs)
 ·intro hs;have e:¬1=i:=by omega
  show(if _=i then _ else f _)=_;rw[if_neg e];exact h1 (by simpa[upd,e]using hs)
 ·intro hs;have e:¬2=i:=by omega
  show(if _=i then _ else f _)=_;rw[if_neg e];exact h2 (by simpa[upd,e]using hs)
 ·intro hs;have e:¬3=i:=by omega
  show(if _=i then _ else f _)=_;rw[if_neg e];exact h3 (by simpa[upd,e]using hs)
 ·intro hs;have e:¬4=i:=by omega
  show(if _=i then _ else f _)=_;rw[if_neg e];exact h4 (by simpa[upd,e]using hs)
 ·intro hs;have e:¬5=i:=by omega
  show(if _=i then _ else f _)=_;rw[if_neg e];exact h5 (by simpa[upd,e]using hs)
 ·rcases hi with rfl|rfl
  ·intro _;exact⟨_,rfl,h.size,_,hO,rfl,fun hj=>by have hj:S 8=true:=hj;rw[hS]at hj;cases hj⟩
  ·exact fC h6 (by omega) _ hb
 ·rcases hi with rfl|rfl
  ·exact fC h7 (by omega) _ hb
  ·intro _;exact⟨_,rfl,h.size,_,hO,rfl,fun hj=>by have hj:S 9=true:=hj;rw[hS]at hj;cases hj⟩
 ·rcases hi with rfl|rfl
  ·intro _ b;have b:S 7=true:=b;exact(pl h7 b).symm
  ·intro a _;have a:S 6=true:=a;exact pl h6 a
theorem mS{w1:World}{S:Nat→Bool}{f:Nat→Value}{W:World}{i j k:Nat}{P:Array Value}(h:gc w1 S f W i j P)(hk:k≠i∧k≠j)(v:Value){g:Nat}{cs:Array Value}(hg:S i=true→f i≠.pointer (some ⟨g,0,none⟩)):
  gc w1 (upd S k) (fun x=>if x=k then v else f x) (W.setRow g cs) i j P:=by
 intro hi;have hi':S i=true:=by simpa[upd,Ne.symm hk.1]using hi
 obtain⟨q,e1,e2,old,e3,e4,e5⟩:=h hi';have hne:q≠g:=fun e=>hg hi' (by rw[e1,e])
 exact⟨q,by simp[Ne.symm hk.1,e1],e2,old,e3.setRow_far hne,e4,fun hj=>e5 (by simpa[upd,Ne.symm hk.2]using hj)⟩
theorem gp{w1:World}{sz:Array Value}{A B:Int}{P1 P2:Array Value}{S:Nat→Bool}{f:Nat→Value}{W:World}(hR:dS w1 sz A B P1 P2 S f W)(hS:S 6=true)(h2':P1.size=2)(v:Value){q:Nat}(hq:f 6=.pointer (some ⟨q,0,none⟩)):
  dS w1 sz A B P1 P2 (upd S 8) (fun j=>if j=8 then v else f j) (W.setRow q P1):=by
 obtain⟨h,h0,h1,h2,h3,h4,h5,h6,h7,h8⟩:=hR;obtain⟨q',e1,e2,old,e3,e4,e5⟩:=h6 hS;obtain rfl:q=q':=by rw[hq]at e1;injection e1 with e1;injection e1 with e1;injection e1
 refine⟨aj h e2 h.size,h0,h1,h2,h3,h4,h5,fun _=>⟨q,hq,e2,P1,ak e3,h2',fun _=>rfl⟩,mS h7 (by decide) v (fun h7'=>?_),h8⟩;rw[←hq];exact(h8 hS h7').symm
theorem gr{w1:World}{sz:Array Value}{A B:Int}{P1 P2:Array Value}{S:Nat→Bool}{f:Nat→Value}{W:World}(hR:dS w1 sz A B P1 P2 S f W)(hS:S 7=true)(h2':P2.size=2)(v:Value){q:Nat}(hq:f 7=.pointer (some ⟨q,0,none⟩)):
  dS w1 sz A B P1 P2 (upd S 9) (fun j=>if j=9 then v else f j) (W.setRow q P2):=by
 obtain⟨h,h0,h1,h2,h3,h4,h5,h6,h7,h8⟩:=hR;obtain⟨q',e1,e2,old,e3,e4,e5⟩:=h7 hS;obtain rfl:q=q':=by rw[hq]at e1;injection e1 with e1;injection e1 with e1;injection e1
 refine⟨aj h e2 h.size,h0,h1,h2,h3,h4,h5,mS h6 (by decide) v (fun h6'=>?_),fun _=>⟨q,hq,e2,P2,ak e3,h2',fun _=>rfl⟩,h8⟩;rw[←hq];exact h8 h6' hS
theorem ej(W:World):(Instr.alloc 85 true (.tuple #[])).run Tryz.prog W=.ok (.pointer (some ⟨W.heap.size,0,none⟩)) (W.alloc (.cells #[.int .i64 0,.int .i64 0] 85)):=by kernel_rfl
theorem cQ{o:Oper}{ops:Array Oper}{ds:List (Option Tmp)}{f:Nat→Value}{a:Act}(hok:bn ds=true)(j:Nat)(want:Bool)(tm:Tmp)(hgu:o.guard=some (j,want))(hd:(ops[j]?).bind (·.dst)=some tm)(hi:ds[j]? = some (some tm))(hs:tm<a.tmps.size)(hf:f j=undef):
  Region.wanted o (yielded ops (ao ds f 0 a).tmps)=false:=by
 have h1:=ck (f:=f) hok j hi hs hf;have hsz:tm<(ao ds f 0 a).tmps.size:=by rw[s8];exact hs
 have h2:(ao ds f 0 a).tmps[tm]? = some undef:=by
  rw[Array.getD_eq_getD_getElem?]at h1;rcases h:(ao ds f 0 a).tmps[tm]? with _|u
  ·rw[Array.getElem?_eq_none_iff]at h;exact absurd hsz (Nat.not_lt.2 h)
  ·rw[h]at h1;exact congrArg some h1
 have hd':(Option.bind (ops[j]?) fun x=>x.dst)=some tm:=hd;have hy:yielded ops (ao ds f 0 a).tmps j=none:=by unfold yielded;rw[hd',Option.bind_some,h2];rfl
 unfold Region.wanted;rw[hgu];simp only[hy];rfl
theorem dD{x y d:Int}{W:World}(h:IntKind.i64.wrap (x-y)=d):(binOp .sub 3 (.int .i64 x) (.int .i64 y)).run Tryz.prog W=.ok (.int .i64 d) W:=by rw[xI,h]
theorem iD{x y:Int}{d:Bool}{W:World}(h:(x==y)=d):(binOp .eql 3 (.int .i64 x) (.int .i64 y)).run Tryz.prog W=.ok (.bool d) W:=by rw[xi,h]
theorem oF{x y d:Int}{W:World}(h:IntKind.i64.wrap (x+y)=d):(binOp .add 3 (.int .i64 x) (.int .i64 y)).run Tryz.prog W=.ok (.int .i64 d) W:=by rw[ym,h]
theorem vh{x y d:Int}{W:World}(h:IntKind.i64.wrap (x*y)=d):(binOp .mul 3 (.int .i64 x) (.int .i64 y)).run Tryz.prog W=.ok (.int .i64 d) W:=by rw[ya,h]
end Go.Proofs.YtefmplccbkmalaaGreatDoor
