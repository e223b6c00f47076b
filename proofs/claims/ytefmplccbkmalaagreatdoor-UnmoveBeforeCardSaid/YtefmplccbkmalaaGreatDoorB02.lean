import Derived.Test.YtefmplccbkmalaaGreatDoorB01
import Derived.Maps.AppendAt
import Derived.RegionTactic
import Derived.BigRegion
import Derived.Deep.RegionHeld3
import Derived.Shelf.Small.Bits
import Derived.Shelf.Small.Wraps
import Derived.Shelf.Strconv.Itoa0
import Derived.Ground.Names2Prog
import Derived.Shelf.Slices.SearchI
import Derived.Test.YtefmplccbkmalaaGreatDoorProg
import Derived.Shelf.Strings.Builder1
import Derived.Shelf.Abstract
import Derived.Shelf.RegionOpen
import Derived.Lib.SplitLaws
import Derived.Deep.RegionWith
set_option maxRecDepth 100000
namespace Go.Proofs.YtefmplccbkmalaaGreatDoor
open Go.RowKit

theorem mW{P:Program}{id:Nat}{ops:Array Oper}{Q:Exit→Act→World→Prop}{a:Act}{w:World}(hm:P.follows .mixedOrders=true)(hb:aW .any ops=true)
  (fr:(Nat→Value)→Act) (f0:Nat→Value) (ha:a=fr f0) (hfr:∀ i (hi:i<ops.size) f u,(fr f).put ops[i].dst u=fr (fun j=>if j=i then u else f j))
  (vals:Nat→Value) (Wd:(Nat→Bool)→World) (hcongr:∀ S S',(∀ i,i<ops.size→S i=S' i)→Wd S=Wd S') (h0:Wd (fun _=>false)=w.drew)
  (hstep:∀ S i o f,ops[i]? = some o→i<ops.size→S i=false→(∀ e∈o.after,Region.binds .any e=true→S e.on=true) →
   (∀ j o',S j=true→ops[j]? = some o'→∀ e∈o'.after,Region.binds .any e=true→S e.on=true) →
   (∀ e∈o.after,Region.binds .any e=true→f e.on=vals e.on)→∀ K:Act→World→Prop,K ((fr f).put o.dst (vals i)) (Wd (upd S i)) →
   if Region.wanted o (yielded ops (fr f).tmps)=true then o.wp P (fr f) (Wd S) K Q else K ((fr f).put o.dst undef) (Wd S))
  (hend:∀ f S,(∀ i,i<ops.size→S i=true)→(∀ i,i<ops.size→f i=vals i)→Q .normal (fr f) (Wd S)):(Code.region id ops true).wp P Q a w:=by
 refine fx hm hb (fun S a w=>∃ f,a=fr f∧w=Wd S∧(∀ i,i<ops.size→S i=true→f i=vals i) ∧
  (∀ j o',S j=true→ops[j]? = some o'→∀ e∈o'.after,Region.binds .any e=true→S e.on=true)) ?_ ⟨f0,ha,h0.symm,fun i _ h=>(by cases h),fun j o' h=>(by cases h)⟩ ?_ ?_
 ·rintro S S' a w hS ⟨f,h1,h2,h3,h4⟩;have hback:∀ j o',ops[j]? = some o'→j<ops.size∧∀ e∈o'.after,Region.binds .any e=true→e.on<ops.size:=by
   intro j o' ho;have hj:j<ops.size:=(Array.getElem?_eq_some_iff.1 ho).1;refine⟨hj,fun e he hbd=>?_⟩;have hb':=hb;unfold aW at hb';rw[List.all_eq_true]at hb';have h:=hb' j (List.mem_range.2 hj);rw[ho]at h;simp only[Option.map_some,Option.getD_some]at h;rw[Array.all_eq_true]at h;obtain⟨k,hk,rfl⟩:=Array.getElem_of_mem he;have:=h k hk;rw[hbd]at this;simp only[Bool.not_true,Bool.false_or,decide_eq_true_eq]at this;omega
  refine⟨f,h1,h2.trans (hcongr _ _ hS),fun i hi h=>h3 i hi (by rw[hS i hi];exact h),fun j o' hj ho e he hbd=>?_⟩;have hb2:=hback j o' ho;rw[←hS _ (hb2.2 e he hbd)];exact h4 j o' (by rw[hS _ hb2.1];exact hj) ho e he hbd
 ·rintro S a w i hi hSi hpre ⟨f,rfl,rfl,hW,hcl⟩;have hback:∀ e∈ops[i].after,Region.binds .any e=true→e.on<i:=by
   intro e he hbd;have hb':=hb;unfold aW at hb';rw[List.all_eq_true]at hb';have h:=hb' i (List.mem_range.2 hi);have ho:ops[i]? = some ops[i]:=Array.getElem?_eq_getElem hi;rw[ho]at h;simp only[Option.map_some,Option.getD_some]at h;rw[Array.all_eq_true]at h;obtain⟨k,hk,rfl⟩:=Array.getElem_of_mem he;have:=h k hk;rw[hbd]at this;simp only[Bool.not_true,Bool.false_or,decide_eq_true_eq]at this;omega
  have hs:=hstep S i ops[i] f (Array.getElem?_eq_getElem hi) hi hSi hpre hcl (fun e he hbd=>hW _ (by have:=hback e he hbd;omega) (hpre e he hbd));have key:∀ u,(u=vals i)→(∃ f',(fr f).put ops[i].dst u=fr f'∧Wd (upd S i)=Wd (upd S i)∧(∀ j,j<ops.size→upd S i j=true→f' j=vals j) ∧
    (∀ j o',upd S i j=true→ops[j]? = some o'→∀ e∈o'.after,Region.binds .any e=true→upd S i e.on=true)):=by
   intro u hu;refine⟨_,hfr i hi f u,rfl,fun j hj hSj=>?_,fun j o' hj ho e he hbd=>?_⟩
   ·by_cases e:j=i
    ·subst e;simpa using hu
    ·simp only[e,if_false];exact hW j hj (by simpa[upd,e]using hSj)
   ·unfold upd at hj ⊢;by_cases e2:e.on=i
    ·simp[e2]
    ·simp only[e2,if_false];by_cases e3:j=i
     ·subst e3;have:o'=ops[j]:=by rw[Array.getElem?_eq_getElem hi]at ho;exact(Option.some.inj ho).symm
      subst this;exact hpre e he hbd
     ·simp only[e3,if_false]at hj;exact hcl j o' hj ho e he hbd
  by_cases hw:Region.wanted ops[i] (yielded ops (fr f).tmps)=true
  ·rw[if_pos hw];have h2:=hs (fun a' w'=>∃ f',a'=fr f'∧w'=Wd (upd S i)∧(∀ j,j<ops.size→upd S i j=true→f' j=vals j) ∧
    (∀ j o',upd S i j=true→ops[j]? = some o'→∀ e∈o'.after,Region.binds .any e=true→upd S i e.on=true)) (key _ rfl)
   rw[if_pos hw]at h2;exact h2
  ·rw[if_neg hw];have h2:=hs (fun a' w'=>∃ f',a'=fr f'∧w'=Wd (upd S i)∧(∀ j,j<ops.size→upd S i j=true→f' j=vals j) ∧
    (∀ j o',upd S i j=true→ops[j]? = some o'→∀ e∈o'.after,Region.binds .any e=true→upd S i e.on=true)) (key _ rfl)
   rw[if_neg hw]at h2;exact h2
 ·rintro S a w hS ⟨f,rfl,rfl,hW,_⟩;exact hend f S hS (fun i hi=>hW i hi (hS i hi))
theorem vV{t:Array Value}{i j:Nat}(h:i≠j)(u v:Value):(t.setIfInBounds i u).setIfInBounds j v=(t.setIfInBounds j v).setIfInBounds i u:=by
 apply Array.ext_getElem?
 intro k;simp only[Array.getElem?_setIfInBounds,Array.size_setIfInBounds];by_cases h1:i=k<;>by_cases h2:j=k<;>simp_all
theorem tU{t:Array Value}{i:Nat}(u v:Value):(t.setIfInBounds i u).setIfInBounds i v=t.setIfInBounds i v:=by
 apply Array.ext_getElem?
 intro k;simp only[Array.getElem?_setIfInBounds,Array.size_setIfInBounds];by_cases h1:i=k<;>simp_all
theorem we{t:Array Value}{i:Nat}:t.setIfInBounds i (t.getD i undef)=t:=by
 apply Array.ext_getElem?
 intro k;simp only[Array.getElem?_setIfInBounds];by_cases h1:i=k
 ·subst h1;by_cases h2:i<t.size<;>simp[h2,Array.getD_eq_getD_getElem?]
 ·simp[h1]
theorem oQ(a:Act){d d':Option Tmp}(h:d=none∨d≠d')(u v:Value):(a.put d u).put d' v=(a.put d' v).put d u:=by
 rcases d with _|i<;>rcases d' with _|j
 ·rfl
 ·rfl
 ·rfl
 ·have:i≠j:=by rintro rfl;rcases h with h|h;cases h;exact h rfl
  simp only[Act.put,vV this]
theorem tB(a:Act)(d:Option Tmp)(u v:Value):(a.put d u).put d v=a.put d v:=by
 rcases d with _|i
 ·rfl
 ·simp only[Act.put,tU]

def ao:List (Option Tmp)→(Nat→Value)→Nat→Act→Act
 | [],_,_,a=>a
 | d::ds,f,i,a=>ao ds f (i+1) (a.put d (f i))
def bn:List (Option Tmp)→Bool
 | []=>true
 | none::ds=>bn ds
 | some t::ds=>!ds.contains (some t)&&bn ds
theorem le(ds:List (Option Tmp)){f g:Nat→Value}{k:Nat}(h:∀ j,k≤j→f j=g j)(a:Act):ao ds f k a=ao ds g k a:=by
 induction ds generalizing k a with
 | nil=>rfl
 | cons d ds ih=>simp only[ao];rw[h k (Nat.le_refl _)];exact ih (fun j hj=>h j (by omega)) _
theorem vJ(ds:List (Option Tmp))(f:Nat→Value)(k:Nat)(a:Act){d:Option Tmp}(h:d=none∨d∉ds)(u:Value):(ao ds f k a).put d u=ao ds f k (a.put d u):=by
 induction ds generalizing k a with
 | nil=>rfl
 | cons d' ds ih=>simp only[ao];rw[ih (k+1) _ (by rcases h with h|h;exact .inl h;exact .inr (fun hm=>h (List.mem_cons_of_mem _ hm)))];rw[oQ a (d:=d) (d':=d') (by rcases h with h|h;exact .inl h;exact .inr (fun e=>h (by rw[e];exact List.mem_cons_self))) u (f k)]
theorem lW(ds:List (Option Tmp))(hd:bn ds=true)(f:Nat→Value)(k:Nat)(a:Act)(i:Nat)(d:Option Tmp)(hi:ds[i]? = some d)(u:Value):
  (ao ds f k a).put d u=ao ds (fun j=>if j=k+i then u else f j) k a:=by
 induction ds generalizing k a i with
 | nil=>simp at hi
 | cons d' ds ih =>
  rcases i with _|i
  ·simp only[List.getElem?_cons_zero,Option.some.injEq]at hi;subst hi;simp only[ao,Nat.add_zero,if_true];rw[vJ _ _ _ _ (by
    rcases d' with _|t
    ·exact .inl rfl
    ·refine .inr (fun hm=>?_);simp only[bn,Bool.and_eq_true,Bool.not_eq_true',List.contains_eq_mem,decide_eq_false_iff_not]at hd;exact hd.1 hm),tB]
   exact le _ (fun j hj=>by rw[if_neg (by omega)]) _
  ·simp only[List.getElem?_cons_succ]at hi;simp only[ao];rw[ih (by rcases d' with _|t<;>simp only[bn,Bool.and_eq_true]at hd;exact hd;exact hd.2) (k+1) _ i hi,if_neg (by omega)];exact le _ (fun j hj=>by simp only[show k+1+i=k+(i+1) by omega]) _
theorem iI(ds:List (Option Tmp))(f:Nat→Value)(k:Nat)(a:Act)(hf:∀ i t,ds[i]? = some (some t)→f (k+i)=a.tmps.getD t undef)(hd:bn ds=true):ao ds f k a=a:=by
 induction ds generalizing k a with
 | nil=>rfl
 | cons d ds ih =>
  simp only[ao];have e:a.put d (f k)=a:=by
   rcases d with _|t
   ·rfl
   ·have:=hf 0 t rfl;simp only[Nat.add_zero]at this;rw[this];simp only[Act.put,we]
  rw[e];refine ih (k+1) a (fun i t hi=>?_) (by rcases d with _|t<;>simp only[bn,Bool.and_eq_true]at hd;exact hd;exact hd.2);have:=hf (i+1) t hi;rw[show k+1+i=k+(i+1) by omega];exact this

theorem nO{ops:Array Oper}{ds:List (Option Tmp)}(hds:ops.toList.map (·.dst)=ds){i:Nat}(hi:i<ops.size):ds[i]? = some ops[i].dst:=by subst hds;simp[hi]
def jp(ds:List (Option Tmp))(a:Act)(i:Nat):Value:=match ds[i]? with|some (some t)=>a.tmps.getD t undef|_=>undef

theorem dl{P:Program}{id:Nat}{ops:Array Oper}{Q:Exit→Act→World→Prop}{a:Act}{w:World}(hm:P.follows .mixedOrders=true)(hb:aW .any ops=true)
  (ds:List (Option Tmp)) (hds:ops.toList.map (·.dst)=ds) (hok:bn ds=true)
  (C:World→Prop) (Le:World→World→Prop) (W:Nat→Value→World→Prop) (hstab:∀ i v w w',C w→Le w w'→W i v w→W i v w')
  (h0:C w.drew)
  (hstep:∀ i o f w,ops[i]? = some o→i<ops.size→C w→(∀ e∈o.after,Region.binds .any e=true→W e.on (f e.on) w)→∀ K:Act→World→Prop,(∀ u w',C w'→Le w w'→W i u w'→K ((ao ds f 0 a).put o.dst u) w') →
   if Region.wanted o (yielded ops (ao ds f 0 a).tmps)=true then o.wp P (ao ds f 0 a) w K Q else K ((ao ds f 0 a).put o.dst undef) w)
  (hend:∀ f w,C w→(∀ i,i<ops.size→W i (f i) w)→Q .normal (ao ds f 0 a) w):(Code.region id ops true).wp P Q a w :=
 oC hm hb (fun f=>ao ds f 0 a) (jp ds a) (iI _ _ _ _ (fun i t h=>by simp[jp,h]) hok).symm
  (fun i hi f u=>by
   have:=lW ds hok f 0 a i _ (nO hds hi) u;rw[this];simp only[Nat.zero_add]) C Le W hstab h0 hstep hend

theorem lA{P:Program}{id:Nat}{ops:Array Oper}{Q:Exit→Act→World→Prop}{a:Act}{w:World}(hm:P.follows .mixedOrders=true)(hb:aW .any ops=true)
  (ds:List (Option Tmp)) (hds:ops.toList.map (·.dst)=ds) (hok:bn ds=true)
  (vals:Nat→Value) (Wd:(Nat→Bool)→World) (hcongr:∀ S S',(∀ i,i<ops.size→S i=S' i)→Wd S=Wd S') (h0:Wd (fun _=>false)=w.drew)
  (hstep:∀ S i o f,ops[i]? = some o→i<ops.size→S i=false→(∀ e∈o.after,Region.binds .any e=true→S e.on=true) →
   (∀ j o',S j=true→ops[j]? = some o'→∀ e∈o'.after,Region.binds .any e=true→S e.on=true) →
   (∀ e∈o.after,Region.binds .any e=true→f e.on=vals e.on)→∀ K:Act→World→Prop,K ((ao ds f 0 a).put o.dst (vals i)) (Wd (upd S i)) →
   if Region.wanted o (yielded ops (ao ds f 0 a).tmps)=true then o.wp P (ao ds f 0 a) (Wd S) K Q else K ((ao ds f 0 a).put o.dst undef) (Wd S))
  (hend:∀ S,(∀ i,i<ops.size→S i=true)→Q .normal (ao ds vals 0 a) (Wd S)):(Code.region id ops true).wp P Q a w:=by
 refine mW hm hb (fun f=>ao ds f 0 a) (jp ds a) (iI _ _ _ _ (fun i t h=>by simp[jp,h]) hok).symm
  (fun i hi f u=>by
   have:=lW ds hok f 0 a i _ (nO hds hi) u;rw[this];simp only[Nat.zero_add]) vals Wd hcongr h0 hstep ?_
 intro f S hS hf;have e:ao ds f 0 a=ao ds vals 0 a:=by
  have hl:ds.length=ops.size:=by rw[←hds];simp
  have key:∀(l:List (Option Tmp)) (k:Nat) (b:Act),(∀ j,j<l.length→f (k+j)=vals (k+j))→ao l f k b=ao l vals k b:=by
   intro l;induction l with
   | nil=>intro k b _;rfl
   | cons d l ih=>intro k b h;simp only[ao];have h0:=h 0 (by simp);simp only[Nat.add_zero]at h0;rw[h0];exact ih (k+1) _ (fun j hj=>by have:=h (j+1) (by simp;omega);rw[show k+1+j=k+(j+1) by omega];exact this)
  exact key ds 0 a (fun j hj=>by rw[Nat.zero_add];exact hf j (by omega))
 rw[e];exact hend S hS
theorem pu(bs:ByteArray):∀(n i:Nat) (r:List UInt8),bs.size-i=n→ByteArray.toList.loop bs i r=r.reverse++bs.data.toList.drop i:=by
 intro n;induction n with
 | zero =>
  intro i r h;unfold ByteArray.toList.loop;have:¬i<bs.size:=by omega
  have h2:bs.data.toList.length≤i:=by simp only[Array.length_toList];show bs.size≤i;omega
  simp[this,List.drop_eq_nil_of_le h2]
 | succ n ih =>
  intro i r h;unfold ByteArray.toList.loop;have hi:i<bs.size:=by omega
  have hi2:i<bs.data.toList.length:=by simpa using hi
  simp only[hi,if_true];rw[ih (i+1) _ (by omega),List.drop_eq_getElem_cons hi2];have:bs.get! i=bs.data.toList[i]:=by simp only[ByteArray.get!,Array.getElem_toList];exact getElem!_pos bs.data i hi
  simp[this]
theorem sy(bs:ByteArray):bs.toList=bs.data.toList:=by unfold ByteArray.toList;rw[pu bs _ 0 [] rfl];simp
theorem di(l:List UInt8):(str l).toList=l:=sy _
theorem xA(a b:List UInt8):((str a).toList==(str b).toList)=decide (a=b):=by rw[di,di];by_cases h:a=b<;>simp[h]
theorem bG{P:Program}{id:Nat}{ops:Array Oper}{Q:Exit→Act→World→Prop}{a:Act}{w:World}(hm:P.follows .mixedOrders=true)(hb:aW .any ops=true)
  (ds:List (Option Tmp)) (hds:ops.toList.map (·.dst)=ds) (hok:bn ds=true)
  (vals:Nat→Value) (C:World→Prop) (h0:C w.drew)
  (hstep:∀ i o f w,ops[i]? = some o→i<ops.size→C w→(∀ e∈o.after,Region.binds .any e=true→f e.on=vals e.on)→∀ K:Act→World→Prop,(∀ w',C w'→K ((ao ds f 0 a).put o.dst (vals i)) w') →
   if Region.wanted o (yielded ops (ao ds f 0 a).tmps)=true then o.wp P (ao ds f 0 a) w K Q else K ((ao ds f 0 a).put o.dst undef) w)
  (hend:∀ w,C w→Q .normal (ao ds vals 0 a) w):(Code.region id ops true).wp P Q a w:=by
 refine dl hm hb ds hds hok C (fun _ _=>True) (fun i v _=>v=vals i) (fun _ _ _ _ _ _ h=>h) h0 ?_ ?_
 ·intro i o f w ho hi hC hf K hK;exact hstep i o f w ho hi hC hf K (fun w' hC'=>hK _ _ hC' trivial rfl)
 ·intro f w hC hf;have hl:ds.length=ops.size:=by rw[←hds];simp
  have key:∀(l:List (Option Tmp)) (k:Nat) (b:Act),(∀ j,j<l.length→f (k+j)=vals (k+j))→ao l f k b=ao l vals k b:=by
   intro l;induction l with
   | nil=>intro k b _;rfl
   | cons d l ih=>intro k b h;simp only[ao];have h0:=h 0 (by simp);simp only[Nat.add_zero]at h0;rw[h0];exact ih (k+1) _ (fun j hj=>by have:=h (j+1) (by simp;omega);rw[show k+1+j=k+(j+1) by omega];exact this)
  rw[key ds 0 a (fun j hj=>by rw[Nat.zero_add];exact hf j (by omega))];exact hend w hC
def pOk(x:Int):Bool:=decide (-15≤x)&&decide (x≤15)
def oOk(x:Int):Bool:=!decide (x=0)&&(decide (-6≤x)&&decide (x≤6))
def kindI(x:Int):Int:=if x<0 then -x else x
def sgnI(x:Int):Int:=if x<0 then -1 else if 0<x then 1 else 0
def sdI(b:Bool):Int:=if b then -1 else 1
def pcI(k:Int)(b:Bool):Int:=if b then -k else k
theorem dj{x:Int}(h1:-128≤x)(h2:x≤127):IntKind.i8.wrap x=x:=by unfold IntKind.wrap;simp only[IntKind.signed,IntKind.bits];simp;omega

theorem nb(x:Int)(w:World):Clz 157 #[.int .i8 x] w fun e w'=>e=.returned (.bool (pOk x))∧w=w':=by
 go_enter Tryz.func157,Tryz.ntmps157;go_wp2
 all_goals (go_ret;refine⟨?_,rfl⟩;simp[pOk, *]<;>omega)
theorem rB(x:Int)(w:World):Clz 135 #[.int .i8 x] w fun e w'=>e=.returned (.bool (pOk x))∧w=w':=by
 go_enter Tryz.func135,Tryz.ntmps135;go_wp2
 all_goals (go_ret;refine⟨?_,rfl⟩;simp[pOk, *]<;>omega)
theorem qg(x:Int)(w:World):Clz 97 #[.int .i8 x] w fun e w'=>e=.returned (.bool (oOk x))∧w=w':=by
 go_enter Tryz.func97,Tryz.ntmps97;go_wp2
 all_goals (go_ret;refine⟨?_,rfl⟩;simp[oOk, *]<;>omega)
theorem vM(x:Int)(w:World):Clz 174 #[.int .i8 x] w fun e w'=>e=.returned (.bool (oOk x))∧w=w':=by
 go_enter Tryz.func174,Tryz.ntmps174;go_wp2
 all_goals (go_ret;refine⟨?_,rfl⟩;simp[oOk, *]<;>omega)
theorem cL(x:Int)(hx:-128<x∧x≤127)(w:World):Clz 39 #[.int .i8 x] w fun e w'=>e=.returned (.int .i8 (kindI x))∧w=w':=by
 go_enter Tryz.func39,Tryz.ntmps39;have e1:IntKind.i8.wrap (-x)=-x:=dj (by omega) (by omega);go_wp2
 all_goals (go_ret;refine⟨?_,rfl⟩;simp[kindI, *]<;>omega)
theorem jE(x:Int)(w:World):Clz 168 #[.int .i8 x] w fun e w'=>e=.returned (.int .i64 (sgnI x))∧w=w':=by
 go_enter Tryz.func168,Tryz.ntmps168;go_wp2
 all_goals (go_ret;refine⟨?_,rfl⟩;simp[sgnI, *]<;>omega)
theorem mh(b:Bool)(w:World):Clz 99 #[.bool b] w fun e w'=>e=.returned (.int .i64 (sdI b))∧w=w':=by
 go_enter Tryz.func99,Tryz.ntmps99;go_wp2
 all_goals (go_ret;refine⟨?_,rfl⟩;simp[sdI, *])
theorem cV(b:Bool)(w:World):Clz 205 #[.bool b] w fun e w'=>e=.returned (.int .i64 (sdI b))∧w=w':=by
 go_enter Tryz.func205,Tryz.ntmps205;go_wp2
 all_goals (go_ret;refine⟨?_,rfl⟩;simp[sdI, *])
theorem jA(b:Bool)(w:World):Clz 172 #[.bool b] w fun e w'=>e=.returned (.int .i64 (sdI b))∧w=w':=by
 go_enter Tryz.func172,Tryz.ntmps172;go_wp2
 all_goals (go_ret;refine⟨?_,rfl⟩;simp[sdI, *])
theorem nU(x:Int)(b:Bool)(hx:-128<x∧x≤127)(w:World):Clz 103 #[.int .i8 x,.bool b] w fun e w'=>e=.returned (.int .i8 (pcI x b))∧w=w':=by
 go_enter Tryz.func103,Tryz.ntmps103;have e1:IntKind.i8.wrap (-x)=-x:=dj (by omega) (by omega);go_wp2
 all_goals (go_ret;refine⟨?_,rfl⟩;simp[pcI, *])
theorem dG(x:Int)(b:Bool)(hx:-128<x∧x≤127)(w:World):Clz 139 #[.int .i8 x,.bool b] w fun e w'=>e=.returned (.int .i8 (pcI x b))∧w=w':=by
 go_enter Tryz.func139,Tryz.ntmps139;have e1:IntKind.i8.wrap (-x)=-x:=dj (by omega) (by omega);go_wp2
 all_goals (go_ret;refine⟨?_,rfl⟩;simp[pcI, *])
theorem yJ(x:Int)(b:Bool)(w:World):Clz 176 #[.int .i8 x,.bool b] w fun e w'=>e=.returned (.bool (decide (sgnI x=sdI b)))∧w=w':=by
 go_enter Tryz.func176,Tryz.ntmps176;rcases b with _|_
 all_goals go_wp2
 all_goals (go_ret;refine⟨?_,rfl⟩;simp[sgnI,sdI, *]<;>omega)
theorem fI(x:Int)(hx:-9223372036854775808<x∧x≤9223372036854775807)(w:World):Clz 208 #[.int .i64 x] w fun e w'=>e=.returned (.int .i64 (kindI x))∧w=w':=by
 go_enter Tryz.func208,Tryz.ntmps208;have e1:IntKind.i64.wrap (-x)=-x:=IntWalk.i64_in _ (by omega);go_wp2
 all_goals (go_ret;refine⟨?_,rfl⟩;simp[kindI, *]<;>omega)
theorem cu(x:Int)(w:World):Clz 209 #[.int .i64 x] w fun e w'=>e=.returned (.int .i64 (sgnI x))∧w=w':=by
 go_enter Tryz.func209,Tryz.ntmps209;go_wp2
 all_goals (go_ret;refine⟨?_,rfl⟩;simp[sgnI, *]<;>omega)
def bX(S:Nat→Bool):List Nat→Nat | []=>0|s::r=>if S s=true then 1+bX S r else 0
def bi(ops:Array Oper):List Nat→Bool
 | s::t::r=>((ops[t]?).map (·.after.any fun e=>Region.binds .any e&&e.on==s)).getD false&&bi ops (t::r)
 | _=>true
theorem ql(S:Nat→Bool)(st:List Nat):bX S st≤st.length:=by
 induction st with
 | nil=>simp[bX]
 | cons s r ih=>simp only[bX,List.length_cons];split<;>omega
theorem km{S S':Nat→Bool}{st:List Nat}(h:∀ s∈st,S s=S' s):bX S st=bX S' st:=by
 induction st with
 | nil=>rfl
 | cons s r ih=>simp only[bX];rw[h s List.mem_cons_self,ih (fun x hx=>h x (List.mem_cons_of_mem _ hx))]
theorem iy{S:Nat→Bool}{st:List Nat}{i:Nat}(h:i∉st):bX (upd S i) st=bX S st :=
 km (fun s hs=>by unfold upd;rw[if_neg (fun e:s=i=>h (by rw[←e];exact hs))])
theorem iU{S:Nat→Bool}{st:List Nat}(h:∀ s∈st,S s=false):bX S st=0:=by
 cases st with
 | nil=>rfl
 | cons s r=>simp[bX,h s List.mem_cons_self]
theorem nX{S:Nat→Bool}{st:List Nat}(h:∀ s∈st,S s=true):bX S st=st.length:=by
 induction st with
 | nil=>rfl
 | cons s r ih=>simp only[bX,h s List.mem_cons_self,if_true,List.length_cons,ih (fun x hx=>h x (List.mem_cons_of_mem _ hx))];omega

theorem r9{ops:Array Oper}{S:Nat→Bool}(hcl:∀ j o',S j=true→ops[j]? = some o'→∀ e∈o'.after,Region.binds .any e=true→S e.on=true){s t:Nat}{r:List Nat}(hc:bi ops (s::t::r)=true)(h:S s=false):S t=false:=by
 rcases hS:S t with _|_
 ·rfl
 ·exfalso;simp only[bi,Bool.and_eq_true]at hc;rcases ho:ops[t]? with _|o
  ·rw[ho]at hc;simp at hc
  ·rw[ho]at hc;simp only[Option.map_some,Option.getD_some]at hc;obtain⟨k,hk,hk2⟩:=Array.any_eq_true.1 hc.1;simp only[Bool.and_eq_true,beq_iff_eq]at hk2;have:=hcl t o hS ho _ (Array.getElem_mem hk) hk2.1;rw[hk2.2,h]at this;cases this
theorem gN{ops:Array Oper}{S:Nat→Bool}(hcl:∀ j o',S j=true→ops[j]? = some o'→∀ e∈o'.after,Region.binds .any e=true→S e.on=true):∀(r:List Nat) (s:Nat),bi ops (s::r)=true→S s=false→∀ t∈r,S t=false:=by
 intro r;induction r with
 | nil=>intro s _ _ t ht;cases ht
 | cons x r ih =>
  intro s hc h t ht;have hx:=r9 hcl hc h;simp only[bi,Bool.and_eq_true]at hc;rcases List.mem_cons.1 ht with rfl|ht
  ·exact hx
  ·exact ih x hc.2 hx t ht
theorem qG{ops:Array Oper}{S:Nat→Bool}(hcl:∀ j o',S j=true→ops[j]? = some o'→∀ e∈o'.after,Region.binds .any e=true→S e.on=true):
  ∀(st:List Nat) (j i:Nat),bi ops st=true→st.Nodup→st[j]? = some i→S i=false →
   (∀ p q:Nat,st[p]? = some q→p+1=j→S q=true)→(bX S st=j∧bX (upd S i) st=j+1):=by
 intro st;induction st with
 | nil=>intro j i _ _ h;simp at h
 | cons s r ih =>
  intro j i hc hn hj hi hp;rw[List.nodup_cons]at hn;rcases j with _|j
  ·simp only[List.getElem?_cons_zero,Option.some.injEq]at hj;subst hj;have hf:=gN hcl r s hc hi;refine⟨by simp[bX,hi],?_⟩;have:bX (upd S s) r=0:=by rw[iy hn.1];exact iU hf
   simp only[bX,this];simp[upd]
  ·simp only[List.getElem?_cons_succ]at hj;have hir:i∈r:=List.mem_of_getElem? hj;have hne:¬s=i:=fun e=>hn.1 (e ▸ hir)
   have hc2:bi ops r=true:=by
    cases r with
    | nil=>rfl
    | cons x r=>simp only[bi,Bool.and_eq_true]at hc;exact hc.2
   have hS:S s=true:=by
    rcases hs:S s with _|_
    ·exfalso;have hf:=gN hcl r s hc hs;rcases j with _|j
     ·have:=hp 0 s rfl rfl;rw[hs]at this;cases this
     ·have hjl:j+1<r.length:=(List.getElem?_eq_some_iff.1 hj).1;have hq:r[j]? = some r[j]:=List.getElem?_eq_getElem (by omega);have:=hp (j+1) r[j] (by simp[hq]) rfl;rw[hf _ (List.getElem_mem _)]at this;cases this
    ·rfl
   obtain⟨e1,e2⟩:=ih j i hc2 hn.2 hj hi (fun p q hq hpj=>hp (p+1) q (by simpa using hq) (by omega));refine⟨by simp only[bX,hS,if_true,e1];omega,?_⟩;have e3:upd S i s=true:=by simp[upd,hne,hS]
   simp only[bX,e3,if_true,e2];omega

theorem lf{P:Program}{id:Nat}{ops:Array Oper}{Q:Exit→Act→World→Prop}{a:Act}{w:World}(hm:P.follows .mixedOrders=true)(hb:aW .any ops=true)
  (ds:List (Option Tmp)) (hds:ops.toList.map (·.dst)=ds) (hok:bn ds=true)
  (st:List Nat) (hst:bi ops st=true) (hnd:st.Nodup) (hlt:∀ s∈st,s<ops.size)
  (vals:List Value) (Ws:Nat→World) (h0:Ws 0=w.drew)
  (hstep:∀ i o f k,ops[i]? = some o→i<ops.size→i∉st→k≤st.length→(∀ e∈o.after,Region.binds .any e=true→f e.on=vals.getD e.on undef)→∀ K:Act→World→Prop,K ((ao ds f 0 a).put o.dst (vals.getD i undef)) (Ws k) →
   if Region.wanted o (yielded ops (ao ds f 0 a).tmps)=true then o.wp P (ao ds f 0 a) (Ws k) K Q else K ((ao ds f 0 a).put o.dst undef) (Ws k))
  (hturn:∀ i o f k,ops[i]? = some o→st[k]? = some i→(∀ e∈o.after,Region.binds .any e=true→f e.on=vals.getD e.on undef)→∀ K:Act→World→Prop,K ((ao ds f 0 a).put o.dst (vals.getD i undef)) (Ws (k+1)) →
   if Region.wanted o (yielded ops (ao ds f 0 a).tmps)=true then o.wp P (ao ds f 0 a) (Ws k) K Q else K ((ao ds f 0 a).put o.dst undef) (Ws k))
  (hend:Q .normal (ao ds (fun i=>vals.getD i undef) 0 a) (Ws st.length)):(Code.region id ops true).wp P Q a w:=by
 refine lA hm hb ds hds hok (fun i=>vals.getD i undef) (fun S=>Ws (bX S st)) (fun S S' h=>by simp only[km (fun s hs=>h s (hlt s hs))]) (by
  show Ws (bX (fun _=>false) st)=w.drew;rw[iU (fun _ _=>rfl)];exact h0) ?_ ?_
 ·intro S i o f ho hi hSi hpre hcl hf K hK;by_cases hmem:i∈st
  ·obtain⟨j,hj,hji⟩:=List.getElem_of_mem hmem;have hj2:st[j]? = some i:=by rw[List.getElem?_eq_getElem hj,hji]
   have hprev:∀ p q:Nat,st[p]? = some q→p+1=j→S q=true:=by
    rintro p q hq rfl;have key:∀(st:List Nat) (p i q:Nat) (o:Oper),bi ops st=true→st[p]? = some q→st[p+1]? = some i→ops[i]? = some o→∃ e∈o.after,Region.binds .any e=true∧e.on=q:=by
     intro st;induction st with
     | nil=>intro p i q o _ h;simp at h
     | cons s r ih =>
      intro p i q o hc h1 h2 ho;rcases p with _|p
      ·simp only[List.getElem?_cons_zero,Option.some.injEq]at h1;subst h1;cases r with
       | nil=>simp at h2
       | cons t r=>simp only[List.getElem?_cons_succ,List.getElem?_cons_zero,Option.some.injEq]at h2;subst h2;simp only[bi,Bool.and_eq_true]at hc;rw[ho]at hc;simp only[Option.map_some,Option.getD_some]at hc;obtain⟨k,hk,hk2⟩:=Array.any_eq_true.1 hc.1;simp only[Bool.and_eq_true,beq_iff_eq]at hk2;exact⟨_,Array.getElem_mem hk,hk2.1,hk2.2⟩
      ·have hc2:bi ops r=true:=by
        cases r with
        | nil=>rfl
        | cons x r=>simp only[bi,Bool.and_eq_true]at hc;exact hc.2
       exact ih p i q o hc2 (by simpa using h1) (by simpa using h2) ho
    obtain⟨e,he,hbd,hon⟩:=key st p i q o hst hq hj2 ho;rw[←hon];exact hpre e he hbd
   obtain⟨e1,e2⟩:=qG hcl st j i hst hnd hj2 hSi hprev;rw[e2]at hK;rw[e1];have hw0:=hturn i o f j ho hj2 hf K hK;exact hw0
  ·rw[iy hmem]at hK;exact hstep i o f _ ho hi hmem (ql _ _) hf K hK
 ·intro S hS;rw[nX (fun s hs=>hS s (hlt s hs))];exact hend

def cP(P:Program)(ty:TypeId)(n:Nat):Bool:=(match P.underlying ty with|some (.struct _)|some (.array _ _)=>true|_=>false)&&((P.info? ty).map (·.size)==some n)
theorem vK{P:Program}{o:Oper}{a:Act}{w:World}{K:Act→World→Prop}{Q:Exit→Act→World→Prop}(ty:TypeId)(x:Operand)(ho:o.op=.load ty x)
  (g:Nat) (cs:Array Value) (t:TypeId) (hx:a.eval x=.pointer (some ⟨g,0,none⟩)) (hg:ac w g (.cells cs t (0,0))) (hr:cP P ty cs.size=true) (h:K (a.put o.dst (.agg cs)) w):o.wp P a w K Q:=by
 unfold cP at hr;simp only[Bool.and_eq_true,beq_iff_eq]at hr;cases hu:P.underlying ty with
 | none=>rw[hu]at hr;cases hr.1
 | some d=>rw[hu]at hr;exact wp_load_row ty x ho g hx t cs (0,0) d hg hu (by cases d<;>simp_all) hr.2 h
/-! ### one operation of a region, by its kind -/
theorem dX{t:Array Value}{i j:Nat}(h:i≠j)(u:Value):(t.setIfInBounds i u).getD j undef=t.getD j undef:=by simp[Array.getD_eq_getD_getElem?,h]
theorem pK{t:Array Value}{i:Nat}(h:i<t.size)(u:Value):(t.setIfInBounds i u).getD i undef=u:=by simp[Array.getD_eq_getD_getElem?,h]
theorem s8(ds:List (Option Tmp))(f:Nat→Value)(k:Nat)(a:Act):(ao ds f k a).tmps.size=a.tmps.size:=by
 induction ds generalizing k a with
 | nil=>rfl
 | cons d ds ih=>simp only[ao];rw[ih];cases d<;>simp[Act.put]
theorem oB(ds:List (Option Tmp))(f:Nat→Value)(k:Nat)(a:Act){t:Tmp}(h:ds.contains (some t)=false):(ao ds f k a).tmps.getD t undef=a.tmps.getD t undef:=by
 induction ds generalizing k a with
 | nil=>rfl
 | cons d ds ih =>
  simp only[List.contains_cons,Bool.or_eq_false_iff,beq_eq_false_iff_ne]at h;simp only[ao];rw[ih _ _ h.2];cases d with
  | none=>rfl
  | some d=>exact dX (fun e=>h.1 (by rw[e])) _
theorem qD(ds:List (Option Tmp))(hd:bn ds=true)(f:Nat→Value)(k:Nat)(a:Act){t:Tmp}(hs:t<a.tmps.size){i:Nat}(hi:ds[i]? = some (some t)):(ao ds f k a).tmps.getD t undef=f (k+i):=by
 induction ds generalizing k a i with
 | nil=>simp at hi
 | cons d ds ih =>
  rcases i with _|i
  ·simp only[List.getElem?_cons_zero,Option.some.injEq]at hi;subst hi;simp only[bn,Bool.and_eq_true,Bool.not_eq_true']at hd;simp only[ao,Nat.add_zero];rw[oB _ _ _ _ hd.1];exact pK hs _
  ·simp only[List.getElem?_cons_succ]at hi;simp only[ao];rw[ih (by rcases d with _|t<;>simp only[bn,Bool.and_eq_true]at hd;exact hd;exact hd.2) (k+1) _ (by cases d<;>simp[Act.put,hs]) hi];congr 1;omega
theorem ce(ds:List (Option Tmp))(f:Nat→Value)(k:Nat)(a:Act):(ao ds f k a).defers=a.defers:=by
 induction ds generalizing k a with
 | nil=>rfl
 | cons d ds ih=>simp only[ao];rw[ih];cases d<;>rfl
theorem ah{ds:List (Option Tmp)}{f:Nat→Value}{a:Act}{t:Tmp}{v:Value}(h:ds.contains (some t)=false)(hv:a.tmps.getD t undef=v):(ao ds f 0 a).eval (.tmp t)=v:=by show(ao ds f 0 a).tmps.getD t undef=v;rw[oB _ _ _ _ h,hv]
theorem aB{ds:List (Option Tmp)}(hd:bn ds=true){f:Nat→Value}{a:Act}{t:Tmp}(i:Nat)(hi:ds[i]? = some (some t))(hs:t<a.tmps.size){v:Value}(hf:f i=v):(ao ds f 0 a).eval (.tmp t)=v:=by show(ao ds f 0 a).tmps.getD t undef=v;rw[qD _ hd _ _ _ hs hi,Nat.zero_add,hf]

/-- an operation of a region, read off its place -/
theorem og{ops:Array Oper}{i:Nat}{o:Oper}(ho:ops[i]? = some o){g:Option (Nat×Bool)}(h:(ops[i]?).map (·.guard)=some g:=by rfl):o.guard=g:=by rw[ho]at h;injection h
theorem oo{ops:Array Oper}{i:Nat}{o:Oper}(ho:ops[i]? = some o){p:Op}(h:(ops[i]?).map (·.op)=some p:=by rfl):o.op=p:=by rw[ho]at h;injection h
theorem oa{ops:Array Oper}{i:Nat}{o:Oper}(ho:ops[i]? = some o){e:Edge}(h:((ops[i]?).map fun o=>o.after.toList.any fun x=>x.on==e.on&&decide (x.ground=e.ground))=some true:=by rfl):e∈o.after:=by rw[ho]at h;simp only[Option.map_some,Option.some.injEq,List.any_eq_true,Bool.and_eq_true,beq_iff_eq,decide_eq_true_eq]at h;obtain⟨x,hx,h1,h2⟩:=h;obtain⟨xo,xg⟩:=x;obtain⟨eo,eg⟩:=e;simp only at h1 h2;subst h1 h2;simpa using hx
theorem ri{ds:List (Option Tmp)}{f:Nat→Value}{a:Act}{t:Tmp}(i:Nat){v:Value}(hf:f i=v)(hd:bn ds=true:=by rfl)(hi:ds[i]? = some (some t):=by rfl)(hs:t<a.tmps.size:=by simp):(ao ds f 0 a).eval (.tmp t)=v:=aB hd i hi hs hf
theorem da{ops:Array Oper}{i:Nat}{o:Oper}(ho:ops[i]? = some o){C:Edge→Prop}(hf:∀ e∈o.after,Region.binds .any e=true→C e)(j:Nat)(h:((ops[i]?).map fun o=>o.after.toList.any fun x=>x.on==j&&decide (x.ground=.data))=some true:=by rfl):C ⟨j,.data⟩:=hf ⟨j,.data⟩ (oa ho h) rfl
theorem dg{ops:Array Oper}{i:Nat}{o:Oper}(ho:ops[i]? = some o){C:Edge→Prop}(hf:∀ e∈o.after,Region.binds .any e=true→C e)(j:Nat)(h:((ops[i]?).map fun o=>o.after.toList.any fun x=>x.on==j&&decide (x.ground=.guard))=some true:=by rfl):C ⟨j,.guard⟩:=hf ⟨j,.guard⟩ (oa ho h) rfl
theorem kk{W:World}{R T:Value→World→Prop}(hK:∀ u W',Below W.heap.size W W'→R u W'→T u W'){u:Value}(h:R u W:=by exact rfl):T u W:=hK u W (Below.refl _ _) h
section ops
variable {P:Program} {o:Oper} {a:Act} {w:World} {K:Act→World→Prop} {Q:Exit→Act→World→Prop} {t:Nat→Option Bool} {X:Prop}
theorem bm(hg:o.guard=none)(h:o.wp P a w K Q):if Region.wanted o t=true then o.wp P a w K Q else X:=by
 have:Region.wanted o t=true:=by simp[Region.wanted,hg]
 rw[if_pos this];exact h
theorem aE(hg:o.guard=none)(x:Operand)(ho:o.op=.assign x){v:Value}(hx:a.eval x=v)(h:K (a.put o.dst v) w):if Region.wanted o t=true then o.wp P a w K Q else X:=by refine bm hg ?_;unfold Oper.wp execOp;simp only[ho,hx];exact h
theorem al(hg:o.guard=none)(x:Operand)(ho:o.op=.move x){v:Value}(hx:a.eval x=v)(h:K (a.put o.dst v) w):if Region.wanted o t=true then o.wp P a w K Q else X:=by refine bm hg ?_;unfold Oper.wp execOp;simp only[ho,hx];exact h
def kV(P:Program)(ty:TypeId):Bool:=match P.underlying ty with|none=>false|some (.struct _)=>false|some (.array _ _)=>false|some _=>true
theorem mV{ty:TypeId}{n:Nat}(h:cP P ty n=true):(isAgg ty).run P w=.ok true w:=by
 unfold cP at h;simp only[Bool.and_eq_true,beq_iff_eq]at h;cases hu:P.underlying ty with
 | none=>rw[hu]at h;cases h.1
 | some d=>rw[hu]at h;unfold isAgg;rw[Sem.run_bind,run_underlying hu w];cases d<;>simp_all
theorem ct{ty:TypeId}{g b:Nat}(vs:List Value)(hr:cP P ty vs.length=true)(hc:∀ j v,vs[j]? = some v→w.cell? ⟨g,b+j,none⟩=some v):(loadVar ty ⟨g,b,none⟩).run P w=.ok (.agg vs.toArray) w:=by
 have hl:(loadCells ⟨g,b,none⟩ vs.length).run P w=.ok vs.toArray w:=run_loadCells_list (P:=P) w ⟨g,b,none⟩ vs (fun j v hv=>by rw[Addr.add_lit];exact hc j v hv);have hagg:=mV (w:=w) hr;unfold cP at hr;simp only[Bool.and_eq_true,beq_iff_eq]at hr;cases hq:P.info? ty with
 | none=>rw[hq]at hr;simp at hr
 | some i =>
  have hs:i.size=vs.length:=by have:=hr.2;simpa[hq]using this
  simp[loadVar,Sem.run_bind,hagg,sizeOf,typeInfo,hq,hs,hl]
theorem mz{ty:TypeId}{p:Addr}{v:Value}(hr:kV P ty=true)(hc:w.cell? p=some v):(loadVar ty p).run P w=.ok v w:=by
 have hagg:(isAgg ty).run P w=.ok false w:=by
  unfold kV at hr;cases hu:P.underlying ty with
  | none=>rw[hu]at hr;cases hr
  | some d=>rw[hu]at hr;unfold isAgg;rw[Sem.run_bind,run_underlying hu w];cases d<;>simp_all
 simp[loadVar,Sem.run_bind,hagg,hc]
theorem ay(hg:o.guard=none)(ty:TypeId)(x:Operand)(ho:o.op=.load ty x){g b:Nat}(hx:a.eval x=.pointer (some ⟨g,b,none⟩))(vs:List Value)(hr:cP P ty vs.length=true)
  (hc:∀ j v,vs[j]? = some v→w.cell? ⟨g,b+j,none⟩=some v) (h:K (a.put o.dst (.agg vs.toArray)) w):if Region.wanted o t=true then o.wp P a w K Q else X:=by
 refine bm hg ?_;unfold Oper.wp execOp;simp only[ho,hx,Instr.loadAt,Instr.sureAddr,Sem.run_bind,Sem.run_pure,Result.andThen_ok,ct vs hr hc];exact h
theorem ap(hg:o.guard=none)(ty:TypeId)(x:Operand)(ho:o.op=.load ty x){p:Addr}(hx:a.eval x=.pointer (some p))(hr:kV P ty=true){v:Value}(hc:w.cell? p=some v)(h:K (a.put o.dst v) w):if Region.wanted o t=true then o.wp P a w K Q else X:=by refine bm hg ?_;unfold Oper.wp execOp;simp only[ho,hx,Instr.loadAt,Instr.sureAddr,Sem.run_bind,Sem.run_pure,Result.andThen_ok,mz hr hc];exact h
theorem bI(hg:o.guard=none)(ty:TypeId)(x y:Operand)(ho:o.op=.store ty x y){g:Nat}(hx:a.eval x=.pointer (some ⟨g,0,none⟩))(cs old:Array Value)(e:TypeId)(hy:a.eval y=.agg cs)
  (hq:ac w g (.cells old e (0,0))) (hi:(P.info? ty).map (·.size)=some cs.size) (hold:old.size=cs.size) (h1:cs.all (·.oneCell')=true) (h:K (a.put o.dst undef) (w.setRow g cs)):if Region.wanted o t=true then o.wp P a w K Q else X :=
 bm hg (wp_store_row ty x y ho g cs hx hy e old hq hi hold h1 h)
theorem sZ(hg:o.guard=none)(ty:TypeId)(x y:Operand)(ho:o.op=.store ty x y){g b:Nat}(hx:a.eval x=.pointer (some ⟨g,b,none⟩)){v u:Value}(hy:a.eval y=v)(hi:(P.info? ty).map (·.size)=some 1)(h1:v.oneCell'=true)
  (hc:w.cell? ⟨g,b,none⟩=some u) (hf:w.frozen? ⟨g,b,none⟩=false) (h:K (a.put o.dst undef) (w.setCell ⟨g,b,none⟩ v)):if Region.wanted o t=true then o.wp P a w K Q else X:=by
 refine bm hg ?_;have hv:v.cells=#[v]:=by cases v<;>simp_all [Value.cells,Value.oneCell']
 cases hq:P.info? ty with
 | none=>simp[hq]at hi
 | some i =>
  have hs:i.size=1:=by simpa[hq]using hi
  unfold Oper.wp execOp;have hrun:(storeVar ty ⟨g,b,none⟩ v).run P w=.ok () (w.setCell ⟨g,b,none⟩ v):=by simp only[storeVar,sizeOf,typeInfo,Sem.run_bind];simp[hq,hs,hv,storeCells,Addr.add_lit,run_store P w _ v _ h1,hc,hf]
  simp only[ho,hx,hy,Instr.storeAt,Instr.sureAddr,Sem.run_bind,Sem.run_pure,Result.andThen_ok,hrun];exact h
def uz(P:Program)(s f:Nat):Option Nat:=match P.underlying s with
 | some (.struct fs)=>match fs[f]? with
  | some fl=>match P.info? fl.type with
   | some i=>if i.size=0 then none else some fl.offset
   | none=>none
  | none=>none
 | _=>none
theorem sx{s f n:Nat}(h:uz P s f=some n)(g b:Nat):(Instr.fieldAt s (.pointer (some ⟨g,b,none⟩)) f).run P w=.ok (.pointer (some ⟨g,b+n,none⟩)) w:=by
 unfold uz at h;cases hu:P.underlying s with
 | none=>rw[hu]at h;cases h
 | some d =>
  rw[hu]at h;cases d with
  | struct fs =>
   simp only at h;cases hf:fs[f]? with
   | none=>rw[hf]at h;cases h
   | some fl =>
    rw[hf]at h;simp only at h;cases hi:P.info? fl.type with
    | none=>rw[hi]at h;cases h
    | some i =>
     rw[hi]at h;simp only at h;by_cases h0:i.size=0
     ·rw[if_pos h0]at h;cases h
     ·rw[if_neg h0]at h;injection h with h;subst h;unfold Instr.fieldAt;rw[Sem.run_bind,run_underlying hu w];simp only[Result.andThen_ok,hf,Sem.run_bind,Instr.sureAddr,Sem.run_pure,fieldPlace,sizeOf,typeInfo];simp[hi,h0,Addr.add_lit]
  | _=>cases h
theorem au(hg:o.guard=none)(s:TypeId)(x:Operand)(f:Nat)(ho:o.op=.fieldAddr s x f){g b n:Nat}(hx:a.eval x=.pointer (some ⟨g,b,none⟩))(hn:uz P s f=some n)(h:K (a.put o.dst (.pointer (some ⟨g,b+n,none⟩))) w):if Region.wanted o t=true then o.wp P a w K Q else X:=by refine bm hg ?_;unfold Oper.wp execOp;simp only[ho,hx,Sem.run_bind,sx hn,Result.andThen_ok,Sem.run_pure];exact h
theorem aQ(hg:o.guard=none)(fid:Nat)(x:Operand)(ts:Array TypeId)(ho:o.op=.call {callee:=.value (.func fid),args:=#[x],argTypes:=ts}){v:Value}(hx:a.eval x=v)
  (he:∀ args w,(callFunc fid args).run P w=.ok (.enter fid args) w) {R:Ending→World→Prop} (hc:Calls P fid #[v] w R) (hret:∀ u w',R (.returned u) w'→K (a.put o.dst u) w') (hpan:∀ ch w',R (.panicked ch) w'→Q (.panic ch) a w') (hout:∀ w',¬R .outgrown w') :
  if Region.wanted o t=true then o.wp P a w K Q else X:=by
 refine bm hg ?_;have hr:(execOp a.eval o).run P w=.ok (.enter fid #[v]) w:=by have hf:a.eval (.func fid)=.func (.func fid) #[] #[]:=rfl;unfold execOp;simp[ho,resolve,hf,hx,Deferred.ofValue,invoke,he]
 unfold Oper.wp;rw[hr,Oper.upon_enter];refine hc.mono ?_;intro e w' h;cases e with
 | returned u=>exact hret u w' h
 | panicked ch=>exact hpan ch w' h
 | outgrown=>exact absurd h (hout w')
theorem aH(hg:o.guard=none)(fid:Nat)(x y:Operand)(ts:Array TypeId)(ho:o.op=.call {callee:=.value (.func fid),args:=#[x,y],argTypes:=ts}){v u:Value}(hx:a.eval x=v)(hy:a.eval y=u)
  (he:∀ args w,(callFunc fid args).run P w=.ok (.enter fid args) w) {R:Ending→World→Prop} (hc:Calls P fid #[v,u] w R) (hret:∀ u w',R (.returned u) w'→K (a.put o.dst u) w') (hpan:∀ ch w',R (.panicked ch) w'→Q (.panic ch) a w') (hout:∀ w',¬R .outgrown w') :
  if Region.wanted o t=true then o.wp P a w K Q else X:=by
 refine bm hg ?_;have hr:(execOp a.eval o).run P w=.ok (.enter fid #[v,u]) w:=by have hf:a.eval (.func fid)=.func (.func fid) #[] #[]:=rfl;unfold execOp;simp[ho,resolve,hf,hx,hy,Deferred.ofValue,invoke,he]
 unfold Oper.wp;rw[hr,Oper.upon_enter];refine hc.mono ?_;intro e w' h;cases e with
 | returned u=>exact hret u w' h
 | panicked ch=>exact hpan ch w' h
 | outgrown=>exact absurd h (hout w')
theorem lI(hg:o.guard=none)(ty:TypeId)(x:Operand)(ho:o.op=.buildSlice ty 1 #[(0,x)]){v u:Value}{w':World}(hx:a.eval x=v)(hr:(Instr.buildSlice ty 1 #[(0,v)]).run P w=.ok u w')(h:K (a.put o.dst u) w'):if Region.wanted o t=true then o.wp P a w K Q else X:=by refine bm hg ?_;unfold Oper.wp execOp;simp only[ho,List.map_toArray,List.map_cons,List.map_nil,hx,Sem.run_bind,hr,Result.andThen_ok,Sem.run_pure];exact h
theorem mq(hg:o.guard=none)(s x:Operand)(ty:TypeId)(ho:o.op=.call {callee:=.builtin .append,args:=#[s,x],argTypes:=#[ty,ty]})
  (base:Nat) (e:TypeId) (i:TypeInfo) (z:Value) (size bytes:Nat) (ht:P.underlying ty=some (.slice e)) (hi:P.info? e=some i) (hz:i.zero=some z)
  (hsize:i.size=size) (hby:i.bytes=bytes) (hzs:z.cells.size=size) (hsz:0<size)
  (v:Value) (n:Nat) (xs:List Value) (hs:a.eval s=v) (hown:w.ownsRow base e size v n xs)
  (ad:Addr) (m c:Nat) (news:List Value) (hx:a.eval x=.slice (some ad) m c) (hl:news.length=m*size) (hnews:∀ j u,news[j]? = some u→w.cell? (ad.add j)=some u) (h1:∀ u∈news,u.oneCell'=true)
  (hbytes:(n+m)*(bytes+1)≤140737488355328) (hbase:base≤w.heap.size)
  (h:∀ v' w',w'.ownsRow base e size v' (n+m) (xs++news)→w.grownBy w' v.ownBlock→(v'.ownBlock=v.ownBlock∨v'.ownBlock=some w.heap.size)→K (a.put o.dst v') w'):if Region.wanted o t=true then o.wp P a w K Q else X:=by
 refine bm hg ?_;have hb1:(n+m)*bytes≤140737488355328:=Nat.le_trans (Nat.mul_le_mul_left _ (by omega)) hbytes;have hb2:n+m≤maxLen:=by have:(n+m)*1≤(n+m)*(bytes+1):=Nat.mul_le_mul_left _ (by omega);unfold maxLen;omega
 obtain⟨v',w',hr,h2,h3,_,h5⟩:=run_append_own_at (P:=P) w base ty o.type e i z size bytes ht hi hz hsize hby hzs hsz v n xs hown ad m c news hl hnews h1 hb2 hb1 hbase;unfold Oper.wp execOp;simp only[ho,resolve,invoke,builtin,Sem.run_bind,Sem.run_pure,Result.andThen_ok,List.map_toArray,List.map_cons,List.map_nil,hs,hx,hr];exact h v' w' h2 h3 h5
end ops
theorem ck{ds:List (Option Tmp)}(hd:bn ds=true){f:Nat→Value}{a:Act}{t:Tmp}(i:Nat)(hi:ds[i]? = some (some t))(hs:t<a.tmps.size){v:Value}(hf:f i=v):(ao ds f 0 a).tmps.getD t undef=v:=by rw[qD _ hd _ _ _ hs hi,Nat.zero_add,hf]
theorem ba{P:Program}{ops:Array Oper}{rest:List Oper}{o:Oper}{a:Act}{w:World}{Q:Exit→Act→World→Prop}(hgd:o.guard=none)(ty:TypeId)(x:Operand)(ho:o.op=.load ty x)
  (g:Nat) (cs:Array Value) (t:TypeId) (hx:a.eval x=.pointer (some ⟨g,0,none⟩)) (hg:ac w g (.cells cs t (0,0))) (hr:cP P ty cs.size=true)
  (h:wpList P ops Q rest (a.put o.dst (.agg cs)) w):wpList P ops Q (o::rest) a w :=
 wpList_plain hgd fun _ hK=>vK ty x ho g cs t hx hg hr (hK _ _ h)
theorem bg{P:Program}{fn:Func}{p:Tmp}{ty:TypeId}(h:fn.results=#[.cell p ty]){tmps:Array Value}{w:World}{g:Nat}{t:TypeId}{cs:Array Value}
  (hp:tmps.getD p undef=.pointer (some ⟨g,0,none⟩)) (hg:ac w g (.cells cs t (0,0))) (hr:cP P ty cs.size=true):(results fn tmps).run P w=.ok (.agg cs) w:=by
 have e1:(loadVar ty ⟨g,0,none⟩).run P w=.ok (.agg cs) w:=by have:=ct (P:=P) (w:=w) (ty:=ty) (g:=g) (b:=0) cs.toList (by simpa using hr) (fun j v hv=>by rw[Nat.zero_add,hg.cells j];simpa using hv);simpa using this
 have hp':tmps[p]?.getD undef=.pointer (some ⟨g,0,none⟩):=by simpa using hp
 simp[results,h,hp',asAddr,e1]
theorem aO(F R a:Nat)(hF:3≤F∧F≤8)(ha:a<1000)(w:World):Clz 40 #[.agg #[.int .i64 F,.int .i64 R],.int .i64 a] w fun e w'=>e=.returned (.agg #[.int .i64 (a%F:Nat),.int .i64 (a/F:Nat)])∧Below w.heap.size w w':=by
 have hF0:(F:Int)≠0:=by omega
 go_enter Tryz.func40,Tryz.ntmps40;have hA:=ac.new w (.cells #[.int .i64 (F:Int),.int .i64 (R:Int)] 23);have hB:=hA.alloc (.cells #[.int .i64 0,.int .i64 0] 85);have hC:=ac.new (w.alloc (.cells #[.int .i64 (F:Int),.int .i64 (R:Int)] 23)) (.cells #[.int .i64 0,.int .i64 0] 85);have hc0:=hB.cells 0;have hlB:=hB.lt;have hlC:=hC.lt;go_wp2_with fail;go_region;have e1:(a:Int)/(F:Int)=((a/F:Nat):Int):=rfl;have e2:((a/F:Nat):Int)≤a:=by have:=Nat.div_le_self a F;omega
 have e3:(a:Int)%(F:Int)=((a%F:Nat):Int):=rfl;have e4:(0:Int)≤((a/F:Nat):Int):=Int.natCast_nonneg _;rw[e1,e3,IntWalk.wrap64_in _ (by omega)];go_wp2_with fail;refine bodyPost_ret (bg (fn:=Tryz.f40) Tryz.results40 rfl (ac.new' (w.alloc (.cells #[.int .i64 (F:Int),.int .i64 (R:Int)] 23)) (.cells #[.int .i64 ((a%F:Nat):Int),.int .i64 ((a/F:Nat):Int)] 85) (by simp)).drew (by kernel_rfl)) rfl ?_;exact⟨rfl,((ae _ _).alloc (by simp) _).drew⟩
theorem mU(f r a b:Int)(w:World)(h1:-1000<f∧f<1000)(h3:-1000<a∧a<1000)(h4:-1000<b∧b<1000):Clz 46 #[.agg #[.int .i64 f,.int .i64 r],.int .i64 a,.int .i64 b] w fun e w'=>e=.returned (.int .i64 (if a<0∨f≤a∨b<0∨r≤b then -1 else b*f+a))∧Below w.heap.size w w':=by
 have hp:b*f<1000000∧-1000000<b*f:=by have h5:(b*f).natAbs=b.natAbs*f.natAbs:=Int.natAbs_mul b f;have h6:b.natAbs*f.natAbs≤999*999:=Nat.mul_le_mul (by omega) (by omega);omega
 go_enter Tryz.func46,Tryz.ntmps46;have e1:wrap64 (b*f+a)=b*f+a:=IntWalk.wrap64_in _ (by omega);have e2:wrap64 (b*f)=b*f:=IntWalk.wrap64_in _ (by omega);go_wp2
 all_goals (go_ret;refine⟨?_,ae _ _⟩;first|(rw[if_pos (by omega)];rfl)|(rw[if_neg (by omega)];rfl)|rfl)
def sqB(f r a:Int):Bool:=bR f r&&(decide (0≤a)&&decide (a<f*r))
theorem qm{f r:Int}(h:bR f r=true):3≤f∧f≤8∧3≤r∧r≤8:=by simp[bR,sideB]at h;omega
theorem yO{f r:Int}(h1:3≤f)(h2:f≤8)(h3:3≤r)(h4:r≤8):9≤f*r∧f*r≤64:=by have h5:=Int.mul_le_mul h1 h3 (by omega) (by omega);have h6:=Int.mul_le_mul h2 h4 (by omega) (by omega);omega
theorem cM{f r:Int}(h:bR f r=true):9≤f*r∧f*r≤64:=by obtain⟨h1,h2,h3,h4⟩:=qm h;exact yO h1 h2 h3 h4

theorem eV(f r a:Int)(w:World):Clz 56 #[.agg #[.int .i64 f,.int .i64 r],.int .i64 a] w fun e w'=>e=.returned (.bool (sqB f r a))∧Below w.heap.size w w':=by
 have hb:=ae w (.cells #[.int .i64 f,.int .i64 r] 23);have hA:=ac.new w (.cells #[.int .i64 f,.int .i64 r] 23);go_enter Tryz.func56,Tryz.ntmps56;go_wp2_with fail;refine(oW f r _).mono ?_;rintro e w1 ⟨rfl,hb1⟩;have hb':=zbc hb hb1;have hc:=(hA.call hb1).cells;have hl:=(hA.call hb1).lt;rcases hs:bR f r with _|_
 ·go_wp2_with fail;go_ret;exact⟨by simp[sqB,hs],hb'⟩
 ·have hm:=cM hs;have e1:wrap64 (f*r)=f*r:=IntWalk.wrap64_in _ (by omega);replace hs:=zhd hs;clear hA hb;go_wp2
  all_goals (go_ret;exact⟨by simp[sqB,hs.out, *]<;>omega,hb'⟩)
theorem dn(f r a:Int)(w:World):Clz 109 #[.agg #[.int .i64 f,.int .i64 r],.int .i64 a] w fun e w'=>e=.returned (.bool (sqB f r a))∧Below w.heap.size w w':=by
 have hb:=ae w (.cells #[.int .i64 f,.int .i64 r] 23);have hA:=ac.new w (.cells #[.int .i64 f,.int .i64 r] 23);go_enter Tryz.func109,Tryz.ntmps109;go_wp2_with fail;refine(ed f r _).mono ?_;rintro e w1 ⟨rfl,hb1⟩;have hb':=zbc hb hb1;have hc:=(hA.call hb1).cells;have hl:=(hA.call hb1).lt;rcases hs:bR f r with _|_
 ·go_wp2_with fail;go_ret;exact⟨by simp[sqB,hs],hb'⟩
 ·have hm:=cM hs;have e1:wrap64 (f*r)=f*r:=IntWalk.wrap64_in _ (by omega);replace hs:=zhd hs;clear hA hb;go_wp2
  all_goals (go_ret;exact⟨by simp[sqB,hs.out, *]<;>omega,hb'⟩)
def dW(f r:Int):Int×Int:=if bR f r then(f*r,0)else(0,2)
theorem pQ(f r:Int)(w:World):Clz 132 #[.agg #[.int .i64 f,.int .i64 r]] w fun e w'=>e=.returned (.tuple #[.int .i64 (dW f r).1,.int .i64 (dW f r).2])∧Below w.heap.size w w':=by
 have hb:=ae w (.cells #[.int .i64 f,.int .i64 r] 23);have hA:=ac.new w (.cells #[.int .i64 f,.int .i64 r] 23);go_enter Tryz.func132,Tryz.ntmps132;go_wp2_with fail;refine(ed f r _).mono ?_;rintro e w1 ⟨rfl,hb1⟩;have hb':=zbc hb hb1;have hc:=(hA.call hb1).cells;have hl:=(hA.call hb1).lt;rcases hs:bR f r with _|_
 ·go_wp2_with fail;go_ret2
  exact⟨by rw[show dW f r=(0,2)from by simp[dW,hs]];rfl,hb'⟩
 ·have hm:=cM hs;have e1:wrap64 (f*r)=f*r:=IntWalk.wrap64_in _ (by omega);replace hs:=zhd hs;clear hA hb;go_wp2_with fail;go_ret2
  exact⟨by rw[show dW f r=(f*r,0)from by simp[dW,hs.out]];rfl,hb'⟩
theorem pH(f r:Int)(b:Bool)(hr:0≤r∧r≤1000)(w:World):Clz 41 #[.agg #[.int .i64 f,.int .i64 r],.bool b] w fun e w'=>e=.returned (.int .i64 (if b then 0 else r-1))∧Below w.heap.size w w':=by
 have e1:wrap64 (r-1)=r-1:=IntWalk.wrap64_in _ (by omega);go_enter Tryz.func41,Tryz.ntmps41;go_wp2
 all_goals (go_ret;refine⟨?_,ae _ _⟩;simp[*])
theorem pJ(f r k:Int)(b:Bool)(hr:0≤r∧r≤1000)(hk:0≤k∧k≤1000)(w:World):Clz 102 #[.agg #[.int .i64 f,.int .i64 r],.bool b,.int .i64 k] w fun e w'=>e=.returned (.int .i64 (if b then r-k else k-1))∧Below w.heap.size w w':=by
 have e1:wrap64 (r-k)=r-k:=IntWalk.wrap64_in _ (by omega);have e2:wrap64 (k-1)=k-1:=IntWalk.wrap64_in _ (by omega);go_enter Tryz.func102,Tryz.ntmps102;go_wp2
 all_goals (go_ret;refine⟨?_,ae _ _⟩;simp[*])
end Go.Proofs.YtefmplccbkmalaaGreatDoor
namespace Go.Proofs.YtefmplccbkmalaaGreatDoor
open Go.RowKit

def Loc(w0:World)(B:Nat)(o:Obj)(W:World):Prop:=Below w0.heap.size w0 W∧ac W B o
theorem Loc.call{w0 W w':World}{B:Nat}{o:Obj}(h:Loc w0 B o W)(hb:Below W.heap.size W w'):Loc w0 B o w':=⟨aI h.1 h.1.size hb,h.2.call hb⟩
theorem Loc.drew{w0 W:World}{B:Nat}{o:Obj}(h:Loc w0 B o W):Loc w0 B o W.drew:=⟨h.1.drew,h.2⟩
theorem Loc.drewN{w0 W:World}{B:Nat}{o:Obj}(h:Loc w0 B o W)(n:Nat):Loc w0 B o (W.drewN n):=⟨qj h.1 n,h.2⟩
theorem Loc.alloc{w0 W:World}{B:Nat}{o:Obj}(h:Loc w0 B o W)(o':Obj):Loc w0 B o (W.alloc o'):=⟨h.1.alloc h.1.size o',h.2.alloc o'⟩
theorem Loc.new(w:World)(o:Obj):Loc w w.heap.size o (w.alloc o):=⟨ae w o,ac.new w o⟩

theorem wD{n:Int}(h0:0≤n)(h1:n<256):IntKind.u8.wrap n=n:=by
 have e:((2:Int)^IntKind.u8.bits)=256:=by decide
 have e2:IntKind.u8.signed=false:=rfl;simp[IntKind.wrap,e,e2];omega
end Go.Proofs.YtefmplccbkmalaaGreatDoor
/-
 DERIVED: THE SHELF's CONTRACTS AT THIS DUMP,IN PLAIN WORDS (tools/lay-plain.mjs out of 'TryzShelf.lean',which tools/lay-shelf.mjs wrote): THE SAME DECLARATIONS UNDER THE SAME NAMES: 'import','namespace','open','def','theorem' AND NOTHING ELSE: no command of the shelf's: FOR A HAND-IN. Each laying: the table of numbers ('.._ren') and one theorem,a field a fact of the dump's own or the kernel's comparison;each contract: ONE APPLICATION.
-/
namespace Go.Proofs
open Go.Shelf
def Tryz.lays125_ren:Go.Shelf.Ren:=⟨fun|125=>95|128=>155|129=>156|n=>n,fun|46=>135|3=>3|51=>194|53=>63|4=>4|5=>5|9=>9|n=>n,fun|n=>n⟩
theorem Tryz.lays125:Go.Proofs.Lays.n125 Tryz.prog Tryz.lays125_ren:={
 mixed:=by kernel_rfl
 f125:=Tryz.func95.trans (congrArg some (by kernel_rfl))
 f128:=Tryz.func155.trans (congrArg some (by kernel_rfl))
 f129:=Tryz.func156.trans (congrArg some (by kernel_rfl))
 t3:=Tryz.underlying3
 a3:=Tryz.isAgg3
 z3:=Tryz.sizeOf3
 v3:=Tryz.zeroValue3
 t4:=Tryz.underlying4
 a4:=Tryz.isAgg4
 z4:=Tryz.sizeOf4
 v4:=Tryz.zeroValue4
 t5:=Tryz.underlying5
 a5:=Tryz.isAgg5
 z5:=Tryz.sizeOf5
 v5:=Tryz.zeroValue5
 t9:=Tryz.underlying9
 a9:=Tryz.isAgg9
 z9:=Tryz.sizeOf9
 v9:=Tryz.zeroValue9
 t46:=Tryz.underlying135
 a46:=Tryz.isAgg135
 z46:=Tryz.sizeOf135
 v46:=Tryz.zeroValue135
 t51:=Tryz.underlying194
 a51:=Tryz.isAgg194
 z51:=Tryz.sizeOf194
 v51:=Tryz.zeroValue194
 t53:=Tryz.underlying63
 a53:=Tryz.isAgg63
 z53:=Tryz.sizeOf63
 v53:=Tryz.zeroValue63}
theorem Tryz.bits_Len(x:Int)(w:World)(h0:0≤x)(h1:x≤18446744073709551615):
  Calls Tryz.prog 95 #[.int .u64 x] w fun e w'=>e=.returned (.int .i64 (Lib.bitLen x.toNat))∧w'=w:=Any.bits_Len Tryz.lays125 x w h0 h1
def Tryz.lays215_ren:Go.Shelf.Ren:=⟨fun|215=>107|n=>n,fun|3=>3|4=>4|n=>n,fun|n=>n⟩
theorem Tryz.lays215:Go.Proofs.Lays.n215 Tryz.prog Tryz.lays215_ren:={
 mixed:=by kernel_rfl
 f215:=Tryz.func107.trans (congrArg some (by kernel_rfl))
 t3:=Tryz.underlying3
 a3:=Tryz.isAgg3
 z3:=Tryz.sizeOf3
 v3:=Tryz.zeroValue3
 t4:=Tryz.underlying4
 a4:=Tryz.isAgg4
 z4:=Tryz.sizeOf4
 v4:=Tryz.zeroValue4}
open Go.RowKit in
theorem Tryz.cmp_isNaN_int(x:Int)(w:World):
  Calls Tryz.prog 107 #[.int .i64 x] w fun e w'=>e=.returned (.bool false)∧w'=w:=Any.cmp_isNaN_int Tryz.lays215 x w
end Go.Proofs
namespace Go.Proofs.YtefmplccbkmalaaGreatDoor
open Go.RowKit

theorem nY{w:World}{base:Nat}{e:TypeId}{size n:Nat}{v:Value}{xs:List Value}(h:w.ownsRow base e size v n xs):∃ A c,v=.slice A n c:=by
 rcases h.2 with⟨rfl,rfl⟩|⟨g,cap,cur,hv,_⟩
 ·exact⟨_,_,rfl⟩
 ·exact⟨_,_,hv⟩
end Go.Proofs.YtefmplccbkmalaaGreatDoor
namespace Go.Proofs.YtefmplccbkmalaaGreatDoor
open Go.RowKit

theorem gi(l:List UInt8){i:Nat}(h:i<l.length)(W:World):(Instr.index 9 (.string (str l)) (.int .i64 i)).run Tryz.prog W=.ok (.int .u8 ((l[i]?.getD 0).toNat:Int)) W:=by
 have hz:(str l).size=l.length:=cY l;have hi:i<(str l).size:=by omega
 have e:((str l)[i]'hi)=l[i]'h:=rfl;simp[Instr.index,go_sem,hz,h,e]
def Arr(k:IntKind)(w:World)(p:Option Addr)(xs:List Int):Prop :=
 xs=[]∨∃ b o,p=some ⟨b,o,none⟩∧b<w.heap.size∧∀ j,j<xs.length→w.cell? ⟨b,o+j,none⟩=some (.int k (xs[j]?.getD 0))
theorem Arr.call{k:IntKind}{w w':World}{p:Option Addr}{xs:List Int}(h:Arr k w p xs)(hb:Below w.heap.size w w'):Arr k w' p xs:=by
 rcases h with h|⟨b,o,rfl,hl,hc⟩
 ·exact .inl h
 ·exact .inr ⟨b,o,rfl,Nat.lt_of_lt_of_le hl hb.size,fun j hj=>(hb.cell (p:=⟨b,o+j,none⟩) hl).trans (hc j hj)⟩
theorem Arr.drewN{k:IntKind}{w:World}{p:Option Addr}{xs:List Int}(h:Arr k w p xs)(n:Nat):Arr k (w.drewN n) p xs:=h
theorem Arr.at{k:IntKind}{w:World}{p:Option Addr}{xs:List Int}(h:Arr k w p xs){i:Nat}(hi:i<xs.length):
  ∃ b o,p=some ⟨b,o,none⟩∧b<w.heap.size∧∀ j,j<xs.length→w.cell? ⟨b,o+j,none⟩=some (.int k (xs[j]?.getD 0)):=by
 rcases h with h|h
 ·subst h;simp at hi
 ·exact h
def iY(x:Int):Bool:=!pOk x
def gb(x:Int):Bool:=!decide (x=0)&&!oOk x
theorem rY(x:Int)(w:World):Clz 134 #[.int .i8 x] w fun e w'=>e=.returned (.bool (iY x))∧w=w':=by go_enter Tryz.func134,Tryz.ntmps134;go_wp2_with fail;refine(rB x w).mono ?_;rintro e w' ⟨rfl,rfl⟩;go_wp2_with fail;go_ret;exact⟨rfl,rfl⟩
theorem vm(x:Int)(w:World):Clz 173 #[.int .i8 x] w fun e w'=>e=.returned (.bool (gb x))∧w=w':=by
 go_enter Tryz.func173,Tryz.ntmps173;by_cases h:x=0
 ·have hb:Hid (gb x=false):=zhd (by simp[gb,h]);subst h;go_wp2_with fail;go_ret;exact⟨by rw[hb.out];rfl,rfl⟩
 ·have hb:Hid (gb x=!oOk x):=zhd (by simp[gb,h]);go_wp2_with fail;refine(vM x w).mono ?_;rintro e w' ⟨rfl,rfl⟩;go_wp2_with fail;go_ret;exact⟨aV (show(x != 0&&!oOk x)=gb x by rw[hb.out];simp[h]),rfl⟩
theorem pI(fn:Nat)(g:Int→Bool)(hcf:∀ args w,(callFunc fn args).run Tryz.prog w=.ok (.enter fn args) w)(hf:∀ x w,Clz fn #[.int .i8 x] w fun e w'=>e=.returned (.bool (g x))∧w=w')(p:Option Addr)(c:Nat)(xs:List Int)(w:World)(hx:Arr .i8 w p xs)(hl:xs.length≤1000000000):
  Clz 180 #[.slice p xs.length c,.func (.func fn) #[] #[]] w fun e w'=>(∃ k:Int,e=.returned (.int .i64 k)∧(0≤k↔xs.any g=true))∧Below w.heap.size w w':=by
 go_enter Tryz.func180,Tryz.ntmps180;go_wp2_with fail;go_loopg [8] 1000000001 (fun q iv wr=>∃ i:Nat,q+i=1000000001∧i≤xs.length∧iv=.int .i64 i∧Below w.heap.size w wr∧(xs.take i).any g=false)
 case atStart=>exact⟨0,rfl,Nat.zero_le _,rfl,Below.refl _ _,rfl⟩
 case round =>
  obtain⟨i,hq,hi,rfl,hb,ha⟩:=hrel;replace ha:=zhd ha;by_cases hlt:i<xs.length
  ·have hii:(i:Int)<xs.length:=by omega
   obtain⟨b,o,rfl,hbl,hc⟩:=(hx.call hb).at hlt;have hci:=hc i hlt;have hget:xs[i]?.getD 0=xs[i]:=by simp[hlt]
   obtain⟨x,hxv⟩:∃ x,x=xs[i]?.getD 0:=⟨_,rfl⟩;rw[←hxv]at hci hget;replace hget:=zhd hget;clear hc hxv;go_wp2_with fail;refine(hf _ _).mono ?_;rintro e w1 ⟨rfl,rfl⟩;rcases hbd:g x with _|_
   ·go_wp2_with fail;go_roundg (gk-1)
    case measure=>omega
    case rel=>exact⟨i+1,by omega,by omega,by go_num,hb,by rw[List.take_succ_eq_append_getElem hlt,List.any_append,ha.out];simp[←hget.out,hbd]⟩
   ·go_wp2_with fail;go_ret;refine⟨⟨i,rfl,?_⟩,hb⟩;constructor
    ·intro _;rw[List.any_eq_true];exact⟨xs[i],List.getElem_mem hlt,by rw[←hget.out];exact hbd⟩
    ·intro _;omega
  ·have hii:¬(i:Int)<xs.length:=by omega
   go_wp2_with fail;go_ret;refine⟨⟨-1,rfl,?_⟩,hb⟩;have ha:=ha.out;rw[List.take_of_length_le (by omega)]at ha;constructor
   ·intro h;omega
   ·rintro⟨x,hx1,hx2⟩;rw[List.any_eq_false]at ha;exact absurd hx2 (by simpa using ha x hx1)
theorem jF(fn:Nat)(g:Int→Bool)(hcf:∀ args w,(callFunc fn args).run Tryz.prog w=.ok (.enter fn args) w)(hf:∀ x w,Clz fn #[.int .i8 x] w fun e w'=>e=.returned (.bool (g x))∧w=w')(p:Option Addr)(c:Nat)(xs:List Int)(w:World)(hx:Arr .i8 w p xs)(hl:xs.length≤1000000000):
  Clz 133 #[.slice p xs.length c,.func (.func fn) #[] #[]] w fun e w'=>e=.returned (.bool (xs.any g))∧Below w.heap.size w w':=by
 go_enter Tryz.func133,Tryz.ntmps133;go_wp2_with fail;refine(pI fn g hcf hf p c xs w hx hl).mono ?_;rintro e w1 ⟨⟨k,rfl,hk⟩,hb⟩;replace hk:=zhd hk;by_cases h:0≤k
 ·have hb2:=zhd (hk.out.1 h);go_wp2_with fail;go_ret;exact⟨by rw[hb2.out];rfl,hb⟩
 ·have hb2:Hid (xs.any g=false):=zhd (by rcases h2:xs.any g with _|_;rfl;exact absurd (hk.out.2 h2) h);go_wp2_with fail;go_ret;exact⟨aV (show decide (0≤k)=_ by rw[hb2.out];simp;omega),hb⟩
def cD(xs:List Int)(x:Int):Int:=if xs.any (·==x)then(xs.findIdx (·==x):Nat)else -1
theorem wN{xs:List Int}{x:Int}{i:Nat}(h1:(xs.take i).any (·==x)=false)(hlt:i<xs.length)(h2:xs[i]?.getD 0=x):cD xs x=i:=by
 have hg:xs[i]=x:=by simpa[hlt]using h2
 have h3:xs.any (·==x)=true:=by rw[List.any_eq_true];exact⟨xs[i],List.getElem_mem hlt,by simp[hg]⟩
 unfold cD;rw[if_pos h3];congr 1;rw[List.findIdx_eq hlt];refine⟨by simp[hg],fun j hj=>?_⟩;rw[List.any_eq_false]at h1;have:=h1 xs[j] (by rw[List.mem_take_iff_getElem];exact⟨j,by omega,rfl⟩);simpa using this
theorem sA{xs:List Int}{x:Int}(h:xs.any (·==x)=false):cD xs x=-1:=by unfold cD;rw[h];rfl
theorem x8{xs:List Int}{x:Int}:-1≤cD xs x∧cD xs x<xs.length:=by
 unfold cD;split
 ·rename_i h;rw[List.any_eq_true]at h;have:=List.findIdx_lt_length_of_exists (p:=(·==x)) h;omega
 ·omega
theorem mN(p:Option Addr)(c:Nat)(xs:List Int)(x:Int)(w:World)(hx:Arr .i8 w p xs)(hl:xs.length≤1000000000):
  Clz 181 #[.slice p xs.length c,.int .i8 x] w fun e w'=>e=.returned (.int .i64 (cD xs x))∧Below w.heap.size w w':=by
 go_enter Tryz.func181,Tryz.ntmps181;go_wp2_with fail;go_loopg [8] 1000000001 (fun q iv wr=>∃ i:Nat,q+i=1000000001∧i≤xs.length∧iv=.int .i64 i∧Below w.heap.size w wr∧(xs.take i).any (·==x)=false)
 case atStart=>exact⟨0,rfl,Nat.zero_le _,rfl,Below.refl _ _,rfl⟩
 case round =>
  obtain⟨i,hq,hi,rfl,hb,ha⟩:=hrel;replace ha:=zhd ha;by_cases hlt:i<xs.length
  ·have hii:(i:Int)<xs.length:=by omega
   obtain⟨b,o,rfl,hbl,hc⟩:=(hx.call hb).at hlt;have hci:=hc i hlt;have hget:xs[i]?.getD 0=xs[i]:=by simp[hlt]
   obtain⟨y,hxv⟩:∃ y,y=xs[i]?.getD 0:=⟨_,rfl⟩;rw[←hxv]at hci hget;replace hget:=zhd hget;replace hxv:=zhd hxv;clear hc;by_cases hyx:x=y
   ·have e1:Hid (cD xs x=i):=zhd (wN ha.out hlt (by rw[←hxv.out];exact hyx.symm));subst hyx;go_wp2_with fail;go_ret;exact⟨by rw[e1.out];rfl,hb⟩
   ·go_wp2_with fail;go_roundg (gk-1)
    case measure=>omega
    case rel=>exact⟨i+1,by omega,by omega,by go_num,hb,by rw[List.take_succ_eq_append_getElem hlt,List.any_append,ha.out];simp[←hget.out];exact fun h=>hyx h.symm⟩
  ·have hii:¬(i:Int)<xs.length:=by omega
   have e1:Hid (cD xs x=-1):=zhd (sA (by have ha:=ha.out;rwa[List.take_of_length_le (by omega)]at ha));go_wp2_with fail;go_ret;exact⟨by rw[e1.out];rfl,hb⟩
theorem eM(p:Option Addr)(c:Nat)(xs:List Int)(x:Int)(w:World)(hx:Arr .i8 w p xs)(hl:xs.length≤1000000000):
  Clz 137 #[.slice p xs.length c,.int .i8 x] w fun e w'=>e=.returned (.bool (xs.any (·==x)))∧Below w.heap.size w w':=by
 go_enter Tryz.func137,Tryz.ntmps137;go_wp2_with fail;refine(mN p c xs x w hx hl).mono ?_;rintro e w1 ⟨rfl,hb⟩;have e1:Hid (decide (0≤cD xs x)=xs.any (·==x)):=zhd (by
  unfold cD;rcases h:xs.any (·==x)with _|_<;>simp)
 go_wp2_with fail;go_ret;exact⟨aV e1.out,hb⟩
end Go.Proofs.YtefmplccbkmalaaGreatDoor
