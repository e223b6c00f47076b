import Derived.Test.YtefmplccbkmalaaGreatDoorB02
import Derived.Test.YtefmplccbkmalaaGreatDoorB03
import Derived.Test.YtefmplccbkmalaaGreatDoorB15
set_option maxRecDepth 100000
set_option maxHeartbeats 12800000
namespace Go.Proofs.YtefmplccbkmalaaGreatDoor
open Go.RowKit Go.Sort Go.BigFrame

theorem jd{P:Program}{ops:Array Oper}{rest:List Oper}{o:Oper}{a:Act}{w:World}{Q:Exit→Act→World→Prop}(hgd:o.guard=none)(ty:TypeId)(x:Operand)(ho:o.op=.load ty x)
  {g b:Nat} (hx:a.eval x=.pointer (some ⟨g,b,none⟩)) (vs:List Value) (hr:cP P ty vs.length=true) (hc:∀ j v,vs[j]? = some v→w.cell? ⟨g,b+j,none⟩=some v)
  (h:wpList P ops Q rest (a.put o.dst (.agg vs.toArray)) w):wpList P ops Q (o::rest) a w :=
 wpList_plain hgd fun _ hK=>by
  unfold Oper.wp execOp;simp only[ho,hx,Instr.loadAt,Instr.sureAddr,Sem.run_bind,Sem.run_pure,Result.andThen_ok,ct vs hr hc];exact hK _ _ h
theorem ll{P:Program}(w:World)(g o:Nat)(t ty:TypeId)(cur:Array Value)(cells:List Value)(hg:w.heap[g]? = some (.cells cur t (0,0)))(hi:(P.info? ty).map (·.size)=some cells.length)
  (hl:o+cells.length≤cur.size) (h1:∀ u∈cells,u.oneCell'=true) :
  (storeVar ty ⟨g,o,none⟩ (.agg cells.toArray)).run P w=.ok () (w.setRow g (cur.toList.take o++cells++cur.toList.drop (o+cells.length)).toArray):=by
 have:=run_storeCells_at (P:=P) g o t cells 0 cur w hg (by omega) h1;cases hq:P.info? ty with
 | none=>simp[hq]at hi
 | some i =>
  have hs:cells.length=i.size:=by simp[hq]at hi;omega
  simp[storeVar,sizeOf,typeInfo,hq,Value.cells,hs]at this ⊢;rw[this]
theorem vT{W:World}{base g n cap:Nat}{L:List Ret}(h:W.ownsRow base 42 7 (.slice (some ⟨g,0,none⟩) n cap) n (aD L))(hn:n=L.length){j:Nat}(hj:j<L.length)(x:Ret):
  ∃ cur:Array Value,ac W g (.cells cur 42 (0,0))∧j*7+x.cs.length≤cur.size∧(W.setRow g (cur.toList.take (j*7)++x.cs++cur.toList.drop (j*7+x.cs.length)).toArray).ownsRow base 42 7 (.slice (some ⟨g,0,none⟩) n cap) n (aD (L.set j x)):=by
 rcases h.2 with⟨h',_⟩|⟨g',cap',cur,h',hb,hg,hnc,hcm,hcs,htake⟩
 ·simp at h'
 ·simp only[Value.slice.injEq,Option.some.injEq,Addr.mk.injEq,and_true,true_and]at h';obtain⟨rfl,rfl⟩:=h';have h7:x.cs.length=7:=rfl;have hsz:j*7+7≤n*7:=by omega
  have hcz:n*7≤cur.size:=by rw[hcs];exact Nat.mul_le_mul_right 7 hnc
  refine⟨cur,hg,by omega,⟨by rw[cG,List.length_set,hn],.inr ⟨g,cap,_,rfl,hb,ak hg,hnc,hcm,?_,?_⟩⟩⟩
  ·simp;omega
  ·rw[tI L hj,←htake,h7];have e1:(cur.toList.take (n*7)).take (j*7)=cur.toList.take (j*7):=by rw[List.take_take,Nat.min_eq_left (by omega)]
   rw[e1,List.drop_take];have l1:(cur.toList.take (j*7)++x.cs).length=j*7+7:=by rw[List.length_append,List.length_take,Array.length_toList,h7];omega
   show((cur.toList.take (j*7)++x.cs)++cur.toList.drop (j*7+7)).take (n*7)=_;rw[List.take_append,l1,List.take_of_length_le (by omega)]
theorem jr(W:World)(g N cap k:Nat)(hk:k<N):(Instr.indexAt 30 (.slice (some ⟨g,0,none⟩) N cap) (.int .i64 k)).run Tryz.prog W=.ok (.pointer (some ⟨g,k*7,none⟩)) W:=by simp[Instr.indexAt,go_sem,run_underlying Tryz.underlying30,hk]
theorem gW{W:World}{base g n cap:Nat}{L:List Ret}(h:W.ownsRow base 42 7 (.slice (some ⟨g,0,none⟩) n cap) n (aD L)){j:Nat}(hj:j<n){i:Nat}{v:Value}(hv:(L[j]?.getD zeroRet).cs[i]? = some v):W.cell? ⟨g,j*7+i,none⟩=some v:=by
 have hn:n=L.length:=by have:=h.1;rw[cG]at this;omega
 have hi:i<7:=(List.getElem?_eq_some_iff.1 hv).1;rw[h.cellAt _ (by omega)];exact gh L j i v (by omega) hv
theorem jc(W:World)(g:Nat)(cs:Array Value):W.grownBy (W.setRow g cs) (some g):=by have h:=dI W g cs;exact⟨h.os,h.tape,h.output,h.size,fun k hk hne=>h.block k hk (by have:k≠g:=fun e=>hne (by rw[e]);omega)⟩
theorem qX(m m':Ret)(W:World):(Op.equalIn 10000 42 (.agg m.cs.toArray) (.agg m'.cs.toArray)).run Tryz.prog W=.ok (decide (m=m')) W:=by
 simp[go_sem];obtain⟨⟨a,b,c⟩,d,e,f,g⟩:=m;obtain⟨⟨a',b',c'⟩,d',e',f',g'⟩:=m';simp only[Ret.mk.injEq,Mv.mk.injEq];by_cases h0:a=a'<;>by_cases h1:b=b'<;>by_cases h2:c=c'<;>simp[h0,h1,h2]
 by_cases h3:d=d'<;>by_cases h4:e=e'<;>by_cases h5:f=f'<;>by_cases h6:g=g'<;>simp[h3,h4,h5,h6]
theorem qS(m m':Ret)(W:World):(binOp .neq 42 (.agg m.cs.toArray) (.agg m'.cs.toArray)).run Tryz.prog W=.ok (.bool (!decide (m=m'))) W:=by rw[run_neq_struct,qX];rfl
theorem xm(m m':Ret)(W:World):(binOp .eql 42 (.agg m.cs.toArray) (.agg m'.cs.toArray)).run Tryz.prog W=.ok (.bool (decide (m=m'))) W:=by rw[run_eql_struct,qX];rfl
theorem iH(op:BinOp)(x y:Operand)(xs ys:Array Value)(W:World):(eqGuard op 42 x y (.agg xs) (.agg ys)).run Tryz.prog W=.ok () W:=run_eqGuard_agg _ op 42 x y xs ys (by kernel_rfl)
def ddN(L:List Ret):Nat→List Ret
 | 0=>[]
 | j+1=>if 0<j∧L[j]?.getD zeroRet=L[j-1]?.getD zeroRet then ddN L j else ddN L j++[L[j]?.getD zeroRet]
theorem xQ(L:List Ret):ddN L 1=[L[0]?.getD zeroRet]:=by simp[ddN]
theorem tS{L:List Ret}{j:Nat}(h:L[j+1]?.getD zeroRet=L[j]?.getD zeroRet):ddN L (j+2)=ddN L (j+1):=by rw[ddN,if_pos ⟨Nat.succ_pos _,h⟩]
theorem sU{L:List Ret}{j:Nat}(h:L[j+1]?.getD zeroRet≠L[j]?.getD zeroRet):ddN L (j+2)=ddN L (j+1)++[L[j+1]?.getD zeroRet]:=by rw[ddN,if_neg (fun h2=>h h2.2)]
theorem gB{a b c:World}{r:Option Nat}(h1:a.grownBy b r)(h2:b.grownBy c r):a.grownBy c r :=
 ⟨h2.os.trans h1.os,h2.tape.trans h1.tape,h2.output.trans h1.output,Nat.le_trans h1.size h2.size,fun k hk hne=>(h2.block k (Nat.lt_of_lt_of_le hk h1.size) hne).trans (h1.block k hk hne)⟩
theorem fj{a b:World}{r:Option Nat}(h:Below a.heap.size a b):a.grownBy b r:=⟨h.os,h.tape,h.output,h.size,fun k hk _=>h.block k hk⟩
theorem nZ(W:World)(g o N cap k:Nat)(hk:k<N):(Instr.indexAt 30 (.slice (some ⟨g,o,none⟩) N cap) (.int .i64 k)).run Tryz.prog W=.ok (.pointer (some ⟨g,o+k*7,none⟩)) W:=by simp[Instr.indexAt,go_sem,run_underlying Tryz.underlying30,hk]
theorem tb{W:World}{base g n cap:Nat}{L:List Ret}(h:W.ownsRow base 42 7 (.slice (some ⟨g,0,none⟩) n cap) n (aD L)){k:Nat}(hk:k≤n):
  W.ownsRow base 42 7 (.slice (some ⟨g,0,none⟩) k cap) k (aD (L.take k)):=by
 have hn:n=L.length:=by have:=h.1;rw[cG]at this;omega
 rcases h.2 with⟨h1,_⟩|⟨g',cap',cur,hv,hbase,hheap,hncap,hcap,hcs,htake⟩
 ·cases h1
 injection hv with hv1 _ hv2;injection hv1 with hv1;injection hv1 with hv1;subst hv1 hv2;refine⟨by rw[cG,List.length_take,Nat.min_eq_left (by omega)],.inr ⟨g,cap,cur,rfl,hbase,hheap,by omega,hcap,hcs,?_⟩⟩;rw[retsV_take,←htake,List.take_take,Nat.min_eq_left (by omega)]
theorem kS{P:Program}{ops:Array Oper}{rest:List Oper}{o:Oper}{a:Act}{w wz:World}{Q:Exit→Act→World→Prop}(hgd:o.guard=none)(ty:TypeId)(x y:Operand)(ho:o.op=.store ty x y){g b:Nat}(hx:a.eval x=.pointer (some ⟨g,b,none⟩))(cells:List Value)(cur:Array Value)(e:TypeId)(hy:a.eval y=.agg cells.toArray)
  (hq:ac w g (.cells cur e (0,0))) (hi:(P.info? ty).map (·.size)=some cells.length) (hl:b+cells.length≤cur.size) (h1:∀ u∈cells,u.oneCell'=true)
  (hwz:Hid (wz=w.setRow g (cur.toList.take b++cells++cur.toList.drop (b+cells.length)).toArray)) (h:wpList P ops Q rest (a.put o.dst undef) wz):wpList P ops Q (o::rest) a w :=
 wpList_plain hgd fun _ hK=>by
  unfold Oper.wp execOp;simp only[ho,hx,hy,Instr.storeAt,Instr.sureAddr,Sem.run_bind,Sem.run_pure,Result.andThen_ok,ll w g b e ty cur cells hq hi hl h1];rw[←hwz.out];exact hK _ _ h
theorem zc(W:World):(zeroValue 42).run Tryz.prog W=.ok (.agg zeroRet.cs.toArray) W:=by kernel_rfl
theorem xx{W:World}{base g n cap k:Nat}{M:List Ret}(h:W.ownsRow base 42 7 (.slice (some ⟨g,0,none⟩) n cap) n (aD M))(hn:n=M.length)(hk:k<n):
  ∃ cs:Array Value,(∀ ty,(Builtin.clear_ #[30] ty #[.slice (some ⟨g,k*7,none⟩) (n-k) (cap-k)]).run Tryz.prog W=.ok (.tuple #[]) (W.setRow g cs))∧(W.setRow g cs).ownsRow base 42 7 (.slice (some ⟨g,0,none⟩) n cap) n (aD (M.take k++List.replicate (n-k) zeroRet)):=by
 rcases h.2 with⟨h1,_⟩|⟨g',cap',cur,hv,hbase,hheap,hncap,hcap,hcs,htake⟩
 ·cases h1
 injection hv with hv1 _ hv2;injection hv1 with hv1;injection hv1 with hv1;subst hv1 hv2;obtain⟨d,hd⟩:∃ d,n-k=d+1:=⟨n-k-1,by omega⟩;have hZ:(Builtin.zeroCells zeroRet.cs.toArray (n-k)).toList=aD (List.replicate (n-k) zeroRet):=by
  apply List.ext_getElem?
  intro t;by_cases ht:t<(n-k)*7
  ·have h3:=gh (List.replicate (n-k) zeroRet) (t/7) (t%7) (zeroRet.cs[t%7]!) (by rw[List.length_replicate];omega) (by
    rw[List.getElem?_replicate,if_pos (by omega)];have h7:t%7<7:=Nat.mod_lt _ (by omega);have hl:zeroRet.cs.length=7:=rfl;show zeroRet.cs[t%7]? = _;rw[List.getElem?_eq_getElem (by rw[hl];exact h7),getElem!_pos _ _ (by rw[hl];exact h7)])
   rw[show t/7*7+t%7=t by omega]at h3;rw[h3];unfold Builtin.zeroCells;rw[Array.getElem?_toList,Array.getElem?_map,Array.getElem?_range,if_pos (by simpa using ht)];show some (zeroRet.cs.toArray[t%7]!)=some (zeroRet.cs[t%7]!);rw[List.getElem!_toArray]
  ·rw[List.getElem?_eq_none (by unfold Builtin.zeroCells;simp;omega),List.getElem?_eq_none (by rw[cG,List.length_replicate];omega)]
 have hlen:(aD (List.replicate (n-k) zeroRet)).length=(n-k)*7:=by rw[cG,List.length_replicate]
 have hsz:k*7+(n-k)*7≤cur.size:=by rw[hcs];omega
 have hst:=run_storeCells_at (P:=Tryz.prog) g (k*7) 42 (aD (List.replicate (n-k) zeroRet)) 0 cur W hheap (by rw[hlen];omega) (sJ _);refine⟨(cur.toList.take (k*7+0)++aD (List.replicate (n-k) zeroRet)++cur.toList.drop (k*7+0+(aD (List.replicate (n-k) zeroRet)).length)).toArray,fun ty=>?_,?_⟩
 ·have hu:=run_underlying (P:=Tryz.prog) Tryz.underlying30;have hz:=zc;generalize zeroRet.cs.toArray=zs at hZ hz;rw[hd]at hZ hst ⊢;simp only[Builtin.clear_];simp[hu,hz,hZ,hst,Value.cells,Result.andThen]
 ·refine⟨by rw[cG,List.length_append,List.length_take,List.length_replicate];omega,.inr ⟨g,cap,_,rfl,hbase,ak hheap,hncap,hcap,?_,?_⟩⟩
  ·simp[hlen];omega
  ·rw[retsV_app,retsV_take,←htake,List.take_take,Nat.min_eq_left (by omega)];show((cur.toList.take (k*7+0)++aD (List.replicate (n-k) zeroRet))++_).take (n*7)=_;rw[List.take_append_of_le_length (by rw[List.length_append,List.length_take,hlen,Array.length_toList];omega),List.take_of_length_le (by rw[List.length_append,List.length_take,hlen,Array.length_toList];omega)];rfl
theorem ob(base g n cap:Nat)(L:List Ret)(hn:n=L.length)(hn2:n≤4000000)(w:World)(hown:w.ownsRow base 42 7 (.slice (some ⟨g,0,none⟩) n cap) n (aD L)):
  Clz 34 #[.slice (some ⟨g,0,none⟩) n cap] w fun e w'=>e=.returned (.slice (some ⟨g,0,none⟩) (ddN L n).length cap)∧w'.ownsRow base 42 7 (.slice (some ⟨g,0,none⟩) (ddN L n).length cap) (ddN L n).length (aD (ddN L n))∧w.grownBy w' (some g):=by
 have hncap:n≤cap:=by
  rcases hown.2 with⟨h1,_⟩|⟨g',cap',cur,hv,_,_,hncap,_⟩
  ·cases h1
  ·injection hv with _ _ hv2;omega
 by_cases h2:n<2
 ·have h2i:(n:Int)<2:=by omega
  have hdd:ddN L n=L:=by
   rcases L with _|⟨x,_|⟨y,L⟩⟩
   ·rw[hn];rfl
   ·rw[hn];simp[ddN]
   ·simp at hn;omega
  have hdl:(ddN L n).length=n:=by rw[hdd,←hn]
  go_enter Tryz.func34,Tryz.ntmps34;go_wp2_with fail;go_ret;rw[hdl,hdd];exact⟨rfl,hown,fj (Below.refl _ _)⟩
 ·have h2i:¬(n:Int)<2:=by omega
  replace hn:=zhd hn;go_enter Tryz.func34,Tryz.ntmps34;go_wp2_with fail;go_loopg [3] 4000001 (fun q kv wr=>∃ j:Nat,∃ wz,wz=wr∧q+j=4000001∧j+1≤n∧kv=.int .i64 ((j+1:Nat):Int)∧Hid (ddN L (j+1)=L.take (j+1))∧Below w.heap.size w wr)
  case atStart=>exact⟨0,_,rfl,rfl,by omega,rfl,zhd (by rw[xQ];have h0:0<L.length:=by rw[←hn.out];omega
                                                       rw[List.take_one,List.head?_eq_getElem?,List.getElem?_eq_getElem h0];rfl),Below.refl _ _⟩
  case round =>
   obtain⟨j,w2,rfl,hq,hj,rfl,hdj,hB⟩:=hrel;have hown2:=aA hown hB;by_cases hlt:j+1<n
   ·have hii:((j+1:Nat):Int)<n:=by omega
    have hjL:j+1<L.length:=by rw[←hn.out];exact hlt
    obtain⟨x,hx⟩:∃ x,x=L[j+1]?.getD zeroRet:=⟨_,rfl⟩;obtain⟨y,hy⟩:∃ y,y=L[j]?.getD zeroRet:=⟨_,rfl⟩;obtain⟨b,hb⟩:∃ b,b=decide (x=y):=⟨_,rfl⟩;have hme:=fun W=>xm x y W
    rw[←hb]at hme;have hgl:=(hown2.lt g rfl).2;have hcx:∀ i v,x.cs[i]? = some v→w2.cell? ⟨g,(j+1)*7+i,none⟩=some v:=fun i v hv=>gW hown2 (by omega) (by rw[←hx];exact hv)
    have hcy:∀ i v,y.cs[i]? = some v→w2.cell? ⟨g,j*7+i,none⟩=some v:=fun i v hv=>gW hown2 (by omega) (by rw[←hy];exact hv)
    have hj1:IntKind.i64.wrap (((j+1:Nat):Int)-1)=(j:Nat):=by rw[IntWalk.i64_in _ (by omega)];omega
    have hnx:Hid (decide (x=y)=false→ddN L (j+2)=L.take (j+2)):=zhd (fun h=>by
     rw[sU (by rw[←hx,←hy];exact of_decide_eq_false h),hdj.out,List.take_add_one (i:=j+1),List.getElem?_eq_getElem hjL];rfl)
    have hex:Hid (decide (x=y)=true→ddN L (j+2)=L.take (j+1)):=zhd (fun h=>by
     rw[tS (by rw[←hx,←hy];exact of_decide_eq_true h),hdj.out])
    replace hx:=zhd hx;replace hy:=zhd hy;replace hb:=zhd hb;clear hown2;go_wp2_with fail;refine bG (by kernel_rfl) (by kernel_rfl) [some 16,some 17,some 18,some 19,some 20,some 21,some 22,some 23,some 24,some 25] (by rfl) (by rfl) (fun i8=>match i8 with|0=>.slice (some ⟨g,0,none⟩) n cap|1=>.int .i64 ((j+1:Nat):Int)|2=>.pointer (some ⟨g,(j+1)*7,none⟩)|3=>.agg x.cs.toArray|4=>.slice (some ⟨g,0,none⟩) n cap|5=>.int .i64 ((j+1:Nat):Int)|6=>.int .i64 (j:Nat)|7=>.pointer (some ⟨g,j*7,none⟩)|8=>.agg y.cs.toArray|9=>.bool b|_=>undef) (fun W=>Below w2.heap.size w2 W) ((Below.refl _ _).drew) ?hstep ?hend
    case hstep =>
     intro i9 o9 f9 W ho hi hC hf K hK;have hi:i9<10:=hi;rcases i9 with _|_|_|_|_|_|_|_|_|_|i9
     ·exact al (og ho) (.tmp 0) (oo ho) (ah rfl rfl) (hK _ hC)
     ·exact al (og ho) (.tmp 3) (oo ho) (ah rfl rfl) (hK _ hC)
     ·exact aT (og ho) 30 (.tmp 16) (.tmp 17) (oo ho) (ri 0 (da ho hf 0)) (ri 1 (da ho hf 1)) (jr W g n cap (j+1) hlt) (hK _ hC)
     ·exact ay (og ho) 42 (.tmp 18) (oo ho) (ri 2 (da ho hf 2)) x.cs (by kernel_rfl) (fun i v hv=>(hC.cell (p:=⟨g,(j+1)*7+i,none⟩) hgl).trans (hcx i v hv)) (hK _ hC)
     ·exact al (og ho) (.tmp 0) (oo ho) (ah rfl rfl) (hK _ hC)
     ·exact al (og ho) (.tmp 3) (oo ho) (ah rfl rfl) (hK _ hC)
     ·exact aK (og ho) .sub 3 3 (.tmp 21) (.const (.int .i64 1)) (oo ho) (ri 5 (da ho hf 5)) rfl (bM _ _ _ _ _ _ _ _) (dD hj1) (hK _ hC)
     ·exact aT (og ho) 30 (.tmp 20) (.tmp 22) (oo ho) (ri 4 (da ho hf 4)) (ri 6 (da ho hf 6)) (jr W g n cap j (by omega)) (hK _ hC)
     ·exact ay (og ho) 42 (.tmp 23) (oo ho) (ri 7 (da ho hf 7)) y.cs (by kernel_rfl) (fun i v hv=>(hC.cell (p:=⟨g,j*7+i,none⟩) hgl).trans (hcy i v hv)) (hK _ hC)
     ·exact aK (og ho) .eql 42 42 (.tmp 19) (.tmp 24) (oo ho) (ri 3 (da ho hf 3)) (ri 8 (da ho hf 8)) (iH .eql _ _ _ _ _) (hme W) (hK _ hC)
     ·omega
    case hend =>
     intro W hC;simp only[ao,Act.put,List.setIfInBounds_toArray,List.set_cons_succ,List.set_cons_zero];have hB5:=zbc hB hC;clear hcx hcy hgl hme hB hC;cases b
     ·go_wp2_with fail;go_roundg (gk-1)
      case measure=>omega
      case rel=>exact⟨j+1,_,rfl,by omega,by omega,by go_num,zhd (hnx.out hb.out.symm),hB5⟩
     ·obtain⟨i,hi⟩:∃ i,i=j+1:=⟨_,rfl⟩;have hdi:Hid (ddN L (i+1)=L.take i):=zhd (by rw[hi];exact hex.out hb.out.symm);rw[←hi]at hlt hii ⊢;have hi1:1≤i:=by omega
      have hown5:=aA hown hB5;generalize W=w5 at *;clear hnx hex hb hx hy hj1 hdj hj hi hjL hq;generalize decide ((j:Int)+1<(n:Int))=bd;go_wp2_with fail;go_loopg [3,5] 4000001 (fun q kv k2v wr=>∃(k k2:Nat) (M:List Ret),q+k2=4000001∧i+k2+1≤n∧k≤i+k2∧kv=.int .i64 (k:Nat)∧k2v=.int .i64 ((k2+1:Nat):Int)∧Hid (M.length=n)∧Hid (M.take k=ddN L (i+k2+1))∧Hid (∀ t,i+k2≤t→M[t]? = L[t]?)∧wr.ownsRow base 42 7 (.slice (some ⟨g,0,none⟩) n cap) n (aD M)∧w.grownBy wr (some g))
      case atStart=>exact⟨i,0,L,rfl,by omega,by omega,rfl,rfl,zhd hn.out.symm,zhd hdi.out.symm,zhd (fun _ _=>rfl),hown5,fj hB5⟩
      case round =>
       clear hown5 hdi;obtain⟨k,k2,M,hq,hk2,hkk,rfl,rfl,hML,hMk,hMt,hownM,hgM⟩:=hrel;rename World=>w2
       by_cases hlt2:i+k2+1<n
       ·have hii2:((k2+1:Nat):Int)<((n-i:Nat):Int):=by omega
        obtain⟨x,hx⟩:∃ x,x=L[i+k2+1]?.getD zeroRet:=⟨_,rfl⟩;obtain⟨y,hy⟩:∃ y,y=L[i+k2]?.getD zeroRet:=⟨_,rfl⟩;obtain⟨b,hb⟩:∃ b,b=!decide (x=y):=⟨_,rfl⟩;have hme:=fun W=>qS x y W
        rw[←hb]at hme;have hgl:=(hownM.lt g rfl).2;have hcx:∀ t v,x.cs[t]? = some v→w2.cell? ⟨g,i*7+(k2+1)*7+t,none⟩=some v:=fun t v hv=>by
         rw[show i*7+(k2+1)*7+t=(i+k2+1)*7+t by omega];exact gW hownM hlt2 (by rw[hMt.out _ (by omega),←hx];exact hv)
        have hcy:∀ t v,y.cs[t]? = some v→w2.cell? ⟨g,i*7+k2*7+t,none⟩=some v:=fun t v hv=>by
         rw[show i*7+k2*7+t=(i+k2)*7+t by omega];exact gW hownM (by omega) (by rw[hMt.out _ (Nat.le_refl _),←hy];exact hv)
        have hk21:IntKind.i64.wrap (((k2+1:Nat):Int)-1)=(k2:Nat):=by rw[IntWalk.i64_in _ (by omega)];omega
        have hnx:Hid (x≠y→ddN L (i+k2+2)=ddN L (i+k2+1)++[x]):=zhd (fun h=>by rw[sU (by rw[←hx,←hy];exact h),←hx]);have hex:Hid (x=y→ddN L (i+k2+2)=ddN L (i+k2+1)):=zhd (fun h=>tS (by rw[←hx,←hy];exact h));replace hx:=zhd hx;replace hy:=zhd hy;replace hb:=zhd hb;go_wp2_with fail;refine bG (by kernel_rfl) (by kernel_rfl) [some 35,some 36,some 37,some 38,some 39,some 40,some 41,some 42,some 43,some 44] (by rfl) (by rfl) (fun i8=>match i8 with|0=>.slice (some ⟨g,i*7,none⟩) (n-i) (cap-i)|1=>.int .i64 ((k2+1:Nat):Int)|2=>.pointer (some ⟨g,i*7+(k2+1)*7,none⟩)|3=>.agg x.cs.toArray|4=>.slice (some ⟨g,i*7,none⟩) (n-i) (cap-i)|5=>.int .i64 ((k2+1:Nat):Int)|6=>.int .i64 (k2:Nat)|7=>.pointer (some ⟨g,i*7+k2*7,none⟩)|8=>.agg y.cs.toArray|9=>.bool b|_=>undef) (fun W=>Below w2.heap.size w2 W) ((Below.refl _ _).drew) ?hstep ?hend
        case hstep =>
         intro i9 o9 f9 W ho hi hC hf K hK;have hi:i9<10:=hi;rcases i9 with _|_|_|_|_|_|_|_|_|_|i9
         ·exact al (og ho) (.tmp 4) (oo ho) (ah rfl rfl) (hK _ hC)
         ·exact al (og ho) (.tmp 5) (oo ho) (ah rfl rfl) (hK _ hC)
         ·exact aT (og ho) 30 (.tmp 35) (.tmp 36) (oo ho) (ri 0 (da ho hf 0)) (ri 1 (da ho hf 1)) (nZ W g (i*7) (n-i) (cap-i) (k2+1) (by omega)) (hK _ hC)
         ·exact ay (og ho) 42 (.tmp 37) (oo ho) (ri 2 (da ho hf 2)) x.cs (by kernel_rfl) (fun t v hv=>(hC.cell (p:=⟨g,i*7+(k2+1)*7+t,none⟩) hgl).trans (hcx t v hv)) (hK _ hC)
         ·exact al (og ho) (.tmp 4) (oo ho) (ah rfl rfl) (hK _ hC)
         ·exact al (og ho) (.tmp 5) (oo ho) (ah rfl rfl) (hK _ hC)
         ·exact aK (og ho) .sub 3 3 (.tmp 40) (.const (.int .i64 1)) (oo ho) (ri 5 (da ho hf 5)) rfl (bM _ _ _ _ _ _ _ _) (dD hk21) (hK _ hC)
         ·exact aT (og ho) 30 (.tmp 39) (.tmp 41) (oo ho) (ri 4 (da ho hf 4)) (ri 6 (da ho hf 6)) (nZ W g (i*7) (n-i) (cap-i) k2 (by omega)) (hK _ hC)
         ·exact ay (og ho) 42 (.tmp 42) (oo ho) (ri 7 (da ho hf 7)) y.cs (by kernel_rfl) (fun t v hv=>(hC.cell (p:=⟨g,i*7+k2*7+t,none⟩) hgl).trans (hcy t v hv)) (hK _ hC)
         ·exact aK (og ho) .neq 42 42 (.tmp 38) (.tmp 43) (oo ho) (ri 3 (da ho hf 3)) (ri 8 (da ho hf 8)) (iH .neq _ _ _ _ _) (hme W) (hK _ hC)
         ·omega
        case hend =>
         intro W hC;simp only[ao,Act.put,List.setIfInBounds_toArray,List.set_cons_succ,List.set_cons_zero];have hownW:=aA hownM hC;have hgW:=gB hgM (fj hC);have hcxW:∀ t v,x.cs[t]? = some v→W.cell? ⟨g,i*7+(k2+1)*7+t,none⟩=some v:=fun t v hv=>(hC.cell (p:=⟨g,i*7+(k2+1)*7+t,none⟩) hgl).trans (hcx t v hv)
         clear hcx hcy hgl hme hgM hownM hC;generalize W=w6 at *;cases b
         ·have he:x=y:=by have:=hb.out;simpa using this
          have hdd:=hex.out he;replace hdd:=zhd hdd;clear he hcxW;go_wp2_with fail;go_roundg (gk-1)
          case measure=>omega
          case rel=>exact⟨k,k2+1,M,by omega,by omega,by omega,rfl,by go_num,hML,zhd (by rw[hMk.out];exact hdd.out.symm),zhd (fun t ht=>hMt.out t (by omega)),hownW,hgW⟩
         ·have he:x≠y:=by have:=hb.out;simpa using this
          have hdd:=hnx.out he;replace hdd:=zhd hdd;clear he;have hkM:k<M.length:=by rw[hML.out];omega
          have hki:(k:Int)<n:=by omega
          obtain⟨cur,hOc,hlc,hown7⟩:=vT hownW hML.out.symm hkM x;have hg7:=gB hgW (jc w6 g (cur.toList.take (k*7)++x.cs++cur.toList.drop (k*7+x.cs.length)).toArray);obtain⟨w7,hw7⟩:∃ z,z=w6.setRow g (cur.toList.take (k*7)++x.cs++cur.toList.drop (k*7+x.cs.length)).toArray:=⟨_,rfl⟩;rw[←hw7]at hown7 hg7;replace hw7:=zhd hw7;go_wp2_with (first|(refine jd rfl 42 (.tmp 49) rfl rfl x.cs (by kernel_rfl) hcxW ?_)|(refine kS rfl 42 (.tmp 51) (.tmp 50) rfl rfl x.cs cur 42 rfl hOc (by kernel_rfl) hlc (lC x) hw7 ?_)|fail);go_roundg (gk-1)
          case measure=>omega
          case rel=>refine⟨k+1,k2+1,M.set k x,by omega,by omega,by omega,by go_num,by go_num,zhd (by rw[List.length_set];exact hML.out),zhd ?_,zhd (fun t ht=>by rw[List.getElem?_set_ne (by omega)];exact hMt.out t (by omega)),hown7,hg7⟩;show(M.set k x).take (k+1)=ddN L (i+k2+2);rw[hdd.out,←hMk.out,List.take_add_one,List.take_set_of_le (Nat.le_refl _),List.getElem?_set_self hkM];rfl
       ·have hii2:¬((k2+1:Nat):Int)<((n-i:Nat):Int):=by omega
        have hkn:k<n:=by omega
        have hki:(k:Int)≤n:=by omega
        have hnc:(n:Int)≤cap:=by omega
        have hfin:Hid (M.take k=ddN L n):=zhd (by rw[hMk.out];congr 1;omega);have hdl:Hid ((ddN L n).length=k):=zhd (by rw[←hfin.out,List.length_take,hML.out];omega);obtain⟨cs,hcl,hownC⟩:=xx hownM hML.out.symm hkn;have hgC:=gB hgM (jc w2 g cs);have hownT:=tb hownC (Nat.le_of_lt hkn);go_wp2_with fail;refine bodyPost_ret (results_tmp rfl _ _ _) rfl ?_;refine⟨?_,?_,hgC⟩
        ·show Ending.returned (.slice (some ⟨g,0,none⟩) k cap)=_;rw[hdl.out]
        ·rw[hdl.out,←hfin.out];rw[List.take_append_of_le_length (by rw[List.length_take,hML.out];omega),List.take_take,Nat.min_self]at hownT;exact hownT
   ·have hii:¬((j+1:Nat):Int)<n:=by omega
    have hfin:ddN L n=L:=by
     have e:n=j+1:=by omega
     rw[e,hdj.out];exact List.take_of_length_le (by rw[←hn.out];omega)
    have hdl:Hid ((ddN L n).length=n):=zhd (by rw[hfin];exact hn.out.symm);replace hfin:=zhd hfin;go_wp2_with fail;refine bodyPost_ret (results_tmp rfl _ _ _) rfl ⟨?_,?_,fj hB⟩
    ·show Ending.returned (.slice (some ⟨g,0,none⟩) n cap)=_;rw[hdl.out]
    ·rw[hdl.out,hfin.out];exact hown2
theorem pY(w:World):Clz 34 #[.slice none 0 0] w fun e w'=>e=.returned (.slice none 0 0)∧w=w':=by go_enter Tryz.func34,Tryz.ntmps34;go_wp2_with fail;go_ret;exact⟨rfl,rfl⟩
theorem nT(base n:Nat)(v:Value)(L:List Ret)(hn:n=L.length)(hn2:n≤4000000)(w:World)(hown:w.ownsRow base 42 7 v n (aD L)):
  Clz 34 #[v] w fun e w'=>∃ v',e=.returned v'∧w'.ownsRow base 42 7 v' (ddN L n).length (aD (ddN L n))∧w.grownBy w' v.ownBlock:=by
 rcases hown.2 with⟨rfl,rfl⟩|⟨g,cap,cur,rfl,_⟩
 ·refine(pY w).mono ?_;rintro e w' ⟨rfl,rfl⟩;obtain rfl:L=[]:=List.length_eq_zero_iff.1 hn.symm;exact⟨_,rfl,hown,⟨rfl,rfl,rfl,Nat.le_refl _,fun _ _ _=>rfl⟩⟩
 ·refine(ob base g n cap L hn hn2 w hown).mono ?_;rintro e w' ⟨rfl,h1,h2⟩;exact⟨_,rfl,h1,h2⟩
theorem ov{ops:Array Oper}{i:Nat}{o:Oper}(ho:ops[i]? = some o){j:Nat}(h:((ops[i]?).map fun o=>o.after.toList.any fun x=>Region.binds .any x&&(x.on==j))=some true:=by rfl):o.after.toList.any (fun x=>Region.binds .any x&&(x.on==j))=true:=by rw[ho]at h;injection h
def dh(n:Nat):Code→Option Code
 | .region i ops d=>if i=n then some (.region i ops d)else none
 | .seq a b=>(dh n a).or (dh n b)
 | .cond _ a b=>(dh n a).or (dh n b)
 | .block _ b=>dh n b
 | .loop b=>dh n b
 | .scope b=>dh n b
 | _=>none
theorem Tryz.info42:(Tryz.prog.info? 42).map (fun i=>(i.zero,i.size,i.bytes))=some (some (.agg #[.int .i64 0,.int .i64 0,.int .i8 0,.int .i8 0,.int .i64 0,.int .u8 0,.int .i64 0]),7,56):=by kernel_rfl
theorem oS{W:World}{o:Oper}{a:Act}{K:Act→World→Prop}{Q:Exit→Act→World→Prop}(s x:Operand)(ho:o.op=.call {callee:=.builtin .append,args:=#[s,x],argTypes:=#[30,30]})
  (base:Nat) (v:Value) (L:List Ret) (hs:a.eval s=v) (hown:W.ownsRow base 42 7 v L.length (L.flatMap Ret.cs)) (r:Ret) (q:Nat) (_:q<W.heap.size) (hqv:ac W q (.cells r.cs.toArray 42 (0,0))) (hx:a.eval x=.slice (some ⟨q,0,none⟩) 1 1)
  (hbytes:L.length≤1000000000) (hbase:base≤W.heap.size)
  (h:∀ v' w',w'.ownsRow base 42 7 v' (L++[r]).length ((L++[r]).flatMap Ret.cs)→W.grownBy w' v.ownBlock→et W v v'→K (a.put o.dst v') w') :
  o.wp Tryz.prog a W K Q:=by
 obtain⟨i3,hi3,hz3,hs3,hy3⟩:=info_parts Tryz.info42;obtain⟨v',w',hr,h2,h3,h4,h5⟩:=run_append_own_at (P:=Tryz.prog) W base 30 o.type 42 i3 _ 7 56 Tryz.underlying30 hi3 hz3 hs3 hy3 rfl (by decide) v L.length (L.flatMap Ret.cs) hown ⟨q,0,none⟩ 1 1 r.cs rfl (by
  intro j u hu;rw[Addr.add_lit,Nat.zero_add,hqv.cells j];simpa using hu) (by intro u hu;simp[Ret.cs,Mv.cs]at hu;rcases hu with rfl|rfl|rfl|rfl|rfl|rfl|rfl<;>rfl) (by unfold maxLen;omega) (by omega) hbase
 unfold Oper.wp execOp;simp only[ho,resolve,invoke,builtin,Sem.run_bind,Sem.run_pure,Result.andThen_ok,List.map_toArray,List.map_cons,List.map_nil,hs,hx,hr];refine h v' w' (by simpa[List.flatMap_append]using h2) h3 (fun k hk=>?_);rcases h5 with e2|e2
 ·rw[e2]at hk;exact .inl hk
 ·rw[e2]at hk;injection hk with hk;right;omega
def ni(qs:Nat)(v:Value)(r:Ret):Nat→Value
 | 0=>.pointer (some ⟨qs,0,none⟩)|1=>.pointer (some ⟨qs,0,none⟩)|2=>.pointer (some ⟨qs,0,none⟩)|3=>.pointer (some ⟨qs,9,none⟩)|4=>v|5=>.agg r.cs.toArray|8=>.pointer (some ⟨qs,0,none⟩)|9=>.pointer (some ⟨qs,9,none⟩)|_=>undef
def rM(base qs q8:Nat)(v:Value)(r:Ret)(L:List Ret)(row:List Value)(W:World):Bool→Bool→Bool→Value→Value→World→Prop
 | _,_,true,_,_,wv=>∃ v',wv.ownsRow base 42 7 v' (L++[r]).length ((L++[r]).flatMap Ret.cs)∧ac wv qs (.cells (row.set 9 v').toArray 71 (0,0))∧Nib qs W wv v v'∧ac wv q8 (.cells r.cs.toArray 42 (0,0))
 | _,true,false,_,u7,wv=>wv.ownsRow base 42 7 u7 (L++[r]).length ((L++[r]).flatMap Ret.cs)∧ac wv qs (.cells row.toArray 71 (0,0))∧Nib qs W wv v u7∧ac wv q8 (.cells r.cs.toArray 42 (0,0))
 | true,false,false,u6,_,wv=>u6=.slice (some ⟨W.heap.size,0,none⟩) 1 1∧wv=W.drew.alloc (.cells r.cs.toArray 42)
 | false,false,false,_,_,wv=>wv=W.drew
theorem mL{w:World}{base:Nat}{e:TypeId}{size n:Nat}{v:Value}{xs:List Value}(h:w.ownsRow base e size v n xs):∃ p n c,v=.slice p n c:=by
 rcases h.2 with⟨rfl,_⟩|⟨g,cap,cur,rfl,_⟩
 iterate 2 exact⟨_,_,_,rfl⟩
theorem uL{base qs q8:Nat}{v:Value}{r:Ret}{L:List Ret}{row:List Value}{W wv:World}{s6 s7:Bool}{u6 u7:Value}(h:rM base qs q8 v r L row W s6 s7 false u6 u7 wv)(hS:ac W qs (.cells row.toArray 71 (0,0))):ac wv qs (.cells row.toArray 71 (0,0)):=by
 rcases s7 with _|_
 ·rcases s6 with _|_
  ·obtain rfl:wv=W.drew:=h;exact hS.drew
  ·obtain⟨_,rfl⟩:_∧wv=W.drew.alloc _:=h;exact hS.drew.alloc _
 ·exact h.2.1
theorem zF{base qs q8:Nat}{v:Value}{r:Ret}{L:List Ret}{row:List Value}{W wv:World}{s6 s7:Bool}{u6 u7:Value}(h:rM base qs q8 v r L row W s6 s7 false u6 u7 wv)(hS:ac W q8 (.cells r.cs.toArray 42 (0,0))):ac wv q8 (.cells r.cs.toArray 42 (0,0)):=by
 rcases s7 with _|_
 ·rcases s6 with _|_
  ·obtain rfl:wv=W.drew:=h;exact hS.drew
  ·obtain⟨_,rfl⟩:_∧wv=W.drew.alloc _:=h;exact hS.drew.alloc _
 ·exact h.2.2.2
theorem Au(r:Ret)(W:World):(Instr.buildSlice 30 1 #[(0,.agg r.cs.toArray)]).run Tryz.prog W=.ok (.slice (some ⟨W.heap.size,0,none⟩) 1 1) (W.alloc (.cells r.cs.toArray 42)):=by kernel_rfl
section
variable {P:Program} {o:Oper} {a:Act} {w:World} {K:Act→World→Prop} {Q:Exit→Act→World→Prop}
theorem kz{t:Nat→Option Bool}{X:Prop}(hg:o.guard=none)(x:Operand)(ho:o.op=.nilCheck x){p:Addr}(hx:a.eval x=.pointer (some p))(h:K (a.put o.dst (.pointer (some p))) w):if Region.wanted o t=true then o.wp P a w K Q else X:=by refine bm hg ?_;unfold Oper.wp execOp;simp only[ho,hx,Sem.run_pure];exact h
end
theorem zR(base qs q8:Nat)(v:Value)(r:Ret)(L:List Ret)(row:List Value)(W:World)(a:Act)(Q:Exit→Act→World→Prop)
  (ha0:a.tmps.getD 0 undef=.pointer (some ⟨qs,0,none⟩)) (ha8:a.tmps.getD 8 undef=.pointer (some ⟨q8,0,none⟩)) (hr9:row[9]? = some v) (hS:ac W qs (.cells row.toArray 71 (0,0))) (h8:ac W q8 (.cells r.cs.toArray 42 (0,0)))
  (hown:W.ownsRow base 42 7 v L.length (L.flatMap Ret.cs)) (hv8:v.ownBlock≠some q8) (hqq:q8≠qs) (hsz:88≤a.tmps.size) (hl:L.length+1≤1000000000) (hb:base≤W.heap.size)
  (hok:∀ f w' v',w'.ownsRow base 42 7 v' (L++[r]).length ((L++[r]).flatMap Ret.cs)→ac w' qs (.cells (row.set 9 v').toArray 71 (0,0))→Nib qs W w' v v'→ac w' q8 (.cells r.cs.toArray 42 (0,0)) →
   Q .normal (ao [some 76,some 77,some 78,some 79,some 80,some 81,some 82,some 83,some 84,some 85,none] f 0 a) w')
  (cd:Code) (hcd:Tryz.f90.body.bind (dh 15)=some cd):cd.wp Tryz.prog Q a W:=by
 obtain rfl:=Option.some.inj ((show Tryz.f90.body.bind (dh 15)=some _ from rfl).symm.trans hcd);clear hcd;refine bE (by kernel_rfl) (by kernel_rfl) [some 76,some 77,some 78,some 79,some 80,some 81,some 82,some 83,some 84,some 85,none] (by rfl) (by rfl)
  (fun S f wv=>(∀ i,i<10→i≠6→i≠7→S i=true→f i=ni qs v r i)∧rM base qs q8 v r L row W (S 6) (S 7) (S 10) (f 6) (f 7) wv) ?hcong ?h0 ?hstep ?hend
 case hcong=>rintro S S' f wv hSS ⟨h1,h2⟩;refine⟨fun i hi h15 h16 h=>h1 i hi h15 h16 (by rw[hSS i (Nat.lt_of_lt_of_le hi (by decide))];exact h),?_⟩;rw[←hSS 6 (by decide),←hSS 7 (by decide),←hSS 10 (by decide)];exact h2
 case h0=>exact fun f=>⟨fun i _ _ _ h=>(by cases h),rfl⟩
 case hstep =>
  rintro S i o f wv ho hi hSi hpre hcl ⟨hf,hR⟩ K hK;have hi:i<11:=hi;have keep:∀ u,i≠6→i≠7→i<10→u=ni qs v r i→(∀ j,j<10→j≠6→j≠7→upd S i j=true→(if j=i then u else f j)=ni qs v r j)∧rM base qs q8 v r L row W (upd S i 6) (upd S i 7) (upd S i 10) (if 6=i then u else f 6) (if 7=i then u else f 7) wv:=by
   intro u h15 h16 h19 hu;refine⟨fun j hj hj15 hj16 hSj=>?_,?_⟩
   ·by_cases e:j=i
    ·subst e;simpa using hu
    ·simp only[e,if_false];exact hf j hj hj15 hj16 (by simpa[upd,e]using hSj)
   ·simp only[upd,show ¬6=i from fun h=>h15 h.symm,show ¬7=i from fun h=>h16 h.symm,show ¬10=i by omega,if_false];exact hR
  have hv:∀ e∈o.after,Region.binds .any e=true→e.on≠6→e.on≠7→e.on<10→f e.on=ni qs v r e.on:=fun e he hb h1 h2 h3=>hf _ h3 h1 h2 (hpre e he hb)
  have h10:i<8→S 10=false:=by
   intro h;rcases hs:S 10 with _|_
   ·rfl
   ·have h4:=hcl 10 _ hs rfl ⟨i,.phase⟩ (by
     rcases(by omega:i=0∨i=1∨i=2∨i=3∨i=4∨i=5∨i=6∨i=7)with rfl|rfl|rfl|rfl|rfl|rfl|rfl|rfl<;>simp) rfl
    rw[hSi]at h4;cases h4
  have hpv:∀ j,o.after.toList.any (fun e=>Region.binds .any e&&(e.on==j))=true→j≠6→j≠7→j<10→f j=ni qs v r j:=fun j hj h1 h2 h3=>by
   rw[List.any_eq_true]at hj;obtain⟨e,he,h⟩:=hj;simp only[Bool.and_eq_true,beq_iff_eq]at h;have:=hv e (by simpa using he) h.1 (by omega) (by omega) (by omega);rwa[h.2]at this
  rcases(by omega:i=0∨i=1∨i=2∨i=3∨i=4∨i=5∨i=6∨i=7∨i=8∨i=9∨i=10)with rfl|rfl|rfl|rfl|rfl|rfl|rfl|rfl|rfl|rfl|rfl
  iterate 2 exact al (og ho) (.tmp 0) (oo ho) (ah rfl ha0) (hK _ wv (keep _ (by decide) (by decide) (by decide) rfl))
  ·exact kz (og ho) (.tmp 77) (oo ho) (aB rfl 1 rfl (Nat.lt_of_lt_of_le (by decide) hsz) (hpv 1 (ov ho) (by decide) (by decide) (by decide))) (hK _ wv (keep _ (by decide) (by decide) (by decide) rfl))
  ·exact au (og ho) 71 (.tmp 78) 2 (oo ho) (aB rfl 2 rfl (Nat.lt_of_lt_of_le (by decide) hsz) (hpv 2 (ov ho) (by decide) (by decide) (by decide))) (n:=9) (by kernel_rfl) (hK _ wv (keep _ (by decide) (by decide) (by decide) rfl))
  ·have h19':=h10 (by omega);have hR2:=hR;rw[h19']at hR2;have c9:=(uL hR2 hS).cells 9;have c9':wv.cell? ⟨qs,9,none⟩=some v:=by rw[c9];simpa using hr9
   exact ap (og ho) 30 (.tmp 79) (oo ho) (aB rfl 3 rfl (Nat.lt_of_lt_of_le (by decide) hsz) (hpv 3 (ov ho) (by decide) (by decide) (by decide))) (by kernel_rfl) c9' (hK _ wv (keep _ (by decide) (by decide) (by decide) rfl))
  ·have h19':=h10 (by omega);have hR2:=hR;rw[h19']at hR2;have c8:=zF hR2 h8;exact ay (og ho) 42 (.tmp 8) (oo ho) (ah rfl ha8) r.cs (by kernel_rfl) (fun j u hu=>by rw[Nat.zero_add,c8.cells j];simpa using hu) (hK _ wv (keep _ (by decide) (by decide) (by decide) rfl))
  ·have h19':=h10 (by omega);have h7:S 7=false:=by
    rcases hs:S 7 with _|_
    ·rfl
    ·have h4:=hcl 7 _ hs rfl ⟨6,.data⟩ (by simp) rfl;rw[hSi]at h4;cases h4
   rw[hSi,h7,h19']at hR;obtain rfl:wv=W.drew:=hR;refine lI (og ho) 30 (.tmp 81) (oo ho) (aB rfl 5 rfl (Nat.lt_of_lt_of_le (by decide) hsz) (hpv 5 (ov ho) (by decide) (by decide) (by decide))) (Au r W.drew) (hK _ _ ⟨fun j hj h1 h2 h3=>by show(if j=6 then _ else f j)=_;rw[if_neg h1];exact hf j hj h1 h2 (by simpa[upd,h1]using h3),?_⟩);rw[show upd S 6 6=true by simp[upd],show upd S 6 7=false by simp[upd,h7],show upd S 6 10=false by simp[upd,h19']];exact⟨rfl,rfl⟩
  ·have h19':=h10 (by omega);have h6:S 6=true:=hpre ⟨6,.data⟩ (oa ho) rfl;have h4:=hpv 4 (ov ho) (by decide) (by decide) (by decide);rw[h6,hSi,h19']at hR;obtain⟨hu6,rfl⟩:f 6=.slice (some ⟨W.heap.size,0,none⟩) 1 1∧wv=W.drew.alloc (.cells r.cs.toArray 42):=hR;have hN0:Nib qs W (W.drew.alloc (.cells r.cs.toArray 42)) v v:=Nib.of_below qs (by have:=ae W.drew (.cells r.cs.toArray 42);exact⟨this.os,this.tape,this.output,this.size,this.block⟩) v;have hS0:=hS.drew.alloc (.cells r.cs.toArray 42);have h80:=h8.drew.alloc (.cells r.cs.toArray 42);have hown0:=hown.drew.alloc (.cells r.cs.toArray 42);have hne:=aY hown0 hS0 (by simp);refine bm (og ho) ?_;refine oS (.tmp 80) (.tmp 82) (oo ho) base v L (aB rfl 4 rfl (Nat.lt_of_lt_of_le (by decide) hsz) h4) hown0 r W.heap.size (by simp) (ac.new W.drew (.cells r.cs.toArray 42)) (aB rfl 6 rfl (Nat.lt_of_lt_of_le (by decide) hsz) hu6) (by omega) (by simp;omega) ?_;intro v' w' h1 h2 h3;refine hK v' w' ⟨fun j hj e1 e2 e3=>by show(if j=7 then _ else f j)=_;rw[if_neg e2];exact hf j hj e1 e2 (by simpa[upd,e2]using e3),?_⟩;rw[show upd S 7 6=true by simp[upd,h6],show upd S 7 7=true by simp[upd],show upd S 7 10=false by simp[upd,h19']];exact⟨h1,hS0.grown h2 hne,hN0.trans ⟨h2.os,h2.tape,h2.output,h2.size,fun k hk _ e=>h2.block k hk e,h3⟩,h80.grown h2 hv8⟩
  ·exact kz (og ho) (.tmp 76) (oo ho) (aB rfl 0 rfl (Nat.lt_of_lt_of_le (by decide) hsz) (hpv 0 (ov ho) (by decide) (by decide) (by decide))) (hK _ wv (keep _ (by decide) (by decide) (by decide) rfl))
  ·exact au (og ho) 71 (.tmp 84) 2 (oo ho) (aB rfl 8 rfl (Nat.lt_of_lt_of_le (by decide) hsz) (hpv 8 (ov ho) (by decide) (by decide) (by decide))) (n:=9) (by kernel_rfl) (hK _ wv (keep _ (by decide) (by decide) (by decide) rfl))
  ·have h7:S 7=true:=hpre ⟨7,.data⟩ (oa ho) rfl;rw[h7,hSi]at hR;have hR2:wv.ownsRow base 42 7 (f 7) (L++[r]).length ((L++[r]).flatMap Ret.cs)∧ac wv qs (.cells row.toArray 71 (0,0))∧Nib qs W wv v (f 7)∧ac wv q8 (.cells r.cs.toArray 42 (0,0)):=by
    rcases S 6 with _|_<;>exact hR
   obtain⟨e1,e2,e3,e4⟩:=hR2;have hne:=aY e1 e2 (by simp);obtain⟨up,un,uc,hu⟩:=mL e1;refine sZ (og ho) 30 (.tmp 85) (.tmp 83) (oo ho) (aB rfl 9 rfl (Nat.lt_of_lt_of_le (by decide) hsz) (hpv 9 (ov ho) (by decide) (by decide) (by decide))) (aB rfl 7 rfl (Nat.lt_of_lt_of_le (by decide) hsz) rfl) (by kernel_rfl) (by rw[hu];rfl) (by rw[e2.cells 9];simpa using hr9) (e2.frozen 9) (hK _ _ ⟨fun j hj h1 h2 h3=>by show(if j=10 then _ else f j)=_;rw[if_neg (by omega)];exact hf j hj h1 h2 (by simpa[upd,show ¬j=10 by omega]using h3),?_⟩);have hfin:∃ v',(wv.setCell ⟨qs,9,none⟩ (f 7)).ownsRow base 42 7 v' (L++[r]).length ((L++[r]).flatMap Ret.cs)∧ac (wv.setCell ⟨qs,9,none⟩ (f 7)) qs (.cells (row.set 9 v').toArray 71 (0,0))∧Nib qs W (wv.setCell ⟨qs,9,none⟩ (f 7)) v v'∧ac (wv.setCell ⟨qs,9,none⟩ (f 7)) q8 (.cells r.cs.toArray 42 (0,0)):=by
    refine⟨f 7,?_,?_,e3.set 9 _,e4.far hqq _⟩
    ·refine e1.kept (row:=some qs) ⟨rfl,rfl,rfl,by simp[World.setCell],fun k hk hkq=>?_⟩ (.inr hne);rw[Below.heap_setCell _ _ _ _ (fun e=>hkq (by rw[e]))]
    ·have:=e2.set_ 9 (f 7);rw[List.setIfInBounds_toArray]at this;exact this
   rw[show upd S 10 10=true by simp[upd]];rcases upd S 10 6 with _|_<;>rcases upd S 10 7 with _|_<;>exact hfin
 case hend =>
  rintro S f wv hSS ⟨hf,hR⟩;rw[hSS 10 (by decide)]at hR;have hR2:∃ v',wv.ownsRow base 42 7 v' (L++[r]).length ((L++[r]).flatMap Ret.cs)∧ac wv qs (.cells (row.set 9 v').toArray 71 (0,0))∧Nib qs W wv v v'∧ac wv q8 (.cells r.cs.toArray 42 (0,0)):=by rcases S 6 with _|_<;>rcases S 7 with _|_<;>exact hR
  obtain⟨v',h1,h2,h3,h4⟩:=hR2;exact hok f wv v' h1 h2 h3 h4
theorem zw{w:World}{base:Nat}{e:TypeId}{size n:Nat}{v:Value}{xs:List Value}(h:w.ownsRow base e size v n xs):∃ p c,v=.slice p n c:=by
 rcases h.2 with⟨rfl,h0⟩|⟨g,cap,cur,rfl,_⟩
 ·subst h0;exact⟨_,_,rfl⟩
 ·exact⟨_,_,rfl⟩
theorem uN(c:Prop)[Decidable c]{a b:List Int}{n:Nat}(ha:a.length=n)(hb:b.length=n):(if c then a else b).length=n:=by
 split
 ·exact ha
 ·exact hb
theorem wa(P:Pos)(r:Ret):(befW P r).xs.length=P.xs.length:=by
 have h:∀(l:List Cas) (f:List Int→Cas→List Int) (hf:∀ x c,(f x c).length=x.length) (xs:List Int),(l.foldl f xs).length=xs.length:=by
  intro l f hf;induction l with
  | nil=>intro xs;rfl
  | cons c l ih=>intro xs;rw[List.foldl_cons,ih,hf]
 unfold befW;simp only;rw[jo,h]
 ·simp
 ·exact fun x c=>uN _ (by simp) rfl
section
variable {P:Program} {o:Oper} {a:Act} {w:World} {K:Act→World→Prop} {Q:Exit→Act→World→Prop}
theorem s9{t:Nat→Option Bool}{X:Prop}(hg:o.guard=none)(x:Operand)(i:Nat)(ho:o.op=.extract x i){cs:Array Value}{v:Value}(hx:a.eval x=.tuple cs)(hi:cs[i]? = some v)(h:K (a.put o.dst v) w):if Region.wanted o t=true then o.wp P a w K Q else X:=by refine bm hg ?_;unfold Oper.wp execOp;simp only[ho,hx,Instr.extract,hi,Sem.run_bind,Sem.run_pure,Result.andThen_ok];exact h
end
theorem Ax(W:World):(Instr.alloc 26 true (.tuple #[])).run Tryz.prog W=.ok (.pointer (some ⟨W.heap.size,0,none⟩)) (W.alloc (.cells af.toArray 26)):=by kernel_rfl
section
variable {F R:Nat} {xs:List Int} {bl:Bool} {can:Nat} {pa ha fu:Int} {pp:Option Addr} {cc occ:Nat} {v:Value} {r:Ret} {qs q8:Nat}
def lH(P:Pos)(pp:Option Addr)(cc:Nat)(r:Ret)(qs n0:Nat):Nat→Value→World→Prop
 | 4,v,_=>v=.agg (aa P.F P.R pp P.xs.length cc P.bl P.ca P.pa P.ha P.fu).toArray
 | 5,v,_=>v=.agg r.cs.toArray
 | 6,v,w=>∃ q cap,v=.agg (aa (befW P r).F (befW P r).R (some ⟨q,0,none⟩) (befW P r).xs.length cap (befW P r).bl (befW P r).ca (befW P r).pa (befW P r).ha (befW P r).fu).toArray∧aC w q cap (befW P r).xs
 | 7,v,w=>w.ownsRow n0 3 1 v (behL (befW P r).F (befW P r).R (befW P r).xs (befW P r).bl (befW P r).ha).length ((behL (befW P r).F (befW P r).R (befW P r).xs (befW P r).bl (befW P r).ha).map (.int .i64))
 | 8,v,_=>v=.int .i64 (behL (befW P r).F (befW P r).R (befW P r).xs (befW P r).bl (befW P r).ha).length
 | 9,v,_=>v=.int .i64 0
 | _,v,_=>v=.pointer (some ⟨qs,0,none⟩)
theorem sI{P:Pos}{n0 i:Nat}{v:Value}{w w':World}(hb:Bw w w')(h:lH P pp cc r qs n0 i v w):lH P pp cc r qs n0 i v w':=by
 rcases(by omega:i=4∨i=5∨i=6∨i=7∨i=8∨i=9∨(i≠4∧i≠5∧i≠6∧i≠7∧i≠8∧i≠9))with rfl|rfl|rfl|rfl|rfl|rfl|⟨h4,h5,h6,h7,h8,h9⟩
 iterate 2 exact h
 ·obtain⟨q,cap,h1,h2⟩:=h;exact⟨q,cap,h1,h2.call hb⟩
 ·exact aA h hb
 iterate 2 exact h
 ·unfold lH at h ⊢;split at h<;>first|contradiction|skip
  all_goals first|exact h|(split<;>first|contradiction|exact h)
theorem zU(a b:Nat)(hra:r.mv.fr=a)(hrb:r.mv.tg=b)(hla:a<xs.length)(hlb:b<xs.length)(hF:3≤F∧F≤8)(hR:3≤R∧R≤8)(hlen:xs.length=F*R)(h6:∀ x∈xs,-6≤x∧x≤6)(hha:0≤ha∧ha≤10000)(hfu:-10000≤fu∧fu≤10000)
  (W:World) (hg:aM W) (hx:Arr .i8 W pp xs) (hS:ac W qs (.cells (ez F R pp xs.length cc bl can pa ha fu occ v).toArray 71 (0,0))) (h8:ac W q8 (.cells r.cs.toArray 42 (0,0))) (A:Act) (Q:Exit→Act→World→Prop)
  (ha0:A.tmps.getD 0 undef=.pointer (some ⟨qs,0,none⟩)) (ha8:A.tmps.getD 8 undef=.pointer (some ⟨q8,0,none⟩)) (hsz:88≤A.tmps.size)
  (hok:∀ f w' BL,BL=behL F R (befW ⟨F,R,xs,bl,can,pa,ha,fu⟩ r).xs (!bl) (befW ⟨F,R,xs,bl,can,pa,ha,fu⟩ r).ha→Bw W w'→w'.ownsRow W.heap.size 3 1 (f 7) BL.length (BL.map (.int .i64))→f 8=.int .i64 BL.length→f 9=.int .i64 0 →
   Q .normal (ao [some 52,some 53,some 54,some 55,some 56,some 57,some 58,some 59,some 60,some 61] f 0 A) w')
  (cd:Code) (hcd:Tryz.f90.body.bind (dh 10)=some cd):cd.wp Tryz.prog Q A W:=by
 obtain rfl:=Option.some.inj ((show Tryz.f90.body.bind (dh 10)=some _ from rfl).symm.trans hcd);clear hcd;have h9:F*R≤64:=Nat.mul_le_mul hF.2 hR.2;have hl64:xs.length≤64:=by omega
 obtain⟨P,hP⟩:∃ P:Pos,P=⟨F,R,xs,bl,can,pa,ha,fu⟩:=⟨_,rfl⟩;have hbf:(befW P r).F=F∧(befW P r).R=R∧(befW P r).bl=!bl∧(befW P r).xs.length=F*R:=⟨by rw[hP];rfl,by rw[hP];rfl,by rw[hP];rfl,by rw[wa,hP];exact hlen⟩;refine dl (by kernel_rfl) (by kernel_rfl) [some 52,some 53,some 54,some 55,some 56,some 57,some 58,some 59,some 60,some 61] (by rfl) (by rfl) (fun w=>Bw W w) (fun w w'=>Bw w w') (lH P pp cc r qs W.heap.size)
  (fun i v w w' _ h h2=>sI h h2) (Below.refl _ _).drew ?_ ?_
 ·intro i o f w ho hi hC hf K hK;have hi:i<10:=hi;replace hK:∀ u w',Bw w w'→lH P pp cc r qs W.heap.size i u w'→K ((ao _ f 0 A).put o.dst u) w':=fun u w' h1 h2=>hK u w' (zbc hC h1) h1 h2
  have hv:∀ j,o.after.toList.any (fun e=>Region.binds .any e&&(e.on==j))=true→lH P pp cc r qs W.heap.size j (f j) w:=fun j hj=>by
   rw[List.any_eq_true]at hj;obtain⟨e,he,h⟩:=hj;simp only[Bool.and_eq_true,beq_iff_eq]at h;have:=hf e (by simpa using he) h.1;rwa[h.2]at this
  have hR0:=Below.refl w.heap.size w;rcases(by omega:i=0∨i=1∨i=2∨i=3∨i=4∨i=5∨i=6∨i=7∨i=8∨i=9)with rfl|rfl|rfl|rfl|rfl|rfl|rfl|rfl|rfl|rfl
  iterate 2 exact al (og ho) (.tmp 0) (oo ho) (ah rfl ha0) (hK _ w hR0 rfl)
  ·exact kz (og ho) (.tmp 53) (oo ho) (aB rfl 1 rfl (Nat.lt_of_lt_of_le (by decide) hsz) (hv 1 (ov ho))) (hK _ w hR0 rfl)
  ·exact au (og ho) 71 (.tmp 54) 0 (oo ho) (aB rfl 2 rfl (Nat.lt_of_lt_of_le (by decide) hsz) (hv 2 (ov ho))) (n:=0) (by kernel_rfl) (hK _ w hR0 rfl)
  ·have hSw:=(hS.call hC).cells;exact ay (og ho) 26 (.tmp 55) (oo ho) (aB rfl 3 rfl (Nat.lt_of_lt_of_le (by decide) hsz) (hv 3 (ov ho))) (aa F R pp xs.length cc bl can pa ha fu) (by kernel_rfl) (fun j u hu=>by
    rw[Nat.zero_add,hSw j,List.getElem?_toArray];unfold ez;rw[List.getElem?_append_left (List.getElem?_eq_some_iff.1 hu).1];exact hu) (hK _ w hR0 (by subst hP;rfl))
  ·have h8w:=(h8.call hC).cells;exact ay (og ho) 42 (.tmp 8) (oo ho) (ah rfl ha8) r.cs (by kernel_rfl) (fun j u hu=>by rw[Nat.zero_add,h8w j];simpa using hu) (hK _ w hR0 rfl)
  ·have h4:=hv 4 (ov ho);have h5:=hv 5 (ov ho);have h4':f 4=.agg (aa F R pp xs.length cc bl can pa ha fu).toArray:=by subst hP;exact h4
   exact aH (og ho) 110 (.tmp 56) (.tmp 57) #[26,42] (oo ho) (aB rfl 4 rfl (Nat.lt_of_lt_of_le (by decide) hsz) h4') (aB rfl 5 rfl (Nat.lt_of_lt_of_le (by decide) hsz) h5) (fun _ _=>rfl)
    (ls F R xs bl can pa ha fu r pp cc a b hra hrb hla hlb hl64 h6 (fun e1 e2=>by subst e1 e2;omega) hha hfu w (hg.call hC) (hx.call hC))
    (by rintro u w9 ⟨q,cap,h9,hb9,_,hy⟩;injection h9 with h9;subst h9;subst hP;exact hK _ w9 hb9 ⟨q,cap,rfl,hy⟩) (by rintro ch w9 ⟨q,cap,h9,_⟩;cases h9) (by rintro w9 ⟨q,cap,h9,_⟩;cases h9)
  ·have h0:=hv 0 (ov ho);obtain⟨q,cap,h6v,hy⟩:=hv 6 (ov ho);obtain⟨e1,e2,e3,e4⟩:=hbf;have hbh:=sh F R (befW P r).xs (!bl) (befW P r).ca (befW P r).pa (befW P r).ha (befW P r).fu (.pointer (some ⟨qs,0,none⟩)) (some ⟨q,0,none⟩) cap hF hR e4 w hy.arr;refine aH (og ho) 143 (.tmp 52) (.tmp 58) #[69,26] (oo ho) (aB rfl 0 rfl (Nat.lt_of_lt_of_le (by decide) hsz) h0) (aB rfl 6 rfl (Nat.lt_of_lt_of_le (by decide) hsz) (h6v.trans (by rw[e1,e2,e3]))) (fun _ _=>rfl)
    hbh (by
     rintro u w9 ⟨⟨v9,h9,ho9⟩,hb9⟩;injection h9 with h9;subst h9;refine hK _ w9 hb9 ?_;show w9.ownsRow _ 3 1 _ _ _;rw[e1,e2,e3];exact bC ho9 hC.size) (by rintro ch w9 ⟨⟨v9,h9,_⟩,_⟩;cases h9) (by rintro w9 ⟨⟨v9,h9,_⟩,_⟩;cases h9)
  ·have h7:=hv 7 (ov ho);obtain⟨p,c,e⟩:=zw h7;exact lg (og ho) (.tmp 59) 136 (oo ho) Tryz.underlying136 (aB rfl 7 rfl (Nat.lt_of_lt_of_le (by decide) hsz) e) (hK _ w hR0 rfl)
  ·exact al (og ho) (.const (.int .i64 0)) (oo ho) rfl (hK _ w hR0 rfl)
 ·intro f w hC hf;obtain⟨e1,e2,e3,e4⟩:=hbf;have h7:=hf 7 (by decide);have h8:=hf 8 (by decide);have h9:=hf 9 (by decide);have h7':w.ownsRow W.heap.size 3 1 (f 7) (behL (befW P r).F (befW P r).R (befW P r).xs (befW P r).bl (befW P r).ha).length ((behL (befW P r).F (befW P r).R (befW P r).xs (befW P r).bl (befW P r).ha).map (.int .i64)):=h7;have h8':f 8=.int .i64 (behL (befW P r).F (befW P r).R (befW P r).xs (befW P r).bl (befW P r).ha).length:=h8;rw[e1,e2,e3]at h7' h8';subst hP;exact hok f w _ rfl hC h7' h8' h9
def lM(P:Pos)(pp:Option Addr)(cc:Nat)(r:Ret)(qs n0:Nat):Nat→Value→World→Prop
 | 3,v,_=>v=.agg (aa P.F P.R pp P.xs.length cc P.bl P.ca P.pa P.ha P.fu).toArray
 | 4,v,_=>v=.agg r.cs.toArray
 | 5,v,_=>∃ cs:Array Value,v=.tuple #[.agg cs,.bool (mayW P r)]∧cs.size=8∧cs.all (·.oneCell')=true
 | 6,v,_=>∃ cs:Array Value,v=.tuple #[.agg cs,.bool (mayW P r)]∧cs.size=8∧cs.all (·.oneCell')=true
 | 7,v,_=>∃ cs:Array Value,v=.agg cs∧cs.size=8∧cs.all (·.oneCell')=true
 | 8,v,_=>v=.bool (mayW P r)
 | 9,v,w=>∃ q cs,v=.pointer (some ⟨q,0,none⟩)∧n0≤q∧cs.size=8∧ac w q (.cells cs 26 (0,0))
 | 10,_,_=>True
 | 11,v,_=>v=.bool (mayW P r)
 | _,v,_=>v=.pointer (some ⟨qs,0,none⟩)
def iu(n0:Nat)(w w':World):Prop:=RowKit.Below n0 w w'∧∀ q cs,n0≤q→cs.size=8→ac w q (.cells cs 26 (0,0))→∃ cs':Array Value,cs'.size=8∧ac w' q (.cells cs' 26 (0,0))
theorem iu.of{n0:Nat}{w w':World}(h:Bw w w')(hn:n0≤w.heap.size):iu n0 w w':=⟨⟨h.os,h.tape,h.output,h.size,fun k hk=>h.block k (Nat.lt_of_lt_of_le hk hn)⟩,fun _ cs _ h2 h3=>⟨cs,h2,h3.call h⟩⟩
theorem tz{P:Pos}{n0 i:Nat}{v:Value}{w w':World}(hb:iu n0 w w')(h:lM P pp cc r qs n0 i v w):lM P pp cc r qs n0 i v w':=by
 by_cases h9:i=9
 ·subst h9;obtain⟨q,cs,h1,h2,h3,h4⟩:=h;obtain⟨cs',h5,h6⟩:=hb.2 q cs h2 h3 h4;exact⟨q,cs',h1,h2,h5,h6⟩
 ·unfold lM at h ⊢;split at h<;>first|contradiction|skip
  all_goals first|exact h|(split<;>first|contradiction|exact h)
theorem Ab(a b:Nat)(hra:r.mv.fr=a)(hrb:r.mv.tg=b)(hla:a<xs.length)(hlb:b<xs.length)(hF:3≤F∧F≤8)(hR:3≤R∧R≤8)(hlen:xs.length=F*R)(h6:∀ x∈xs,-6≤x∧x≤6)(hha:0≤ha∧ha≤10000)(hfu:-10000≤fu∧fu≤10000)(hrc:0≤r.ca∧r.ca<256)
  (W:World) (hg:aM W) (hx:Arr .i8 W pp xs) (hS:ac W qs (.cells (ez F R pp xs.length cc bl can pa ha fu occ v).toArray 71 (0,0))) (h8:ac W q8 (.cells r.cs.toArray 42 (0,0))) (A:Act) (Q:Exit→Act→World→Prop)
  (ha0:A.tmps.getD 0 undef=.pointer (some ⟨qs,0,none⟩)) (ha8:A.tmps.getD 8 undef=.pointer (some ⟨q8,0,none⟩)) (hsz:88≤A.tmps.size)
  (hok:∀ f w',Bw W w'→f 11=.bool (mayW ⟨F,R,xs,bl,can,pa,ha,fu⟩ r) →
   Q .normal (ao [some 67,some 68,some 69,some 70,some 71,some 72,some 66,some 73,some 74,some 11,none,some 12] f 0 A) w')
  (cd:Code) (hcd:Tryz.f90.body.bind (dh 13)=some cd):cd.wp Tryz.prog Q A W:=by
 obtain rfl:=Option.some.inj ((show Tryz.f90.body.bind (dh 13)=some _ from rfl).symm.trans hcd);clear hcd;have h9:F*R≤64:=Nat.mul_le_mul hF.2 hR.2;have hl64:xs.length≤64:=by omega
 obtain⟨P,hP⟩:∃ P:Pos,P=⟨F,R,xs,bl,can,pa,ha,fu⟩:=⟨_,rfl⟩;refine dl (by kernel_rfl) (by kernel_rfl) [some 67,some 68,some 69,some 70,some 71,some 72,some 66,some 73,some 74,some 11,none,some 12] (by rfl) (by rfl) (fun w=>Bw W w) (fun w w'=>iu W.heap.size w w') (lM P pp cc r qs W.heap.size)
  (fun i v w w' _ h h2=>tz h h2) (Below.refl _ _).drew ?_ ?_
 ·intro i o f w ho hi hC hf K hK;have hi:i<12:=hi;replace hK:∀ u w',iu W.heap.size w w'→lM P pp cc r qs W.heap.size i u w'→K ((ao _ f 0 A).put o.dst u) w':=fun u w' h1 h2=>hK u w' (hC.trans h1.1) h1 h2
  have hv:∀ j,o.after.toList.any (fun e=>Region.binds .any e&&(e.on==j))=true→lM P pp cc r qs W.heap.size j (f j) w:=fun j hj=>by
   rw[List.any_eq_true]at hj;obtain⟨e,he,h⟩:=hj;simp only[Bool.and_eq_true,beq_iff_eq]at h;have:=hf e (by simpa using he) h.1;rwa[h.2]at this
  have hR0:iu W.heap.size w w:=iu.of (Below.refl _ _) hC.size;rcases(by omega:i=0∨i=1∨i=2∨i=3∨i=4∨i=5∨i=6∨i=7∨i=8∨i=9∨i=10∨i=11)with rfl|rfl|rfl|rfl|rfl|rfl|rfl|rfl|rfl|rfl|rfl|rfl
  ·exact al (og ho) (.tmp 0) (oo ho) (ah rfl ha0) (hK _ w hR0 rfl)
  ·exact kz (og ho) (.tmp 67) (oo ho) (aB rfl 0 rfl (Nat.lt_of_lt_of_le (by decide) hsz) (hv 0 (ov ho))) (hK _ w hR0 rfl)
  ·exact au (og ho) 71 (.tmp 68) 0 (oo ho) (aB rfl 1 rfl (Nat.lt_of_lt_of_le (by decide) hsz) (hv 1 (ov ho))) (n:=0) (by kernel_rfl) (hK _ w hR0 rfl)
  ·have hSw:=(hS.call hC).cells;exact ay (og ho) 26 (.tmp 69) (oo ho) (aB rfl 2 rfl (Nat.lt_of_lt_of_le (by decide) hsz) (hv 2 (ov ho))) (aa F R pp xs.length cc bl can pa ha fu) (by kernel_rfl) (fun j u hu=>by
    rw[Nat.zero_add,hSw j,List.getElem?_toArray];unfold ez;rw[List.getElem?_append_left (List.getElem?_eq_some_iff.1 hu).1];exact hu) (hK _ w hR0 (by subst hP;rfl))
  ·have h8w:=(h8.call hC).cells;exact ay (og ho) 42 (.tmp 8) (oo ho) (ah rfl ha8) r.cs (by kernel_rfl) (fun j u hu=>by rw[Nat.zero_add,h8w j];simpa using hu) (hK _ w hR0 rfl)
  ·have h4:=hv 3 (ov ho);have h5:=hv 4 (ov ho);have h4':f 3=.agg (aa F R pp xs.length cc bl can pa ha fu).toArray:=by subst hP;exact h4
   exact aH (og ho) 55 (.tmp 70) (.tmp 71) #[26,42] (oo ho) (aB rfl 3 rfl (Nat.lt_of_lt_of_le (by decide) hsz) h4') (aB rfl 4 rfl (Nat.lt_of_lt_of_le (by decide) hsz) h5) (fun _ _=>rfl)
    (mb F R xs bl can pa ha fu r pp cc a b hra hrb hla hlb hl64 h6 (fun e1 e2=>by subst e1 e2;omega) hha hfu hrc w (hg.call hC) (hx.call hC))
    (by rintro u w9 ⟨q,cap,h9,hb9,_,hy⟩;injection h9 with h9;subst h9;subst hP;exact hK _ w9 (iu.of hb9 hC.size) ⟨_,rfl,rfl,by simp[Value.oneCell']⟩) (by rintro ch w9 ⟨q,cap,h9,_⟩;cases h9) (by rintro w9 ⟨q,cap,h9,_⟩;cases h9)
  ·obtain⟨cs,h1,h2⟩:=hv 5 (ov ho);exact al (og ho) (.tmp 72) (oo ho) (aB rfl 5 rfl (Nat.lt_of_lt_of_le (by decide) hsz) h1) (hK _ w hR0 ⟨cs,rfl,h2⟩)
  ·obtain⟨cs,h1,h2⟩:=hv 6 (ov ho);exact s9 (og ho) (.tmp 66) 0 (oo ho) (aB rfl 6 rfl (Nat.lt_of_lt_of_le (by decide) hsz) h1) rfl (hK _ w hR0 ⟨cs,rfl,h2⟩)
  ·obtain⟨cs,h1,h2⟩:=hv 6 (ov ho);exact s9 (og ho) (.tmp 66) 1 (oo ho) (aB rfl 6 rfl (Nat.lt_of_lt_of_le (by decide) hsz) h1) rfl (hK _ w hR0 rfl)
  ·exact bV (og ho) 26 (oo ho) (Ax w) (hK _ _ (iu.of (ae w _) hC.size) ⟨_,_,rfl,hC.size,rfl,ac.new w (.cells af.toArray 26)⟩)
  ·obtain⟨cs,h1,h2,h3⟩:=hv 7 (ov ho);obtain⟨q,old,h4,h5,h6v,h7⟩:=hv 9 (ov ho);exact bI (og ho) 26 (.tmp 11) (.tmp 73) (oo ho) (aB rfl 9 rfl (Nat.lt_of_lt_of_le (by decide) hsz) h4) cs old 26 (aB rfl 7 rfl (Nat.lt_of_lt_of_le (by decide) hsz) h1) h7 (by rw[h2];kernel_rfl) (by rw[h6v,h2]) h3
    (hK _ _ ⟨aj (Below.refl _ _) h5 hC.size,fun q' cs' e1 e2 e3=>by
     by_cases e:q'=q
     ·subst e;exact⟨cs,h2,ak h7⟩
     ·exact⟨cs',e2,e3.setRow_far e⟩⟩ trivial)
  ·have h8v:=hv 8 (ov ho);exact aE (og ho) (.tmp 74) (oo ho) (aB rfl 8 rfl (Nat.lt_of_lt_of_le (by decide) hsz) h8v) (hK _ w hR0 rfl)
 ·intro f w hC hf;have h11:=hf 11 (by decide);subst hP;exact hok f w hC h11
end
end Go.Proofs.YtefmplccbkmalaaGreatDoor
