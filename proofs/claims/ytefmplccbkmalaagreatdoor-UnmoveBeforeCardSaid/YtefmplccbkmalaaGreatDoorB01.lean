import GoSem.Step
import Derived.Control
import Derived.Calls
import Derived.WalkKit
import Derived.Below
import Derived.Deep.Draws
import Derived.Laws.OwnMore
import Derived.Laws.RangeString
import Derived.Laws.Rows
import Derived.RegionTactic
import Derived.Lib.Hide
import Derived.RangeFuncNested
import Derived.RangeFuncBox
import Derived.Test.YtefmplccbkmalaaGreatDoorProg
import Derived.Deep.QuietTactic
import Derived.BigQuiet
import Derived.WalkLawsBesides
import Derived.WalkSpells
import Derived.Outline
import Derived.LoopTactic
import Derived.Deep.LoopGhost
import Derived.Orders
import Derived.RangeFuncBound
import Derived.RangeFuncCalls
import Derived.RangeFuncLeaves
import Derived.OwnWalkIn
import Derived.TacticsInMore
import Derived.LoopNIn
import Derived.LoopIn
import Derived.Laws.Tables
import Derived.Laws.ResultCell
namespace Go.Proofs.YtefmplccbkmalaaGreatDoor
open Go

theorem sE{α:Type}(a:Ask α):∀ w:World,w.drawn≤(w.ask a).2.drawn:=by
 induction a with
 | done a=>intro w;exact Nat.le_refl _
 | ask what range k ih =>
  intro w;simp only[World.ask];split
  ·exact ih _ w
  ·refine Nat.le_trans ?_ (ih _ _);exact Nat.le_succ _
theorem mH(w:World)(c:Sys):w.drawn≤(w.sys c).2.drawn:=by
 unfold World.sys;have h:=sE (Kernel.perform c w.os) w;split
 ·exact Nat.le_refl _
 ·rename_i e;rw[e]at h;exact h
theorem iK(w:World)(a:Addr)(n:Nat):(w.freeze a n).drawn=w.drawn:=by unfold World.freeze;split<;>rfl
theorem kJ{p:Program}{w:World}{a:Addr}{u:TypeId}{k:Addr}{v:Value}{at_:Bool}{r:World×List Addr}(h:w.viewStore p a u k v at_=.ok r):r.1.drawn=w.drawn:=by
 unfold World.viewStore at h;simp only[bind,Except.bind,pure,Except.pure]at h;repeat' (split at h)
 all_goals first|(cases h;done)|(injection h with h;subst h;rfl)|skip
theorem ia{p:Program}{w:World}{a:Addr}{v:Value}{at_:Bool}{r:World×List Addr}(h:w.farStore p a v at_=.ok r):r.1.drawn=w.drawn:=by
 unfold World.farStore at h;split at h
 ·split at h
  ·rename_i e;injection h with h;subst h;exact kJ e
  ·cases h
 ·cases h
def gv{α:Type}(n:Nat):Result α→Prop
 | .ok _ w=>n≤w.drawn
 | .halt _ w=>n≤w.drawn
theorem fD{α:Type}{n m:Nat}{r:Result α}(h:gv m r)(hn:n≤m):gv n r:=by cases r<;>exact Nat.le_trans hn h
theorem jk{α:Type}(p:Program)(s:Sem α):∀ w:World,gv w.drawn (s.run p w):=by
 induction s with
 | pure a=>intro w;exact Nat.le_refl _
 | load m a k ih =>
  intro w;simp only[Sem.run];split
  ·exact ih _ w
  ·split
   ·exact ih _ w
   ·exact Nat.le_refl _
 | store m a v k ih =>
  intro w;have key:gv w.drawn (match w.cell? a with
    | some _=>if w.frozen? a then(.halt (.unsupported (.unsafePointer "a write to bytes that a string shares")) w:Result α)else k.run p (w.setCell a v)
    | none=>match w.farStore p a v (m==.atomic)with
     | .ok (w,_)=>k.run p w
     | .error h=>.halt h w):=by
   split
   ·split
    ·exact Nat.le_refl _
    ·exact ih (w.setCell a v)
   ·split
    ·rename_i e;have h:=ia e;rw[←h];exact ih _
    ·exact Nat.le_refl _
  cases v<;>simp only[Sem.run]<;>first|exact key|exact Nat.le_refl _
 | new o k ih=>intro w;simp only[Sem.run];exact ih _ _
 | shape r k ih=>intro w;simp only[Sem.run];exact ih _ _
 | freeze a n k ih=>intro w;simp only[Sem.run];rw[←iK w a n];exact ih _
 | frozen a k ih=>intro w;simp only[Sem.run];exact ih _ _
 | getObj r k ih =>
  intro w;simp only[Sem.run];split
  ·exact Nat.le_refl _
  ·exact ih _ _
  ·exact Nat.le_refl _
 | setObj r o k ih =>
  intro w;simp only[Sem.run];split
  ·exact Nat.le_refl _
  ·exact ih _
  ·exact Nat.le_refl _
 | choose q k ih =>
  intro w;simp only[Sem.run];split
  ·exact ih _ w
  ·exact fD (ih _ _) (Nat.le_succ _)
 | sys c k ih=>intro w;simp only[Sem.run];exact fD (ih _ _) (mH w c)
 | program k ih=>intro w;simp only[Sem.run];exact ih _ _
 | mark m k ih=>intro w;simp only[Sem.run];exact ih _
 | halt h=>intro w;exact Nat.le_refl _
theorem dL{α:Type}(p:Program)(s:Sem α):∀(w:World) (es:Array Event),gv w.drawn (s.runT p w es).1:=by
 induction s with
 | pure a=>intro w es;exact Nat.le_refl _
 | load m a k ih =>
  intro w es;simp only[Sem.runT];split
  ·exact ih _ w _
  ·split
   ·exact ih _ w _
   ·exact Nat.le_refl _
 | store m a v k ih =>
  intro w es;have h1:∀ es,gv w.drawn (k.runT p (w.setCell a v) es).1:=fun es=>ih (w.setCell a v) es
  have h2:∀ w' l es,w.farStore p a v (m==.atomic)=.ok (w',l)→gv w.drawn (k.runT p w' es).1:=fun w' l es e=>by rw[←ia e];exact ih w' es
  cases v<;>simp only[Sem.runT]<;>(repeat' split)<;>first|exact Nat.le_refl _|exact h1 _|exact h2 _ _ _ (by assumption)
 | new o k ih=>intro w es;simp only[Sem.runT];exact ih _ _ _
 | shape r k ih=>intro w es;simp only[Sem.runT];exact ih _ _ _
 | freeze a n k ih=>intro w es;simp only[Sem.runT];rw[←iK w a n];exact ih _ _
 | frozen a k ih=>intro w es;simp only[Sem.runT];exact ih _ _ _
 | getObj r k ih =>
  intro w es;simp only[Sem.runT];split
  ·exact Nat.le_refl _
  ·exact ih _ _ _
  ·exact Nat.le_refl _
 | setObj r o k ih =>
  intro w es;simp only[Sem.runT];split
  ·exact Nat.le_refl _
  ·exact ih _ _
  ·exact Nat.le_refl _
 | choose q k ih =>
  intro w es;simp only[Sem.runT];split
  ·exact ih _ w _
  ·exact fD (ih _ _ _) (Nat.le_succ _)
 | sys c k ih=>intro w es;simp only[Sem.runT];exact fD (ih _ _ _) (mH w c)
 | program k ih=>intro w es;simp only[Sem.runT];exact ih _ _ _
 | mark m k ih=>intro w es;simp only[Sem.runT];exact ih _ _
 | halt h=>intro w es;exact Nat.le_refl _
section
variable {α:Type} {p:Program} {s:Sem α} {w w':World} {n:Nat} {es es':Array Event}
theorem cH(h:n≤w.drawn){a:α}(e:s.run p w=.ok a w'):n≤w'.drawn:=by have h2:=jk p s w;rw[e]at h2;exact Nat.le_trans h h2
theorem vc(h:n≤w.drawn){x:Halt}(e:s.run p w=.halt x w'):n≤w'.drawn:=by have h2:=jk p s w;rw[e]at h2;exact Nat.le_trans h h2
theorem eN(h:n≤w.drawn){a:α}(e:s.runT p w es=(.ok a w',es')):n≤w'.drawn:=by have h2:=dL p s w es;rw[e]at h2;exact Nat.le_trans h h2
theorem iS(h:n≤w.drawn){x:Halt}(e:s.runT p w es=(.halt x w',es')):n≤w'.drawn:=by have h2:=dL p s w es;rw[e]at h2;exact Nat.le_trans h h2
theorem eQ(h:n≤w.drawn){a:α}(e:(s.runT p w es).1=.ok a w'):n≤w'.drawn:=by have h2:=dL p s w es;rw[e]at h2;exact Nat.le_trans h h2
theorem kt(h:n≤w.drawn){x:Halt}(e:(s.runT p w es).1=.halt x w'):n≤w'.drawn:=by have h2:=dL p s w es;rw[e]at h2;exact Nat.le_trans h h2
end
def cC(n:Nat):GStep→Prop
 | .go _ w _=>n≤w.drawn
 | .comm _ _ _ _ w _=>n≤w.drawn
 | .spawn _ _ w _=>n≤w.drawn
 | .count _ w _=>n≤w.drawn
 | .timer _ _ w _=>n≤w.drawn
 | .alone _ _ w _=>n≤w.drawn
 | .newcoro _ _ _ w _=>n≤w.drawn
 | .coroswitch _ _ _ w _=>n≤w.drawn
 | .collect _ w _=>n≤w.drawn
 | .watch _ w _=>n≤w.drawn
 | .ended ..=>True
theorem fY{n:Nat}{es:Array Event}{s:GStep}(h:cC n s):cC n (GStep.after es s):=by cases s<;>exact h
theorem yQ{n:Nat}{c:Prop}[Decidable c]{a b:GStep}(ha:cC n a)(hb:cC n b):cC n (if c then a else b):=by
 split
 ·exact ha
 ·exact hb
theorem yk{α:Type}{n:Nat}{o:Option α}{a:GStep}{f:α→GStep}(ha:cC n a)(hf:∀ x,cC n (f x)):cC n (o.elim a f):=by
 cases o
 ·exact ha
 ·exact hf _
theorem rG(n:Nat)(w:World)(fd:Nat)(t:ByteArray)(o:Outcome):cC n (endWith w fd t o):=by
 unfold endWith;simp only[];repeat' first
  | exact trivial
  | split
theorem fg{n:Nat}{w:World}(h:n≤w.drawn)(fr:Frame)(m:String):cC n (endThrow fr m w):=h
theorem eS{n:Nat}{w:World}(h:n≤w.drawn)(p:Program)(fr:Frame)(v:Value):cC n (endPrinting p fr v w):=by
 unfold endPrinting;simp only[];repeat' first
  | exact trivial
  | exact fg h _ _
  | split
theorem jG{n:Nat}{w:World}(h:n≤w.drawn)(p:Program)(fr:Frame)(callers:List Frame)(dying:Option Dying)(m:String):cC n (endFatal p fr callers dying m w):=by
 unfold endFatal;simp only[];split
 ·rename_i e;exact cH h e
 iterate 2 exact trivial
theorem rA{n:Nat}{w:World}(h:n≤w.drawn)(p:Program)(fr:Frame)(d:Dying)(f:Fatal):cC n (writeOn p fr d f w):=by
 unfold writeOn;simp only[];split
 ·exact trivial
 ·split
  ·rename_i e;exact eN h e
  ·rename_i e;exact iS h e
  iterate 2 exact trivial
theorem zE{n:Nat}{w:World}(h:n≤w.drawn)(p:Program)(fr:Frame)(d:Dying):cC n (die p fr d w):=by
 unfold die;simp only[];repeat' first
  | exact trivial
  | exact rA h _ _ _ _
  | exact rG _ _ _ _ _
  | exact h
  | exact cH h (by assumption)
  | exact eN h (by assumption)
  | exact eS (iS h (by assumption)) _ _ _
  | exact eS (kt h (by assumption)) _ _ _
  | exact eQ h (by assumption)
  | apply fY
  | split
theorem dY{n:Nat}{w:World}(h:n≤w.drawn)(p:Program)(main:Bool)(fr:Frame)(callers:List Frame)(dying:Option Dying)(v:Value):cC n (doReturn p main fr callers dying v w):=by
 unfold doReturn;simp only[];repeat' first
  | exact trivial
  | exact h
  | split
theorem kY{n:Nat}{w:World}(h:n≤w.drawn)(p:Program)(fr:Frame)(callers:List Frame)(dying:Option Dying)(d:Deferred):cC n (callDeferred p fr callers dying d w):=by
 unfold callDeferred;simp only[];refine yQ trivial ?_;have hr:=dL p (invoke d.target d.args) w #[];generalize (invoke d.target d.args).runT p w #[]=re at *;obtain⟨r,es⟩:=re;apply fY
 cases r with
 | ok x w' =>
  have h2:n≤w'.drawn:=Nat.le_trans h hr;cases x
  case alone on v=>cases on<;>first|exact h2|exact trivial
  case coroswitch c ex=>cases ex<;>first|exact h2|exact trivial
  all_goals simp only[]
  all_goals repeat' first
   | exact trivial
   | exact h2
   | split
 | halt x w'=>have h2:n≤w'.drawn:=Nat.le_trans h hr;cases x<;>first|exact trivial|exact h2|exact jG h2 _ _ _ _ _|exact fg h2 _ _
theorem uh{n:Nat}{w:World}(h:n≤w.drawn)(p:Program)(main:Bool)(fr:Frame)(callers:List Frame)(dying:Option Dying):cC n (unwind p main fr callers dying w):=by
 unfold unwind;simp only[];repeat' first
  | exact trivial
  | exact h
  | exact kY h _ _ _ _ _
  | exact dY h _ _ _ _ _ _
  | exact dY (eN h (by assumption)) _ _ _ _ _ _
  | exact eS h _ _ _
  | exact cH h (by assumption)
  | exact eN h (by assumption)
  | exact eQ h (by assumption)
  | exact dY (eQ h (by assumption)) _ _ _ _ _ _
  | apply fY
  | split
theorem vu{n:Nat}{w:World}(h:n≤w.drawn)(p:Program)(fr:Frame)(callers:List Frame)(dying:Option Dying)(g:Nat):cC n (early p fr callers dying g w):=by
 unfold early;simp only[];repeat' first
  | exact trivial
  | exact h
  | exact cH h (by assumption)
  | (rename_i e _ _ _ _;have h9:=cH h e;exact h9)
  | split
theorem ie{n:Nat}{w:World}(h:n≤w.drawn)(p:Program)(listen:Bool)(fr:Frame)(callers:List Frame)(dying:Option Dying)(s:Sem Next):cC n (stepG.apply p listen fr callers dying s w):=by
 unfold stepG.apply;simp only[];have hr:gv w.drawn (if listen then s.runT p w #[]else(s.run p w,#[])).1:=by
  split
  ·exact dL p s w #[]
  ·exact jk p s w
 generalize (if listen then s.runT p w #[]else(s.run p w,#[]))=re at *;obtain⟨r,es⟩:=re;apply fY
 cases r with
 | ok x w' =>
  have h2:n≤w'.drawn:=Nat.le_trans h hr;cases x<;>simp only[]
  all_goals repeat' first
   | exact trivial
   | exact h2
   | exact fg h2 _ _
   | split
 | halt x w' =>
  have h2:n≤w'.drawn:=Nat.le_trans h hr;cases x
  case unsupported u=>cases u<;>first|exact vu h2 _ _ _ _ _|exact trivial
  all_goals first|exact trivial|exact h2|exact jG h2 _ _ _ _ _|exact fg h2 _ _
theorem yd{n:Nat}{w:World}(h:n≤w.drawn)(p:Program)(listen:Bool)(fr:Frame)(callers:List Frame)(dying:Option Dying):cC n (stepG.oper p listen fr callers dying w):=by
 unfold stepG.oper;repeat' first
  | exact trivial
  | exact ie h _ _ _ _ _ _
  | split
theorem yv{n:Nat}{w:World}(h:n≤w.drawn)(p:Program)(main listen:Bool)(fr:Frame)(callers:List Frame)(dying:Option Dying):cC n (stepG.exec p main listen fr callers dying w):=by
 unfold stepG.exec;simp only[];repeat' first
  | exact trivial
  | exact h
  | refine yk ?_ (fun _=>?_)
  | exact ie h _ _ _ _ _ _
  | exact ie (eN h (by assumption)) _ _ _ _ _ _
  | exact yd h _ _ _ _ _
  | exact dY (eN h (by assumption)) _ _ _ _ _ _
  | exact cH h (by assumption)
  | exact eN h (by assumption)
  | exact iS h (by assumption)
  | exact eQ h (by assumption)
  | exact kt h (by assumption)
  | exact dY (eQ h (by assumption)) _ _ _ _ _ _
  | exact ie (eQ h (by assumption)) _ _ _ _ _ _
  | apply fY
  | split
theorem wi(p:Program)(main:Bool)(g:Goroutine)(w:World)(listen:Bool):cC w.drawn (stepG p main g w listen):=by
 unfold stepG;simp only[];repeat' first
  | exact zE (Nat.le_refl _) _ _ _
  | exact yv (Nat.le_refl _) _ _ _ _ _ _
  | exact uh (Nat.le_refl _) _ _ _ _ _
  | split
def si(n:Nat)(s:Stepped):Prop:=∀ m,s=.next m→n≤m.world.drawn
theorem im{n:Nat}{o:Outcome}{w:World}:si n (.ended o w):=fun m h=>by cases h
theorem gj{n:Nat}{m:Machine}(h:n≤m.world.drawn):si n (.next m):=fun m' h'=>by injection h' with h';subst h';exact h
theorem kA{rest:Rest}{cases:Array CommCase}{w w':World}(h:waitingAt rest cases w=some w'):w'.drawn=w.drawn:=by
 unfold waitingAt at h;repeat' first
  | (cases h;done)
  | (injection h with h;subst h;rfl)
  | split at h
theorem jz{n:Nat}(p:Program)(rest:Rest)(gs:Array Goroutine)(i:Nat)(g:Goroutine)(cases:Array CommCase)(blocking:Bool)(shape:CommShape)(w:World)(hn:n≤w.drawn)(m':Machine)
  (h:(communicate p rest gs i g cases blocking shape w).1=.next m'):n≤m'.world.drawn:=by
 unfold communicate at h;simp only[]at h;repeat' first
  | (simp at h;done)
  | (simp only[Stepped.next.injEq]at h;subst h;exact hn)
  | (simp only[Stepped.next.injEq]at h;subst h;rename_i e;have h9:=kA e;exact Nat.le_trans hn (Nat.le_of_eq h9.symm))
  | (simp only[Stepped.next.injEq]at h;subst h;have h9:=cH hn (by assumption);exact h9)
  | (simp only[Stepped.next.injEq]at h;subst h;have h9:=vc (cH hn (by assumption)) (by assumption);exact h9)
  | (simp only[Stepped.next.injEq]at h;subst h;have h9:=cH (cH hn (by assumption)) (by assumption);exact h9)
  | split at h
theorem kR{n:Nat}{w:World}(hn:n≤w.drawn)(p:Program)(gs:Array Goroutine)(rest:Rest)(m':Machine)(h:look p gs rest w=.next m'):n≤m'.world.drawn:=by
 unfold look at h;simp only[]at h;repeat' first
  | (simp at h;done)
  | (simp only[Stepped.next.injEq]at h;subst h;have h9:=cH hn (by assumption);exact h9)
  | split at h
theorem pA(w:World)(c:Nat):(drain w c).2.drawn=w.drawn:=by unfold drain;split<;>rfl
theorem iV(m:Machine)(k:Nat)(t:Timer)(when_ period:Nat):(retime m k t when_ period).2.world.drawn=m.world.drawn:=by
 unfold retime;cases t.chan with
 | none=>rfl
 | some c=>exact pA m.world c
theorem oO{m m':Machine}{var:Addr}(h:timerOp.opened m var=some m'):m'.world.drawn=m.world.drawn:=by
 unfold timerOp.opened at h;repeat' first
  | (cases h;done)
  | (injection h with h;subst h;rfl)
  | split at h
theorem jI{n:Nat}{m:Machine}{var:Addr}{f:Nat→Timer→Value×Machine}(hf:∀ k t,n≤(f k t).2.world.drawn){r:Value×Machine}(h:timerOp.named m var f=.ok r):n≤r.2.world.drawn:=by
 unfold timerOp.named at h;split at h
 ·injection h with h;subst h;exact hf _ _
 ·cases h
theorem na{n:Nat}{m:Machine}(hn:n≤m.world.drawn)(op:TimerOp){v:Value}{m':Machine}(h:timerOp m op=.ok (v,m')):n≤m'.world.drawn:=by
 cases op<;>simp only[timerOp]at h
 case stop var=>exact jI (fun k t=>by rw[iV];exact hn) h
 case reset var wh pe =>
  split at h
  ·rename_i e;exact jI (fun k t=>by rw[iV,oO e];exact hn) h
  ·cases h
 all_goals repeat' first
  | (cases h;done)
  | (injection h with h;injection h with _ h;subst h;exact hn)
  | split at h
theorem pC(p:Program)(m m':Machine)(i:Nat)(b:Bool)(h:(Go.runT p m i b).1=.next m'):m.world.drawn≤m'.world.drawn:=by
 simp only[Go.runT]at h;generalize m.gs.swapAt! _ _=gg at h;have hs:=wi p (i==0) gg.1 m.world b;revert hs h;generalize stepG p _ gg.1 m.world b=s;intro h hs;cases s<;>simp only[]at h
 all_goals first
  | (simp at h;done)
  | exact jz _ _ _ _ _ _ _ _ _ hs _ h
  | exact kR hs _ _ _ _ h
  | (simp only[Stepped.next.injEq]at h;subst h;exact hs)
  | (repeat' first
    | (simp at h;done)
    | (simp only[Stepped.next.injEq]at h;subst h;exact hs)
    | (simp only[Stepped.next.injEq]at h;subst h;rename_i e;have h9:=na (m:=_) hs _ e;exact h9)
    | (rename_i e;unfold endThrow dieOf at e;simp only[GStep.go.injEq]at e;simp only[Stepped.next.injEq]at h;subst h;rw[←e.2.1];exact hs)
    | split at h)
theorem qi(p:Program)(m m':Machine)(k:Nat)(h:serve p m k=.next m'):m.world.drawn≤m'.world.drawn:=by
 unfold serve at h;simp only[]at h;repeat' first
  | (simp at h;done)
  | (simp only[Stepped.next.injEq]at h;subst h;exact Nat.le_refl _)
  | split at h
def jb(n:Nat):Move→Prop
 | .goroutine m _=>n≤m.world.drawn
 | .machine s _=>si n s
theorem vt{n:Nat}{p:Program}{m:Machine}(h:n≤m.world.drawn)(k:Nat):si n (serve p m k):=fun m' e=>Nat.le_trans h (qi p m m' k e)
theorem zM{n:Nat}{c:Prop}[Decidable c]{a b:Move}(ha:jb n a)(hb:jb n b):jb n (if c then a else b):=by
 split
 ·exact ha
 ·exact hb
theorem mI{n k:Nat}{v:Move}(h:jb k v)(hn:n≤k):jb n v:=by
 cases v with
 | goroutine m i=>exact Nat.le_trans hn h
 | machine s ops=>exact fun m e=>Nat.le_trans hn (h m e)
theorem kd(p:Program)(m:Machine):jb m.world.drawn (askOn p m):=by
 have hk:∀ {α:Type} {s:Sem α} {w w':World} {a:α},m.world.drawn≤w.drawn→s.run p w=.ok a w'→m.world.drawn≤w'.drawn:=fun h e=>cH h e
 unfold askOn;simp only[];repeat' first
  | exact im
  | exact vt (hk (Nat.le_refl _) (by assumption)) _
  | exact gj (hk (Nat.le_refl _) (by assumption))
  | refine zM ?_ ?_
  | split
 all_goals first
  | (have h9:=hk (hk (hk (hk (Nat.le_refl _) (by assumption)) (by assumption)) (by assumption)) (by assumption);exact h9)
  | (have h9:=hk (hk (hk (Nat.le_refl _) (by assumption)) (by assumption)) (by assumption);first|exact h9|exact gj h9)
  | (have h9:=hk (hk (Nat.le_refl _) (by assumption)) (by assumption);first|exact h9|exact gj h9)
  | (have h9:=hk (Nat.le_refl _) (by assumption);first|exact h9|exact gj h9)
  | (have h1:=hk (hk (Nat.le_refl _) (by assumption)) (by assumption)
     have h2:=hk (w:=(Machine.advanceTo {world:=_,gs:=m.gs,rest:=m.rest} _).world) h1 (by assumption)
     first
      | exact h2
      | (have h3:=hk h2 (by assumption);exact h3))
theorem tn(p:Program)(m:Machine):jb m.world.drawn (Go.ask p m):=by
 unfold Go.ask;split
 ·split
  ·exact im
  ·rename_i e;have h1:=cH (Nat.le_refl _) e;split
   ·rename_i e2;have h2:=kR h1 _ _ _ _ e2;have h3:=kd p;exact mI (h3 _) h2
   ·rename_i s hne;cases hs:look p m.gs m.rest _ with
    | next m2=>exact absurd hs (hne m2)
    | ended o w=>exact im
  ·rename_i e;have h1:=cH (Nat.le_refl _) e;exact mI (kd p _) h1
 ·exact kd p m
theorem xC(p:Program)(m:Machine):jb m.world.drawn (Go.move p m):=by
 unfold Go.move;repeat' first
  | exact im
  | exact tn p m
  | exact tn p {m with rest:={ m.rest with slice:=none}}
  | exact Nat.le_refl _
  | split
theorem rT{p:Program}{m m':Machine}(h:step p m=.next m'):m.world.drawn≤m'.world.drawn:=by
 unfold step stepT at h;have hm:=xC p m;split at h
 ·rename_i e;rw[e]at hm;exact Nat.le_trans hm (pC p _ m' _ _ h)
 ·rename_i e;rw[e]at hm;exact hm m' h
theorem rN{p:Program}(n:Nat):∀ {m m':Machine},runN p n m=.next m'→m.world.drawn≤m'.world.drawn:=by
 induction n with
 | zero=>intro m m' h;injection h with h;subst h;exact Nat.le_refl _
 | succ n ih =>
  intro m m' h;unfold runN at h;split at h
  ·rename_i e;exact Nat.le_trans (rT e) (ih h)
  ·rename_i hne;cases hs:step p m with
   | next m2=>exact absurd hs (hne m2)
   | ended o w=>rw[hs]at h;cases h
theorem pL{P:Program}{f:FuncId}{args:Array Value}{w:World}{R:Ending→World→Prop}(h:Calls P f args w R):
  Calls P f args w fun e w'=>R e w'∧∀ v,e=.returned v→w.drawn≤w'.drawn:=by
 intro cs;obtain⟨e,w',fr,hR,hC,h1,h2⟩:=h cs;refine⟨e,w',fr,⟨hR,?_⟩,hC,h1,h2⟩;rintro v rfl;obtain⟨n,hn⟩:=hC;exact rN n hn
end Go.Proofs.YtefmplccbkmalaaGreatDoor
namespace Go.Proofs.YtefmplccbkmalaaGreatDoor
open Go.RowKit

def sideB(n:Int):Bool:=decide (3≤n)&&decide (n≤8)
def bR(f r:Int):Bool:=sideB f&&sideB r

structure Men where
 (f r w0 w1 w2 w3 w4 b0 b1 b2 b3 b4:Int)
deriving DecidableEq
abbrev Men.cs(m:Men):List Value:=[.int .i64 m.f,.int .i64 m.r,.int .i64 m.w0,.int .i64 m.w1,.int .i64 m.w2,.int .i64 m.w3,.int .i64 m.w4,.int .i64 m.b0,.int .i64 m.b1,.int .i64 m.b2,.int .i64 m.b3,.int .i64 m.b4]

def Men.sb(m:Men)(k:Nat):Int:=match k with|0=>m.b0|1=>m.b1|2=>m.b2|3=>m.b3|_=>m.b4
def ch(n k:Nat):Nat:=match k with|0=>1|1=>n|2=>n*(n-1)/2|3=>n*(n-1)*(n-2)/6|4=>n*(n-1)*(n-2)*(n-3)/24|_=>0
def str(l:List UInt8):ByteArray:=⟨l.toArray⟩
theorem iz(a b:List UInt8):str a++str b=str (a++b):=by simp[str,ByteArray.ext_iff]
theorem cY(l:List UInt8):(str l).size=l.length:=by simp[str,ByteArray.size]
theorem iB{W w1:World}(hb:Below W.heap.size W w1):(∀ b o,b<W.heap.size→w1.cell? ⟨b,o,none⟩=W.cell? ⟨b,o,none⟩)∧(∀ b o,b<W.heap.size→w1.frozen? ⟨b,o,none⟩=W.frozen? ⟨b,o,none⟩) :=
 ⟨fun b o h=>hb.cell (p:=⟨b,o,none⟩) h,fun b o h=>hb.frozen (p:=⟨b,o,none⟩) h⟩
theorem qj{B:Nat}{w w':World}(h:Below B w w')(n:Nat):Below B w (w'.drewN n):=⟨h.os,h.tape,h.output,h.size,h.block⟩
theorem ae(w:World)(o:Obj):Below w.heap.size w (w.alloc o):=(Below.refl _ _).alloc (Nat.le_refl _) _
theorem aI{w0 w w':World}{B:Nat}(h:Below B w0 w)(hB:B≤w.heap.size)(hb:Below w.heap.size w w'):Below B w0 w':=h.trans (hb.mono hB)
theorem aV{a b:Bool}(h:a=b):Ending.returned (.bool a)=.returned (.bool b):=by rw[h]
theorem yi{k:IntKind}{a b:Int}(h:a=b):Ending.returned (.int k a)=.returned (.int k b):=by rw[h]
theorem rz{a b:Value}(h:a=b):Ending.returned a=.returned b:=by rw[h]
@[simp] theorem iter_size (w:World) (s:ByteArray) (k:Nat):(w.iter s k).heap.size=w.heap.size+1:=by simp[World.iter]

def ac(w:World)(q:Nat)(o:Obj):Prop:=w.heap[q]? = some o
section
variable {w w':World} {q B:Nat} {o:Obj}
theorem ac.lt(h:ac w q o):q<w.heap.size:=(Array.getElem?_eq_some_iff.1 h).1
theorem ac.new(w:World)(o:Obj):ac (w.alloc o) w.heap.size o:=World.alloc_heap_new w o
theorem ac.new'(w:World)(o:Obj){q:Nat}(hq:q=w.heap.size):ac (w.alloc o) q o:=by subst hq;exact ac.new w o
theorem ac.drewN(h:ac w q o)(n:Nat):ac (w.drewN n) q o:=h
theorem ac.drew(h:ac w q o):ac w.drew q o:=h
theorem ac.alloc(h:ac w q o)(o':Obj):ac (w.alloc o') q o:=(Below.heap_alloc w o' q h.lt).trans h
theorem ac.far(h:ac w q o){p:Addr}(hp:q≠p.block)(u:Value):ac (w.setCell p u) q o:=(Below.heap_setCell w p u q hp).trans h
theorem ac.below(h:ac w q o)(hb:Below B w w')(hq:q<B):ac w' q o:=(hb.block q hq).trans h
theorem ac.call(h:ac w q o)(hb:Below w.heap.size w w'):ac w' q o:=h.below hb h.lt
theorem ac.grown(h:ac w q o){row:Option Nat}(hg:w.grownBy w' row)(hr:row≠some q):ac w' q o:=(hg.block q h.lt (fun e=>hr e.symm)).trans h
theorem ac.iter(h:ac w q o)(s:ByteArray)(k:Nat):ac (w.iter s k) q o:=h.alloc _
theorem ac.cells{cs:Array Value}{t:TypeId}(h:ac w q (.cells cs t (0,0)))(j:Nat):w.cell? ⟨q,j,none⟩=cs[j]?:=cell_of_row w q j cs t (0,0) h
theorem ac.frozen{cs:Array Value}{t:TypeId}(h:ac w q (.cells cs t (0,0)))(j:Nat):w.frozen? ⟨q,j,none⟩=false:=by unfold ac at h;simp[World.frozen?,h]
theorem ac.set_{cs:Array Value}{t:TypeId}(h:ac w q (.cells cs t (0,0)))(i:Nat)(u:Value):ac (w.setCell ⟨q,i,none⟩ u) q (.cells (cs.setIfInBounds i u) t (0,0)):=by unfold ac at h ⊢;simp[World.setCell,Array.getElem?_modify,h]
theorem ac.ne_{q':Nat}{o':Obj}(h:ac w q o)(h':ac w q' o')(hne:o≠o'):q≠q':=by rintro rfl;exact hne (Option.some.inj (h.symm.trans h'))
theorem aY{base:Nat}{e:TypeId}{size n:Nat}{v:Value}{xs:List Value}(h:w.ownsRow base e size v n xs)(hq:ac w q o)(ho:∀ c,o≠.cells c e (0,0)):v.ownBlock≠some q:=by
 rcases h.2 with⟨rfl,_⟩|⟨g,cap,cur,rfl,_,hh,_⟩
 ·simp[Value.ownBlock]
 ·intro he;have:g=q:=by simpa[Value.ownBlock]using he
  subst this;exact ho cur (Option.some.inj (hq.symm.trans hh))
theorem bC{base base':Nat}{e:TypeId}{size n:Nat}{v:Value}{xs:List Value}(h:w.ownsRow base e size v n xs)(hb:base'≤base):w.ownsRow base' e size v n xs:=by
 refine⟨h.1,?_⟩;rcases h.2 with h2|⟨g,cap,cur,hv,hg,r⟩
 ·exact .inl h2
 ·exact .inr ⟨g,cap,cur,hv,Nat.le_trans hb hg,r⟩
theorem aA{base:Nat}{e:TypeId}{size n:Nat}{v:Value}{xs:List Value}(h:w.ownsRow base e size v n xs)(hb:Below w.heap.size w w'):w'.ownsRow base e size v n xs :=
 h.kept (row:=none) ⟨hb.os,hb.tape,hb.output,hb.size,fun k hk _=>hb.block k hk⟩ (by rcases v.ownBlock with _|x<;>simp)
end

theorem fi{P:Program}{W:World}{ops:Array Oper}{rest:List Oper}{o:Oper}{a:Act}{Q:Exit→Act→World→Prop}(hgd:o.guard=none)(s x:Operand)(t:TypeId)
  (ho:o.op=.call {callee:=.builtin .append,args:=#[s,x],argTypes:=#[t,t]})
  (base:Nat) (e:TypeId) (i:TypeInfo) (z:Value) (size bytes:Nat) (ht:P.underlying t=some (.slice e)) (hi:P.info? e=some i) (hz:i.zero=some z)
  (hsize:i.size=size) (hby:i.bytes=bytes) (hzs:z.cells.size=size) (hsz:0<size)
  (v:Value) (n:Nat) (xs:List Value) (hs:a.eval s=v) (hown:W.ownsRow base e size v n xs)
  (news:List Value) (hl:news.length=size) (h1:∀ u∈news,u.oneCell'=true) (q:Nat) (hq:q=W.heap.size) (hx:a.eval x=.slice (some ⟨q,0,none⟩) 1 1)
  (hbytes:(n+1)*(bytes+1)≤140737488355328) (hbase:base≤W.heap.size)
  (h:∀ v' w',w'.ownsRow base e size v' (n+1) (xs++news)→W.grownBy w' v.ownBlock→v'≠.slice none 0 0→wpList P ops Q rest (a.put o.dst v') w') :
  wpList P ops Q (o::rest) a (W.alloc (.cells news.toArray e)):=by
 subst hq;have hb1:(n+1)*bytes≤140737488355328:=Nat.le_trans (Nat.mul_le_mul_left _ (by omega)) hbytes;have hb2:n+1≤maxLen:=by have:(n+1)*1≤(n+1)*(bytes+1):=Nat.mul_le_mul_left _ (by omega);unfold maxLen;omega
 refine wpList_append_own _ hgd s x t ho base e i z size bytes ht hi hz hsize hby hzs hsz v n xs hs (hown.alloc _) ⟨W.heap.size,0,none⟩ 1 1 news hx (by omega) ?_ h1 hb2 hb1 (by simp;omega) ?_
 ·intro j u hu;rw[Addr.add_lit];have:=(ac.new W (.cells news.toArray e)).cells j;rw[Nat.zero_add,this];simpa using hu
 ·intro v' w' ho' hg hnil;refine h v' w' ho' ⟨hg.os,hg.tape,hg.output,Nat.le_trans (by simp) hg.size,fun k hk hne=>?_⟩ (fun e=>by have:=hnil.1 e;omega);exact(hg.block k (by simp;omega) hne).trans (Below.heap_alloc _ _ _ hk)
theorem jO(n:Int)(w:World):Calls Tryz.prog 182 #[.int .i64 n] w fun e w'=>e=.returned (.bool (sideB n))∧w=w':=by
 go_enter Tryz.func182,Tryz.ntmps182;go_wp2
 all_goals (go_ret;refine⟨?_,rfl⟩;simp[sideB, *])
 omega
theorem yB(n:Int)(w:World)(h:sideB n=true):Calls Tryz.prog 182 #[.int .i64 n] w fun e w'=>e=.returned (.bool true)∧w=w' := 
 (jO n w).mono fun e w' ⟨h1,h2⟩=>⟨by rw[h1,h],h2⟩
theorem zz(n:Int)(w:World)(h:sideB n=false):Calls Tryz.prog 182 #[.int .i64 n] w fun e w'=>e=.returned (.bool false)∧w=w' := 
 (jO n w).mono fun e w' ⟨h1,h2⟩=>⟨by rw[h1,h],h2⟩

theorem ed(f r:Int)(w:World):Calls Tryz.prog 140 #[.agg #[.int .i64 f,.int .i64 r]] w fun e w'=>e=.returned (.bool (bR f r))∧Below w.heap.size w w':=by
 go_enter Tryz.func140,Tryz.ntmps140;rcases h:sideB f with _|_
 ·go_wp2_with fail;refine(zz _ _ h).mono ?_;rintro e w' ⟨rfl,rfl⟩;go_wp2_with fail;go_ret;exact⟨by simp[bR,h],ae _ _⟩
 ·go_wp2_with fail;refine(yB _ _ h).mono ?_;rintro e w' ⟨rfl,rfl⟩;go_wp2_with fail;refine(jO _ _).mono ?_;rintro e w' ⟨rfl,rfl⟩;go_wp2_with fail;go_ret;exact⟨by simp[bR,h],ae _ _⟩

theorem oW(f r:Int)(w:World):Calls Tryz.prog 112 #[.agg #[.int .i64 f,.int .i64 r]] w fun e w'=>e=.returned (.bool (bR f r))∧Below w.heap.size w w':=by
 go_enter Tryz.func112,Tryz.ntmps112;go_wp2
 all_goals (go_ret;refine⟨?_,ae _ _⟩;simp[bR,sideB, *]<;>omega)

def upd(S:Nat→Bool)(i:Nat):Nat→Bool:=fun j=>if j=i then true else S j
def aW(md:Region.Mode)(ops:Array Oper):Bool:=(List.range ops.size).all fun i=>((ops[i]?).map (·.after.all fun e=>!Region.binds md e||decide (e.on<i))).getD false

theorem lz{md:Region.Mode}{ops:Array Oper}(hb:aW md ops=true){listed:Array Bool}{i:Nat}(hi:i<ops.size)(hl:listed.getD i true=false)(hlow:∀ j,j<i→listed.getD j false=true):
  i∈Region.ready md ops listed:=by
 unfold aW at hb;rw[List.all_eq_true]at hb;have h:=hb i (List.mem_range.2 hi);unfold Region.ready;rw[List.mem_filter];refine⟨List.mem_range.2 hi,?_⟩;have ho:ops[i]? = some ops[i]:=Array.getElem?_eq_getElem hi;rw[ho]at h ⊢;simp only[Option.map_some,Option.getD_some]at h ⊢;rw[hl];simp only[Bool.not_false,Bool.true_and];rw[Array.all_eq_true]at h ⊢;intro k hk;have:=h k hk;rcases hbd:Region.binds md ops[i].after[k]with _|_
 ·simp
 ·rw[hbd]at this;simp only[Bool.not_true,Bool.false_or,decide_eq_true_eq]at this;simp[hlow _ this]

theorem th{P:Program}{md:Region.Mode}{ops:Array Oper}{Q:Exit→Act→World→Prop}(hb:aW md ops=true)(I:(Nat→Bool)→Act→World→Prop)
  (hcong:∀ S S' a w,(∀ i,i<ops.size→S i=S' i)→I S a w→I S' a w)
  (hstep:∀ S a w i (hi:i<ops.size),S i=false→(∀ e∈ops[i].after,Region.binds md e=true→S e.on=true)→I S a w →
   if Region.wanted ops[i] (yielded ops a.tmps)=true then(ops[i]).wp P a w (I (upd S i)) Q else I (upd S i) (a.put ops[i].dst undef) w)
  (hend:∀ S a w,(∀ i,i<ops.size→S i=true)→I S a w→Q .normal a w) :
  ∀(fuel:Nat) (listed:Array Bool) (a:Act) (w:World),listed.size=ops.size→listed.toList.countP (·==false)≤fuel→I (fun i=>listed.getD i false) a w→wpAny P md ops Q fuel listed a w:=by
 have hall:∀(listed:Array Bool),listed.size=ops.size→Region.ready md ops listed=[]→∀ i,i<ops.size→listed.getD i false=true:=by
  intro listed hs hr i;induction i using Nat.strongRecOn with
  | _ i ih =>
   intro hi;rcases hl:listed.getD i false with _|_
   ·exfalso;have:i∈Region.ready md ops listed:=lz hb hi (by
     have h2:i<listed.size:=by omega
     simp only[Array.getD_eq_getD_getElem?,Array.getElem?_eq_getElem h2,Option.getD_some]at hl ⊢;exact hl) (fun j hj=>ih j hj (by omega))
    rw[hr]at this;cases this
   ·rfl
 intro fuel;induction fuel with
 | zero =>
  intro listed a w hs hc hI;have ht:∀ i,i<ops.size→listed.getD i false=true:=by
   intro i hi;have h2:i<listed.size:=by omega
   have h0:listed.toList.countP (·==false)=0:=by omega
   rw[List.countP_eq_zero]at h0;have:=h0 listed[i] (by simp);simp only[Array.getD_eq_getD_getElem?,Array.getElem?_eq_getElem h2,Option.getD_some];simpa using this
  refine⟨?_,hend _ a w ht hI⟩;unfold Region.ready;rw[List.filter_eq_nil_iff];intro i hi;have hi:=List.mem_range.1 hi;have h2:i<listed.size:=by omega
  have:=ht i hi;simp only[Array.getD_eq_getD_getElem?,Array.getElem?_eq_getElem h2,Option.getD_some]at this ⊢;simp[this]
 | succ fuel ih =>
  intro listed a w hs hc hI;refine⟨fun hr=>hend _ a w (hall listed hs hr) hI,fun i hi=>?_⟩;unfold Region.ready at hi;rw[List.mem_filter]at hi;obtain⟨hi,hrd⟩:=hi;have hi:=List.mem_range.1 hi;have h2:i<listed.size:=by omega
  have ho:ops[i]? = some ops[i]:=Array.getElem?_eq_getElem hi;rw[ho]at hrd;simp only[Option.map_some,Option.getD_some,Bool.and_eq_true,Bool.not_eq_true']at hrd;obtain⟨hl,he⟩:=hrd;have hl':listed[i]=false:=by simpa[Array.getD_eq_getD_getElem?,Array.getElem?_eq_getElem h2]using hl
  rw[Array.all_eq_true]at he;have hk:∀ a' w',I (upd (fun i=>listed.getD i false) i) a' w'→wpAny P md ops Q fuel (listed.setIfInBounds i true) a' w':=by
   intro a' w' h;refine ih _ a' w' (by simpa using hs) ?_ (hcong _ _ _ _ (fun j hj=>?_) h)
   ·have h3:listed.toList.countP (·==false)=(listed.setIfInBounds i true).toList.countP (·==false)+1:=by
     rw[Array.toList_setIfInBounds,List.countP_set (by simpa using h2)];have hp:0<listed.toList.countP (·==false):=List.countP_pos_iff.2 ⟨listed[i],by simp,by simp[hl']⟩;rw[Array.getElem_toList,hl'];simp only[beq_self_eq_true,if_true,Bool.true_eq_false,beq_iff_eq,if_false];omega
    omega
   ·unfold upd;by_cases e:j=i
    ·subst e;simp[Array.getD_eq_getD_getElem?,h2]
    ·have e':i≠j:=fun h=>e h.symm
     simp[e,Array.getD_eq_getD_getElem?,Array.getElem?_setIfInBounds_ne e']
  have hs2:=hstep (fun i=>listed.getD i false) a w i hi (by simp[Array.getD_eq_getD_getElem?,Array.getElem?_eq_getElem h2,hl']) (fun e hm hbd=>by
   obtain⟨k,hk,rfl⟩:=Array.getElem_of_mem hm;have:=he k hk;simpa[hbd]using this) hI
  unfold wpOp;rw[ho];simp only[];by_cases hw:Region.wanted ops[i] (yielded ops a.tmps)=true
  ·rw[if_pos hw]at hs2 ⊢;exact .inl (Oper.wp_mono hk hs2)
  ·rw[if_neg hw]at hs2 ⊢;exact hk _ _ hs2

theorem fx{P:Program}{id:Nat}{ops:Array Oper}{Q:Exit→Act→World→Prop}{a:Act}{w:World}(hm:P.follows .mixedOrders=true)(hb:aW .any ops=true)(I:(Nat→Bool)→Act→World→Prop)
  (hcong:∀ S S' a w,(∀ i,i<ops.size→S i=S' i)→I S a w→I S' a w)
  (h0:I (fun _=>false) a w.drew)
  (hstep:∀ S a w i (hi:i<ops.size),S i=false→(∀ e∈ops[i].after,Region.binds .any e=true→S e.on=true)→I S a w →
   if Region.wanted ops[i] (yielded ops a.tmps)=true then(ops[i]).wp P a w (I (upd S i)) Q else I (upd S i) (a.put ops[i].dst undef) w)
  (hend:∀ S a w,(∀ i,i<ops.size→S i=true)→I S a w→Q .normal a w):(Code.region id ops true).wp P Q a w:=by
 refine wp_region_any hm (th hb I hcong hstep hend _ _ _ _ (by simp) ?_ (hcong _ _ _ _ (fun i hi=>by simp[Array.getD_eq_getD_getElem?,hi]) h0));simp[List.countP_replicate]

theorem oC{P:Program}{id:Nat}{ops:Array Oper}{Q:Exit→Act→World→Prop}{a:Act}{w:World}(hm:P.follows .mixedOrders=true)(hb:aW .any ops=true)
  (fr:(Nat→Value)→Act) (f0:Nat→Value) (ha:a=fr f0) (hfr:∀ i (hi:i<ops.size) f u,(fr f).put ops[i].dst u=fr (fun j=>if j=i then u else f j))
  (C:World→Prop) (Le:World→World→Prop) (W:Nat→Value→World→Prop) (hstab:∀ i v w w',C w→Le w w'→W i v w→W i v w')
  (h0:C w.drew)
  (hstep:∀ i o f w,ops[i]? = some o→i<ops.size→C w→(∀ e∈o.after,Region.binds .any e=true→W e.on (f e.on) w)→∀ K:Act→World→Prop,(∀ u w',C w'→Le w w'→W i u w'→K ((fr f).put o.dst u) w') →
   if Region.wanted o (yielded ops (fr f).tmps)=true then o.wp P (fr f) w K Q else K ((fr f).put o.dst undef) w)
  (hend:∀ f w,C w→(∀ i,i<ops.size→W i (f i) w)→Q .normal (fr f) w):(Code.region id ops true).wp P Q a w:=by
 refine fx hm hb (fun S a w=>∃ f,a=fr f∧C w∧∀ i,i<ops.size→S i=true→W i (f i) w) ?_ ⟨f0,ha,h0,fun i _ h=>by cases h⟩ ?_ ?_
 ·rintro S S' a w hS ⟨f,h1,h2,h3⟩;exact⟨f,h1,h2,fun i hi h=>h3 i hi (by rw[hS i hi];exact h)⟩
 ·rintro S a w i hi hSi hpre ⟨f,rfl,hC,hW⟩;have hback:∀ e∈ops[i].after,Region.binds .any e=true→e.on<ops.size:=by
   intro e he hbd;have hb':=hb;unfold aW at hb';rw[List.all_eq_true]at hb';have h:=hb' i (List.mem_range.2 hi);have ho:ops[i]? = some ops[i]:=Array.getElem?_eq_getElem hi;rw[ho]at h;simp only[Option.map_some,Option.getD_some]at h;rw[Array.all_eq_true]at h;obtain⟨k,hk,rfl⟩:=Array.getElem_of_mem he;have:=h k hk;rw[hbd]at this;simp only[Bool.not_true,Bool.false_or,decide_eq_true_eq]at this;omega
  refine hstep i _ f w (Array.getElem?_eq_getElem hi) hi hC (fun e he hbd=>hW _ (hback e he hbd) (hpre e he hbd)) _ ?_;intro u w' hC' hle hWi;refine⟨_,hfr i hi f u,hC',fun j hj hSj=>?_⟩;by_cases e:j=i
  ·subst e;simpa using hWi
  ·simp only[e,if_false];refine hstab j _ _ _ hC hle (hW j hj ?_);simpa[upd,e]using hSj
 ·rintro S a w hS ⟨f,rfl,hC,hW⟩;exact hend f w hC (fun i hi=>hW i hi (hS i hi))
structure Alt(lo hi:Nat)(w w':World):Prop where
 os:w'.os=w.os
 tape:w'.tape=w.tape
 output:w'.output=w.output
 size:w.heap.size≤w'.heap.size
 block:∀ k,k<w.heap.size→(k<lo∨hi≤k)→w'.heap[k]? = w.heap[k]?
section
variable {lo hi q B:Nat} {w w' w2:World} {o:Obj}
theorem Alt.refl(lo hi:Nat)(w:World):Alt lo hi w w:=⟨rfl,rfl,rfl,Nat.le_refl _,fun _ _ _=>rfl⟩
theorem Alt.trans(h:Alt lo hi w w')(k:Alt lo hi w' w2):Alt lo hi w w2 :=
 ⟨k.os.trans h.os,k.tape.trans h.tape,k.output.trans h.output,Nat.le_trans h.size k.size,fun i hi hr=>(k.block i (Nat.lt_of_lt_of_le hi h.size) hr).trans (h.block i hi hr)⟩
theorem Alt.hasO(h:Alt lo hi w w')(hq:ac w q o)(hr:q<lo∨hi≤q):ac w' q o:=(h.block q hq.lt hr).trans hq
theorem Alt.below(h:Alt lo hi w w'){w0:World}(hb:Below B w0 w)(hB:B≤lo)(hB2:B≤w.heap.size):Below B w0 w' :=
 hb.trans ⟨h.os,h.tape,h.output,h.size,fun k hk=>h.block k (by omega) (.inl (by omega))⟩
theorem Alt.own(h:Alt lo hi w w'){base:Nat}{e:TypeId}{size n:Nat}{v:Value}{xs:List Value}(ho:w.ownsRow base e size v n xs)(hr:∀ g,v.ownBlock=some g→g<lo∨hi≤g):w'.ownsRow base e size v n xs:=by
 refine⟨ho.1,?_⟩;rcases ho.2 with h2|⟨g,cap,cur,hv,hg,hh,r⟩
 ·exact .inl h2
 ·refine .inr ⟨g,cap,cur,hv,hg,?_,r⟩;have:=ac.lt (w:=w) (q:=g) (o:=.cells cur e (0,0)) hh;rw[h.block g this (hr g (by rw[hv];rfl))];exact hh
theorem Alt.putObj(hq:lo≤q∧q<hi):Alt lo hi w (w.putObj q o) :=
 ⟨rfl,rfl,rfl,by simp,fun k _ hr=>World.putObj_heap_other (by omega)⟩
theorem Alt.mono{lo' hi':Nat}(h:Alt lo hi w w')(h1:lo'≤lo)(h2:hi≤hi'):Alt lo' hi' w w':=⟨h.os,h.tape,h.output,h.size,fun k hk hr=>h.block k hk (by omega)⟩
theorem Alt.setCell{p:Addr}{u:Value}(hq:lo≤p.block∧p.block<hi):Alt lo hi w (w.setCell p u) :=
 ⟨rfl,rfl,rfl,by simp[World.setCell],fun k _ hr=>Below.heap_setCell _ _ _ _ (by omega)⟩
theorem Alt.drewN(n:Nat):Alt lo hi w (w.drewN n):=⟨rfl,rfl,rfl,Nat.le_refl _,fun _ _ _=>rfl⟩
theorem Alt.call(h:Below w.heap.size w w'):Alt lo hi w w':=⟨h.os,h.tape,h.output,h.size,fun k hk _=>h.block k hk⟩
theorem Alt.alloc(o:Obj):Alt lo hi w (w.alloc o):=Alt.call (ae w o)
end

theorem jD{n m:Nat}{P:Program}{l:Nat}{f:FuncId}{tmps:Array Value}{assign body:Code}{w:World}{R:Ending→World→Prop}(h:RoundIn Fence.wide n P l f tmps assign body w R):RoundIn Fence.wide m P l f tmps assign body w R :=
 ⟨h.1,fun c cs _=>h.2 c cs (room_wide _)⟩

def rm(T:TypeId→Prop)(lo c:Nat)(W:World):Prop:=∀ q,lo≤q→q<c→∃ o,ac W q o∧∀ cs t fr,o=.cells cs t fr→T t
def rI(P:Program)(gf:Nat)(lb:Array Value)(N:Nat)(encs:Nat→Array Value)(Rd:World→Prop)(Pn:Nat→List PanicEntry→Prop)(T:TypeId→Prop):Prop :=
 ∀(n l:Nat) (J:Nat→Nat→World→Prop) (Jx:Nat→Nat→World→Prop) (W0:World),
  (∀ c k W W',W0.heap.size≤c→J c k W→Alt W0.heap.size c W W'→J c k W') →
  (∀ c k W W',W0.heap.size≤c→Jx c k W→Alt W0.heap.size c W W'→Jx c k W') →
  (∀ c k W,J c k W→Rd W)→(∀ c k W,J c k W→c≤W.heap.size)→(∀ c k W,Jx c k W→c≤W.heap.size) →
  (∀ c W,Below W0.heap.size W0 W→W0.heap.size≤c→W.heap.size=c→J c 0 W) →
  (∀ c k W,W0.heap.size≤c→k<N→J c k W→rm T W0.heap.size c W→YieldAt Fence.wide n P l (encs k) W fun e W'=>(e=.returned (.bool true)∧J c (k+1) W'∧(∀ q o,W0.heap.size≤q→q<c→ac W q o→ac W' q o))∨(e=.returned (.bool false)∧Jx c k W')) →
  CallsIn Fence.wide n P gf (#[.func (.yield l) #[] #[]]++lb) W0 fun e W'=>∃ c,W0.heap.size≤c∧(((∃ v,e=.returned v)∧(J c N W'∨∃ k,k<N∧Jx c k W'))∨(∃ ch k,e=.panicked ch∧Pn k ch∧J c k W'))

def nf(l D:Nat)(I:Nat→World→Prop)(Ix:Code→World→Prop)(k:Nat)(own:Nat→Nat→Prop)(W:World):Exit→Act→World→Prop
 | .normal,_,W'=>(∀ q o,(q=l∨q=D∨own D q)→ac W q o→ac W' q o)∧I (k+1) W'
 | .ret,_,W'=>(∀ q o,(q=l∨q=D)→ac W q o→ac W' q o)∧Ix .ret W'
 | .exit id,_,W'=>(∀ q o,(q=l∨q=D)→ac W q o→ac W' q o)∧Ix (.exit id) W'
 | .goto t,_,W'=>(∀ q o,(q=l∨q=D)→ac W q o→ac W' q o)∧Ix (.goto t) W'
 | .panic _,_,_=>False
 | .outgrown,_,_=>False

theorem fz{n:Nat}{P:Program}{g:Operand}{ps:Array Tmp}{assign body:Code}{Q:Exit→Act→World→Prop}{a:Act}{w:World}
  {gf:Nat} {lb:Array Value} {N:Nat} {encs:Nat→Array Value} {Rd:World→Prop} {Pn:Nat→List PanicEntry→Prop} {T:TypeId→Prop}
  (hg:a.eval g=.func (.func gf) #[] lb) (eg:∀ args w,(callFunc gf args).run P w=.ok (.enter gf args) w)
  (hseq:rI P gf lb N encs Rd Pn T) (hps:∀ k,k<N→(encs k).size=ps.size)
  (I:Nat→Nat→World→Prop) (Ix:Nat→Code→Nat→World→Prop)
  (hst:∀ c k W W',w.heap.size+2≤c→I c k W→Alt w.heap.size c W W'→I c k W')
  (hstx:∀ c j k W W',w.heap.size+2≤c→Ix c j k W→Alt w.heap.size c W W'→Ix c j k W')
  (hRd:∀ c k W,w.heap.size+2≤c→I c k W→Rd W) (hsz:∀ c k W,w.heap.size+2≤c→I c k W→c≤W.heap.size) (hszx:∀ c j k W,w.heap.size+2≤c→Ix c j k W→c≤W.heap.size)
  (h0:∀ c W,Below w.heap.size w W→w.heap.size+2≤c→W.heap.size=c→I c 0 W)
  (hbody:∀ c k W,w.heap.size+2≤c→k<N→I c k W→rm T w.heap.size c W →
   assign.wpIn (Fence.wide.inRound (w.heap.size+1)) n P (Exit.then (fun a₁ W₁=>(∀ q o,(w.heap.size≤q∧q<c)→ac W q o→ac W₁ q o) ∧
     ∀ W₂,Alt (w.heap.size+1) (w.heap.size+2) W₁ W₂→W₂.heap.size=W₁.heap.size→(∃ r,ac W₂ (w.heap.size+1) (.loop r)) →
      body.wpIn (Fence.wide.inRound (w.heap.size+1)) n P (nf (w.heap.size+1) w.heap.size (I c) (fun j=>Ix c j k) k (fun D q=>D+2≤q∧q<c) W₂) a₁ W₂) (fun _ _ _=>False))
    {tmps:=(ps.zip (encs k)).foldl (fun t (p,v)=>t.setIfInBounds p v) a.tmps,defers:=[]} W)
  (hdone:∀ c W,w.heap.size+2≤c→I c N W→ac W w.heap.size (.deferred (some []))→Q .normal {a with defers:={ target:=.collected w.heap.size,args:=#[]}::a.defers} W)
  (hstop:∀ c j k W,w.heap.size+2≤c→k<N→Ix c j k W→ac W w.heap.size (.deferred (some []))→j.wpIn Fence.wide n P Q {a with defers:={ target:=.collected w.heap.size,args:=#[]}::a.defers} W)
  (hpanic:∀ c k ch W,w.heap.size+2≤c→Pn k ch→I c k W→ac W w.heap.size (.deferred (some []))→Q (.panic ch) {a with defers:={ target:=.collected w.heap.size,args:=#[]}::a.defers} W) :
  (Code.rangeFunc g ps assign body).wpIn Fence.wide n P Q a w:=by
 refine wpIn_rangeFunc ?_;intro fn hfn;obtain⟨rec,hrec⟩:∃ rec:LoopState→Option Code→Loop,rec=fun st pe=>{state:=st,pending:=pe,fn,tmps:=a.tmps,params:=ps,assign,body,defers:=w.heap.size}:=⟨_,rfl⟩
 obtain⟨W1,hW1⟩:∃ W1,(w.alloc (.deferred (some []))).alloc (.loop (rec .ready none))=W1:=⟨_,rfl⟩;have hL1:ac W1 (w.heap.size+1) (.loop (rec .ready none)):=by rw[←hW1];exact ac.new' _ _ (by simp)
 have hK1:ac W1 w.heap.size (.deferred (some [])):=by rw[←hW1];exact(ac.new _ _).alloc _
 have hb1:Below w.heap.size w W1:=by rw[←hW1];exact(ae _ _).alloc (by simp) _
 have hz1:W1.heap.size=w.heap.size+2:=by rw[←hW1];simp
 refine⟨w.heap.size+1,[{target:=.collected w.heap.size,args:=#[]}],W1,{target:=.fn (.func gf) lb,args:=#[.func (.yield (w.heap.size+1)) #[] #[]]},W1,gf,
  #[.func (.yield (w.heap.size+1)) #[] #[]]++lb,W1,?_,?_,?_,?_,fun h=>by simp[Fence.wide]at h,?_⟩
 ·rw[←hW1,hrec];exact run_enterLoop_outer _ _ _ _ _
 ·simp only[resolve,hg];simp[go_sem]
 ·intro f' _;trivial
 ·simp[invoke,go_sem,eg]
 ·refine(callsIn_wide.2 (callsIn_wide.1 (hseq n (w.heap.size+1)
   (fun c k W=>I c k W∧w.heap.size+2≤c∧ac W (w.heap.size+1) (.loop (rec .ready none))∧ac W w.heap.size (.deferred (some [])))
   (fun c k W=>∃ j,Ix c j k W∧w.heap.size+2≤c∧ac W (w.heap.size+1) (.loop (rec .done (some j)))∧ac W w.heap.size (.deferred (some [])))
   W1 ?_ ?_ ?_ ?_ ?_ ?_ ?_))).mono ?_
  ·rintro c k W W' hc ⟨hi,h2,hl,hd⟩ ha;rw[hz1]at ha;exact⟨hst c k W W' h2 hi (ha.mono (by omega) (Nat.le_refl _)),h2,ha.hasO hl (by omega),ha.hasO hd (by omega)⟩
  ·rintro c k W W' hc ⟨j,hi,h2,hl,hd⟩ ha;rw[hz1]at ha;exact⟨j,hstx c j k W W' h2 hi (ha.mono (by omega) (Nat.le_refl _)),h2,ha.hasO hl (by omega),ha.hasO hd (by omega)⟩
  ·rintro c k W ⟨hi,h2,_⟩;exact hRd c k W h2 hi
  ·rintro c k W ⟨hi,h2,_⟩;exact hsz c k W h2 hi
  ·rintro c k W ⟨j,hi,h2,_⟩;exact hszx c j k W h2 hi
  ·intro c W hb hc hs;rw[hz1]at hc;exact⟨h0 c W (hb1.trans (hb.mono (by omega))) hc hs,hc,hL1.call hb,hK1.call hb⟩
  ·rintro c k W hc hk ⟨hi,h2,hl,hd⟩ hT;have hy:=run_yield (P:=P) (args:=encs k) hl (by rw[hrec];exact hps k hk);rw[hrec]at hy;have hT2:rm T w.heap.size c W:=by
    intro q hq1 hq2;rcases(by omega:q=w.heap.size∨q=w.heap.size+1∨w.heap.size+2≤q)with rfl|rfl|h3
    ·exact⟨_,hd,by simp⟩
    ·exact⟨_,hl,by simp⟩
    ·exact hT q (by omega) hq2
   refine⟨fn,_,assign,body,hy,roundIn_of_wpIn hfn (wpIn_mono (hbody c k W h2 hk hi hT2) ?_)⟩;intro e a₁ W₁ he;cases e with
   | normal =>
    obtain⟨hkeep,hgo⟩:=he;have hl1:=hkeep _ _ (by omega) hl;have hd1:=hkeep _ _ (by omega) hd;refine⟨_,run_beginRound (P:=P) hl1 (by rw[hrec]),?_⟩;have hl2:ac (W₁.putObj (w.heap.size+1) (.loop {rec .ready none with state:=.busy})) (w.heap.size+1) (.loop {rec .ready none with state:=.busy}):=World.putObj_heap_same hl1.lt;have hd2:ac (W₁.putObj (w.heap.size+1) (.loop {rec .ready none with state:=.busy})) w.heap.size (.deferred (some [])):=(World.putObj_heap_other (by omega)).trans hd1;refine wpIn_mono (hgo _ (Alt.putObj ⟨Nat.le_refl _,by omega⟩) (by simp) ⟨_,hl2⟩) ?_;have fin:∀(jump:Option Code) (W3:World),(∀ q o,(q=w.heap.size+1∨q=w.heap.size)→ac (W₁.putObj (w.heap.size+1) (.loop {rec .ready none with state:=.busy})) q o→ac W3 q o) →
      (Instr.endRound (w.heap.size+1) jump).run P W3=.ok (.bool jump.isNone) (W3.putObj (w.heap.size+1) (.loop (rec (if jump.isNone then .ready else .done) jump))) ∧
      ac (W3.putObj (w.heap.size+1) (.loop (rec (if jump.isNone then .ready else .done) jump))) (w.heap.size+1) (.loop (rec (if jump.isNone then .ready else .done) jump)) ∧
      ac (W3.putObj (w.heap.size+1) (.loop (rec (if jump.isNone then .ready else .done) jump))) w.heap.size (.deferred (some [])):=fun jump W3 hk3=>by
     have hl3:=hk3 _ _ (.inl rfl) hl2;have hd3:=hk3 _ _ (.inr rfl) hd2;have:=run_endRound (P:=P) jump hl3;rw[hrec]at this ⊢;exact⟨this,World.putObj_heap_same hl3.lt,(World.putObj_heap_other (by omega)).trans hd3⟩
    rintro e a3 W3 hp;cases e with
    | normal=>obtain⟨hk3,hi3⟩:=hp;obtain⟨hr,hl4,hd4⟩:=fin none W3 (fun q o hq=>hk3 q o (by rcases hq with h|h<;>simp[h]));refine⟨_,_,hr,.inl ⟨rfl,⟨hst c _ _ _ h2 hi3 (Alt.putObj (by omega)),h2,hl4,hd4⟩,fun q o hq1 hq2 hq=>?_⟩⟩;rw[hz1]at hq1;refine(World.putObj_heap_other (by omega)).trans (hk3 q o (.inr (.inr ⟨hq1,hq2⟩)) ?_);exact(World.putObj_heap_other (by omega)).trans (hkeep q o ⟨by omega,hq2⟩ hq)
    | ret=>obtain⟨hk3,hi3⟩:=hp;obtain⟨hr,hl4,hd4⟩:=fin (some .ret) W3 hk3;exact⟨_,_,hr,.inr ⟨rfl,.ret,hstx c _ _ _ _ h2 hi3 (Alt.putObj (by omega)),h2,hl4,hd4⟩⟩
    | exit id=>obtain⟨hk3,hi3⟩:=hp;obtain⟨hr,hl4,hd4⟩:=fin (some (.exit id)) W3 hk3;exact⟨_,_,hr,.inr ⟨rfl,.exit id,hstx c _ _ _ _ h2 hi3 (Alt.putObj (by omega)),h2,hl4,hd4⟩⟩
    | goto t=>obtain⟨hk3,hi3⟩:=hp;obtain⟨hr,hl4,hd4⟩:=fin (some (.goto t)) W3 hk3;exact⟨_,_,hr,.inr ⟨rfl,.goto t,hstx c _ _ _ _ h2 hi3 (Alt.putObj (by omega)),h2,hl4,hd4⟩⟩
    | panic ch=>exact hp.elim
    | outgrown=>exact hp.elim
   | ret=>exact he.elim
   | exit id=>exact he.elim
   | goto t=>exact he.elim
   | panic ch=>exact he.elim
   | outgrown=>exact he.elim
  ·rintro e W2 ⟨c,hc,(⟨⟨v,rfl⟩,(⟨hi,h2,hl,hd⟩|⟨k,hk,j,hi,h2,hl,hd⟩)⟩|⟨ch,k,rfl,hp,hi,h2,hl,hd⟩)⟩
   ·exact⟨none,_,by have:=run_endLoop (P:=P) hl (by rw[hrec];simp);rw[hrec]at this;exact this,hdone c _ h2 (hst c _ _ _ h2 hi (Alt.putObj (by omega))) ((World.putObj_heap_other (by omega)).trans hd)⟩
   ·exact⟨some j,_,by have:=run_endLoop (P:=P) hl (by rw[hrec];simp);rw[hrec]at this;exact this,hstop c j k _ h2 hk (hstx c _ _ _ _ h2 hi (Alt.putObj (by omega))) ((World.putObj_heap_other (by omega)).trans hd)⟩
   ·exact hpanic c k ch _ h2 hp hi hd
theorem dH{B q:Nat}{w W:World}{o:Obj}(h:Below B w W)(hq:B≤q)(hB:B≤W.heap.size):Below B w (W.putObj q o) :=
 (Alt.putObj (lo:=q) (hi:=q+1) ⟨Nat.le_refl _,Nat.lt_succ_self _⟩).below h hq hB

theorem ak{w:World}{g:Nat}{t:TypeId}{old cells:Array Value}(hg:ac w g (.cells old t (0,0))):ac (w.setRow g cells) g (.cells cells t (0,0)):=by unfold ac at hg ⊢;simp[World.setRow,Array.getElem?_modify,hg]
theorem dI(w:World)(g:Nat)(cells:Array Value):Alt g (g+1) w (w.setRow g cells):=by refine⟨rfl,rfl,rfl,by simp[World.setRow],fun k _ hr=>?_⟩;simp[World.setRow,Array.getElem?_modify,show ¬g=k by omega]
theorem pw(w:World)(g:Nat)(cells:Array Value):(w.setRow g cells).heap.size=w.heap.size:=by simp[World.setRow]
theorem aj{w:World}{g B:Nat}{w0:World}{cells:Array Value}(h:Below B w0 w)(hq:B≤g)(hB:B≤w.heap.size):Below B w0 (w.setRow g cells):=(dI w g cells).below h hq hB
theorem ac.setRow_far{w:World}{q g:Nat}{o:Obj}{cells:Array Value}(h:ac w q o)(hq:q≠g):ac (w.setRow g cells) q o:=(dI w g cells).hasO h (by omega)

theorem ai{P:Program}{ops:Array Oper}{rest:List Oper}{o:Oper}{a:Act}{w:World}{Q:Exit→Act→World→Prop}(hgd:o.guard=none)(ty:TypeId)(x y:Operand)(ho:o.op=.store ty x y)
  (g:Nat) (cells:Array Value) (hx:a.eval x=.pointer (some ⟨g,0,none⟩)) (hy:a.eval y=.agg cells)
  (t:TypeId) (old:Array Value) (hg:ac w g (.cells old t (0,0))) (hi:(P.info? ty).map (·.size)=some cells.size)
  (hold:old.size=cells.size) (h1:cells.all (·.oneCell')=true)
  (h:∀ w',w'=w.setRow g cells→wpList P ops Q rest (a.put o.dst undef) w'):wpList P ops Q (o::rest) a w :=
 wpList_store_row hgd ty x y ho g cells hx hy t old hg hi hold h1 (h _ rfl)

theorem aU{P:Program}{fn:Func}{p u:Tmp}{ty:TypeId}(h:fn.results=#[.cell p ty,.tmp u]){tmps:Array Value}{w:World}{g:Nat}{t:TypeId}{cs:Array Value}
  (hp:tmps.getD p undef=.pointer (some ⟨g,0,none⟩)) (hg:ac w g (.cells cs t (0,0)))
  (hd:(match P.underlying ty with|some (.struct _)|some (.array _ _)=>true|_=>false)=true) (hi:(P.info? ty).map (·.size)=some cs.size) {v:Value} (hv:v=.tuple #[.agg cs,tmps.getD u undef]) :
  (results fn tmps).run P w=.ok v w:=by
 subst hv;cases hu:P.underlying ty with
 | none=>rw[hu]at hd;cases hd
 | some d=>rw[hu]at hd;rw[results_cell_tmp h,hp];simp only[asAddr,Sem.run_pure,Result.andThen];rw[run_loadVar_row w g t ty cs (0,0) d hg hu (by cases d<;>simp_all) hi]
abbrev Bw(w W:World):Prop:=RowKit.Below w.heap.size w W
theorem zbc{w W V:World}(h:RowKit.Below w.heap.size w W)(k:RowKit.Below W.heap.size W V):RowKit.Below w.heap.size w V:=aI h h.size k
theorem zhd{p:Prop}(h:p):Hid p:=Lib.hid h
abbrev Clz:=Calls Tryz.prog
theorem zrw(t:TypeId){A:Array Value}(h:(Tryz.prog.info? t).map (·.size)=some A.size)(k:A.all (·.oneCell')=true):Hid ((Tryz.prog.info? t).map (·.size)=some A.size)∧Hid (A.all (·.oneCell')=true):=⟨h,k⟩
theorem ac.cl{w:World}{q:Nat}{cs:Array Value}{t:TypeId}(h:ac w q (.cells cs t (0,0))):(∀ j,w.cell? ⟨q,j,none⟩=cs[j]?)∧q<w.heap.size:=⟨h.cells,h.lt⟩
end Go.Proofs.YtefmplccbkmalaaGreatDoor
