import Derived.Test.YthciaocifglggaaGreatDoorQAmFn
import Derived.Below
namespace AM
set_option linter.unusedVariables false
open Go
variable{U:kz}{E:Env U}{w w':World}{F:Nat->Prop}
theorem eR.Mr{w0:World}:∀{ms:List Mode}{ds:List (DV U)}{vs:List Value}{ls:List (List Nat)},iY E w F ms ds vs ls->qK ms=true->∀(w':World)(F':Nat->Prop),eR E w' F' w0 ms vs [] []
 |[],[],[],[],_,_,_,_=>trivial
 |m::ms,d::ds,v::vs,l::ls,h,hr,w',F'=>by
  simp only[qK,O2,eE] at hr
  cases m with
  |ro=>exact eR.Mr h.2 hr.2 w' F'
  |wr=>simp at hr
  |mv=>simp at hr
  |box _=>simp at hr
 |[],[],[],_::_,h,_,_,_=>h.elim
 |[],[],_::_,_,h,_,_,_=>h.elim
 |[],_::_,_,_,h,_,_,_=>h.elim
 |_::_,[],_,_,h,_,_,_=>h.elim
 |_::_,_::_,[],_,h,_,_,_=>h.elim
 |_::_,_::_,_::_,[],h,_,_,_=>h.elim
theorem Cy{f:FuncId}{k:jH U}(hro:qK k.md=true)
  (h:∀x,(∀p∈k.pre x,p)->∀(w:World)(F:Nat->Prop)(vs:List Value)(ls:List (List Nat)),(∀b,F b->b<w.heap.size)->Lj E w F->iY E w F k.md (k.ds x) vs ls->
   ∃v,(k.mE x).val=[.one (.lit v)]/\(k.mE x).fresh=[]/\(k.mE x).Gg=[]/\fA v/\Calls E.P f vs.toArray w fun e w'=>e=.returned v/\gy (fun _=>False) w w'):ee E f k:=by
 intro x hp w F vs ls hF yj mo _ oi hld
 obtain⟨v,h1,h2,h3,h4,h5⟩:=h x hp w F vs ls hF yj mo
 refine h5.mono ?_
 rintro e w' ⟨rfl,ob⟩
 refine⟨[v],[[]],[],rfl,ob.mono (by simp),?_,?_,by simp,by simp,by simp⟩
 ·rw[h1,h2]
  exact⟨by simp only[List.headD_nil,kc,if_true];exact .lit _ _ h4,trivial⟩
 ·rw[h3];exact eR.Mr mo hro _ _
theorem V6{c:U.C}{vs:List Value}{ls:List (List Nat)}(h:iY E w F [.ro] [.one c] vs ls):∃v,vs=[v]/\Rp E w F false c v []:=by
 obtain⟨_,h2,h3⟩:=h.len
 match vs,h2,h with
 |[v],_,h=>match ls,h3,h with
  |[l],_,h=>exact⟨v,rfl,h.1.1⟩
theorem V5{c d:U.C}{vs:List Value}{ls:List (List Nat)}(h:iY E w F [.ro,.ro] [.one c,.one d] vs ls):∃u v,vs=[u,v]/\Rp E w F false c u []/\Rp E w F false d v []:=by
 obtain⟨_,h2,h3⟩:=h.len
 match vs,h2,h with
 |[u,v],_,h=>match ls,h3,h with
  |[l,l'],_,h=>exact⟨u,v,rfl,h.1.1,h.2.1.1⟩
theorem gy.below{w w':World}(h:Go.RowKit.Below w.heap.size w w'):gy (fun _=>False) w w':=⟨h.os,h.tape,h.output,h.size,fun k hk _=>h.block k hk⟩
end AM
