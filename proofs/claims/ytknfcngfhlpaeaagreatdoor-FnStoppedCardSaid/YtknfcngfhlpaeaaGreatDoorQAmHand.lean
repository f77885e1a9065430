import Derived.Test.YtknfcngfhlpaeaaGreatDoorQAmFn
import Derived.Below
namespace AM
set_option linter.unusedVariables false
open Go
variable{U:kz}{E:Env U}{w w':World}{F:Nat->Prop}
theorem eQ.Ox{w0:World}:∀{ms:List Mode}{ds:List (DV U)}{vs:List Value}{ls:List (List Nat)},iP E w F ms ds vs ls->rM ms=true->∀(w':World)(F':Nat->Prop),eQ E w' F' w0 ms vs [] []
 |[],[],[],[],_,_,_,_=>trivial
 |m::ms,d::ds,v::vs,l::ls,h,hr,w',F'=>by
  simp only[rM,Nw,cH] at hr
  cases m with
  |ro=>exact eQ.Ox h.2 hr.2 w' F'
  |wr=>simp at hr
  |mv=>simp at hr
  |box _=>simp at hr
 |[],[],[],_::_,h,_,_,_=>h.elim
 |[],[],_::_,_,h,_,_,_=>h.elim
 |[],_::_,_,_,h,_,_,_=>h.elim
 |_::_,[],_,_,h,_,_,_=>h.elim
 |_::_,_::_,[],_,h,_,_,_=>h.elim
 |_::_,_::_,_::_,[],h,_,_,_=>h.elim
theorem Et{f:FuncId}{k:jw U}(hro:rM k.md=true)
  (h:∀x,(∀p∈k.pre x,p)->∀(w:World)(F:Nat->Prop)(vs:List Value)(ls:List (List Nat)),(∀b,F b->b<w.heap.size)->Ns E w F->iP E w F k.md (k.ds x) vs ls->
   ∃v,(k.mS x).val=[.one (.lit v)]/\(k.mS x).fresh=[]/\(k.mS x).Ip=[]/\fI v/\Calls E.P f vs.toArray w fun e w'=>e=.returned v/\gq (fun _=>False) w w'):dR E f k:=by
 intro x hp w F vs ls hF zV mV _ o9 hld
 obtain⟨v,h1,h2,h3,h4,h5⟩:=h x hp w F vs ls hF zV mV
 refine h5.mono ?_
 rintro e w' ⟨rfl,oV⟩
 refine⟨[v],[[]],[],rfl,oV.mono (by simp),?_,?_,by simp,by simp,by simp⟩
 ·rw[h1,h2]
  exact⟨by simp only[List.headD_nil,kf,if_true];exact .lit _ _ h4,trivial⟩
 ·rw[h3];exact eQ.Ox mV hro _ _
theorem Wt{c:U.C}{vs:List Value}{ls:List (List Nat)}(h:iP E w F [.ro] [.one c] vs ls):∃v,vs=[v]/\Rp E w F false c v []:=by
 obtain⟨_,h2,h3⟩:=h.len
 match vs,h2,h with
 |[v],_,h=>match ls,h3,h with
  |[l],_,h=>exact⟨v,rfl,h.1.1⟩
theorem Ws{c d:U.C}{vs:List Value}{ls:List (List Nat)}(h:iP E w F [.ro,.ro] [.one c,.one d] vs ls):∃u v,vs=[u,v]/\Rp E w F false c u []/\Rp E w F false d v []:=by
 obtain⟨_,h2,h3⟩:=h.len
 match vs,h2,h with
 |[u,v],_,h=>match ls,h3,h with
  |[l,l'],_,h=>exact⟨u,v,rfl,h.1.1,h.2.1.1⟩
theorem gq.below{w w':World}(h:Go.RowKit.Below w.heap.size w w'):gq (fun _=>False) w w':=⟨h.os,h.tape,h.output,h.size,fun k hk _=>h.block k hk⟩
end AM
