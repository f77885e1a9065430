import Derived.Test.YtmcepppejchhkaaGreatDoorQAmFn
import Derived.Below
namespace AM
set_option linter.unusedVariables false
open Go
variable{U:lQ}{E:Env U}{w w':World}{F:Nat->Prop}
theorem fq.RX{w0:World}:∀{ms:List Mode}{ds:List (DV U)}{vs:List Value}{ls:List (List Nat)},jD E w F ms ds vs ls->tO ms=true->∀(w':World)(F':Nat->Prop),fq E w' F' w0 ms vs [] []
 |[],[],[],[],_,_,_,_=>trivial
 |m::ms,d::ds,v::vs,l::ls,h,hr,w',F'=>by
  simp only[tO,QV,cN] at hr
  cases m with
  |ro=>exact fq.RX h.2 hr.2 w' F'
  |wr=>simp at hr
  |mv=>simp at hr
  |box _=>simp at hr
 |[],[],[],_::_,h,_,_,_=>h.elim
 |[],[],_::_,_,h,_,_,_=>h.elim
 |[],_::_,_,_,h,_,_,_=>h.elim
 |_::_,[],_,_,h,_,_,_=>h.elim
 |_::_,_::_,[],_,h,_,_,_=>h.elim
 |_::_,_::_,_::_,[],h,_,_,_=>h.elim
theorem GR{f:FuncId}{k:ka U}(hro:tO k.md=true)
  (h:∀x,(∀p∈k.pre x,p)->∀(w:World)(F:Nat->Prop)(vs:List Value)(ls:List (List Nat)),(∀b,F b->b<w.heap.size)->QR E w F->jD E w F k.md (k.ds x) vs ls->
   ∃v,(k.oe x).val=[.one (.lit v)]/\(k.oe x).fresh=[]/\(k.oe x).Ll=[]/\gD v/\Calls E.P f vs.toArray w fun e w'=>e=.returned v/\ic (fun _=>False) w w'):eQ E f k:=by
 intro x hp w F vs ls hF BY oi _ qE hld
 obtain⟨v,h1,h2,h3,h4,h5⟩:=h x hp w F vs ls hF BY oi
 refine h5.mono ?_
 rintro e w' ⟨rfl,qw⟩
 refine⟨[v],[[]],[],rfl,qw.mono (by simp),?_,?_,by simp,by simp,by simp⟩
 ·rw[h1,h2]
  exact⟨by simp only[List.headD_nil,lg,if_true];exact .lit _ _ h4,trivial⟩
 ·rw[h3];exact fq.RX oi hro _ _
theorem Z9{c:U.C}{vs:List Value}{ls:List (List Nat)}(h:jD E w F [.ro] [.one c] vs ls):∃v,vs=[v]/\Rp E w F false c v []:=by
 obtain⟨_,h2,h3⟩:=h.len
 match vs,h2,h with
 |[v],_,h=>match ls,h3,h with
  |[l],_,h=>exact⟨v,rfl,h.1.1⟩
theorem Z8{c d:U.C}{vs:List Value}{ls:List (List Nat)}(h:jD E w F [.ro,.ro] [.one c,.one d] vs ls):∃u v,vs=[u,v]/\Rp E w F false c u []/\Rp E w F false d v []:=by
 obtain⟨_,h2,h3⟩:=h.len
 match vs,h2,h with
 |[u,v],_,h=>match ls,h3,h with
  |[l,l'],_,h=>exact⟨u,v,rfl,h.1.1,h.2.1.1⟩
theorem ic.below{w w':World}(h:Go.RowKit.Below w.heap.size w w'):ic (fun _=>False) w w':=⟨h.os,h.tape,h.output,h.size,fun k hk _=>h.block k hk⟩
end AM
