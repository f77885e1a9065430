/- Contracts that are proved by hand: what is owed where nothing is lent but to read and one literal comes back. -/
import Derived.Test.YtjlajhgabffmpaaGreatQAmFn
import Derived.Below
namespace AM
set_option linter.unusedVariables false
open Go
variable{U:lu}{E:Env U}{w w':World}{F:Nat->Prop}
theorem fE.Vu{w0:World}:∀{ms:List Mode}{ds:List (DV U)}{vs:List Value}{ls:List (List Nat)},kw E w F ms ds vs ls->uY ms=true->∀(w':World)(F':Nat->Prop),fE E w' F' w0 ms vs [] []
 |[],[],[],[],_,_,_,_=>trivial
 |m::ms,d::ds,v::vs,l::ls,h,hr,w',F'=>by
  simp only[uY,QV,cO] at hr
  cases m with
  |ro=>exact fE.Vu h.2 hr.2 w' F'
  |wr=>simp at hr
  |mv=>simp at hr
  |box _=>simp at hr
 |[],[],[],_::_,h,_,_,_=>h.elim
 |[],[],_::_,_,h,_,_,_=>h.elim
 |[],_::_,_,_,h,_,_,_=>h.elim
 |_::_,[],_,_,h,_,_,_=>h.elim
 |_::_,_::_,[],_,h,_,_,_=>h.elim
 |_::_,_::_,_::_,[],h,_,_,_=>h.elim
theorem iC.below{w w':World}(h:Go.RowKit.Below w.heap.size w w'):iC (fun _=>False) w w':=⟨h.os,h.tape,h.output,h.size,fun k hk _=>h.block k hk⟩
end AM
