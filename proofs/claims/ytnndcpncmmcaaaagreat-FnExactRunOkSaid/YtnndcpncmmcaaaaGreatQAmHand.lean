import Derived.Test.YtnndcpncmmcaaaaGreatQAmFn
import Derived.Below
namespace AM
set_option linter.unusedVariables false
open Go
variable{U:jO}{E:Env U}{w w':World}{F:Nat->Prop}
theorem e_.SX{w0:World}:∀{ms:List Mode}{ds:List (DV U)}{vs:List Value}{ls:List (List Nat)},iN E w F ms ds vs ls->tO ms=true->∀(w':World)(F':Nat->Prop),e_ E w' F' w0 ms vs [] []
 |[],[],[],[],_,_,_,_=>trivial
 |m::ms,d::ds,v::vs,l::ls,h,hr,w',F'=>by
  simp only[tO,zdr,fY] at hr
  cases m with
  |ro=>exact e_.SX h.2 hr.2 w' F'
  |wr=>simp at hr
  |mv=>simp at hr
  |box _=>simp at hr
 |[],[],[],_::_,h,_,_,_=>h.elim
 |[],[],_::_,_,h,_,_,_=>h.elim
 |[],_::_,_,_,h,_,_,_=>h.elim
 |_::_,[],_,_,h,_,_,_=>h.elim
 |_::_,_::_,[],_,h,_,_,_=>h.elim
 |_::_,_::_,_::_,[],h,_,_,_=>h.elim
theorem fm.below{w w':World}(h:Go.RowKit.Below w.heap.size w w')(hd:w.drawn<=w'.drawn):fm (fun _=>False) w w':=⟨h.os,h.tape,h.output,h.size,fun k hk _=>h.block k hk,hd⟩
end AM
