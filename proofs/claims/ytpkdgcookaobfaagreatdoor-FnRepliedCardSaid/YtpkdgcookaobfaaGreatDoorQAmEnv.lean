/- THE ABSTRACT MACHINE: the facts on a program's types, checked by computing. -/
import Derived.Test.YtpkdgcookaobfaaGreatDoorQAmFn
namespace AM
open Go
variable{U:lz}
def H4:U.C->Value->Bool
 | .lit (.int k n),.int k' n'=>decide (k=k')&&decide (n=n')&&decide (k.min<=n)&&decide (n<=k.max)
 | .lit (.bool a),.bool b=>(match a,b with|true,true=>true|false,false=>true|_,_=>false)
 | .lit (.string s),.string s'=>(match s,s' with|⟨⟨[]⟩⟩,⟨⟨[]⟩⟩=>true|_,_=>false)
 | .sl _ [],.slice none 0 0=>true
 |_,_=>false
def BP:List U.C->List Value->Bool
 |[],[]=>true
 |c::cs,v::vs=>H4 c v&&BP cs vs
 |_,_=>false
def adU(P:Program)(tid:U.Ty->TypeId)(p:TypeId×U.Ty):Bool:=
 Nat.beq (tid p.2) p.1&&(match P.info? p.1 with
  |some i=>(match i.zero with
   |some z=>Nat.beq i.size (U.wd p.2)&&Nat.beq z.cells.size (U.wd p.2)&&Nat.ble i.bytes 4096&&BP (U.enc p.2 (U.e6 p.2)) z.cells.toList
   |none=>false)
  |none=>false)
def xc(l:List (TypeId×U.Ty))(t:TypeId):Option U.Ty:=
 match l with
 |[]=>none
 |(a,b)::r=>bif Nat.beq a t then some b else xc r t
theorem ala{c:U.C}{v:Value}(h:H4 c v=true):(c=.lit v/\gr v)\/∃τ,c=.sl τ []/\v=.slice none 0 0:=by
 unfold H4 at h
 split at h
 ·simp only[cJ,decide_eq_true_eq] at h
  obtain⟨⟨⟨rfl,rfl⟩,h3⟩,h4⟩:=h
  exact .inl ⟨rfl,rfl,h3,h4⟩
 ·split at h
  ·exact .inl ⟨rfl,rfl,trivial⟩
  ·exact .inl ⟨rfl,rfl,trivial⟩
  ·cases h
 ·split at h
  ·exact .inl ⟨rfl,rfl,by decide⟩
  ·cases h
 ·exact .inr ⟨_,rfl,rfl⟩
 ·cases h
theorem ada:∀{cs:List U.C}{vs:List Value},BP cs vs=true->∀(j:Nat)(c:U.C),cs[j]? =some c->∃u,vs[j]? =some u/\H4 c u=true
 |[],[],_,j,c,hc=>by simp at hc
 |c0::cs,v::vs,h,j,c,hc=>by
  simp only[BP,cJ] at h
  cases j with
  |zero=>simp only[vn,gA] at hc;subst hc;exact⟨v,rfl,h.1⟩
  |succ j=>obtain⟨u,h1,h2⟩:=ada h.2 j c (by simpa using hc);exact⟨u,by simpa using h1,h2⟩
 |[],_::_,h,_,_,_=>by cases h
 |_::_,[],h,_,_,_=>by cases h
theorem abB{P:Program}{tid:U.Ty->TypeId}{l:List (TypeId×U.Ty)}(h:(l.all (adU P tid))=true)(hm:P.follows .mixedOrders=true):
  Env.Ok {P:=P,tid:=tid,code:=xc l,Ql:=fun _=>none}:=by
 refine⟨fun e τ he=> ?_,hm⟩
 have qv:∀{l:List (TypeId×U.Ty)},xc l e=some τ->(e,τ)∈l:=by
  intro l
  induction l with
  |nil=>intro h;cases h
  |cons p l ih=>
   obtain⟨a,b⟩:=p
   intro h
   simp only[xc] at h
   cases hb:Nat.beq a e<;>rw[hb] at h<;>simp only[cond_true,cond_false] at h
   ·exact fA _ (ih h)
   ·cases h
    rw[nk hb]
    exact iy
 have:=sC.1 h _ (qv he)
 unfold adU at this
 rw[cJ] at this
 obtain⟨h1,h2⟩:=this
 refine⟨nk h1,?_⟩
 simp only at h2
 split at h2
 ·rename_i i hi
  split at h2
  ·rename_i z hz
   simp only[cJ,QJ] at h2
   obtain⟨⟨⟨g1,g2⟩,g3⟩,g4⟩:=h2
   refine⟨i,z,hi,hz,nk g1,nk g2,g3,fun j c hc=> ?_⟩
   obtain⟨u,hu,ho⟩:=ada g4 j c hc
   exact⟨u,by rw[<-Mt];exact hu,ala ho⟩
  ·cases h2
 ·cases h2
end AM
