/- THE ABSTRACT MACHINE: the facts on a program's types, checked by computing. -/
import Derived.Test.YtceiiofmelhipaaGreatAmFn
namespace AM
open Go
variable{U:Uni}
def okCell:U.C→Value→Bool
 | .lit (.int k n),.int k' n'=>decide (k=k')&&decide (n=n')&&decide (k.min≤n)&&decide (n≤k.max)
 | .lit (.bool a),.bool b=>(match a,b with|true,true=>true|false,false=>true|_,_=>false)
 | .lit (.string s),.string s'=>(match s,s' with|⟨⟨[]⟩⟩,⟨⟨[]⟩⟩=>true|_,_=>false)
 | .sl _ [],.slice none 0 0=>true
 |_,_=>false
def okCells:List U.C→List Value→Bool
 |[],[]=>true
 |c::cs,v::vs=>okCell c v&&okCells cs vs
 |_,_=>false
def okTy(P:Program)(tid:U.Ty→TypeId)(p:TypeId×U.Ty):Bool:=
 Nat.beq (tid p.2) p.1&&(match P.info? p.1 with
  |some i=>(match i.zero with
   |some z=>Nat.beq i.size (U.wd p.2)&&Nat.beq z.cells.size (U.wd p.2)&&Nat.ble i.bytes 4096&&okCells (U.enc p.2 (U.dflt p.2)) z.cells.toList
   |none=>false)
  |none=>false)
def codeOf(l:List (TypeId×U.Ty))(t:TypeId):Option U.Ty:=
 match l with
 |[]=>none
 |(a,b)::r=>bif Nat.beq a t then some b else codeOf r t
theorem qajg{c:U.C}{v:Value}(h:okCell c v=true):(c=.lit v∧LitOk v)∨∃τ,c=.sl τ []∧v=.slice none 0 0:=by
 unfold okCell at h
 split at h
 ·simp only[zaf,decide_eq_true_eq] at h
  obtain⟨⟨⟨rfl,rfl⟩,h3⟩,h4⟩:=h
  exact .inl ⟨rfl,rfl,h3,h4⟩
 ·split at h
  ·exact .inl ⟨rfl,rfl,trivial⟩
  ·exact .inl ⟨rfl,rfl,trivial⟩
  ·cases h
 ·split at h
  ·exact .inl ⟨rfl,rfl,by decide⟩
  ·cases h
 ·exact .inr ⟨_,rfl,rfl⟩
 ·cases h
theorem qajh:∀{cs:List U.C}{vs:List Value},okCells cs vs=true→∀(j:Nat)(c:U.C),cs[j]? =some c→∃u,vs[j]? =some u∧okCell c u=true
 |[],[],_,j,c,hc=>by simp at hc
 |c0::cs,v::vs,h,j,c,hc=>by
  simp only[okCells,zaf] at h
  cases j with
  |zero=>simp only[zam,zae] at hc;subst hc;exact⟨v,rfl,h.1⟩
  |succ j=>obtain⟨u,h1,h2⟩:=qajh h.2 j c (by simpa using hc);exact⟨u,by simpa using h1,h2⟩
 |[],_::_,h,_,_,_=>by cases h
 |_::_,[],h,_,_,_=>by cases h
theorem env_ok{P:Program}{tid:U.Ty→TypeId}{l:List (TypeId×U.Ty)}(h:(l.all (okTy P tid))=true)(hm:P.follows .mixedOrders=true):
  Env.Ok {P:=P,tid:=tid,code:=codeOf l,con:=fun _=>none}:=by
 refine⟨fun e τ he=> ?_,hm⟩
 have hin:∀{l:List (TypeId×U.Ty)},codeOf l e=some τ→(e,τ)∈l:=by
  intro l
  induction l with
  |nil=>intro h;cases h
  |cons p l ih=>
   obtain⟨a,b⟩:=p
   intro h
   simp only[codeOf] at h
   cases hb:Nat.beq a e<;>rw[hb] at h<;>simp only[cond_true,cond_false] at h
   ·exact zaa _ (ih h)
   ·cases h
    rw[zai hb]
    exact zab
 have:=zcb.1 h _ (hin he)
 unfold okTy at this
 rw[zaf] at this
 obtain⟨h1,h2⟩:=this
 refine⟨zai h1,?_⟩
 simp only at h2
 split at h2
 ·rename_i i hi
  split at h2
  ·rename_i z hz
   simp only[zaf,zeq] at h2
   obtain⟨⟨⟨g1,g2⟩,g3⟩,g4⟩:=h2
   refine⟨i,z,hi,hz,zai g1,zai g2,g3,fun j c hc=> ?_⟩
   obtain⟨u,hu,ho⟩:=qajh g4 j c hc
   exact⟨u,by rw[←zbx];exact hu,qajg ho⟩
  ·cases h2
 ·cases h2
end AM
