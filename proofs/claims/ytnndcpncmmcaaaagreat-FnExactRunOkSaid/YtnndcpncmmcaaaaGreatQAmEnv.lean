import Derived.Test.YtnndcpncmmcaaaaGreatQAmFn
namespace AM
open Go
variable{U:jO}
def Gf:U.C->Value->Bool
 | .lit (.int k n),.int k' n'=>decide (k=k')&&decide (n=n')&&decide (k.min<=n)&&decide (n<=k.max)
 | .lit (.bool a),.bool b=>(match a,b with|true,true=>true|false,false=>true|_,_=>false)
 | .lit (.string s),.string s'=>(match s,s' with|⟨⟨[]⟩⟩,⟨⟨[]⟩⟩=>true|_,_=>false)
 | .sl _ [],.slice none 0 0=>true
 |_,_=>false
def Ay:List U.C->List Value->Bool
 |[],[]=>true
 |c::cs,v::vs=>Gf c v&&Ay cs vs
 |_,_=>false
def aem(P:Program)(tid:U.Ty->TypeId)(p:TypeId×U.Ty):Bool:=
 Nat.beq (tid p.2) p.1&&(match P.info? p.1 with
  |some i=>(match i.zero with
   |some z=>Nat.beq i.size (U.wd p.2)&&Nat.beq z.cells.size (U.wd p.2)&&Nat.ble i.bytes 4096&&Ay (U.enc p.2 (U.dt p.2)) z.cells.toList
   |none=>false)
  |none=>false)
def vS(l:List (TypeId×U.Ty))(t:TypeId):Option U.Ty:=
 match l with
 |[]=>none
 |(a,b)::r=>bif Nat.beq a t then some b else vS r t
theorem am7{c:U.C}{v:Value}(h:Gf c v=true):(c=.lit v/\fu v)\/∃τ,c=.sl τ []/\v=.slice none 0 0:=by
 unfold Gf at h
 split at h
 ·simp only[fY,decide_eq_true_eq] at h
  obtain⟨⟨⟨rfl,rfl⟩,h3⟩,h4⟩:=h
  exact .inl ⟨rfl,rfl,h3,h4⟩
 ·split at h
  ·exact .inl ⟨rfl,rfl,trivial⟩
  ·exact .inl ⟨rfl,rfl,trivial⟩
  ·cases h
 ·split at h
  ·exact .inl ⟨rfl,rfl,by decide⟩
  ·cases h
 ·exact .inr ⟨_,rfl,rfl⟩
 ·cases h
theorem ady:∀{cs:List U.C}{vs:List Value},Ay cs vs=true->∀(j:Nat)(c:U.C),cs[j]? =some c->∃u,vs[j]? =some u/\Gf c u=true
 |[],[],_,j,c,hc=>by simp at hc
 |c0::cs,v::vs,h,j,c,hc=>by
  simp only[Ay,fY] at h
  cases j with
  |zero=>simp only[sT,eZ] at hc;subst hc;exact⟨v,rfl,h.1⟩
  |succ j=>obtain⟨u,h1,h2⟩:=ady h.2 j c (by simpa using hc);exact⟨u,by simpa using h1,h2⟩
 |[],_::_,h,_,_,_=>by cases h
 |_::_,[],h,_,_,_=>by cases h
theorem abk{P:Program}{tid:U.Ty->TypeId}{l:List (TypeId×U.Ty)}(h:(l.all (aem P tid))=true)(hm:P.follows .mixedOrders=true):
  Env.Ok {P:=P,tid:=tid,code:=vS l,NU:=fun _=>none}:=by
 refine⟨fun e τ he=> ?_,hm,fun f τ h=>(by cases h),fun f xs ps cs h=>(by cases h),fun f q h=>(by cases h)⟩
 have pE:∀{l:List (TypeId×U.Ty)},vS l e=some τ->(e,τ)∈l:=by
  intro l
  induction l with
  |nil=>intro h;cases h
  |cons p l ih=>
   obtain⟨a,b⟩:=p
   intro h
   simp only[vS] at h
   cases hb:Nat.beq a e<;>rw[hb] at h<;>simp only[cond_true,cond_false] at h
   ·exact aJ _ (ih h)
   ·cases h
    rw[jp hb]
    exact cH
 have:=FU.1 h _ (pE he)
 unfold aem at this
 rw[fY] at this
 obtain⟨h1,h2⟩:=this
 refine⟨jp h1,?_⟩
 simp only at h2
 split at h2
 ·rename_i i hi
  split at h2
  ·rename_i z hz
   simp only[fY,Vn] at h2
   obtain⟨⟨⟨g1,g2⟩,g3⟩,g4⟩:=h2
   refine⟨i,z,hi,hz,jp g1,jp g2,g3,fun j c hc=> ?_⟩
   obtain⟨u,hu,ho⟩:=ady g4 j c hc
   exact⟨u,by rw[<-Eg];exact hu,am7 ho⟩
  ·cases h2
 ·cases h2
end AM
