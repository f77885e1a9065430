/- THE ABSTRACT MACHINE: what is known at a loop's head, by a list of the variables that matter. -/
import Derived.Test.YtlachfpabecaeaaQAmEnv
namespace AM
open Go
variable{U:dw}
inductive LK where
 |int (k:IntKind)
 |bool
 |str
 |any
abbrev LK.T:LK->Type
 | .int _=>Int
 | .bool=>Bool
 | .str=>ByteArray
 | .any=>Value
def LK.mk:(l:LK)->l.T->Value
 | .int k,n=> .int k n
 | .bool,b=> .bool b
 | .str,s=> .string s
 | .any,v=>v
def LK.get:(l:LK)->Value->Option l.T
 | .int k,.int k' n=>bif decide (k=k') then some n else none
 | .bool,.bool b=>some b
 | .str,.string s=>some s
 | .any,v=>some v
 |_,_=>none
theorem LK.get_some{l:LK}{v:Value}{x:l.T}(h:l.get v=some x):v=l.mk x:=by
 unfold LK.get at h
 split at h
 ·rename_i k k' n
  rw[bV] at h
  split at h
  ·rename_i hk
   have:=of_decide_eq_true hk
   subst this
   cases h;rfl
  ·cases h
 ·cases h;rfl
 ·cases h;rfl
 ·cases h;rfl
 ·cases h
inductive BK (U:dw) where
 |lit (l:LK)
 |own (τ:U.Ty) (deep:Bool)
 |shr (τ:U.Ty)
 |part (τ:U.Ty)
 |al
abbrev BK.T:BK U->Type
 | .lit l=>l.T
 | .own τ _=>List (U.T τ)
 | .shr τ=>List (U.T τ)
 | .part τ=>List (U.T τ)×(Nat->Bool)
 | .al=>Unit
def BK.ac(key:Key):(b:BK U)->b.T->AC U
 | .lit l,x=> .c (.lit (l.mk x))
 | .own _ _,_=> .ref key []
 | .shr τ,xs=> .c (.sl τ xs)
 | .part _,_=> .ref key []
 | .al,_=> .ref key []
def BK.aw(key:Key):(b:BK U)->b.T->List (Key×bZ U)
 | .own τ d,xs=>[(key,.arr ⟨τ,xs⟩ d)]
 | .part τ,x=>[(key,.part ⟨τ,x.1⟩ x.2)]
 |_,_=>[]
def FM(a b:Bool):Bool:=match a,b with|true,true=>true|false,false=>true|_,_=>false
def BK.read(key:Key)(σ:aa U):(b:BK U)->AC U->Option b.T
 | .lit l,.c (.lit v)=>l.get v
 | .own τ d,.ref k []=>bif cj k key then(match σ.aw k with
  |some (.arr a d')=>bif FM d d' then cv τ a else none
  |_=>none) else none
 | .shr τ,.c (.sl nZ xs)=>cv τ ⟨nZ,xs⟩
 | .part τ,.ref k []=>bif cj k key then(match σ.aw k with
  |some (.part a dead)=>match cv τ a with|some xs=>some (xs,dead)|none=>none
  |_=>none) else none
 | .al,.ref k []=>bif cj k key then some () else none
 |_,_=>none
theorem BK.cP{key:Key}{σ:aa U}{b:BK U}{a:AC U}{x:b.T}(h:b.read key σ a=some x):a=b.ac key x/\∀p∈b.aw key x,σ.aw p.1=some p.2:=by
 unfold BK.read at h
 split at h
 ·rename_i l v
  have:=LK.get_some h
  subst this
  exact⟨rfl,fun p hp=>by simp[BK.aw] at hp⟩
 ·rename_i τ d k
  rw[bV] at h
  split at h
  ·rename_i hk
   have:=fF.1 hk
   subst this
   split at h
   ·rename_i a0 d' he
    rw[bV] at h
    split at h
    ·rename_i hd
     have dD:d=d':=by cases d<;>cases d'<;>first|rfl|cases hd
     subst dD
     have:=aP h
     subst this
     exact⟨rfl,fun p hp=>by simp only[BK.aw,gn] at hp;subst hp;exact he⟩
    ·cases h
   ·cases h
  ·cases h
 ·rename_i τ nZ xs
  have:=aP h
  cases this
  exact⟨rfl,fun p hp=>by simp[BK.aw] at hp⟩
 ·rename_i τ k
  rw[bV] at h
  split at h
  ·rename_i hk
   have:=fF.1 hk
   subst this
   split at h
   ·rename_i a0 dead he
    split at h
    ·rename_i xs hx
     cases h
     have:=aP hx
     subst this
     exact⟨rfl,fun p hp=>by simp only[BK.aw,gn] at hp;subst hp;exact he⟩
    ·cases h
   ·cases h
  ·cases h
 ·rename_i k
  rw[bV] at h
  split at h
  ·rename_i hk
   have:=fF.1 hk
   subst this
   exact⟨rfl,fun p hp=>by simp[BK.aw] at hp⟩
  ·cases h
 ·cases h
abbrev kN.T:List (BK U)->Type
 |[]=>Unit
 |[b]=>b.T
 |b::r=>b.T×kN.T r
abbrev kN.S:List (BK U)->Type
 |[]=>Unit
 |b::r=>b.T×kN.S r
def kN.mE(k:Key):(j:Nat)->(bs:List (BK U))->kN.S bs->List (AC U)
 |_,[],_=>[]
 |j,b::r,(x,y)=>b.ac (k.1,4096*(k.2+1)+j) x::kN.mE k (j+1) r y
def kN.aJ(k:Key):(j:Nat)->(bs:List (BK U))->kN.S bs->List (Key×bZ U)
 |_,[],_=>[]
 |j,b::r,(x,y)=>b.aw (k.1,4096*(k.2+1)+j) x++kN.aJ k (j+1) r y
def kN.read(k:Key)(σ:aa U):(j:Nat)->(bs:List (BK U))->List (AC U)->Option (kN.S bs)
 |_,[],[]=>some ()
 |j,b::r,a::as=>match b.read (k.1,4096*(k.2+1)+j) σ a,kN.read k σ (j+1) r as with
  |some x,some y=>some (x,y)
  |_,_=>none
 |_,_,_=>none
theorem kN.cP{k:Key}{σ:aa U}:∀{bs:List (BK U)}{j:Nat}{as:List (AC U)}{x:kN.S bs},kN.read k σ j bs as=some x->as=kN.mE k j bs x/\∀p∈kN.aJ k j bs x,σ.aw p.1=some p.2
 |[],j,[],x,h=>⟨rfl,fun p hp=>by simp[kN.aJ] at hp⟩
 |[],j,_::_,x,h=>by simp[kN.read] at h
 |b::r,j,[],x,h=>by simp[kN.read] at h
 |b::r,j,a::as,(x,y),h=>by
  simp only[kN.read] at h
  split at h
  ·rename_i x' y' h1 h2
   cases h
   obtain⟨g1,g2⟩:=BK.cP h1
   obtain⟨g3,g4⟩:=kN.cP h2
   refine⟨by simp only[kN.mE];rw[<-g1,<-g3],fun p hp=> ?_⟩
   simp only[kN.aJ,cY] at hp
   exact hp.elim (g2 p) (g4 p)
  ·cases h
inductive It (U:dw) where
 |slot (s:Nat) (key:Key) (b:BK U)
 |box (s:Nat) (k:Key) (bs:List (BK U))
abbrev It.T:It U->Type
 | .slot _ _ b=>b.T
 | .box _ _ bs=>kN.S bs
def It.s:It U->Nat
 | .slot s _ _=>s
 | .box s _ _=>s
def It.sv:(i:It U)->i.T->SV U
 | .slot _ key b,x=>one (b.ac key x)
 | .box _ k _,_=>one (.dh k 0)
def It.aJ:(i:It U)->i.T->List (Key×bZ U)
 | .slot _ key b,x=>b.aw key x
 | .box _ k bs,x=>(k,.box (kN.mE k 0 bs x))::kN.aJ k 0 bs x
def It.read(σ:aa U):(i:It U)->Option i.T
 | .slot s key b=>match σ.get s with
  |some (.v ⟨false,[a]⟩)=>b.read key σ a
  |_=>none
 | .box s k bs=>match σ.get s with
  |some (.v ⟨false,[.dh k' 0]⟩)=>bif cj k' k then(match σ.aw k with
   |some (.box as)=>kN.read k σ 0 bs as
   |_=>none) else none
  |_=>none
theorem It.cP{σ:aa U}{i:It U}{x:i.T}(h:i.read σ=some x):σ.get i.s=some (i.sv x)/\∀p∈i.aJ x,σ.aw p.1=some p.2:=by
 cases i with
 |slot s key b=>
  simp only[It.read] at h
  split at h
  ·rename_i a ha
   obtain⟨rfl,g2⟩:=BK.cP h
   exact⟨ha,g2⟩
  ·cases h
 |box s k bs=>
  simp only[It.read] at h
  split at h
  ·rename_i k' hk
   rw[bV] at h
   split at h
   ·rename_i lV
    have:=fF.1 lV
    subst this
    split at h
    ·rename_i as he
     obtain⟨rfl,g2⟩:=kN.cP h
     refine⟨hk,fun p hp=> ?_⟩
     simp only[It.aJ,dJ] at hp
     rcases hp with rfl|hp
     ·exact he
     ·exact g2 p hp
    ·cases h
   ·cases h
  ·cases h
def It.nil:It U->List (fU×U.Ty×Option Bool)
 | .slot s key (.own τ d)=>bif cj key (s,1024) then[(.slot s 0,τ,some d)] else[]
 | .box _ k bs=>bs.zipIdx.flatMap fun(b,j)=>match b with| .own τ true=>[(.box k j,τ,some true)]| .shr τ=>[(.box k j,τ,none)]|_=>[]
 |_=>[]
abbrev iA.T:List (It U)->Type
 |[]=>Unit
 |i::r=>i.T×iA.T r
def iA.au:(l:List (It U))->iA.T l->List (Nat×SV U)
 |[],_=>[]
 |i::r,x=>(i.s,i.sv x.1)::iA.au r x.2
def iA.aJ:(l:List (It U))->iA.T l->List (Key×bZ U)
 |[],_=>[]
 |i::r,x=>i.aJ x.1++iA.aJ r x.2
def iA.read(σ:aa U):(l:List (It U))->Option (iA.T l)
 |[]=>some ()
 |i::r=>match i.read σ,iA.read σ r with
  |some x,some y=>some (x,y)
  |_,_=>none
theorem iA.cP{σ:aa U}:∀{l:List (It U)}{x:iA.T l},iA.read σ l=some x->(∀p∈iA.au l x,σ.get p.1=some p.2)/\∀p∈iA.aJ l x,σ.aw p.1=some p.2
 |[],x,h=>⟨fun p hp=>by simp[iA.au] at hp,fun p hp=>by simp[iA.aJ] at hp⟩
 |i::r,x,h=>by
  simp only[iA.read] at h
  split at h
  ·rename_i x' y' h1 h2
   cases h
   obtain⟨g1,g2⟩:=It.cP h1
   obtain⟨g3,g4⟩:=iA.cP h2
   refine⟨fun p hp=> ?_,fun p hp=> ?_⟩
   ·simp only[iA.au,dJ] at hp
    rcases hp with rfl|hp
    ·exact g1
    ·exact g3 p hp
   ·simp only[iA.aJ,cY] at hp
    exact hp.elim (g2 p) (g4 p)
  ·cases h
theorem iA.n_:∀{l:List (It U)}{x:iA.T l},∀p∈iA.au l x,p.1∈l.map It.s
 |[],x,p,hp=>by simp[iA.au] at hp
 |i::r,x,p,hp=>by
  simp only[iA.au,dJ] at hp
  rcases hp with rfl|hp
  ·simp
  ·have:=iA.n_ (l:=r) p hp
   simp only[qd,dJ]
   exact .inr this
theorem It.Es{i:It U}{p:fU×U.Ty×Option Bool}(hp:p∈i.nil){s j:Nat}(he:p.1=.slot s j):s=i.s:=by
 unfold It.nil at hp
 split at hp
 ·rw[bV] at hp
  split at hp
  ·rw[gn] at hp
   subst hp
   cases he;rfl
  ·simp at hp
 ·obtain⟨⟨b,j'⟩,_,hb⟩:=fC.1 hp
  simp only at hb
  split at hb
  ·rw[gn] at hb
   subst hb
   cases he
  ·rw[gn] at hb
   subst hb
   cases he
  ·simp at hb
 ·simp at hp
def It.zf:It U->List Nat
 | .slot s _ (.shr _)=>[s]
 |_=>[]
def It.yH:It U->List Key
 | .slot _ key (.part _)=>[key]
 | .box _ k bs=>bs.zipIdx.flatMap fun(b,j)=>match b with| .part _=>[(k.1,4096*(k.2+1)+j)]|_=>[]
 |_=>[]
def It.zg:It U->List Key
 | .box _ k bs=>bs.zipIdx.flatMap fun(b,j)=>match b with| .shr _=>[(k.1,4096*(k.2+1)+j)]|_=>[]
 |_=>[]
def It.yG:It U->List Key
 | .slot _ key (.own _ false)=>[key]
 | .box _ k bs=>bs.zipIdx.flatMap fun(b,j)=>match b with| .own _ false=>[(k.1,4096*(k.2+1)+j)]|_=>[]
 |_=>[]
def ed(l:List (It U))(I:iA.T l->iA.T l->Prop)(μ:iA.T l->Nat):iC U where
 X:=iA.T l
 au:=iA.au l
 aJ:=iA.aJ l
 un:=fun σ K=>match iA.read σ l with|some x=>K x|none=>False
 nil:=l.flatMap It.nil
 zf:=l.flatMap It.zf
 zg:=l.flatMap It.zg
 yG:=l.flatMap It.yG
 yH:=l.flatMap It.yH
 I:=I
 μ:=μ
 all:=fun P=>∀y,P y
 wo:=fun _ h=>h
 names:=l.map It.s
 B5:=fun x p hp=>iA.n_ p hp
 Er:=fun p hp s j he=>by
  obtain⟨i,hi,hp⟩:=fC.1 hp
  exact eV.2 ⟨i,hi,(It.Es hp he).symm⟩
 law:=fun σ K h=>by
  split at h
  ·rename_i x hx
   obtain⟨h1,h2⟩:=iA.cP hx
   exact⟨x,h,h1,h2⟩
  ·exact h.elim
def LO(A B:iC U):iC U where
 X:=A.X ⊕ B.X
 au:=Sum.elim A.au B.au
 aJ:=Sum.elim A.aJ B.aJ
 un:=fun σ K=>A.un σ (fun x=>K (.inl x))\/B.un σ (fun x=>K (.inr x))
 nil:=A.nil
 zf:=A.zf
 zg:=A.zg
 yG:=A.yG
 yH:=A.yH
 I:=fun _ y=>Sum.elim (fun b=>A.I b b) (fun b=>B.I b b) y
 μ:=Sum.elim A.μ B.μ
 all:=fun P=>A.all (fun b=>P (.inl b))/\B.all (fun b=>P (.inr b))
 wo:=fun P h y=>match y with
  | .inl b=>A.wo _ h.1 b
  | .inr b=>B.wo _ h.2 b
 names:=A.names++B.names
 B5:=fun x p hp=>match x with
  | .inl x=>fV _ (A.B5 x p hp)
  | .inr x=>fD _ (B.B5 x p hp)
 Er:=fun p hp s j he=>fV _ (A.Er p hp s j he)
 law:=fun σ K h=>by
  rcases h with h|h
  ·obtain⟨x,h1,h2,h3⟩:=A.law _ _ h
   exact⟨.inl x,h1,h2,h3⟩
  ·obtain⟨x,h1,h2,h3⟩:=B.law _ _ h
   exact⟨.inr x,h1,h2,h3⟩
def gO:List (Nat×iC U)->Nat->Option (iC U)
 |[],_=>none
 |(i,a)::r,n=>bif Nat.beq i n then some a else gO r n
end AM
