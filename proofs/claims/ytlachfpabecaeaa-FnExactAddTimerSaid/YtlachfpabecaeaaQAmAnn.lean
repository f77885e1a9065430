/- THE ABSTRACT MACHINE: what is known at a loop's head, by a list of the variables that matter. -/
import Derived.Test.YtlachfpabecaeaaQAmEnv
namespace AM
open Go
variable{U:dh}
inductive LK where
 |int (k:IntKind)
 |bool
 |str
 |any
abbrev LK.T:LK->Type
 | .int _=>Int
 | .bool=>Bool
 | .str=>ByteArray
 | .any=>Value
def LK.mk:(l:LK)->l.T->Value
 | .int k,n=> .int k n
 | .bool,b=> .bool b
 | .str,s=> .string s
 | .any,v=>v
def LK.get:(l:LK)->Value->Option l.T
 | .int k,.int k' n=>bif decide (k=k') then some n else none
 | .bool,.bool b=>some b
 | .str,.string s=>some s
 | .any,v=>some v
 |_,_=>none
theorem LK.get_some{l:LK}{v:Value}{x:l.T}(h:l.get v=some x):v=l.mk x:=by
 unfold LK.get at h
 split at h
 ·rename_i k k' n
  rw[bY] at h
  split at h
  ·rename_i hk
   have:=of_decide_eq_true hk
   subst this
   cases h;rfl
  ·cases h
 ·cases h;rfl
 ·cases h;rfl
 ·cases h;rfl
 ·cases h
inductive BK (U:dh) where
 |lit (l:LK)
 |own (τ:U.Ty) (deep:Bool)
 |shr (τ:U.Ty)
 |part (τ:U.Ty)
 |al
abbrev BK.T:BK U->Type
 | .lit l=>l.T
 | .own τ _=>List (U.T τ)
 | .shr τ=>List (U.T τ)
 | .part τ=>List (U.T τ)×(Nat->Bool)
 | .al=>Unit
def BK.ac(key:Key):(b:BK U)->b.T->AC U
 | .lit l,x=> .c (.lit (l.mk x))
 | .own _ _,_=> .ref key []
 | .shr τ,xs=> .c (.sl τ xs)
 | .part _,_=> .ref key []
 | .al,_=> .ref key []
def BK.aq(key:Key):(b:BK U)->b.T->List (Key×b9 U)
 | .own τ d,xs=>[(key,.arr ⟨τ,xs⟩ d)]
 | .part τ,x=>[(key,.part ⟨τ,x.1⟩ x.2)]
 |_,_=>[]
def Ft(a b:Bool):Bool:=match a,b with|true,true=>true|false,false=>true|_,_=>false
def BK.read(key:Key)(σ:aa U):(b:BK U)->AC U->Option b.T
 | .lit l,.c (.lit v)=>l.get v
 | .own τ d,.ref k []=>bif cn k key then(match σ.aq k with
  |some (.arr a d')=>bif Ft d d' then ct τ a else none
  |_=>none) else none
 | .shr τ,.c (.sl nj xs)=>ct τ ⟨nj,xs⟩
 | .part τ,.ref k []=>bif cn k key then(match σ.aq k with
  |some (.part a dead)=>match ct τ a with|some xs=>some (xs,dead)|none=>none
  |_=>none) else none
 | .al,.ref k []=>bif cn k key then some () else none
 |_,_=>none
theorem BK.cH{key:Key}{σ:aa U}{b:BK U}{a:AC U}{x:b.T}(h:b.read key σ a=some x):a=b.ac key x/\∀p∈b.aq key x,σ.aq p.1=some p.2:=by
 unfold BK.read at h
 split at h
 ·rename_i l v
  have:=LK.get_some h
  subst this
  exact⟨rfl,fun p hp=>by simp[BK.aq] at hp⟩
 ·rename_i τ d k
  rw[bY] at h
  split at h
  ·rename_i hk
   have:=fb.1 hk
   subst this
   split at h
   ·rename_i a0 d' he
    rw[bY] at h
    split at h
    ·rename_i hd
     have dq:d=d':=by cases d<;>cases d'<;>first|rfl|cases hd
     subst dq
     have:=aT h
     subst this
     exact⟨rfl,fun p hp=>by simp only[BK.aq,gj] at hp;subst hp;exact he⟩
    ·cases h
   ·cases h
  ·cases h
 ·rename_i τ nj xs
  have:=aT h
  cases this
  exact⟨rfl,fun p hp=>by simp[BK.aq] at hp⟩
 ·rename_i τ k
  rw[bY] at h
  split at h
  ·rename_i hk
   have:=fb.1 hk
   subst this
   split at h
   ·rename_i a0 dead he
    split at h
    ·rename_i xs hx
     cases h
     have:=aT hx
     subst this
     exact⟨rfl,fun p hp=>by simp only[BK.aq,gj] at hp;subst hp;exact he⟩
    ·cases h
   ·cases h
  ·cases h
 ·rename_i k
  rw[bY] at h
  split at h
  ·rename_i hk
   have:=fb.1 hk
   subst this
   exact⟨rfl,fun p hp=>by simp[BK.aq] at hp⟩
  ·cases h
 ·cases h
abbrev ka.T:List (BK U)->Type
 |[]=>Unit
 |[b]=>b.T
 |b::r=>b.T×ka.T r
abbrev ka.S:List (BK U)->Type
 |[]=>Unit
 |b::r=>b.T×ka.S r
def ka.lM(k:Key):(j:Nat)->(bs:List (BK U))->ka.S bs->List (AC U)
 |_,[],_=>[]
 |j,b::r,(x,y)=>b.ac (k.1,4096*(k.2+1)+j) x::ka.lM k (j+1) r y
def ka.aJ(k:Key):(j:Nat)->(bs:List (BK U))->ka.S bs->List (Key×b9 U)
 |_,[],_=>[]
 |j,b::r,(x,y)=>b.aq (k.1,4096*(k.2+1)+j) x++ka.aJ k (j+1) r y
def ka.read(k:Key)(σ:aa U):(j:Nat)->(bs:List (BK U))->List (AC U)->Option (ka.S bs)
 |_,[],[]=>some ()
 |j,b::r,a::as=>match b.read (k.1,4096*(k.2+1)+j) σ a,ka.read k σ (j+1) r as with
  |some x,some y=>some (x,y)
  |_,_=>none
 |_,_,_=>none
theorem ka.cH{k:Key}{σ:aa U}:∀{bs:List (BK U)}{j:Nat}{as:List (AC U)}{x:ka.S bs},ka.read k σ j bs as=some x->as=ka.lM k j bs x/\∀p∈ka.aJ k j bs x,σ.aq p.1=some p.2
 |[],j,[],x,h=>⟨rfl,fun p hp=>by simp[ka.aJ] at hp⟩
 |[],j,_::_,x,h=>by simp[ka.read] at h
 |b::r,j,[],x,h=>by simp[ka.read] at h
 |b::r,j,a::as,(x,y),h=>by
  simp only[ka.read] at h
  split at h
  ·rename_i x' y' h1 h2
   cases h
   obtain⟨g1,g2⟩:=BK.cH h1
   obtain⟨g3,g4⟩:=ka.cH h2
   refine⟨by simp only[ka.lM];rw[<-g1,<-g3],fun p hp=> ?_⟩
   simp only[ka.aJ,cZ] at hp
   exact hp.elim (g2 p) (g4 p)
  ·cases h
inductive It (U:dh) where
 |slot (s:Nat) (key:Key) (b:BK U)
 |box (s:Nat) (k:Key) (bs:List (BK U))
abbrev It.T:It U->Type
 | .slot _ _ b=>b.T
 | .box _ _ bs=>ka.S bs
def It.s:It U->Nat
 | .slot s _ _=>s
 | .box s _ _=>s
def It.sv:(i:It U)->i.T->SV U
 | .slot _ key b,x=>one (b.ac key x)
 | .box _ k _,_=>one (.cR k 0)
def It.aJ:(i:It U)->i.T->List (Key×b9 U)
 | .slot _ key b,x=>b.aq key x
 | .box _ k bs,x=>(k,.box (ka.lM k 0 bs x))::ka.aJ k 0 bs x
def It.read(σ:aa U):(i:It U)->Option i.T
 | .slot s key b=>match σ.get s with
  |some (.v ⟨false,[a]⟩)=>b.read key σ a
  |_=>none
 | .box s k bs=>match σ.get s with
  |some (.v ⟨false,[.cR k' 0]⟩)=>bif cn k' k then(match σ.aq k with
   |some (.box as)=>ka.read k σ 0 bs as
   |_=>none) else none
  |_=>none
theorem It.cH{σ:aa U}{i:It U}{x:i.T}(h:i.read σ=some x):σ.get i.s=some (i.sv x)/\∀p∈i.aJ x,σ.aq p.1=some p.2:=by
 cases i with
 |slot s key b=>
  simp only[It.read] at h
  split at h
  ·rename_i a ha
   obtain⟨rfl,g2⟩:=BK.cH h
   exact⟨ha,g2⟩
  ·cases h
 |box s k bs=>
  simp only[It.read] at h
  split at h
  ·rename_i k' hk
   rw[bY] at h
   split at h
   ·rename_i i_
    have:=fb.1 i_
    subst this
    split at h
    ·rename_i as he
     obtain⟨rfl,g2⟩:=ka.cH h
     refine⟨hk,fun p hp=> ?_⟩
     simp only[It.aJ,dQ] at hp
     rcases hp with rfl|hp
     ·exact he
     ·exact g2 p hp
    ·cases h
   ·cases h
  ·cases h
def It.nil:It U->List (fx×U.Ty×Option Bool)
 | .slot s key (.own τ d)=>bif cn key (s,1024) then[(.slot s 0,τ,some d)] else[]
 | .box _ k bs=>bs.zipIdx.flatMap fun(b,j)=>match b with| .own τ true=>[(.box k j,τ,some true)]| .shr τ=>[(.box k j,τ,none)]|_=>[]
 |_=>[]
abbrev hO.T:List (It U)->Type
 |[]=>Unit
 |i::r=>i.T×hO.T r
def hO.ap:(l:List (It U))->hO.T l->List (Nat×SV U)
 |[],_=>[]
 |i::r,x=>(i.s,i.sv x.1)::hO.ap r x.2
def hO.aJ:(l:List (It U))->hO.T l->List (Key×b9 U)
 |[],_=>[]
 |i::r,x=>i.aJ x.1++hO.aJ r x.2
def hO.read(σ:aa U):(l:List (It U))->Option (hO.T l)
 |[]=>some ()
 |i::r=>match i.read σ,hO.read σ r with
  |some x,some y=>some (x,y)
  |_,_=>none
theorem hO.cH{σ:aa U}:∀{l:List (It U)}{x:hO.T l},hO.read σ l=some x->(∀p∈hO.ap l x,σ.get p.1=some p.2)/\∀p∈hO.aJ l x,σ.aq p.1=some p.2
 |[],x,h=>⟨fun p hp=>by simp[hO.ap] at hp,fun p hp=>by simp[hO.aJ] at hp⟩
 |i::r,x,h=>by
  simp only[hO.read] at h
  split at h
  ·rename_i x' y' h1 h2
   cases h
   obtain⟨g1,g2⟩:=It.cH h1
   obtain⟨g3,g4⟩:=hO.cH h2
   refine⟨fun p hp=> ?_,fun p hp=> ?_⟩
   ·simp only[hO.ap,dQ] at hp
    rcases hp with rfl|hp
    ·exact g1
    ·exact g3 p hp
   ·simp only[hO.aJ,cZ] at hp
    exact hp.elim (g2 p) (g4 p)
  ·cases h
theorem hO.nt:∀{l:List (It U)}{x:hO.T l},∀p∈hO.ap l x,p.1∈l.map It.s
 |[],x,p,hp=>by simp[hO.ap] at hp
 |i::r,x,p,hp=>by
  simp only[hO.ap,dQ] at hp
  rcases hp with rfl|hp
  ·simp
  ·have:=hO.nt (l:=r) p hp
   simp only[mR,dQ]
   exact .inr this
theorem It.Eb{i:It U}{p:fx×U.Ty×Option Bool}(hp:p∈i.nil){s j:Nat}(he:p.1=.slot s j):s=i.s:=by
 unfold It.nil at hp
 split at hp
 ·rw[bY] at hp
  split at hp
  ·rw[gj] at hp
   subst hp
   cases he;rfl
  ·simp at hp
 ·obtain⟨⟨b,j'⟩,_,hb⟩:=eY.1 hp
  simp only at hb
  split at hb
  ·rw[gj] at hb
   subst hb
   cases he
  ·rw[gj] at hb
   subst hb
   cases he
  ·simp at hb
 ·simp at hp
def It.xW:It U->List Nat
 | .slot s _ (.shr _)=>[s]
 |_=>[]
def It.xt:It U->List Key
 | .slot _ key (.part _)=>[key]
 | .box _ k bs=>bs.zipIdx.flatMap fun(b,j)=>match b with| .part _=>[(k.1,4096*(k.2+1)+j)]|_=>[]
 |_=>[]
def It.xX:It U->List Key
 | .box _ k bs=>bs.zipIdx.flatMap fun(b,j)=>match b with| .shr _=>[(k.1,4096*(k.2+1)+j)]|_=>[]
 |_=>[]
def It.xr:It U->List Key
 | .slot _ key (.own _ false)=>[key]
 | .box _ k bs=>bs.zipIdx.flatMap fun(b,j)=>match b with| .own _ false=>[(k.1,4096*(k.2+1)+j)]|_=>[]
 |_=>[]
def cY(l:List (It U))(I:hO.T l->hO.T l->Prop)(μ:hO.T l->Nat):cw U where
 X:=hO.T l
 ap:=hO.ap l
 aJ:=hO.aJ l
 un:=fun σ K=>match hO.read σ l with|some x=>K x|none=>False
 nil:=l.flatMap It.nil
 xW:=l.flatMap It.xW
 xX:=l.flatMap It.xX
 xr:=l.flatMap It.xr
 xt:=l.flatMap It.xt
 I:=I
 μ:=μ
 all:=fun P=>∀y,P y
 va:=fun _ h=>h
 names:=l.map It.s
 BM:=fun x p hp=>hO.nt p hp
 Ea:=fun p hp s j he=>by
  obtain⟨i,hi,hp⟩:=eY.1 hp
  exact ez.2 ⟨i,hi,(It.Eb hp he).symm⟩
 law:=fun σ K h=>by
  split at h
  ·rename_i x hx
   obtain⟨h1,h2⟩:=hO.cH hx
   exact⟨x,h,h1,h2⟩
  ·exact h.elim
def Lo(A B:cw U):cw U where
 X:=A.X ⊕ B.X
 ap:=Sum.elim A.ap B.ap
 aJ:=Sum.elim A.aJ B.aJ
 un:=fun σ K=>A.un σ (fun x=>K (.inl x))\/B.un σ (fun x=>K (.inr x))
 nil:=A.nil
 xW:=A.xW
 xX:=A.xX
 xr:=A.xr
 xt:=A.xt
 I:=fun _ y=>Sum.elim (fun b=>A.I b b) (fun b=>B.I b b) y
 μ:=Sum.elim A.μ B.μ
 all:=fun P=>A.all (fun b=>P (.inl b))/\B.all (fun b=>P (.inr b))
 va:=fun P h y=>match y with
  | .inl b=>A.va _ h.1 b
  | .inr b=>B.va _ h.2 b
 names:=A.names++B.names
 BM:=fun x p hp=>match x with
  | .inl x=>fy _ (A.BM x p hp)
  | .inr x=>eZ _ (B.BM x p hp)
 Ea:=fun p hp s j he=>fy _ (A.Ea p hp s j he)
 law:=fun σ K h=>by
  rcases h with h|h
  ·obtain⟨x,h1,h2,h3⟩:=A.law _ _ h
   exact⟨.inl x,h1,h2,h3⟩
  ·obtain⟨x,h1,h2,h3⟩:=B.law _ _ h
   exact⟨.inr x,h1,h2,h3⟩
def bP:List (Nat×cw U)->Nat->Option (cw U)
 |[],_=>none
 |(i,a)::r,n=>bif Nat.beq i n then some a else bP r n
end AM
