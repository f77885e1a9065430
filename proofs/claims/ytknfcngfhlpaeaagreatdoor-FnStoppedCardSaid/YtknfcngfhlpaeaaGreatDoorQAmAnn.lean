import Derived.Test.YtknfcngfhlpaeaaGreatDoorQAmEnv
namespace AM
open Go
variable{U:kz}
inductive LK where
 |int (k:IntKind)
 |bool
 |str
 |any
abbrev LK.T:LK->Type
 | .int _=>Int
 | .bool=>Bool
 | .str=>ByteArray
 | .any=>Value
def LK.mk:(l:LK)->l.T->Value
 | .int k,n=> .int k n
 | .bool,b=> .bool b
 | .str,s=> .string s
 | .any,v=>v
def LK.get:(l:LK)->Value->Option l.T
 | .int k,.int k' n=>bif decide (k=k') then some n else none
 | .bool,.bool b=>some b
 | .str,.string s=>some s
 | .any,v=>some v
 |_,_=>none
theorem LK.get_some{l:LK}{v:Value}{x:l.T}(h:l.get v=some x):v=l.mk x:=by
 unfold LK.get at h
 split at h
 ·rename_i k k' n
  rw[gI] at h
  split at h
  ·rename_i hk
   have:=of_decide_eq_true hk
   subst this
   cases h;rfl
  ·cases h
 ·cases h;rfl
 ·cases h;rfl
 ·cases h;rfl
 ·cases h
inductive BK (U:kz) where
 |lit (l:LK)
 |own (τ:U.Ty) (deep:Bool)
 |shr (τ:U.Ty)
 |part (τ:U.Ty)
 |al
abbrev BK.T:BK U->Type
 | .lit l=>l.T
 | .own τ _=>List (U.T τ)
 | .shr τ=>List (U.T τ)
 | .part τ=>List (U.T τ)×(Nat->Bool)
 | .al=>Unit
def BK.ac(key:Key):(b:BK U)->b.T->AC U
 | .lit l,x=> .c (.lit (l.mk x))
 | .own _ _,_=> .ref key []
 | .shr τ,xs=> .c (.sl τ xs)
 | .part _,_=> .ref key []
 | .al,_=> .ref key []
def BK.bH(key:Key):(b:BK U)->b.T->List (Key×ie U)
 | .own τ d,xs=>[(key,.arr ⟨τ,xs⟩ d)]
 | .part τ,x=>[(key,.part ⟨τ,x.1⟩ x.2)]
 |_,_=>[]
def acj(a b:Bool):Bool:=match a,b with|true,true=>true|false,false=>true|_,_=>false
def BK.read(key:Key)(σ:ak U):(b:BK U)->AC U->Option b.T
 | .lit l,.c (.lit v)=>l.get v
 | .own τ d,.ref k []=>bif ik k key then(match σ.bH k with
  |some (.arr a d')=>bif acj d d' then iD τ a else none
  |_=>none) else none
 | .shr τ,.c (.sl El xs)=>iD τ ⟨El,xs⟩
 | .part τ,.ref k []=>bif ik k key then(match σ.bH k with
  |some (.part a dead)=>match iD τ a with|some xs=>some (xs,dead)|none=>none
  |_=>none) else none
 | .al,.ref k []=>bif ik k key then some () else none
 |_,_=>none
theorem BK.js{key:Key}{σ:ak U}{b:BK U}{a:AC U}{x:b.T}(h:b.read key σ a=some x):a=b.ac key x/\∀p∈b.bH key x,σ.bH p.1=some p.2:=by
 unfold BK.read at h
 split at h
 ·rename_i l v
  have:=LK.get_some h
  subst this
  exact⟨rfl,fun p hp=>by simp[BK.bH] at hp⟩
 ·rename_i τ d k
  rw[gI] at h
  split at h
  ·rename_i hk
   have:=og.1 hk
   subst this
   split at h
   ·rename_i a0 d' he
    rw[gI] at h
    split at h
    ·rename_i hd
     have jR:d=d':=by cases d<;>cases d'<;>first|rfl|cases hd
     subst jR
     have:=dr h
     subst this
     exact⟨rfl,fun p hp=>by simp only[BK.bH,mb] at hp;subst hp;exact he⟩
    ·cases h
   ·cases h
  ·cases h
 ·rename_i τ El xs
  have:=dr h
  cases this
  exact⟨rfl,fun p hp=>by simp[BK.bH] at hp⟩
 ·rename_i τ k
  rw[gI] at h
  split at h
  ·rename_i hk
   have:=og.1 hk
   subst this
   split at h
   ·rename_i a0 dead he
    split at h
    ·rename_i xs hx
     cases h
     have:=dr hx
     subst this
     exact⟨rfl,fun p hp=>by simp only[BK.bH,mb] at hp;subst hp;exact he⟩
    ·cases h
   ·cases h
  ·cases h
 ·rename_i k
  rw[gI] at h
  split at h
  ·rename_i hk
   have:=og.1 hk
   subst this
   exact⟨rfl,fun p hp=>by simp[BK.bH] at hp⟩
  ·cases h
 ·cases h
abbrev xZ.T:List (BK U)->Type
 |[]=>Unit
 |[b]=>b.T
 |b::r=>b.T×xZ.T r
abbrev xZ.S:List (BK U)->Type
 |[]=>Unit
 |b::r=>b.T×xZ.S r
def xZ.Ax(k:Key):(j:Nat)->(bs:List (BK U))->xZ.S bs->List (AC U)
 |_,[],_=>[]
 |j,b::r,(x,y)=>b.ac (k.1,4096*(k.2+1)+j) x::xZ.Ax k (j+1) r y
def xZ.cW(k:Key):(j:Nat)->(bs:List (BK U))->xZ.S bs->List (Key×ie U)
 |_,[],_=>[]
 |j,b::r,(x,y)=>b.bH (k.1,4096*(k.2+1)+j) x++xZ.cW k (j+1) r y
def xZ.read(k:Key)(σ:ak U):(j:Nat)->(bs:List (BK U))->List (AC U)->Option (xZ.S bs)
 |_,[],[]=>some ()
 |j,b::r,a::as=>match b.read (k.1,4096*(k.2+1)+j) σ a,xZ.read k σ (j+1) r as with
  |some x,some y=>some (x,y)
  |_,_=>none
 |_,_,_=>none
theorem xZ.js{k:Key}{σ:ak U}:∀{bs:List (BK U)}{j:Nat}{as:List (AC U)}{x:xZ.S bs},xZ.read k σ j bs as=some x->as=xZ.Ax k j bs x/\∀p∈xZ.cW k j bs x,σ.bH p.1=some p.2
 |[],j,[],x,h=>⟨rfl,fun p hp=>by simp[xZ.cW] at hp⟩
 |[],j,_::_,x,h=>by simp[xZ.read] at h
 |b::r,j,[],x,h=>by simp[xZ.read] at h
 |b::r,j,a::as,(x,y),h=>by
  simp only[xZ.read] at h
  split at h
  ·rename_i x' y' h1 h2
   cases h
   obtain⟨g1,g2⟩:=BK.js h1
   obtain⟨g3,g4⟩:=xZ.js h2
   refine⟨by simp only[xZ.Ax];rw[<-g1,<-g3],fun p hp=> ?_⟩
   simp only[xZ.cW,jE] at hp
   exact hp.elim (g2 p) (g4 p)
  ·cases h
inductive It (U:kz) where
 |slot (s:Nat) (key:Key) (b:BK U)
 |box (s:Nat) (k:Key) (bs:List (BK U))
abbrev It.T:It U->Type
 | .slot _ _ b=>b.T
 | .box _ _ bs=>xZ.S bs
def It.s:It U->Nat
 | .slot s _ _=>s
 | .box s _ _=>s
def It.sv:(i:It U)->i.T->SV U
 | .slot _ key b,x=>one (b.ac key x)
 | .box _ k _,_=>one (.jU k 0)
def It.cW:(i:It U)->i.T->List (Key×ie U)
 | .slot _ key b,x=>b.bH key x
 | .box _ k bs,x=>(k,.box (xZ.Ax k 0 bs x))::xZ.cW k 0 bs x
def It.read(σ:ak U):(i:It U)->Option i.T
 | .slot s key b=>match σ.get s with
  |some (.v ⟨false,[a]⟩)=>b.read key σ a
  |_=>none
 | .box s k bs=>match σ.get s with
  |some (.v ⟨false,[.jU k' 0]⟩)=>bif ik k' k then(match σ.bH k with
   |some (.box as)=>xZ.read k σ 0 bs as
   |_=>none) else none
  |_=>none
theorem It.js{σ:ak U}{i:It U}{x:i.T}(h:i.read σ=some x):σ.get i.s=some (i.sv x)/\∀p∈i.cW x,σ.bH p.1=some p.2:=by
 cases i with
 |slot s key b=>
  simp only[It.read] at h
  split at h
  ·rename_i a ha
   obtain⟨rfl,g2⟩:=BK.js h
   exact⟨ha,g2⟩
  ·cases h
 |box s k bs=>
  simp only[It.read] at h
  split at h
  ·rename_i k' hk
   rw[gI] at h
   split at h
   ·rename_i C8
    have:=og.1 C8
    subst this
    split at h
    ·rename_i as he
     obtain⟨rfl,g2⟩:=xZ.js h
     refine⟨hk,fun p hp=> ?_⟩
     simp only[It.cW,jF] at hp
     rcases hp with rfl|hp
     ·exact he
     ·exact g2 p hp
    ·cases h
   ·cases h
  ·cases h
def It.nil:It U->List (pb×U.Ty×Option Bool)
 | .slot s key (.own τ d)=>bif ik key (s,1024) then[(.slot s 0,τ,some d)] else[]
 | .box _ k bs=>bs.zipIdx.flatMap fun(b,j)=>match b with| .own τ true=>[(.box k j,τ,some true)]| .shr τ=>[(.box k j,τ,none)]|_=>[]
 |_=>[]
abbrev sQ.T:List (It U)->Type
 |[]=>Unit
 |i::r=>i.T×sQ.T r
def sQ.bx:(l:List (It U))->sQ.T l->List (Nat×SV U)
 |[],_=>[]
 |i::r,x=>(i.s,i.sv x.1)::sQ.bx r x.2
def sQ.cW:(l:List (It U))->sQ.T l->List (Key×ie U)
 |[],_=>[]
 |i::r,x=>i.cW x.1++sQ.cW r x.2
def sQ.read(σ:ak U):(l:List (It U))->Option (sQ.T l)
 |[]=>some ()
 |i::r=>match i.read σ,sQ.read σ r with
  |some x,some y=>some (x,y)
  |_,_=>none
theorem sQ.js{σ:ak U}:∀{l:List (It U)}{x:sQ.T l},sQ.read σ l=some x->(∀p∈sQ.bx l x,σ.get p.1=some p.2)/\∀p∈sQ.cW l x,σ.bH p.1=some p.2
 |[],x,h=>⟨fun p hp=>by simp[sQ.bx] at hp,fun p hp=>by simp[sQ.cW] at hp⟩
 |i::r,x,h=>by
  simp only[sQ.read] at h
  split at h
  ·rename_i x' y' h1 h2
   cases h
   obtain⟨g1,g2⟩:=It.js h1
   obtain⟨g3,g4⟩:=sQ.js h2
   refine⟨fun p hp=> ?_,fun p hp=> ?_⟩
   ·simp only[sQ.bx,jF] at hp
    rcases hp with rfl|hp
    ·exact g1
    ·exact g3 p hp
   ·simp only[sQ.cW,jE] at hp
    exact hp.elim (g2 p) (g4 p)
  ·cases h
theorem sQ.Eu:∀{l:List (It U)}{x:sQ.T l},∀p∈sQ.bx l x,p.1∈l.map It.s
 |[],x,p,hp=>by simp[sQ.bx] at hp
 |i::r,x,p,hp=>by
  simp only[sQ.bx,jF] at hp
  rcases hp with rfl|hp
  ·simp
  ·have:=sQ.Eu (l:=r) p hp
   simp only[sS,jF]
   exact .inr this
theorem It.abu{i:It U}{p:pb×U.Ty×Option Bool}(hp:p∈i.nil){s j:Nat}(he:p.1=.slot s j):s=i.s:=by
 unfold It.nil at hp
 split at hp
 ·rw[gI] at hp
  split at hp
  ·rw[mb] at hp
   subst hp
   cases he;rfl
  ·simp at hp
 ·obtain⟨⟨b,j'⟩,_,hb⟩:=nF.1 hp
  simp only at hb
  split at hb
  ·rw[mb] at hb
   subst hb
   cases he
  ·rw[mb] at hb
   subst hb
   cases he
  ·simp at hb
 ·simp at hp
def It.Uf:It U->List Nat
 | .slot s _ (.shr _)=>[s]
 |_=>[]
def It.TA:It U->List Key
 | .slot _ key (.part _)=>[key]
 | .box _ k bs=>bs.zipIdx.flatMap fun(b,j)=>match b with| .part _=>[(k.1,4096*(k.2+1)+j)]|_=>[]
 |_=>[]
def It.Ug:It U->List Key
 | .box _ k bs=>bs.zipIdx.flatMap fun(b,j)=>match b with| .shr _=>[(k.1,4096*(k.2+1)+j)]|_=>[]
 |_=>[]
def It.Tz:It U->List Key
 | .slot _ key (.own _ false)=>[key]
 | .box _ k bs=>bs.zipIdx.flatMap fun(b,j)=>match b with| .own _ false=>[(k.1,4096*(k.2+1)+j)]|_=>[]
 |_=>[]
def aY(l:List (It U))(I:sQ.T l->sQ.T l->Prop)(μ:sQ.T l->Nat):sA U where
 X:=sQ.T l
 bx:=sQ.bx l
 cW:=sQ.cW l
 un:=fun σ K=>match sQ.read σ l with|some x=>K x|none=>False
 nil:=l.flatMap It.nil
 Uf:=l.flatMap It.Uf
 Ug:=l.flatMap It.Ug
 Tz:=l.flatMap It.Tz
 TA:=l.flatMap It.TA
 I:=I
 μ:=μ
 all:=fun P=>∀y,P y
 Qe:=fun _ h=>h
 names:=l.map It.s
 Ze:=fun x p hp=>sQ.Eu p hp
 nin:=fun p hp s j he=>by
  obtain⟨i,hi,hp⟩:=nF.1 hp
  exact kW.2 ⟨i,hi,(It.abu hp he).symm⟩
 law:=fun σ K h=>by
  split at h
  ·rename_i x hx
   obtain⟨h1,h2⟩:=sQ.js hx
   exact⟨x,h,h1,h2⟩
  ·exact h.elim
def YR(A B:sA U):sA U where
 X:=A.X ⊕ B.X
 bx:=Sum.elim A.bx B.bx
 cW:=Sum.elim A.cW B.cW
 un:=fun σ K=>A.un σ (fun x=>K (.inl x))\/B.un σ (fun x=>K (.inr x))
 nil:=A.nil
 Uf:=A.Uf
 Ug:=A.Ug
 Tz:=A.Tz
 TA:=A.TA
 I:=fun _ y=>Sum.elim (fun b=>A.I b b) (fun b=>B.I b b) y
 μ:=Sum.elim A.μ B.μ
 all:=fun P=>A.all (fun b=>P (.inl b))/\B.all (fun b=>P (.inr b))
 Qe:=fun P h y=>match y with
  | .inl b=>A.Qe _ h.1 b
  | .inr b=>B.Qe _ h.2 b
 names:=A.names++B.names
 Ze:=fun x p hp=>match x with
  | .inl x=>pP _ (A.Ze x p hp)
  | .inr x=>pd _ (B.Ze x p hp)
 nin:=fun p hp s j he=>pP _ (A.nin p hp s j he)
 law:=fun σ K h=>by
  rcases h with h|h
  ·obtain⟨x,h1,h2,h3⟩:=A.law _ _ h
   exact⟨.inl x,h1,h2,h3⟩
  ·obtain⟨x,h1,h2,h3⟩:=B.law _ _ h
   exact⟨.inr x,h1,h2,h3⟩
def b_:List (Nat×sA U)->Nat->Option (sA U)
 |[],_=>none
 |(i,a)::r,n=>bif Nat.beq i n then some a else b_ r n
end AM
