import Derived.Test.YthciaocifglggaaGreatDoorQAmEnv
namespace AM
open Go
variable{U:kz}
inductive LK where
 |int (k:IntKind)
 |bool
 |str
 |any
abbrev LK.T:LK->Type
 | .int _=>Int
 | .bool=>Bool
 | .str=>ByteArray
 | .any=>Value
def LK.mk:(l:LK)->l.T->Value
 | .int k,n=> .int k n
 | .bool,b=> .bool b
 | .str,s=> .string s
 | .any,v=>v
def LK.get:(l:LK)->Value->Option l.T
 | .int k,.int k' n=>bif decide (k=k') then some n else none
 | .bool,.bool b=>some b
 | .str,.string s=>some s
 | .any,v=>some v
 |_,_=>none
theorem LK.get_some{l:LK}{v:Value}{x:l.T}(h:l.get v=some x):v=l.mk x:=by
 unfold LK.get at h
 split at h
 ·rename_i k k' n
  rw[gT] at h
  split at h
  ·rename_i hk
   have:=of_decide_eq_true hk
   subst this
   cases h;rfl
  ·cases h
 ·cases h;rfl
 ·cases h;rfl
 ·cases h;rfl
 ·cases h
inductive BK (U:kz) where
 |lit (l:LK)
 |own (τ:U.Ty) (deep:Bool)
 |shr (τ:U.Ty)
 |part (τ:U.Ty)
 |al
abbrev BK.T:BK U->Type
 | .lit l=>l.T
 | .own τ _=>List (U.T τ)
 | .shr τ=>List (U.T τ)
 | .part τ=>List (U.T τ)×(Nat->Bool)
 | .al=>Unit
def BK.ac(key:Key):(b:BK U)->b.T->AC U
 | .lit l,x=> .c (.lit (l.mk x))
 | .own _ _,_=> .ref key []
 | .shr τ,xs=> .c (.sl τ xs)
 | .part _,_=> .ref key []
 | .al,_=> .ref key []
def BK.bH(key:Key):(b:BK U)->b.T->List (Key×ir U)
 | .own τ d,xs=>[(key,.arr ⟨τ,xs⟩ d)]
 | .part τ,x=>[(key,.part ⟨τ,x.1⟩ x.2)]
 |_,_=>[]
def acj(a b:Bool):Bool:=match a,b with|true,true=>true|false,false=>true|_,_=>false
def BK.read(key:Key)(σ:af U):(b:BK U)->AC U->Option b.T
 | .lit l,.c (.lit v)=>l.get v
 | .own τ d,.ref k []=>bif iw k key then(match σ.bH k with
  |some (.arr a d')=>bif acj d d' then iJ τ a else none
  |_=>none) else none
 | .shr τ,.c (.sl Cr xs)=>iJ τ ⟨Cr,xs⟩
 | .part τ,.ref k []=>bif iw k key then(match σ.bH k with
  |some (.part a dead)=>match iJ τ a with|some xs=>some (xs,dead)|none=>none
  |_=>none) else none
 | .al,.ref k []=>bif iw k key then some () else none
 |_,_=>none
theorem BK.js{key:Key}{σ:af U}{b:BK U}{a:AC U}{x:b.T}(h:b.read key σ a=some x):a=b.ac key x/\∀p∈b.bH key x,σ.bH p.1=some p.2:=by
 unfold BK.read at h
 split at h
 ·rename_i l v
  have:=LK.get_some h
  subst this
  exact⟨rfl,fun p hp=>by simp[BK.bH] at hp⟩
 ·rename_i τ d k
  rw[gT] at h
  split at h
  ·rename_i hk
   have:=nK.1 hk
   subst this
   split at h
   ·rename_i a0 d' he
    rw[gT] at h
    split at h
    ·rename_i hd
     have jU:d=d':=by cases d<;>cases d'<;>first|rfl|cases hd
     subst jU
     have:=dC h
     subst this
     exact⟨rfl,fun p hp=>by simp only[BK.bH,oa] at hp;subst hp;exact he⟩
    ·cases h
   ·cases h
  ·cases h
 ·rename_i τ Cr xs
  have:=dC h
  cases this
  exact⟨rfl,fun p hp=>by simp[BK.bH] at hp⟩
 ·rename_i τ k
  rw[gT] at h
  split at h
  ·rename_i hk
   have:=nK.1 hk
   subst this
   split at h
   ·rename_i a0 dead he
    split at h
    ·rename_i xs hx
     cases h
     have:=dC hx
     subst this
     exact⟨rfl,fun p hp=>by simp only[BK.bH,oa] at hp;subst hp;exact he⟩
    ·cases h
   ·cases h
  ·cases h
 ·rename_i k
  rw[gT] at h
  split at h
  ·rename_i hk
   have:=nK.1 hk
   subst this
   exact⟨rfl,fun p hp=>by simp[BK.bH] at hp⟩
  ·cases h
 ·cases h
abbrev wC.T:List (BK U)->Type
 |[]=>Unit
 |[b]=>b.T
 |b::r=>b.T×wC.T r
abbrev wC.S:List (BK U)->Type
 |[]=>Unit
 |b::r=>b.T×wC.S r
def wC.yL(k:Key):(j:Nat)->(bs:List (BK U))->wC.S bs->List (AC U)
 |_,[],_=>[]
 |j,b::r,(x,y)=>b.ac (k.1,4096*(k.2+1)+j) x::wC.yL k (j+1) r y
def wC.cV(k:Key):(j:Nat)->(bs:List (BK U))->wC.S bs->List (Key×ir U)
 |_,[],_=>[]
 |j,b::r,(x,y)=>b.bH (k.1,4096*(k.2+1)+j) x++wC.cV k (j+1) r y
def wC.read(k:Key)(σ:af U):(j:Nat)->(bs:List (BK U))->List (AC U)->Option (wC.S bs)
 |_,[],[]=>some ()
 |j,b::r,a::as=>match b.read (k.1,4096*(k.2+1)+j) σ a,wC.read k σ (j+1) r as with
  |some x,some y=>some (x,y)
  |_,_=>none
 |_,_,_=>none
theorem wC.js{k:Key}{σ:af U}:∀{bs:List (BK U)}{j:Nat}{as:List (AC U)}{x:wC.S bs},wC.read k σ j bs as=some x->as=wC.yL k j bs x/\∀p∈wC.cV k j bs x,σ.bH p.1=some p.2
 |[],j,[],x,h=>⟨rfl,fun p hp=>by simp[wC.cV] at hp⟩
 |[],j,_::_,x,h=>by simp[wC.read] at h
 |b::r,j,[],x,h=>by simp[wC.read] at h
 |b::r,j,a::as,(x,y),h=>by
  simp only[wC.read] at h
  split at h
  ·rename_i x' y' h1 h2
   cases h
   obtain⟨g1,g2⟩:=BK.js h1
   obtain⟨g3,g4⟩:=wC.js h2
   refine⟨by simp only[wC.yL];rw[<-g1,<-g3],fun p hp=> ?_⟩
   simp only[wC.cV,kA] at hp
   exact hp.elim (g2 p) (g4 p)
  ·cases h
inductive It (U:kz) where
 |slot (s:Nat) (key:Key) (b:BK U)
 |box (s:Nat) (k:Key) (bs:List (BK U))
abbrev It.T:It U->Type
 | .slot _ _ b=>b.T
 | .box _ _ bs=>wC.S bs
def It.s:It U->Nat
 | .slot s _ _=>s
 | .box s _ _=>s
def It.sv:(i:It U)->i.T->SV U
 | .slot _ key b,x=>one (b.ac key x)
 | .box _ k _,_=>one (.j0 k 0)
def It.cV:(i:It U)->i.T->List (Key×ir U)
 | .slot _ key b,x=>b.bH key x
 | .box _ k bs,x=>(k,.box (wC.yL k 0 bs x))::wC.cV k 0 bs x
def It.read(σ:af U):(i:It U)->Option i.T
 | .slot s key b=>match σ.get s with
  |some (.v ⟨false,[a]⟩)=>b.read key σ a
  |_=>none
 | .box s k bs=>match σ.get s with
  |some (.v ⟨false,[.j0 k' 0]⟩)=>bif iw k' k then(match σ.bH k with
   |some (.box as)=>wC.read k σ 0 bs as
   |_=>none) else none
  |_=>none
theorem It.js{σ:af U}{i:It U}{x:i.T}(h:i.read σ=some x):σ.get i.s=some (i.sv x)/\∀p∈i.cV x,σ.bH p.1=some p.2:=by
 cases i with
 |slot s key b=>
  simp only[It.read] at h
  split at h
  ·rename_i a ha
   obtain⟨rfl,g2⟩:=BK.js h
   exact⟨ha,g2⟩
  ·cases h
 |box s k bs=>
  simp only[It.read] at h
  split at h
  ·rename_i k' hk
   rw[gT] at h
   split at h
   ·rename_i lT
    have:=nK.1 lT
    subst this
    split at h
    ·rename_i as he
     obtain⟨rfl,g2⟩:=wC.js h
     refine⟨hk,fun p hp=> ?_⟩
     simp only[It.cV,jw] at hp
     rcases hp with rfl|hp
     ·exact he
     ·exact g2 p hp
    ·cases h
   ·cases h
  ·cases h
def It.nil:It U->List (oj×U.Ty×Option Bool)
 | .slot s key (.own τ d)=>bif iw key (s,1024) then[(.slot s 0,τ,some d)] else[]
 | .box _ k bs=>bs.zipIdx.flatMap fun(b,j)=>match b with| .own τ true=>[(.box k j,τ,some true)]| .shr τ=>[(.box k j,τ,none)]|_=>[]
 |_=>[]
abbrev rK.T:List (It U)->Type
 |[]=>Unit
 |i::r=>i.T×rK.T r
def rK.bp:(l:List (It U))->rK.T l->List (Nat×SV U)
 |[],_=>[]
 |i::r,x=>(i.s,i.sv x.1)::rK.bp r x.2
def rK.cV:(l:List (It U))->rK.T l->List (Key×ir U)
 |[],_=>[]
 |i::r,x=>i.cV x.1++rK.cV r x.2
def rK.read(σ:af U):(l:List (It U))->Option (rK.T l)
 |[]=>some ()
 |i::r=>match i.read σ,rK.read σ r with
  |some x,some y=>some (x,y)
  |_,_=>none
theorem rK.js{σ:af U}:∀{l:List (It U)}{x:rK.T l},rK.read σ l=some x->(∀p∈rK.bp l x,σ.get p.1=some p.2)/\∀p∈rK.cV l x,σ.bH p.1=some p.2
 |[],x,h=>⟨fun p hp=>by simp[rK.bp] at hp,fun p hp=>by simp[rK.cV] at hp⟩
 |i::r,x,h=>by
  simp only[rK.read] at h
  split at h
  ·rename_i x' y' h1 h2
   cases h
   obtain⟨g1,g2⟩:=It.js h1
   obtain⟨g3,g4⟩:=rK.js h2
   refine⟨fun p hp=> ?_,fun p hp=> ?_⟩
   ·simp only[rK.bp,jw] at hp
    rcases hp with rfl|hp
    ·exact g1
    ·exact g3 p hp
   ·simp only[rK.cV,kA] at hp
    exact hp.elim (g2 p) (g4 p)
  ·cases h
theorem rK.Cz:∀{l:List (It U)}{x:rK.T l},∀p∈rK.bp l x,p.1∈l.map It.s
 |[],x,p,hp=>by simp[rK.bp] at hp
 |i::r,x,p,hp=>by
  simp only[rK.bp,jw] at hp
  rcases hp with rfl|hp
  ·simp
  ·have:=rK.Cz (l:=r) p hp
   simp only[tI,jw]
   exact .inr this
theorem It.abA{i:It U}{p:oj×U.Ty×Option Bool}(hp:p∈i.nil){s j:Nat}(he:p.1=.slot s j):s=i.s:=by
 unfold It.nil at hp
 split at hp
 ·rw[gT] at hp
  split at hp
  ·rw[oa] at hp
   subst hp
   cases he;rfl
  ·simp at hp
 ·obtain⟨⟨b,j'⟩,_,hb⟩:=nl.1 hp
  simp only at hb
  split at hb
  ·rw[oa] at hb
   subst hb
   cases he
  ·rw[oa] at hb
   subst hb
   cases he
  ·simp at hb
 ·simp at hp
def It.SF:It U->List Nat
 | .slot s _ (.shr _)=>[s]
 |_=>[]
def It.R5:It U->List Key
 | .slot _ key (.part _)=>[key]
 | .box _ k bs=>bs.zipIdx.flatMap fun(b,j)=>match b with| .part _=>[(k.1,4096*(k.2+1)+j)]|_=>[]
 |_=>[]
def It.SG:It U->List Key
 | .box _ k bs=>bs.zipIdx.flatMap fun(b,j)=>match b with| .shr _=>[(k.1,4096*(k.2+1)+j)]|_=>[]
 |_=>[]
def It.R2:It U->List Key
 | .slot _ key (.own _ false)=>[key]
 | .box _ k bs=>bs.zipIdx.flatMap fun(b,j)=>match b with| .own _ false=>[(k.1,4096*(k.2+1)+j)]|_=>[]
 |_=>[]
def aB(l:List (It U))(I:rK.T l->rK.T l->Prop)(μ:rK.T l->Nat):rJ U where
 X:=rK.T l
 bp:=rK.bp l
 cV:=rK.cV l
 un:=fun σ K=>match rK.read σ l with|some x=>K x|none=>False
 nil:=l.flatMap It.nil
 SF:=l.flatMap It.SF
 SG:=l.flatMap It.SG
 R2:=l.flatMap It.R2
 R5:=l.flatMap It.R5
 I:=I
 μ:=μ
 all:=fun P=>∀y,P y
 Ob:=fun _ h=>h
 names:=l.map It.s
 Za:=fun x p hp=>rK.Cz p hp
 nin:=fun p hp s j he=>by
  obtain⟨i,hi,hp⟩:=nl.1 hp
  exact lH.2 ⟨i,hi,(It.abA hp he).symm⟩
 law:=fun σ K h=>by
  split at h
  ·rename_i x hx
   obtain⟨h1,h2⟩:=rK.js hx
   exact⟨x,h,h1,h2⟩
  ·exact h.elim
def Yo(A B:rJ U):rJ U where
 X:=A.X ⊕ B.X
 bp:=Sum.elim A.bp B.bp
 cV:=Sum.elim A.cV B.cV
 un:=fun σ K=>A.un σ (fun x=>K (.inl x))\/B.un σ (fun x=>K (.inr x))
 nil:=A.nil
 SF:=A.SF
 SG:=A.SG
 R2:=A.R2
 R5:=A.R5
 I:=fun _ y=>Sum.elim (fun b=>A.I b b) (fun b=>B.I b b) y
 μ:=Sum.elim A.μ B.μ
 all:=fun P=>A.all (fun b=>P (.inl b))/\B.all (fun b=>P (.inr b))
 Ob:=fun P h y=>match y with
  | .inl b=>A.Ob _ h.1 b
  | .inr b=>B.Ob _ h.2 b
 names:=A.names++B.names
 Za:=fun x p hp=>match x with
  | .inl x=>pw _ (A.Za x p hp)
  | .inr x=>oq _ (B.Za x p hp)
 nin:=fun p hp s j he=>pw _ (A.nin p hp s j he)
 law:=fun σ K h=>by
  rcases h with h|h
  ·obtain⟨x,h1,h2,h3⟩:=A.law _ _ h
   exact⟨.inl x,h1,h2,h3⟩
  ·obtain⟨x,h1,h2,h3⟩:=B.law _ _ h
   exact⟨.inr x,h1,h2,h3⟩
def bh:List (Nat×rJ U)->Nat->Option (rJ U)
 |[],_=>none
 |(i,a)::r,n=>bif Nat.beq i n then some a else bh r n
end AM
