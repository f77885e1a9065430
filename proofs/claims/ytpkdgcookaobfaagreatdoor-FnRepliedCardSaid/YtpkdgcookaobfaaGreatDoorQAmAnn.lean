/- THE ABSTRACT MACHINE: what is known at a loop's head, by a list of the variables that matter. -/
import Derived.Test.YtpkdgcookaobfaaGreatDoorQAmEnv
namespace AM
open Go
variable{U:lz}
inductive LK where
 |int (k:IntKind)
 |bool
 |str
 |any
abbrev LK.T:LK->Type
 | .int _=>Int
 | .bool=>Bool
 | .str=>ByteArray
 | .any=>Value
def LK.mk:(l:LK)->l.T->Value
 | .int k,n=> .int k n
 | .bool,b=> .bool b
 | .str,s=> .string s
 | .any,v=>v
def LK.get:(l:LK)->Value->Option l.T
 | .int k,.int k' n=>bif decide (k=k') then some n else none
 | .bool,.bool b=>some b
 | .str,.string s=>some s
 | .any,v=>some v
 |_,_=>none
theorem LK.get_some{l:LK}{v:Value}{x:l.T}(h:l.get v=some x):v=l.mk x:=by
 unfold LK.get at h
 split at h
 ·rename_i k k' n
  rw[im] at h
  split at h
  ·rename_i hk
   have:=of_decide_eq_true hk
   subst this
   cases h;rfl
  ·cases h
 ·cases h;rfl
 ·cases h;rfl
 ·cases h;rfl
 ·cases h
inductive BK (U:lz) where
 |lit (l:LK)
 |own (τ:U.Ty) (deep:Bool)
 |shr (τ:U.Ty)
 |part (τ:U.Ty)
 |al
abbrev BK.T:BK U->Type
 | .lit l=>l.T
 | .own τ _=>List (U.T τ)
 | .shr τ=>List (U.T τ)
 | .part τ=>List (U.T τ)×(Nat->Bool)
 | .al=>Unit
def BK.ac(key:Key):(b:BK U)->b.T->AC U
 | .lit l,x=> .c (.lit (l.mk x))
 | .own _ _,_=> .ref key []
 | .shr τ,xs=> .c (.sl τ xs)
 | .part _,_=> .ref key []
 | .al,_=> .ref key []
def BK.bO(key:Key):(b:BK U)->b.T->List (Key×iN U)
 | .own τ d,xs=>[(key,.arr ⟨τ,xs⟩ d)]
 | .part τ,x=>[(key,.part ⟨τ,x.1⟩ x.2)]
 |_,_=>[]
def aeL(a b:Bool):Bool:=match a,b with|true,true=>true|false,false=>true|_,_=>false
def BK.read(key:Key)(σ:ak U):(b:BK U)->AC U->Option b.T
 | .lit l,.c (.lit v)=>l.get v
 | .own τ d,.ref k []=>bif iR k key then(match σ.bO k with
  |some (.arr a d')=>bif aeL d d' then jd τ a else none
  |_=>none) else none
 | .shr τ,.c (.sl Gj xs)=>jd τ ⟨Gj,xs⟩
 | .part τ,.ref k []=>bif iR k key then(match σ.bO k with
  |some (.part a dead)=>match jd τ a with|some xs=>some (xs,dead)|none=>none
  |_=>none) else none
 | .al,.ref k []=>bif iR k key then some () else none
 |_,_=>none
theorem BK.jW{key:Key}{σ:ak U}{b:BK U}{a:AC U}{x:b.T}(h:b.read key σ a=some x):a=b.ac key x/\∀p∈b.bO key x,σ.bO p.1=some p.2:=by
 unfold BK.read at h
 split at h
 ·rename_i l v
  have:=LK.get_some h
  subst this
  exact⟨rfl,fun p hp=>by simp[BK.bO] at hp⟩
 ·rename_i τ d k
  rw[im] at h
  split at h
  ·rename_i hk
   have:=pK.1 hk
   subst this
   split at h
   ·rename_i a0 d' he
    rw[im] at h
    split at h
    ·rename_i hd
     have kY:d=d':=by cases d<;>cases d'<;>first|rfl|cases hd
     subst kY
     have:=d_ h
     subst this
     exact⟨rfl,fun p hp=>by simp only[BK.bO,mI] at hp;subst hp;exact he⟩
    ·cases h
   ·cases h
  ·cases h
 ·rename_i τ Gj xs
  have:=d_ h
  cases this
  exact⟨rfl,fun p hp=>by simp[BK.bO] at hp⟩
 ·rename_i τ k
  rw[im] at h
  split at h
  ·rename_i hk
   have:=pK.1 hk
   subst this
   split at h
   ·rename_i a0 dead he
    split at h
    ·rename_i xs hx
     cases h
     have:=d_ hx
     subst this
     exact⟨rfl,fun p hp=>by simp only[BK.bO,mI] at hp;subst hp;exact he⟩
    ·cases h
   ·cases h
  ·cases h
 ·rename_i k
  rw[im] at h
  split at h
  ·rename_i hk
   have:=pK.1 hk
   subst this
   exact⟨rfl,fun p hp=>by simp[BK.bO] at hp⟩
  ·cases h
 ·cases h
abbrev zz.T:List (BK U)->Type
 |[]=>Unit
 |[b]=>b.T
 |b::r=>b.T×zz.T r
abbrev zz.S:List (BK U)->Type
 |[]=>Unit
 |b::r=>b.T×zz.S r
def zz.Ca(k:Key):(j:Nat)->(bs:List (BK U))->zz.S bs->List (AC U)
 |_,[],_=>[]
 |j,b::r,(x,y)=>b.ac (k.1,4096*(k.2+1)+j) x::zz.Ca k (j+1) r y
def zz.dH(k:Key):(j:Nat)->(bs:List (BK U))->zz.S bs->List (Key×iN U)
 |_,[],_=>[]
 |j,b::r,(x,y)=>b.bO (k.1,4096*(k.2+1)+j) x++zz.dH k (j+1) r y
def zz.read(k:Key)(σ:ak U):(j:Nat)->(bs:List (BK U))->List (AC U)->Option (zz.S bs)
 |_,[],[]=>some ()
 |j,b::r,a::as=>match b.read (k.1,4096*(k.2+1)+j) σ a,zz.read k σ (j+1) r as with
  |some x,some y=>some (x,y)
  |_,_=>none
 |_,_,_=>none
theorem zz.jW{k:Key}{σ:ak U}:∀{bs:List (BK U)}{j:Nat}{as:List (AC U)}{x:zz.S bs},zz.read k σ j bs as=some x->as=zz.Ca k j bs x/\∀p∈zz.dH k j bs x,σ.bO p.1=some p.2
 |[],j,[],x,h=>⟨rfl,fun p hp=>by simp[zz.dH] at hp⟩
 |[],j,_::_,x,h=>by simp[zz.read] at h
 |b::r,j,[],x,h=>by simp[zz.read] at h
 |b::r,j,a::as,(x,y),h=>by
  simp only[zz.read] at h
  split at h
  ·rename_i x' y' h1 h2
   cases h
   obtain⟨g1,g2⟩:=BK.jW h1
   obtain⟨g3,g4⟩:=zz.jW h2
   refine⟨by simp only[zz.Ca];rw[<-g1,<-g3],fun p hp=> ?_⟩
   simp only[zz.dH,jC] at hp
   exact hp.elim (g2 p) (g4 p)
  ·cases h
inductive It (U:lz) where
 |slot (s:Nat) (key:Key) (b:BK U)
 |box (s:Nat) (k:Key) (bs:List (BK U))
abbrev It.T:It U->Type
 | .slot _ _ b=>b.T
 | .box _ _ bs=>zz.S bs
def It.s:It U->Nat
 | .slot s _ _=>s
 | .box s _ _=>s
def It.sv:(i:It U)->i.T->SV U
 | .slot _ key b,x=>one (b.ac key x)
 | .box _ k _,_=>one (.ky k 0)
def It.dH:(i:It U)->i.T->List (Key×iN U)
 | .slot _ key b,x=>b.bO key x
 | .box _ k bs,x=>(k,.box (zz.Ca k 0 bs x))::zz.dH k 0 bs x
def It.read(σ:ak U):(i:It U)->Option i.T
 | .slot s key b=>match σ.get s with
  |some (.v ⟨false,[a]⟩)=>b.read key σ a
  |_=>none
 | .box s k bs=>match σ.get s with
  |some (.v ⟨false,[.ky k' 0]⟩)=>bif iR k' k then(match σ.bO k with
   |some (.box as)=>zz.read k σ 0 bs as
   |_=>none) else none
  |_=>none
theorem It.jW{σ:ak U}{i:It U}{x:i.T}(h:i.read σ=some x):σ.get i.s=some (i.sv x)/\∀p∈i.dH x,σ.bO p.1=some p.2:=by
 cases i with
 |slot s key b=>
  simp only[It.read] at h
  split at h
  ·rename_i a ha
   obtain⟨rfl,g2⟩:=BK.jW h
   exact⟨ha,g2⟩
  ·cases h
 |box s k bs=>
  simp only[It.read] at h
  split at h
  ·rename_i k' hk
   rw[im] at h
   split at h
   ·rename_i EN
    have:=pK.1 EN
    subst this
    split at h
    ·rename_i as he
     obtain⟨rfl,g2⟩:=zz.jW h
     refine⟨hk,fun p hp=> ?_⟩
     simp only[It.dH,jZ] at hp
     rcases hp with rfl|hp
     ·exact he
     ·exact g2 p hp
    ·cases h
   ·cases h
  ·cases h
def It.nil:It U->List (qz×U.Ty×Option Bool)
 | .slot s key (.own τ d)=>bif iR key (s,1024) then[(.slot s 0,τ,some d)] else[]
 | .box _ k bs=>bs.zipIdx.flatMap fun(b,j)=>match b with| .own τ true=>[(.box k j,τ,some true)]| .shr τ=>[(.box k j,τ,none)]|_=>[]
 |_=>[]
abbrev uq.T:List (It U)->Type
 |[]=>Unit
 |i::r=>i.T×uq.T r
def uq.bM:(l:List (It U))->uq.T l->List (Nat×SV U)
 |[],_=>[]
 |i::r,x=>(i.s,i.sv x.1)::uq.bM r x.2
def uq.dH:(l:List (It U))->uq.T l->List (Key×iN U)
 |[],_=>[]
 |i::r,x=>i.dH x.1++uq.dH r x.2
def uq.read(σ:ak U):(l:List (It U))->Option (uq.T l)
 |[]=>some ()
 |i::r=>match i.read σ,uq.read σ r with
  |some x,some y=>some (x,y)
  |_,_=>none
theorem uq.jW{σ:ak U}:∀{l:List (It U)}{x:uq.T l},uq.read σ l=some x->(∀p∈uq.bM l x,σ.get p.1=some p.2)/\∀p∈uq.dH l x,σ.bO p.1=some p.2
 |[],x,h=>⟨fun p hp=>by simp[uq.bM] at hp,fun p hp=>by simp[uq.dH] at hp⟩
 |i::r,x,h=>by
  simp only[uq.read] at h
  split at h
  ·rename_i x' y' h1 h2
   cases h
   obtain⟨g1,g2⟩:=It.jW h1
   obtain⟨g3,g4⟩:=uq.jW h2
   refine⟨fun p hp=> ?_,fun p hp=> ?_⟩
   ·simp only[uq.bM,jZ] at hp
    rcases hp with rfl|hp
    ·exact g1
    ·exact g3 p hp
   ·simp only[uq.dH,jC] at hp
    exact hp.elim (g2 p) (g4 p)
  ·cases h
theorem uq.Gx:∀{l:List (It U)}{x:uq.T l},∀p∈uq.bM l x,p.1∈l.map It.s
 |[],x,p,hp=>by simp[uq.bM] at hp
 |i::r,x,p,hp=>by
  simp only[uq.bM,jZ] at hp
  rcases hp with rfl|hp
  ·simp
  ·have:=uq.Gx (l:=r) p hp
   simp only[wh,jZ]
   exact .inr this
theorem It.adV{i:It U}{p:qz×U.Ty×Option Bool}(hp:p∈i.nil){s j:Nat}(he:p.1=.slot s j):s=i.s:=by
 unfold It.nil at hp
 split at hp
 ·rw[im] at hp
  split at hp
  ·rw[mI] at hp
   subst hp
   cases he;rfl
  ·simp at hp
 ·obtain⟨⟨b,j'⟩,_,hb⟩:=oQ.1 hp
  simp only at hb
  split at hb
  ·rw[mI] at hb
   subst hb
   cases he
  ·rw[mI] at hb
   subst hb
   cases he
  ·simp at hb
 ·simp at hp
def It.frz:It U->List Nat
 | .slot s _ (.shr _)=>[s]
 |_=>[]
def It.prt:It U->List Key
 | .slot _ key (.part _)=>[key]
 | .box _ k bs=>bs.zipIdx.flatMap fun(b,j)=>match b with| .part _=>[(k.1,4096*(k.2+1)+j)]|_=>[]
 |_=>[]
def It.frk:It U->List Key
 | .box _ k bs=>bs.zipIdx.flatMap fun(b,j)=>match b with| .shr _=>[(k.1,4096*(k.2+1)+j)]|_=>[]
 |_=>[]
def It.shk:It U->List Key
 | .slot _ key (.own _ false)=>[key]
 | .box _ k bs=>bs.zipIdx.flatMap fun(b,j)=>match b with| .own _ false=>[(k.1,4096*(k.2+1)+j)]|_=>[]
 |_=>[]
def aY(l:List (It U))(I:uq.T l->uq.T l->Prop)(μ:uq.T l->Nat):ul U where
 X:=uq.T l
 bM:=uq.bM l
 dH:=uq.dH l
 un:=fun σ K=>match uq.read σ l with|some x=>K x|none=>False
 nil:=l.flatMap It.nil
 frz:=l.flatMap It.frz
 frk:=l.flatMap It.frk
 shk:=l.flatMap It.shk
 prt:=l.flatMap It.prt
 I:=I
 μ:=μ
 all:=fun P=>∀y,P y
 aeN:=fun _ h=>h
 names:=l.map It.s
 inn:=fun x p hp=>uq.Gx p hp
 nin:=fun p hp s j he=>by
  obtain⟨i,hi,hp⟩:=oQ.1 hp
  exact mf.2 ⟨i,hi,(It.adV hp he).symm⟩
 law:=fun σ K h=>by
  split at h
  ·rename_i x hx
   obtain⟨h1,h2⟩:=uq.jW hx
   exact⟨x,h,h1,h2⟩
  ·exact h.elim
def b_:List (Nat×ul U)->Nat->Option (ul U)
 |[],_=>none
 |(i,a)::r,n=>bif Nat.beq i n then some a else b_ r n
end AM
