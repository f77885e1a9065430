/- THE ABSTRACT MACHINE: what is known at a loop's head, by a list of the variables that matter. -/
import Derived.Test.YtjlajhgabffmpaaGreatQAmEnv
namespace AM
open Go
variable{U:lu}
inductive LK where
 |int (k:IntKind)
 |bool
 |str
 |any
abbrev LK.T:LK->Type
 | .int _=>Int
 | .bool=>Bool
 | .str=>ByteArray
 | .any=>Value
def LK.mk:(l:LK)->l.T->Value
 | .int k,n=> .int k n
 | .bool,b=> .bool b
 | .str,s=> .string s
 | .any,v=>v
def LK.get:(l:LK)->Value->Option l.T
 | .int k,.int k' n=>bif decide (k=k') then some n else none
 | .bool,.bool b=>some b
 | .str,.string s=>some s
 | .any,v=>some v
 |_,_=>none
theorem LK.get_some{l:LK}{v:Value}{x:l.T}(h:l.get v=some x):v=l.mk x:=by
 unfold LK.get at h
 split at h
 ·rename_i k k' n
  rw[iu] at h
  split at h
  ·rename_i hk
   have:=of_decide_eq_true hk
   subst this
   cases h;rfl
  ·cases h
 ·cases h;rfl
 ·cases h;rfl
 ·cases h;rfl
 ·cases h
inductive BK (U:lu) where
 |lit (l:LK)
 |own (τ:U.Ty) (deep:Bool)
 |shr (τ:U.Ty)
 |part (τ:U.Ty)
 |al
abbrev BK.T:BK U->Type
 | .lit l=>l.T
 | .own τ _=>List (U.T τ)
 | .shr τ=>List (U.T τ)
 | .part τ=>List (U.T τ)×(Nat->Bool)
 | .al=>Unit
def BK.ac(key:Key):(b:BK U)->b.T->AC U
 | .lit l,x=> .c (.lit (l.mk x))
 | .own _ _,_=> .ref key []
 | .shr τ,xs=> .c (.sl τ xs)
 | .part _,_=> .ref key []
 | .al,_=> .ref key []
def BK.bM(key:Key):(b:BK U)->b.T->List (Key×i_ U)
 | .own τ d,xs=>[(key,.arr ⟨τ,xs⟩ d)]
 | .part τ,x=>[(key,.part ⟨τ,x.1⟩ x.2)]
 |_,_=>[]
def aeh(a b:Bool):Bool:=match a,b with|true,true=>true|false,false=>true|_,_=>false
def BK.read(key:Key)(σ:ai U):(b:BK U)->AC U->Option b.T
 | .lit l,.c (.lit v)=>l.get v
 | .own τ d,.ref k []=>bif jb k key then(match σ.bM k with
  |some (.arr a d')=>bif aeh d d' then jo τ a else none
  |_=>none) else none
 | .shr τ,.c (.sl Gk xs)=>jo τ ⟨Gk,xs⟩
 | .part τ,.ref k []=>bif jb k key then(match σ.bM k with
  |some (.part a dead)=>match jo τ a with|some xs=>some (xs,dead)|none=>none
  |_=>none) else none
 | .al,.ref k []=>bif jb k key then some () else none
 |_,_=>none
theorem BK.ka{key:Key}{σ:ai U}{b:BK U}{a:AC U}{x:b.T}(h:b.read key σ a=some x):a=b.ac key x/\∀p∈b.bM key x,σ.bM p.1=some p.2:=by
 unfold BK.read at h
 split at h
 ·rename_i l v
  have:=LK.get_some h
  subst this
  exact⟨rfl,fun p hp=>by simp[BK.bM] at hp⟩
 ·rename_i τ d k
  rw[iu] at h
  split at h
  ·rename_i hk
   have:=pA.1 hk
   subst this
   split at h
   ·rename_i a0 d' he
    rw[iu] at h
    split at h
    ·rename_i hd
     have kY:d=d':=by cases d<;>cases d'<;>first|rfl|cases hd
     subst kY
     have:=eE h
     subst this
     exact⟨rfl,fun p hp=>by simp only[BK.bM,mF] at hp;subst hp;exact he⟩
    ·cases h
   ·cases h
  ·cases h
 ·rename_i τ Gk xs
  have:=eE h
  cases this
  exact⟨rfl,fun p hp=>by simp[BK.bM] at hp⟩
 ·rename_i τ k
  rw[iu] at h
  split at h
  ·rename_i hk
   have:=pA.1 hk
   subst this
   split at h
   ·rename_i a0 dead he
    split at h
    ·rename_i xs hx
     cases h
     have:=eE hx
     subst this
     exact⟨rfl,fun p hp=>by simp only[BK.bM,mF] at hp;subst hp;exact he⟩
    ·cases h
   ·cases h
  ·cases h
 ·rename_i k
  rw[iu] at h
  split at h
  ·rename_i hk
   have:=pA.1 hk
   subst this
   exact⟨rfl,fun p hp=>by simp[BK.bM] at hp⟩
  ·cases h
 ·cases h
abbrev zq.T:List (BK U)->Type
 |[]=>Unit
 |[b]=>b.T
 |b::r=>b.T×zq.T r
abbrev zq.S:List (BK U)->Type
 |[]=>Unit
 |b::r=>b.T×zq.S r
def zq.B7(k:Key):(j:Nat)->(bs:List (BK U))->zq.S bs->List (AC U)
 |_,[],_=>[]
 |j,b::r,(x,y)=>b.ac (k.1,4096*(k.2+1)+j) x::zq.B7 k (j+1) r y
def zq.dV(k:Key):(j:Nat)->(bs:List (BK U))->zq.S bs->List (Key×i_ U)
 |_,[],_=>[]
 |j,b::r,(x,y)=>b.bM (k.1,4096*(k.2+1)+j) x++zq.dV k (j+1) r y
def zq.read(k:Key)(σ:ai U):(j:Nat)->(bs:List (BK U))->List (AC U)->Option (zq.S bs)
 |_,[],[]=>some ()
 |j,b::r,a::as=>match b.read (k.1,4096*(k.2+1)+j) σ a,zq.read k σ (j+1) r as with
  |some x,some y=>some (x,y)
  |_,_=>none
 |_,_,_=>none
theorem zq.ka{k:Key}{σ:ai U}:∀{bs:List (BK U)}{j:Nat}{as:List (AC U)}{x:zq.S bs},zq.read k σ j bs as=some x->as=zq.B7 k j bs x/\∀p∈zq.dV k j bs x,σ.bM p.1=some p.2
 |[],j,[],x,h=>⟨rfl,fun p hp=>by simp[zq.dV] at hp⟩
 |[],j,_::_,x,h=>by simp[zq.read] at h
 |b::r,j,[],x,h=>by simp[zq.read] at h
 |b::r,j,a::as,(x,y),h=>by
  simp only[zq.read] at h
  split at h
  ·rename_i x' y' h1 h2
   cases h
   obtain⟨g1,g2⟩:=BK.ka h1
   obtain⟨g3,g4⟩:=zq.ka h2
   refine⟨by simp only[zq.B7];rw[<-g1,<-g3],fun p hp=> ?_⟩
   simp only[zq.dV,jO] at hp
   exact hp.elim (g2 p) (g4 p)
  ·cases h
inductive It (U:lu) where
 |slot (s:Nat) (key:Key) (b:BK U)
 |box (s:Nat) (k:Key) (bs:List (BK U))
abbrev It.T:It U->Type
 | .slot _ _ b=>b.T
 | .box _ _ bs=>zq.S bs
def It.s:It U->Nat
 | .slot s _ _=>s
 | .box s _ _=>s
def It.sv:(i:It U)->i.T->SV U
 | .slot _ key b,x=>one (b.ac key x)
 | .box _ k _,_=>one (.kH k 0)
def It.dV:(i:It U)->i.T->List (Key×i_ U)
 | .slot _ key b,x=>b.bM key x
 | .box _ k bs,x=>(k,.box (zq.B7 k 0 bs x))::zq.dV k 0 bs x
def It.read(σ:ai U):(i:It U)->Option i.T
 | .slot s key b=>match σ.get s with
  |some (.v ⟨false,[a]⟩)=>b.read key σ a
  |_=>none
 | .box s k bs=>match σ.get s with
  |some (.v ⟨false,[.kH k' 0]⟩)=>bif jb k' k then(match σ.bM k with
   |some (.box as)=>zq.read k σ 0 bs as
   |_=>none) else none
  |_=>none
theorem It.ka{σ:ai U}{i:It U}{x:i.T}(h:i.read σ=some x):σ.get i.s=some (i.sv x)/\∀p∈i.dV x,σ.bM p.1=some p.2:=by
 cases i with
 |slot s key b=>
  simp only[It.read] at h
  split at h
  ·rename_i a ha
   obtain⟨rfl,g2⟩:=BK.ka h
   exact⟨ha,g2⟩
  ·cases h
 |box s k bs=>
  simp only[It.read] at h
  split at h
  ·rename_i k' hk
   rw[iu] at h
   split at h
   ·rename_i EK
    have:=pA.1 EK
    subst this
    split at h
    ·rename_i as he
     obtain⟨rfl,g2⟩:=zq.ka h
     refine⟨hk,fun p hp=> ?_⟩
     simp only[It.dV,kf] at hp
     rcases hp with rfl|hp
     ·exact he
     ·exact g2 p hp
    ·cases h
   ·cases h
  ·cases h
def It.nil:It U->List (qk×U.Ty×Option Bool)
 | .slot s key (.own τ d)=>bif jb key (s,1024) then[(.slot s 0,τ,some d)] else[]
 | .box _ k bs=>bs.zipIdx.flatMap fun(b,j)=>match b with| .own τ true=>[(.box k j,τ,some true)]| .shr τ=>[(.box k j,τ,none)]|_=>[]
 |_=>[]
abbrev uh.T:List (It U)->Type
 |[]=>Unit
 |i::r=>i.T×uh.T r
def uh.bI:(l:List (It U))->uh.T l->List (Nat×SV U)
 |[],_=>[]
 |i::r,x=>(i.s,i.sv x.1)::uh.bI r x.2
def uh.dV:(l:List (It U))->uh.T l->List (Key×i_ U)
 |[],_=>[]
 |i::r,x=>i.dV x.1++uh.dV r x.2
def uh.read(σ:ai U):(l:List (It U))->Option (uh.T l)
 |[]=>some ()
 |i::r=>match i.read σ,uh.read σ r with
  |some x,some y=>some (x,y)
  |_,_=>none
theorem uh.ka{σ:ai U}:∀{l:List (It U)}{x:uh.T l},uh.read σ l=some x->(∀p∈uh.bI l x,σ.get p.1=some p.2)/\∀p∈uh.dV l x,σ.bM p.1=some p.2
 |[],x,h=>⟨fun p hp=>by simp[uh.bI] at hp,fun p hp=>by simp[uh.dV] at hp⟩
 |i::r,x,h=>by
  simp only[uh.read] at h
  split at h
  ·rename_i x' y' h1 h2
   cases h
   obtain⟨g1,g2⟩:=It.ka h1
   obtain⟨g3,g4⟩:=uh.ka h2
   refine⟨fun p hp=> ?_,fun p hp=> ?_⟩
   ·simp only[uh.bI,kf] at hp
    rcases hp with rfl|hp
    ·exact g1
    ·exact g3 p hp
   ·simp only[uh.dV,jO] at hp
    exact hp.elim (g2 p) (g4 p)
  ·cases h
theorem uh.Gx:∀{l:List (It U)}{x:uh.T l},∀p∈uh.bI l x,p.1∈l.map It.s
 |[],x,p,hp=>by simp[uh.bI] at hp
 |i::r,x,p,hp=>by
  simp only[uh.bI,kf] at hp
  rcases hp with rfl|hp
  ·simp
  ·have:=uh.Gx (l:=r) p hp
   simp only[wb,kf]
   exact .inr this
theorem It.adv{i:It U}{p:qk×U.Ty×Option Bool}(hp:p∈i.nil){s j:Nat}(he:p.1=.slot s j):s=i.s:=by
 unfold It.nil at hp
 split at hp
 ·rw[iu] at hp
  split at hp
  ·rw[mF] at hp
   subst hp
   cases he;rfl
  ·simp at hp
 ·obtain⟨⟨b,j'⟩,_,hb⟩:=ow.1 hp
  simp only at hb
  split at hb
  ·rw[mF] at hb
   subst hb
   cases he
  ·rw[mF] at hb
   subst hb
   cases he
  ·simp at hb
 ·simp at hp
def It.frz:It U->List Nat
 | .slot s _ (.shr _)=>[s]
 |_=>[]
def It.prt:It U->List Key
 | .slot _ key (.part _)=>[key]
 | .box _ k bs=>bs.zipIdx.flatMap fun(b,j)=>match b with| .part _=>[(k.1,4096*(k.2+1)+j)]|_=>[]
 |_=>[]
def It.frk:It U->List Key
 | .box _ k bs=>bs.zipIdx.flatMap fun(b,j)=>match b with| .shr _=>[(k.1,4096*(k.2+1)+j)]|_=>[]
 |_=>[]
def It.shk:It U->List Key
 | .slot _ key (.own _ false)=>[key]
 | .box _ k bs=>bs.zipIdx.flatMap fun(b,j)=>match b with| .own _ false=>[(k.1,4096*(k.2+1)+j)]|_=>[]
 |_=>[]
def aU(l:List (It U))(I:uh.T l->uh.T l->Prop)(μ:uh.T l->Nat):ud U where
 X:=uh.T l
 bI:=uh.bI l
 dV:=uh.dV l
 un:=fun σ K=>match uh.read σ l with|some x=>K x|none=>False
 nil:=l.flatMap It.nil
 frz:=l.flatMap It.frz
 frk:=l.flatMap It.frk
 shk:=l.flatMap It.shk
 prt:=l.flatMap It.prt
 I:=I
 μ:=μ
 all:=fun P=>∀y,P y
 aej:=fun _ h=>h
 names:=l.map It.s
 inn:=fun x p hp=>uh.Gx p hp
 nin:=fun p hp s j he=>by
  obtain⟨i,hi,hp⟩:=ow.1 hp
  exact l_.2 ⟨i,hi,(It.adv hp he).symm⟩
 law:=fun σ K h=>by
  split at h
  ·rename_i x hx
   obtain⟨h1,h2⟩:=uh.ka hx
   exact⟨x,h,h1,h2⟩
  ·exact h.elim
def bW:List (Nat×ud U)->Nat->Option (ud U)
 |[],_=>none
 |(i,a)::r,n=>bif Nat.beq i n then some a else bW r n
end AM
