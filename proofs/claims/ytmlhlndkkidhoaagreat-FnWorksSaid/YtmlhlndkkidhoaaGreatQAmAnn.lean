/- THE ABSTRACT MACHINE: what is known at a loop's head, by a list of the variables that matter. -/
import Derived.Test.YtmlhlndkkidhoaaGreatQAmEnv
namespace AM
open Go
variable{U:kZ}
inductive LK where
 |int (k:IntKind)
 |bool
 |str
 |any
abbrev LK.T:LK->Type
 | .int _=>Int
 | .bool=>Bool
 | .str=>ByteArray
 | .any=>Value
def LK.mk:(l:LK)->l.T->Value
 | .int k,n=> .int k n
 | .bool,b=> .bool b
 | .str,s=> .string s
 | .any,v=>v
def LK.get:(l:LK)->Value->Option l.T
 | .int k,.int k' n=>bif decide (k=k') then some n else none
 | .bool,.bool b=>some b
 | .str,.string s=>some s
 | .any,v=>some v
 |_,_=>none
theorem LK.get_some{l:LK}{v:Value}{x:l.T}(h:l.get v=some x):v=l.mk x:=by
 unfold LK.get at h
 split at h
 ·rename_i k k' n
  rw[h_] at h
  split at h
  ·rename_i hk
   have:=of_decide_eq_true hk
   subst this
   cases h;rfl
  ·cases h
 ·cases h;rfl
 ·cases h;rfl
 ·cases h;rfl
 ·cases h
inductive BK (U:kZ) where
 |lit (l:LK)
 |own (τ:U.Ty) (deep:Bool)
 |shr (τ:U.Ty)
 |part (τ:U.Ty)
 |al
abbrev BK.T:BK U->Type
 | .lit l=>l.T
 | .own τ _=>List (U.T τ)
 | .shr τ=>List (U.T τ)
 | .part τ=>List (U.T τ)×(Nat->Bool)
 | .al=>Unit
def BK.ac(key:Key):(b:BK U)->b.T->AC U
 | .lit l,x=> .c (.lit (l.mk x))
 | .own _ _,_=> .ref key []
 | .shr τ,xs=> .c (.sl τ xs)
 | .part _,_=> .ref key []
 | .al,_=> .ref key []
def BK.bJ(key:Key):(b:BK U)->b.T->List (Key×iv U)
 | .own τ d,xs=>[(key,.arr ⟨τ,xs⟩ d)]
 | .part τ,x=>[(key,.part ⟨τ,x.1⟩ x.2)]
 |_,_=>[]
def ad3(a b:Bool):Bool:=match a,b with|true,true=>true|false,false=>true|_,_=>false
def BK.read(key:Key)(σ:ah U):(b:BK U)->AC U->Option b.T
 | .lit l,.c (.lit v)=>l.get v
 | .own τ d,.ref k []=>bif iJ k key then(match σ.bJ k with
  |some (.arr a d')=>bif ad3 d d' then iV τ a else none
  |_=>none) else none
 | .shr τ,.c (.sl EK xs)=>iV τ ⟨EK,xs⟩
 | .part τ,.ref k []=>bif iJ k key then(match σ.bJ k with
  |some (.part a dead)=>match iV τ a with|some xs=>some (xs,dead)|none=>none
  |_=>none) else none
 | .al,.ref k []=>bif iJ k key then some () else none
 |_,_=>none
theorem BK.jL{key:Key}{σ:ah U}{b:BK U}{a:AC U}{x:b.T}(h:b.read key σ a=some x):a=b.ac key x/\∀p∈b.bJ key x,σ.bJ p.1=some p.2:=by
 unfold BK.read at h
 split at h
 ·rename_i l v
  have:=LK.get_some h
  subst this
  exact⟨rfl,fun p hp=>by simp[BK.bJ] at hp⟩
 ·rename_i τ d k
  rw[h_] at h
  split at h
  ·rename_i hk
   have:=o6.1 hk
   subst this
   split at h
   ·rename_i a0 d' he
    rw[h_] at h
    split at h
    ·rename_i hd
     have kG:d=d':=by cases d<;>cases d'<;>first|rfl|cases hd
     subst kG
     have:=dQ h
     subst this
     exact⟨rfl,fun p hp=>by simp only[BK.bJ,ma] at hp;subst hp;exact he⟩
    ·cases h
   ·cases h
  ·cases h
 ·rename_i τ EK xs
  have:=dQ h
  cases this
  exact⟨rfl,fun p hp=>by simp[BK.bJ] at hp⟩
 ·rename_i τ k
  rw[h_] at h
  split at h
  ·rename_i hk
   have:=o6.1 hk
   subst this
   split at h
   ·rename_i a0 dead he
    split at h
    ·rename_i xs hx
     cases h
     have:=dQ hx
     subst this
     exact⟨rfl,fun p hp=>by simp only[BK.bJ,ma] at hp;subst hp;exact he⟩
    ·cases h
   ·cases h
  ·cases h
 ·rename_i k
  rw[h_] at h
  split at h
  ·rename_i hk
   have:=o6.1 hk
   subst this
   exact⟨rfl,fun p hp=>by simp[BK.bJ] at hp⟩
  ·cases h
 ·cases h
abbrev yg.T:List (BK U)->Type
 |[]=>Unit
 |[b]=>b.T
 |b::r=>b.T×yg.T r
abbrev yg.S:List (BK U)->Type
 |[]=>Unit
 |b::r=>b.T×yg.S r
def yg.AQ(k:Key):(j:Nat)->(bs:List (BK U))->yg.S bs->List (AC U)
 |_,[],_=>[]
 |j,b::r,(x,y)=>b.ac (k.1,4096*(k.2+1)+j) x::yg.AQ k (j+1) r y
def yg.di(k:Key):(j:Nat)->(bs:List (BK U))->yg.S bs->List (Key×iv U)
 |_,[],_=>[]
 |j,b::r,(x,y)=>b.bJ (k.1,4096*(k.2+1)+j) x++yg.di k (j+1) r y
def yg.read(k:Key)(σ:ah U):(j:Nat)->(bs:List (BK U))->List (AC U)->Option (yg.S bs)
 |_,[],[]=>some ()
 |j,b::r,a::as=>match b.read (k.1,4096*(k.2+1)+j) σ a,yg.read k σ (j+1) r as with
  |some x,some y=>some (x,y)
  |_,_=>none
 |_,_,_=>none
theorem yg.jL{k:Key}{σ:ah U}:∀{bs:List (BK U)}{j:Nat}{as:List (AC U)}{x:yg.S bs},yg.read k σ j bs as=some x->as=yg.AQ k j bs x/\∀p∈yg.di k j bs x,σ.bJ p.1=some p.2
 |[],j,[],x,h=>⟨rfl,fun p hp=>by simp[yg.di] at hp⟩
 |[],j,_::_,x,h=>by simp[yg.read] at h
 |b::r,j,[],x,h=>by simp[yg.read] at h
 |b::r,j,a::as,(x,y),h=>by
  simp only[yg.read] at h
  split at h
  ·rename_i x' y' h1 h2
   cases h
   obtain⟨g1,g2⟩:=BK.jL h1
   obtain⟨g3,g4⟩:=yg.jL h2
   refine⟨by simp only[yg.AQ];rw[<-g1,<-g3],fun p hp=> ?_⟩
   simp only[yg.di,jr] at hp
   exact hp.elim (g2 p) (g4 p)
  ·cases h
inductive It (U:kZ) where
 |slot (s:Nat) (key:Key) (b:BK U)
 |box (s:Nat) (k:Key) (bs:List (BK U))
abbrev It.T:It U->Type
 | .slot _ _ b=>b.T
 | .box _ _ bs=>yg.S bs
def It.s:It U->Nat
 | .slot s _ _=>s
 | .box s _ _=>s
def It.sv:(i:It U)->i.T->SV U
 | .slot _ key b,x=>one (b.ac key x)
 | .box _ k _,_=>one (.kc k 0)
def It.di:(i:It U)->i.T->List (Key×iv U)
 | .slot _ key b,x=>b.bJ key x
 | .box _ k bs,x=>(k,.box (yg.AQ k 0 bs x))::yg.di k 0 bs x
def It.read(σ:ah U):(i:It U)->Option i.T
 | .slot s key b=>match σ.get s with
  |some (.v ⟨false,[a]⟩)=>b.read key σ a
  |_=>none
 | .box s k bs=>match σ.get s with
  |some (.v ⟨false,[.kc k' 0]⟩)=>bif iJ k' k then(match σ.bJ k with
   |some (.box as)=>yg.read k σ 0 bs as
   |_=>none) else none
  |_=>none
theorem It.jL{σ:ah U}{i:It U}{x:i.T}(h:i.read σ=some x):σ.get i.s=some (i.sv x)/\∀p∈i.di x,σ.bJ p.1=some p.2:=by
 cases i with
 |slot s key b=>
  simp only[It.read] at h
  split at h
  ·rename_i a ha
   obtain⟨rfl,g2⟩:=BK.jL h
   exact⟨ha,g2⟩
  ·cases h
 |box s k bs=>
  simp only[It.read] at h
  split at h
  ·rename_i k' hk
   rw[h_] at h
   split at h
   ·rename_i C_
    have:=o6.1 C_
    subst this
    split at h
    ·rename_i as he
     obtain⟨rfl,g2⟩:=yg.jL h
     refine⟨hk,fun p hp=> ?_⟩
     simp only[It.di,jQ] at hp
     rcases hp with rfl|hp
     ·exact he
     ·exact g2 p hp
    ·cases h
   ·cases h
  ·cases h
def It.nil:It U->List (pR×U.Ty×Option Bool)
 | .slot s key (.own τ d)=>bif iJ key (s,1024) then[(.slot s 0,τ,some d)] else[]
 | .box _ k bs=>bs.zipIdx.flatMap fun(b,j)=>match b with| .own τ true=>[(.box k j,τ,some true)]| .shr τ=>[(.box k j,τ,none)]|_=>[]
 |_=>[]
abbrev s9.T:List (It U)->Type
 |[]=>Unit
 |i::r=>i.T×s9.T r
def s9.bz:(l:List (It U))->s9.T l->List (Nat×SV U)
 |[],_=>[]
 |i::r,x=>(i.s,i.sv x.1)::s9.bz r x.2
def s9.di:(l:List (It U))->s9.T l->List (Key×iv U)
 |[],_=>[]
 |i::r,x=>i.di x.1++s9.di r x.2
def s9.read(σ:ah U):(l:List (It U))->Option (s9.T l)
 |[]=>some ()
 |i::r=>match i.read σ,s9.read σ r with
  |some x,some y=>some (x,y)
  |_,_=>none
theorem s9.jL{σ:ah U}:∀{l:List (It U)}{x:s9.T l},s9.read σ l=some x->(∀p∈s9.bz l x,σ.get p.1=some p.2)/\∀p∈s9.di l x,σ.bJ p.1=some p.2
 |[],x,h=>⟨fun p hp=>by simp[s9.bz] at hp,fun p hp=>by simp[s9.di] at hp⟩
 |i::r,x,h=>by
  simp only[s9.read] at h
  split at h
  ·rename_i x' y' h1 h2
   cases h
   obtain⟨g1,g2⟩:=It.jL h1
   obtain⟨g3,g4⟩:=s9.jL h2
   refine⟨fun p hp=> ?_,fun p hp=> ?_⟩
   ·simp only[s9.bz,jQ] at hp
    rcases hp with rfl|hp
    ·exact g1
    ·exact g3 p hp
   ·simp only[s9.di,jr] at hp
    exact hp.elim (g2 p) (g4 p)
  ·cases h
theorem s9.EW:∀{l:List (It U)}{x:s9.T l},∀p∈s9.bz l x,p.1∈l.map It.s
 |[],x,p,hp=>by simp[s9.bz] at hp
 |i::r,x,p,hp=>by
  simp only[s9.bz,jQ] at hp
  rcases hp with rfl|hp
  ·simp
  ·have:=s9.EW (l:=r) p hp
   simp only[uY,jQ]
   exact .inr this
theorem It.ada{i:It U}{p:pR×U.Ty×Option Bool}(hp:p∈i.nil){s j:Nat}(he:p.1=.slot s j):s=i.s:=by
 unfold It.nil at hp
 split at hp
 ·rw[h_] at hp
  split at hp
  ·rw[ma] at hp
   subst hp
   cases he;rfl
  ·simp at hp
 ·obtain⟨⟨b,j'⟩,_,hb⟩:=nT.1 hp
  simp only at hb
  split at hb
  ·rw[ma] at hb
   subst hb
   cases he
  ·rw[ma] at hb
   subst hb
   cases he
  ·simp at hb
 ·simp at hp
def It.Wm:It U->List Nat
 | .slot s _ (.shr _)=>[s]
 |_=>[]
def It.VQ:It U->List Key
 | .slot _ key (.part _)=>[key]
 | .box _ k bs=>bs.zipIdx.flatMap fun(b,j)=>match b with| .part _=>[(k.1,4096*(k.2+1)+j)]|_=>[]
 |_=>[]
def It.Wn:It U->List Key
 | .box _ k bs=>bs.zipIdx.flatMap fun(b,j)=>match b with| .shr _=>[(k.1,4096*(k.2+1)+j)]|_=>[]
 |_=>[]
def It.VP:It U->List Key
 | .slot _ key (.own _ false)=>[key]
 | .box _ k bs=>bs.zipIdx.flatMap fun(b,j)=>match b with| .own _ false=>[(k.1,4096*(k.2+1)+j)]|_=>[]
 |_=>[]
def bh(l:List (It U))(I:s9.T l->s9.T l->Prop)(μ:s9.T l->Nat):bY U where
 X:=s9.T l
 bz:=s9.bz l
 di:=s9.di l
 un:=fun σ K=>match s9.read σ l with|some x=>K x|none=>False
 nil:=l.flatMap It.nil
 Wm:=l.flatMap It.Wm
 Wn:=l.flatMap It.Wn
 VP:=l.flatMap It.VP
 VQ:=l.flatMap It.VQ
 I:=I
 μ:=μ
 all:=fun P=>∀y,P y
 QP:=fun _ h=>h
 names:=l.map It.s
 inn:=fun x p hp=>s9.EW p hp
 nin:=fun p hp s j he=>by
  obtain⟨i,hi,hp⟩:=nT.1 hp
  exact lB.2 ⟨i,hi,(It.ada hp he).symm⟩
 law:=fun σ K h=>by
  split at h
  ·rename_i x hx
   obtain⟨h1,h2⟩:=s9.jL hx
   exact⟨x,h,h1,h2⟩
  ·exact h.elim
def aoM(A B:bY U):bY U where
 X:=A.X ⊕ B.X
 bz:=Sum.elim A.bz B.bz
 di:=Sum.elim A.di B.di
 un:=fun σ K=>A.un σ (fun x=>K (.inl x))\/B.un σ (fun x=>K (.inr x))
 nil:=A.nil
 Wm:=A.Wm
 Wn:=A.Wn
 VP:=A.VP
 VQ:=A.VQ
 I:=fun _ y=>Sum.elim (fun b=>A.I b b) (fun b=>B.I b b) y
 μ:=Sum.elim A.μ B.μ
 all:=fun P=>A.all (fun b=>P (.inl b))/\B.all (fun b=>P (.inr b))
 QP:=fun P h y=>match y with
  | .inl b=>A.QP _ h.1 b
  | .inr b=>B.QP _ h.2 b
 names:=A.names++B.names
 inn:=fun x p hp=>match x with
  | .inl x=>qC _ (A.inn x p hp)
  | .inr x=>pS _ (B.inn x p hp)
 nin:=fun p hp s j he=>qC _ (A.nin p hp s j he)
 law:=fun σ K h=>by
  rcases h with h|h
  ·obtain⟨x,h1,h2,h3⟩:=A.law _ _ h
   exact⟨.inl x,h1,h2,h3⟩
  ·obtain⟨x,h1,h2,h3⟩:=B.law _ _ h
   exact⟨.inr x,h1,h2,h3⟩
def aN:List (Nat×bY U)->Nat->Option (bY U)
 |[],_=>none
 |(i,a)::r,n=>bif Nat.beq i n then some a else aN r n
end AM
