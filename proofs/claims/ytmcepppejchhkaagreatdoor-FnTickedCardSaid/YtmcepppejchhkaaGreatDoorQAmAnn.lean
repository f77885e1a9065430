import Derived.Test.YtmcepppejchhkaaGreatDoorQAmEnv
namespace AM
open Go
variable{U:lQ}
inductive LK where
 |int (k:IntKind)
 |bool
 |str
 |any
abbrev LK.T:LK->Type
 | .int _=>Int
 | .bool=>Bool
 | .str=>ByteArray
 | .any=>Value
def LK.mk:(l:LK)->l.T->Value
 | .int k,n=> .int k n
 | .bool,b=> .bool b
 | .str,s=> .string s
 | .any,v=>v
def LK.get:(l:LK)->Value->Option l.T
 | .int k,.int k' n=>bif decide (k=k') then some n else none
 | .bool,.bool b=>some b
 | .str,.string s=>some s
 | .any,v=>some v
 |_,_=>none
theorem LK.get_some{l:LK}{v:Value}{x:l.T}(h:l.get v=some x):v=l.mk x:=by
 unfold LK.get at h
 split at h
 ·rename_i k k' n
  rw[iw] at h
  split at h
  ·rename_i hk
   have:=of_decide_eq_true hk
   subst this
   cases h;rfl
  ·cases h
 ·cases h;rfl
 ·cases h;rfl
 ·cases h;rfl
 ·cases h
inductive BK (U:lQ) where
 |lit (l:LK)
 |own (τ:U.Ty) (deep:Bool)
 |shr (τ:U.Ty)
 |part (τ:U.Ty)
 |al
abbrev BK.T:BK U->Type
 | .lit l=>l.T
 | .own τ _=>List (U.T τ)
 | .shr τ=>List (U.T τ)
 | .part τ=>List (U.T τ)×(Nat->Bool)
 | .al=>Unit
def BK.ac(key:Key):(b:BK U)->b.T->AC U
 | .lit l,x=> .c (.lit (l.mk x))
 | .own _ _,_=> .ref key []
 | .shr τ,xs=> .c (.sl τ xs)
 | .part _,_=> .ref key []
 | .al,_=> .ref key []
def BK.bP(key:Key):(b:BK U)->b.T->List (Key×iX U)
 | .own τ d,xs=>[(key,.arr ⟨τ,xs⟩ d)]
 | .part τ,x=>[(key,.part ⟨τ,x.1⟩ x.2)]
 |_,_=>[]
def ae4(a b:Bool):Bool:=match a,b with|true,true=>true|false,false=>true|_,_=>false
def BK.read(key:Key)(σ:ak U):(b:BK U)->AC U->Option b.T
 | .lit l,.c (.lit v)=>l.get v
 | .own τ d,.ref k []=>bif iZ k key then(match σ.bP k with
  |some (.arr a d')=>bif ae4 d d' then jo τ a else none
  |_=>none) else none
 | .shr τ,.c (.sl GI xs)=>jo τ ⟨GI,xs⟩
 | .part τ,.ref k []=>bif iZ k key then(match σ.bP k with
  |some (.part a dead)=>match jo τ a with|some xs=>some (xs,dead)|none=>none
  |_=>none) else none
 | .al,.ref k []=>bif iZ k key then some () else none
 |_,_=>none
theorem BK.j9{key:Key}{σ:ak U}{b:BK U}{a:AC U}{x:b.T}(h:b.read key σ a=some x):a=b.ac key x/\∀p∈b.bP key x,σ.bP p.1=some p.2:=by
 unfold BK.read at h
 split at h
 ·rename_i l v
  have:=LK.get_some h
  subst this
  exact⟨rfl,fun p hp=>by simp[BK.bP] at hp⟩
 ·rename_i τ d k
  rw[iw] at h
  split at h
  ·rename_i hk
   have:=pX.1 hk
   subst this
   split at h
   ·rename_i a0 d' he
    rw[iw] at h
    split at h
    ·rename_i hd
     have kM:d=d':=by cases d<;>cases d'<;>first|rfl|cases hd
     subst kM
     have:=eh h
     subst this
     exact⟨rfl,fun p hp=>by simp only[BK.bP,mW] at hp;subst hp;exact he⟩
    ·cases h
   ·cases h
  ·cases h
 ·rename_i τ GI xs
  have:=eh h
  cases this
  exact⟨rfl,fun p hp=>by simp[BK.bP] at hp⟩
 ·rename_i τ k
  rw[iw] at h
  split at h
  ·rename_i hk
   have:=pX.1 hk
   subst this
   split at h
   ·rename_i a0 dead he
    split at h
    ·rename_i xs hx
     cases h
     have:=eh hx
     subst this
     exact⟨rfl,fun p hp=>by simp only[BK.bP,mW] at hp;subst hp;exact he⟩
    ·cases h
   ·cases h
  ·cases h
 ·rename_i k
  rw[iw] at h
  split at h
  ·rename_i hk
   have:=pX.1 hk
   subst this
   exact⟨rfl,fun p hp=>by simp[BK.bP] at hp⟩
  ·cases h
 ·cases h
abbrev zX.T:List (BK U)->Type
 |[]=>Unit
 |[b]=>b.T
 |b::r=>b.T×zX.T r
abbrev zX.S:List (BK U)->Type
 |[]=>Unit
 |b::r=>b.T×zX.S r
def zX.Cu(k:Key):(j:Nat)->(bs:List (BK U))->zX.S bs->List (AC U)
 |_,[],_=>[]
 |j,b::r,(x,y)=>b.ac (k.1,4096*(k.2+1)+j) x::zX.Cu k (j+1) r y
def zX.dD(k:Key):(j:Nat)->(bs:List (BK U))->zX.S bs->List (Key×iX U)
 |_,[],_=>[]
 |j,b::r,(x,y)=>b.bP (k.1,4096*(k.2+1)+j) x++zX.dD k (j+1) r y
def zX.read(k:Key)(σ:ak U):(j:Nat)->(bs:List (BK U))->List (AC U)->Option (zX.S bs)
 |_,[],[]=>some ()
 |j,b::r,a::as=>match b.read (k.1,4096*(k.2+1)+j) σ a,zX.read k σ (j+1) r as with
  |some x,some y=>some (x,y)
  |_,_=>none
 |_,_,_=>none
theorem zX.j9{k:Key}{σ:ak U}:∀{bs:List (BK U)}{j:Nat}{as:List (AC U)}{x:zX.S bs},zX.read k σ j bs as=some x->as=zX.Cu k j bs x/\∀p∈zX.dD k j bs x,σ.bP p.1=some p.2
 |[],j,[],x,h=>⟨rfl,fun p hp=>by simp[zX.dD] at hp⟩
 |[],j,_::_,x,h=>by simp[zX.read] at h
 |b::r,j,[],x,h=>by simp[zX.read] at h
 |b::r,j,a::as,(x,y),h=>by
  simp only[zX.read] at h
  split at h
  ·rename_i x' y' h1 h2
   cases h
   obtain⟨g1,g2⟩:=BK.j9 h1
   obtain⟨g3,g4⟩:=zX.j9 h2
   refine⟨by simp only[zX.Cu];rw[<-g1,<-g3],fun p hp=> ?_⟩
   simp only[zX.dD,jI] at hp
   exact hp.elim (g2 p) (g4 p)
  ·cases h
inductive It (U:lQ) where
 |slot (s:Nat) (key:Key) (b:BK U)
 |box (s:Nat) (k:Key) (bs:List (BK U))
abbrev It.T:It U->Type
 | .slot _ _ b=>b.T
 | .box _ _ bs=>zX.S bs
def It.s:It U->Nat
 | .slot s _ _=>s
 | .box s _ _=>s
def It.sv:(i:It U)->i.T->SV U
 | .slot _ key b,x=>one (b.ac key x)
 | .box _ k _,_=>one (.kQ k 0)
def It.dD:(i:It U)->i.T->List (Key×iX U)
 | .slot _ key b,x=>b.bP key x
 | .box _ k bs,x=>(k,.box (zX.Cu k 0 bs x))::zX.dD k 0 bs x
def It.read(σ:ak U):(i:It U)->Option i.T
 | .slot s key b=>match σ.get s with
  |some (.v ⟨false,[a]⟩)=>b.read key σ a
  |_=>none
 | .box s k bs=>match σ.get s with
  |some (.v ⟨false,[.kQ k' 0]⟩)=>bif iZ k' k then(match σ.bP k with
   |some (.box as)=>zX.read k σ 0 bs as
   |_=>none) else none
  |_=>none
theorem It.j9{σ:ak U}{i:It U}{x:i.T}(h:i.read σ=some x):σ.get i.s=some (i.sv x)/\∀p∈i.dD x,σ.bP p.1=some p.2:=by
 cases i with
 |slot s key b=>
  simp only[It.read] at h
  split at h
  ·rename_i a ha
   obtain⟨rfl,g2⟩:=BK.j9 h
   exact⟨ha,g2⟩
  ·cases h
 |box s k bs=>
  simp only[It.read] at h
  split at h
  ·rename_i k' hk
   rw[iw] at h
   split at h
   ·rename_i E_
    have:=pX.1 E_
    subst this
    split at h
    ·rename_i as he
     obtain⟨rfl,g2⟩:=zX.j9 h
     refine⟨hk,fun p hp=> ?_⟩
     simp only[It.dD,kc] at hp
     rcases hp with rfl|hp
     ·exact he
     ·exact g2 p hp
    ·cases h
   ·cases h
  ·cases h
def It.nil:It U->List (qJ×U.Ty×Option Bool)
 | .slot s key (.own τ d)=>bif iZ key (s,1024) then[(.slot s 0,τ,some d)] else[]
 | .box _ k bs=>bs.zipIdx.flatMap fun(b,j)=>match b with| .own τ true=>[(.box k j,τ,some true)]| .shr τ=>[(.box k j,τ,none)]|_=>[]
 |_=>[]
abbrev uM.T:List (It U)->Type
 |[]=>Unit
 |i::r=>i.T×uM.T r
def uM.bG:(l:List (It U))->uM.T l->List (Nat×SV U)
 |[],_=>[]
 |i::r,x=>(i.s,i.sv x.1)::uM.bG r x.2
def uM.dD:(l:List (It U))->uM.T l->List (Key×iX U)
 |[],_=>[]
 |i::r,x=>i.dD x.1++uM.dD r x.2
def uM.read(σ:ak U):(l:List (It U))->Option (uM.T l)
 |[]=>some ()
 |i::r=>match i.read σ,uM.read σ r with
  |some x,some y=>some (x,y)
  |_,_=>none
theorem uM.j9{σ:ak U}:∀{l:List (It U)}{x:uM.T l},uM.read σ l=some x->(∀p∈uM.bG l x,σ.get p.1=some p.2)/\∀p∈uM.dD l x,σ.bP p.1=some p.2
 |[],x,h=>⟨fun p hp=>by simp[uM.bG] at hp,fun p hp=>by simp[uM.dD] at hp⟩
 |i::r,x,h=>by
  simp only[uM.read] at h
  split at h
  ·rename_i x' y' h1 h2
   cases h
   obtain⟨g1,g2⟩:=It.j9 h1
   obtain⟨g3,g4⟩:=uM.j9 h2
   refine⟨fun p hp=> ?_,fun p hp=> ?_⟩
   ·simp only[uM.bG,kc] at hp
    rcases hp with rfl|hp
    ·exact g1
    ·exact g3 p hp
   ·simp only[uM.dD,jI] at hp
    exact hp.elim (g2 p) (g4 p)
  ·cases h
theorem uM.GS:∀{l:List (It U)}{x:uM.T l},∀p∈uM.bG l x,p.1∈l.map It.s
 |[],x,p,hp=>by simp[uM.bG] at hp
 |i::r,x,p,hp=>by
  simp only[uM.bG,kc] at hp
  rcases hp with rfl|hp
  ·simp
  ·have:=uM.GS (l:=r) p hp
   simp only[wH,kc]
   exact .inr this
theorem It.aee{i:It U}{p:qJ×U.Ty×Option Bool}(hp:p∈i.nil){s j:Nat}(he:p.1=.slot s j):s=i.s:=by
 unfold It.nil at hp
 split at hp
 ·rw[iw] at hp
  split at hp
  ·rw[mW] at hp
   subst hp
   cases he;rfl
  ·simp at hp
 ·obtain⟨⟨b,j'⟩,_,hb⟩:=o8.1 hp
  simp only at hb
  split at hb
  ·rw[mW] at hb
   subst hb
   cases he
  ·rw[mW] at hb
   subst hb
   cases he
  ·simp at hb
 ·simp at hp
def It.XQ:It U->List Nat
 | .slot s _ (.shr _)=>[s]
 |_=>[]
def It.Xg:It U->List Key
 | .slot _ key (.part _)=>[key]
 | .box _ k bs=>bs.zipIdx.flatMap fun(b,j)=>match b with| .part _=>[(k.1,4096*(k.2+1)+j)]|_=>[]
 |_=>[]
def It.XR:It U->List Key
 | .box _ k bs=>bs.zipIdx.flatMap fun(b,j)=>match b with| .shr _=>[(k.1,4096*(k.2+1)+j)]|_=>[]
 |_=>[]
def It.Xf:It U->List Key
 | .slot _ key (.own _ false)=>[key]
 | .box _ k bs=>bs.zipIdx.flatMap fun(b,j)=>match b with| .own _ false=>[(k.1,4096*(k.2+1)+j)]|_=>[]
 |_=>[]
def aT(l:List (It U))(I:uM.T l->uM.T l->Prop)(μ:uM.T l->Nat):sS U where
 X:=uM.T l
 bG:=uM.bG l
 dD:=uM.dD l
 un:=fun σ K=>match uM.read σ l with|some x=>K x|none=>False
 nil:=l.flatMap It.nil
 XQ:=l.flatMap It.XQ
 XR:=l.flatMap It.XR
 Xf:=l.flatMap It.Xf
 Xg:=l.flatMap It.Xg
 I:=I
 μ:=μ
 all:=fun P=>∀y,P y
 TK:=fun _ h=>h
 names:=l.map It.s
 inn:=fun x p hp=>uM.GS p hp
 nin:=fun p hp s j he=>by
  obtain⟨i,hi,hp⟩:=o8.1 hp
  exact mz.2 ⟨i,hi,(It.aee hp he).symm⟩
 law:=fun σ K h=>by
  split at h
  ·rename_i x hx
   obtain⟨h1,h2⟩:=uM.j9 hx
   exact⟨x,h,h1,h2⟩
  ·exact h.elim
def ab2(A B:sS U):sS U where
 X:=A.X ⊕ B.X
 bG:=Sum.elim A.bG B.bG
 dD:=Sum.elim A.dD B.dD
 un:=fun σ K=>A.un σ (fun x=>K (.inl x))\/B.un σ (fun x=>K (.inr x))
 nil:=A.nil
 XQ:=A.XQ
 XR:=A.XR
 Xf:=A.Xf
 Xg:=A.Xg
 I:=fun _ y=>Sum.elim (fun b=>A.I b b) (fun b=>B.I b b) y
 μ:=Sum.elim A.μ B.μ
 all:=fun P=>A.all (fun b=>P (.inl b))/\B.all (fun b=>P (.inr b))
 TK:=fun P h y=>match y with
  | .inl b=>A.TK _ h.1 b
  | .inr b=>B.TK _ h.2 b
 names:=A.names++B.names
 inn:=fun x p hp=>match x with
  | .inl x=>rW _ (A.inn x p hp)
  | .inr x=>qM _ (B.inn x p hp)
 nin:=fun p hp s j he=>rW _ (A.nin p hp s j he)
 law:=fun σ K h=>by
  rcases h with h|h
  ·obtain⟨x,h1,h2,h3⟩:=A.law _ _ h
   exact⟨.inl x,h1,h2,h3⟩
  ·obtain⟨x,h1,h2,h3⟩:=B.law _ _ h
   exact⟨.inr x,h1,h2,h3⟩
def bS:List (Nat×sS U)->Nat->Option (sS U)
 |[],_=>none
 |(i,a)::r,n=>bif Nat.beq i n then some a else bS r n
end AM
