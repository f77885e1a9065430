import Derived.Test.YtnndcpncmmcaaaaGreatQAmEnv
namespace AM
open Go
variable{U:jO}
inductive LK where
 |int (k:IntKind)
 |bool
 |str
 |any
abbrev LK.T:LK->Type
 | .int _=>Int
 | .bool=>Bool
 | .str=>ByteArray
 | .any=>Value
def LK.mk:(l:LK)->l.T->Value
 | .int k,n=> .int k n
 | .bool,b=> .bool b
 | .str,s=> .string s
 | .any,v=>v
def LK.get:(l:LK)->Value->Option l.T
 | .int k,.int k' n=>bif decide (k=k') then some n else none
 | .bool,.bool b=>some b
 | .str,.string s=>some s
 | .any,v=>some v
 |_,_=>none
theorem LK.get_some{l:LK}{v:Value}{x:l.T}(h:l.get v=some x):v=l.mk x:=by
 unfold LK.get at h
 split at h
 ·rename_i k k' n
  rw[fc] at h
  split at h
  ·rename_i hk
   have:=of_decide_eq_true hk
   subst this
   cases h;rfl
  ·cases h
 ·cases h;rfl
 ·cases h;rfl
 ·cases h;rfl
 ·cases h
inductive BK (U:jO) where
 |lit (l:LK)
 |own (τ:U.Ty) (deep:Bool)
 |shr (τ:U.Ty)
 |part (τ:U.Ty)
 |al
 |li (τ:U.Ty)
 |nA (τ:U.Ty) (t:Key)
 |pth (k:Key) (wd off:Nat)
 |Et (k:Key) (τ:U.Ty)
abbrev BK.T:BK U->Type
 | .lit l=>l.T
 | .own τ _=>List (U.T τ)
 | .shr τ=>List (U.T τ)
 | .part τ=>List (U.T τ)×(Nat->Bool)
 | .al=>Unit
 | .li τ=>List (U.T τ)
 | .nA τ _=>List (U.T τ)×Nat
 | .pth _ _ _=>Nat
 | .Et _ τ=>List (U.T τ)
def BK.ac(key:Key):(b:BK U)->b.T->AC U
 | .lit l,x=> .c (.lit (l.mk x))
 | .own _ _,_=> .ref key []
 | .shr τ,xs=> .c (.sl τ xs)
 | .part _,_=> .ref key []
 | .al,_=> .ref key []
 | .li _,_=> .ref key []
 | .nA _ _,_=> .ref key []
 | .pth k wd off,i=> .ref k [(i,wd,off)]
 | .Et k _,_=> .ref k []
def BK.aU(key:Key):(b:BK U)->b.T->List (Key×eX U)
 | .own τ d,xs=>[(key,.arr ⟨τ,xs⟩ d)]
 | .part τ,x=>[(key,.part ⟨τ,x.1⟩ x.2)]
 | .li τ,xs=>[(key,.li ⟨τ,xs⟩)]
 | .nA τ t,x=>[(key,.nA ⟨τ,x.1⟩ x.2 (.ref t []))]
 | .Et k τ,xs=>[(k,.arr ⟨τ,xs⟩ true)]
 |_,_=>[]
def ae9(a b:Bool):Bool:=match a,b with|true,true=>true|false,false=>true|_,_=>false
def BK.read(key:Key)(σ:ah U):(b:BK U)->AC U->Option b.T
 | .lit l,.c (.lit v)=>l.get v
 | .own τ d,.ref k []=>bif fU k key then(match σ.aU k with
  |some (.arr a d')=>bif ae9 d d' then dC τ a else none
  |_=>none) else none
 | .shr τ,.c (.sl s8 xs)=>dC τ ⟨s8,xs⟩
 | .part τ,.ref k []=>bif fU k key then(match σ.aU k with
  |some (.part a dead)=>match dC τ a with|some xs=>some (xs,dead)|none=>none
  |_=>none) else none
 | .al,.ref k []=>bif fU k key then some () else none
 | .li τ,.ref k []=>bif fU k key then(match σ.aU k with
  |some (.li a)=>dC τ a
  |_=>none) else none
 | .nA τ t,.ref k []=>bif fU k key then(match σ.aU k with
  |some (.nA a i (.ref t' []))=>bif fU t' t then(match dC τ a with|some xs=>some (xs,i)|none=>none) else none
  |_=>none) else none
 | .pth k0 wd off,.ref k [(i,wd',aag)]=>bif fU k k0&&Nat.beq wd' wd&&Nat.beq aag off then some i else none
 | .Et k0 τ,.ref k []=>bif fU k k0 then(match σ.aU k with
  |some (.arr a true)=>dC τ a
  |_=>none) else none
 |_,_=>none
theorem BK.jd{key:Key}{σ:ah U}{b:BK U}{a:AC U}{x:b.T}(h:b.read key σ a=some x):a=b.ac key x/\∀p∈b.aU key x,σ.aU p.1=some p.2:=by
 unfold BK.read at h
 split at h
 ·rename_i l v
  have:=LK.get_some h
  subst this
  exact⟨rfl,fun p hp=>by simp[BK.aU] at hp⟩
 ·rename_i τ d k
  rw[fc] at h
  split at h
  ·rename_i hk
   have:=lM.1 hk
   subst this
   split at h
   ·rename_i a0 d' he
    rw[fc] at h
    split at h
    ·rename_i hd
     have jh:d=d':=by cases d<;>cases d'<;>first|rfl|cases hd
     subst jh
     have:=bJ h
     subst this
     exact⟨rfl,fun p hp=>by simp only[BK.aU,g_] at hp;subst hp;exact he⟩
    ·cases h
   ·cases h
  ·cases h
 ·rename_i τ s8 xs
  have:=bJ h
  cases this
  exact⟨rfl,fun p hp=>by simp[BK.aU] at hp⟩
 ·rename_i τ k
  rw[fc] at h
  split at h
  ·rename_i hk
   have:=lM.1 hk
   subst this
   split at h
   ·rename_i a0 dead he
    split at h
    ·rename_i xs hx
     cases h
     have:=bJ hx
     subst this
     exact⟨rfl,fun p hp=>by simp only[BK.aU,g_] at hp;subst hp;exact he⟩
    ·cases h
   ·cases h
  ·cases h
 ·rename_i k
  rw[fc] at h
  split at h
  ·rename_i hk
   have:=lM.1 hk
   subst this
   exact⟨rfl,fun p hp=>by simp[BK.aU] at hp⟩
  ·cases h
 ·rename_i τ k
  rw[fc] at h
  split at h
  ·rename_i hk
   have:=lM.1 hk
   subst this
   split at h
   ·rename_i a0 he
    have:=bJ h
    subst this
    exact⟨rfl,fun p hp=>by simp only[BK.aU,g_] at hp;subst hp;exact he⟩
   ·cases h
  ·cases h
 ·rename_i τ t k
  rw[fc] at h
  split at h
  ·rename_i hk
   have:=lM.1 hk
   subst this
   split at h
   ·rename_i a0 i t' he
    rw[fc] at h
    split at h
    ·rename_i ht
     have:=lM.1 ht
     subst this
     split at h
     ·rename_i xs hx
      cases h
      have:=bJ hx
      subst this
      exact⟨rfl,fun p hp=>by simp only[BK.aU,g_] at hp;subst hp;exact he⟩
     ·cases h
    ·cases h
   ·cases h
  ·cases h
 ·rename_i k0 wd off k i wd' aag
  rw[fc] at h
  split at h
  ·rename_i hk
   simp only[fY] at hk
   have:=lM.1 hk.1.1
   have h2:=jp hk.1.2
   have h3:=jp hk.2
   subst this h2 h3
   cases h
   exact⟨rfl,fun p hp=>by simp[BK.aU] at hp⟩
  ·cases h
 ·rename_i k0 τ k
  rw[fc] at h
  split at h
  ·rename_i hk
   have:=lM.1 hk
   subst this
   split at h
   ·rename_i a0 he
    have:=bJ h
    subst this
    exact⟨rfl,fun p hp=>by simp only[BK.aU,g_] at hp;subst hp;exact he⟩
   ·cases h
  ·cases h
 ·cases h
abbrev yE.T:List (BK U)->Type
 |[]=>Unit
 |[b]=>b.T
 |b::r=>b.T×yE.T r
abbrev yE.S:List (BK U)->Type
 |[]=>Unit
 |b::r=>b.T×yE.S r
def yE.xE(k:Key):(j:Nat)->(bs:List (BK U))->yE.S bs->List (AC U)
 |_,[],_=>[]
 |j,b::r,(x,y)=>b.ac (k.1,4096*(k.2+1)+j) x::yE.xE k (j+1) r y
def yE.cT(k:Key):(j:Nat)->(bs:List (BK U))->yE.S bs->List (Key×eX U)
 |_,[],_=>[]
 |j,b::r,(x,y)=>b.aU (k.1,4096*(k.2+1)+j) x++yE.cT k (j+1) r y
def yE.read(k:Key)(σ:ah U):(j:Nat)->(bs:List (BK U))->List (AC U)->Option (yE.S bs)
 |_,[],[]=>some ()
 |j,b::r,a::as=>match b.read (k.1,4096*(k.2+1)+j) σ a,yE.read k σ (j+1) r as with
  |some x,some y=>some (x,y)
  |_,_=>none
 |_,_,_=>none
theorem yE.jd{k:Key}{σ:ah U}:∀{bs:List (BK U)}{j:Nat}{as:List (AC U)}{x:yE.S bs},yE.read k σ j bs as=some x->as=yE.xE k j bs x/\∀p∈yE.cT k j bs x,σ.aU p.1=some p.2
 |[],j,[],x,h=>⟨rfl,fun p hp=>by simp[yE.cT] at hp⟩
 |[],j,_::_,x,h=>by simp[yE.read] at h
 |b::r,j,[],x,h=>by simp[yE.read] at h
 |b::r,j,a::as,(x,y),h=>by
  simp only[yE.read] at h
  split at h
  ·rename_i x' y' h1 h2
   cases h
   obtain⟨g1,g2⟩:=BK.jd h1
   obtain⟨g3,g4⟩:=yE.jd h2
   refine⟨by simp only[yE.xE];rw[<-g1,<-g3],fun p hp=> ?_⟩
   simp only[yE.cT,gA] at hp
   exact hp.elim (g2 p) (g4 p)
  ·cases h
inductive It (U:jO) where
 |slot (s:Nat) (key:Key) (b:BK U)
 |box (s:Nat) (k:Key) (bs:List (BK U))
abbrev It.T:It U->Type
 | .slot _ _ b=>b.T
 | .box _ _ bs=>yE.S bs
def It.s:It U->Nat
 | .slot s _ _=>s
 | .box s _ _=>s
def It.sv:(i:It U)->i.T->SV U
 | .slot _ key b,x=>one (b.ac key x)
 | .box _ k _,_=>one (.ji k 0)
def It.cT:(i:It U)->i.T->List (Key×eX U)
 | .slot _ key b,x=>b.aU key x
 | .box _ k bs,x=>(k,.box (yE.xE k 0 bs x))::yE.cT k 0 bs x
def It.read(σ:ah U):(i:It U)->Option i.T
 | .slot s key b=>match σ.get s with
  |some (.v ⟨false,[a]⟩)=>b.read key σ a
  |_=>none
 | .box s k bs=>match σ.get s with
  |some (.v ⟨false,[.ji k' 0]⟩)=>bif fU k' k then(match σ.aU k with
   |some (.box as)=>yE.read k σ 0 bs as
   |_=>none) else none
  |_=>none
theorem It.jd{σ:ah U}{i:It U}{x:i.T}(h:i.read σ=some x):σ.get i.s=some (i.sv x)/\∀p∈i.cT x,σ.aU p.1=some p.2:=by
 cases i with
 |slot s key b=>
  simp only[It.read] at h
  split at h
  ·rename_i a ha
   obtain⟨rfl,g2⟩:=BK.jd h
   exact⟨ha,g2⟩
  ·cases h
 |box s k bs=>
  simp only[It.read] at h
  split at h
  ·rename_i k' hk
   rw[fc] at h
   split at h
   ·rename_i wT
    have:=lM.1 wT
    subst this
    split at h
    ·rename_i as he
     obtain⟨rfl,g2⟩:=yE.jd h
     refine⟨hk,fun p hp=> ?_⟩
     simp only[It.cT,h_] at hp
     rcases hp with rfl|hp
     ·exact he
     ·exact g2 p hp
    ·cases h
   ·cases h
  ·cases h
def It.nil:It U->List (pF×U.Ty×Option Bool)
 | .slot s key (.own τ d)=>bif fU key (s,1024) then[(.slot s 0,τ,some d)] else[]
 | .box _ k bs=>bs.zipIdx.flatMap fun(b,j)=>match b with| .own τ true=>[(.box k j,τ,some true)]| .shr τ=>[(.box k j,τ,none)]|_=>[]
 |_=>[]
abbrev s_.T:List (It U)->Type
 |[]=>Unit
 |i::r=>i.T×s_.T r
def s_.bw:(l:List (It U))->s_.T l->List (Nat×SV U)
 |[],_=>[]
 |i::r,x=>(i.s,i.sv x.1)::s_.bw r x.2
def s_.cT:(l:List (It U))->s_.T l->List (Key×eX U)
 |[],_=>[]
 |i::r,x=>i.cT x.1++s_.cT r x.2
def s_.read(σ:ah U):(l:List (It U))->Option (s_.T l)
 |[]=>some ()
 |i::r=>match i.read σ,s_.read σ r with
  |some x,some y=>some (x,y)
  |_,_=>none
theorem s_.jd{σ:ah U}:∀{l:List (It U)}{x:s_.T l},s_.read σ l=some x->(∀p∈s_.bw l x,σ.get p.1=some p.2)/\∀p∈s_.cT l x,σ.aU p.1=some p.2
 |[],x,h=>⟨fun p hp=>by simp[s_.bw] at hp,fun p hp=>by simp[s_.cT] at hp⟩
 |i::r,x,h=>by
  simp only[s_.read] at h
  split at h
  ·rename_i x' y' h1 h2
   cases h
   obtain⟨g1,g2⟩:=It.jd h1
   obtain⟨g3,g4⟩:=s_.jd h2
   refine⟨fun p hp=> ?_,fun p hp=> ?_⟩
   ·simp only[s_.bw,h_] at hp
    rcases hp with rfl|hp
    ·exact g1
    ·exact g3 p hp
   ·simp only[s_.cT,gA] at hp
    exact hp.elim (g2 p) (g4 p)
  ·cases h
theorem s_.EU:∀{l:List (It U)}{x:s_.T l},∀p∈s_.bw l x,p.1∈l.map It.s
 |[],x,p,hp=>by simp[s_.bw] at hp
 |i::r,x,p,hp=>by
  simp only[s_.bw,h_] at hp
  rcases hp with rfl|hp
  ·simp
  ·have:=s_.EU (l:=r) p hp
   simp only[rl,h_]
   exact .inr this
theorem It.aen{i:It U}{p:pF×U.Ty×Option Bool}(hp:p∈i.nil){s j:Nat}(he:p.1=.slot s j):s=i.s:=by
 unfold It.nil at hp
 split at hp
 ·rw[fc] at hp
  split at hp
  ·rw[g_] at hp
   subst hp
   cases he;rfl
  ·simp at hp
 ·obtain⟨⟨b,j'⟩,_,hb⟩:=ln.1 hp
  simp only at hb
  split at hb
  ·rw[g_] at hb
   subst hb
   cases he
  ·rw[g_] at hb
   subst hb
   cases he
  ·simp at hb
 ·simp at hp
def It.frz:It U->List Nat
 | .slot s _ (.shr _)=>[s]
 |_=>[]
def It.prt:It U->List Key
 | .slot _ key (.part _)=>[key]
 | .box _ k bs=>bs.zipIdx.flatMap fun(b,j)=>match b with| .part _=>[(k.1,4096*(k.2+1)+j)]|_=>[]
 |_=>[]
def It.frk:It U->List Key
 | .box _ k bs=>bs.zipIdx.flatMap fun(b,j)=>match b with| .shr _=>[(k.1,4096*(k.2+1)+j)]|_=>[]
 |_=>[]
def It.shk:It U->List Key
 | .slot _ key (.own _ false)=>[key]
 | .box _ k bs=>bs.zipIdx.flatMap fun(b,j)=>match b with| .own _ false=>[(k.1,4096*(k.2+1)+j)]|_=>[]
 |_=>[]
def It.lck:It U->List Key
 | .slot _ key (.li _)=>[key]
 | .box _ k bs=>bs.zipIdx.flatMap fun(b,j)=>match b with| .li _=>[(k.1,4096*(k.2+1)+j)]|_=>[]
 |_=>[]
def It.rlk:It U->List Key
 | .slot _ key (.own _ true)=>[key]
 | .slot _ _ (.Et k _)=>[k]
 | .box _ k bs=>bs.zipIdx.flatMap fun(b,j)=>match b with| .own _ true=>[(k.1,4096*(k.2+1)+j)]| .Et k' _=>[k']|_=>[]
 |_=>[]
def az(l:List (It U))(I:s_.T l->s_.T l->Prop)(μ:s_.T l->Nat):Ai U where
 X:=s_.T l
 bw:=s_.bw l
 cT:=s_.cT l
 un:=fun σ K=>match s_.read σ l with|some x=>K x|none=>False
 nil:=l.flatMap It.nil
 frz:=l.flatMap It.frz
 frk:=l.flatMap It.frk
 shk:=l.flatMap It.shk
 prt:=l.flatMap It.prt
 lck:=l.flatMap It.lck
 rlk:=l.flatMap It.rlk
 I:=I
 μ:=μ
 all:=fun P=>∀y,P y
 abr:=fun _ h=>h
 names:=l.map It.s
 inn:=fun x p hp=>s_.EU p hp
 nin:=fun p hp s j he=>by
  obtain⟨i,hi,hp⟩:=ln.1 hp
  exact jX.2 ⟨i,hi,(It.aen hp he).symm⟩
 law:=fun σ K h=>by
  split at h
  ·rename_i x hx
   obtain⟨h1,h2⟩:=s_.jd hx
   exact⟨x,h,h1,h2⟩
  ·exact h.elim
def bq:List (Nat×Ai U)->Nat->Option (Ai U)
 |[],_=>none
 |(i,a)::r,n=>bif Nat.beq i n then some a else bq r n
end AM
