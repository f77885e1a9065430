/- THE ABSTRACT MACHINE: what is known at a loop's head, by a list of the variables that matter. -/
import Derived.Test.YtceiiofmelhipaaGreatAmEnv
namespace AM
open Go
variable{U:Uni}
inductive LK where
 |int (k:IntKind)
 |bool
 |str
abbrev LK.T:LK→Type
 | .int _=>Int
 | .bool=>Bool
 | .str=>ByteArray
def LK.mk:(l:LK)→l.T→Value
 | .int k,n=> .int k n
 | .bool,b=> .bool b
 | .str,s=> .string s
def LK.get:(l:LK)→Value→Option l.T
 | .int k,.int k' n=>bif decide (k=k') then some n else none
 | .bool,.bool b=>some b
 | .str,.string s=>some s
 |_,_=>none
theorem LK.get_some{l:LK}{v:Value}{x:l.T}(h:l.get v=some x):v=l.mk x:=by
 unfold LK.get at h
 split at h
 ·rename_i k k' n
  rw[zah] at h
  split at h
  ·rename_i hk
   have:=of_decide_eq_true hk
   subst this
   cases h;rfl
  ·cases h
 ·cases h;rfl
 ·cases h;rfl
 ·cases h
inductive BK (U:Uni) where
 |lit (l:LK)
 |own (τ:U.Ty) (deep:Bool)
 |shr (τ:U.Ty)
 |part (τ:U.Ty)
 |al
abbrev BK.T:BK U→Type
 | .lit l=>l.T
 | .own τ _=>List (U.T τ)
 | .shr τ=>List (U.T τ)
 | .part τ=>List (U.T τ)×(Nat→Bool)
 | .al=>Unit
def BK.ac(key:Key):(b:BK U)→b.T→AC U
 | .lit l,x=> .c (.lit (l.mk x))
 | .own _ _,_=> .ref key []
 | .shr τ,xs=> .c (.sl τ xs)
 | .part _,_=> .ref key []
 | .al,_=> .ref key []
def BK.ent(key:Key):(b:BK U)→b.T→List (Key×Ent U)
 | .own τ d,xs=>[(key,.arr ⟨τ,xs⟩ d)]
 | .part τ,x=>[(key,.part ⟨τ,x.1⟩ x.2)]
 |_,_=>[]
def beqB'(a b:Bool):Bool:=match a,b with|true,true=>true|false,false=>true|_,_=>false
def BK.read(key:Key)(σ:AState U):(b:BK U)→AC U→Option b.T
 | .lit l,.c (.lit v)=>l.get v
 | .own τ d,.ref k []=>bif keq k key then(match σ.ent k with
  |some (.arr a d')=>bif beqB' d d' then castArr τ a else none
  |_=>none) else none
 | .shr τ,.c (.sl τ' xs)=>castArr τ ⟨τ',xs⟩
 | .part τ,.ref k []=>bif keq k key then(match σ.ent k with
  |some (.part a dead)=>match castArr τ a with|some xs=>some (xs,dead)|none=>none
  |_=>none) else none
 | .al,.ref k []=>bif keq k key then some () else none
 |_,_=>none
theorem BK.read_some{key:Key}{σ:AState U}{b:BK U}{a:AC U}{x:b.T}(h:b.read key σ a=some x):a=b.ac key x∧∀p∈b.ent key x,σ.ent p.1=some p.2:=by
 unfold BK.read at h
 split at h
 ·rename_i l v
  have:=LK.get_some h
  subst this
  exact⟨rfl,fun p hp=>by simp[BK.ent] at hp⟩
 ·rename_i τ d k
  rw[zah] at h
  split at h
  ·rename_i hk
   have:=qagi.1 hk
   subst this
   split at h
   ·rename_i a0 d' he
    rw[zah] at h
    split at h
    ·rename_i hd
     have hdd:d=d':=by cases d<;>cases d'<;>first|rfl|cases hd
     subst hdd
     have:=castArr_some h
     subst this
     exact⟨rfl,fun p hp=>by simp only[BK.ent,zau] at hp;subst hp;exact he⟩
    ·cases h
   ·cases h
  ·cases h
 ·rename_i τ τ' xs
  have:=castArr_some h
  cases this
  exact⟨rfl,fun p hp=>by simp[BK.ent] at hp⟩
 ·rename_i τ k
  rw[zah] at h
  split at h
  ·rename_i hk
   have:=qagi.1 hk
   subst this
   split at h
   ·rename_i a0 dead he
    split at h
    ·rename_i xs hx
     cases h
     have:=castArr_some hx
     subst this
     exact⟨rfl,fun p hp=>by simp only[BK.ent,zau] at hp;subst hp;exact he⟩
    ·cases h
   ·cases h
  ·cases h
 ·rename_i k
  rw[zah] at h
  split at h
  ·rename_i hk
   have:=qagi.1 hk
   subst this
   exact⟨rfl,fun p hp=>by simp[BK.ent] at hp⟩
  ·cases h
 ·cases h
abbrev BKs.T:List (BK U)→Type
 |[]=>Unit
 |[b]=>b.T
 |b::r=>b.T×BKs.T r
abbrev BKs.S:List (BK U)→Type
 |[]=>Unit
 |b::r=>b.T×BKs.S r
def BKs.acs(k:Key):(j:Nat)→(bs:List (BK U))→BKs.S bs→List (AC U)
 |_,[],_=>[]
 |j,b::r,(x,y)=>b.ac (k.1,4096*(k.2+1)+j) x::BKs.acs k (j+1) r y
def BKs.ents(k:Key):(j:Nat)→(bs:List (BK U))→BKs.S bs→List (Key×Ent U)
 |_,[],_=>[]
 |j,b::r,(x,y)=>b.ent (k.1,4096*(k.2+1)+j) x++BKs.ents k (j+1) r y
def BKs.read(k:Key)(σ:AState U):(j:Nat)→(bs:List (BK U))→List (AC U)→Option (BKs.S bs)
 |_,[],[]=>some ()
 |j,b::r,a::as=>match b.read (k.1,4096*(k.2+1)+j) σ a,BKs.read k σ (j+1) r as with
  |some x,some y=>some (x,y)
  |_,_=>none
 |_,_,_=>none
theorem BKs.read_some{k:Key}{σ:AState U}:∀{bs:List (BK U)}{j:Nat}{as:List (AC U)}{x:BKs.S bs},BKs.read k σ j bs as=some x→as=BKs.acs k j bs x∧∀p∈BKs.ents k j bs x,σ.ent p.1=some p.2
 |[],j,[],x,h=>⟨rfl,fun p hp=>by simp[BKs.ents] at hp⟩
 |[],j,_::_,x,h=>by simp[BKs.read] at h
 |b::r,j,[],x,h=>by simp[BKs.read] at h
 |b::r,j,a::as,(x,y),h=>by
  simp only[BKs.read] at h
  split at h
  ·rename_i x' y' h1 h2
   cases h
   obtain⟨g1,g2⟩:=BK.read_some h1
   obtain⟨g3,g4⟩:=BKs.read_some h2
   refine⟨by simp only[BKs.acs];rw[←g1,←g3],fun p hp=> ?_⟩
   simp only[BKs.ents,zao] at hp
   exact hp.elim (g2 p) (g4 p)
  ·cases h
inductive It (U:Uni) where
 |slot (s:Nat) (key:Key) (b:BK U)
 |box (s:Nat) (k:Key) (bs:List (BK U))
abbrev It.T:It U→Type
 | .slot _ _ b=>b.T
 | .box _ _ bs=>BKs.S bs
def It.s:It U→Nat
 | .slot s _ _=>s
 | .box s _ _=>s
def It.sv:(i:It U)→i.T→SV U
 | .slot _ key b,x=>one (b.ac key x)
 | .box _ k _,_=>one (.bptr k 0)
def It.ents:(i:It U)→i.T→List (Key×Ent U)
 | .slot _ key b,x=>b.ent key x
 | .box _ k bs,x=>(k,.box (BKs.acs k 0 bs x))::BKs.ents k 0 bs x
def It.read(σ:AState U):(i:It U)→Option i.T
 | .slot s key b=>match σ.get s with
  |some (.v ⟨false,[a]⟩)=>b.read key σ a
  |_=>none
 | .box s k bs=>match σ.get s with
  |some (.v ⟨false,[.bptr k' 0]⟩)=>bif keq k' k then(match σ.ent k with
   |some (.box as)=>BKs.read k σ 0 bs as
   |_=>none) else none
  |_=>none
theorem It.read_some{σ:AState U}{i:It U}{x:i.T}(h:i.read σ=some x):σ.get i.s=some (i.sv x)∧∀p∈i.ents x,σ.ent p.1=some p.2:=by
 cases i with
 |slot s key b=>
  simp only[It.read] at h
  split at h
  ·rename_i a ha
   obtain⟨rfl,g2⟩:=BK.read_some h
   exact⟨ha,g2⟩
  ·cases h
 |box s k bs=>
  simp only[It.read] at h
  split at h
  ·rename_i k' hk
   rw[zah] at h
   split at h
   ·rename_i hkk
    have:=qagi.1 hkk
    subst this
    split at h
    ·rename_i as he
     obtain⟨rfl,g2⟩:=BKs.read_some h
     refine⟨hk,fun p hp=> ?_⟩
     simp only[It.ents,zak] at hp
     rcases hp with rfl|hp
     ·exact he
     ·exact g2 p hp
    ·cases h
   ·cases h
  ·cases h
def It.nil:It U→List (Spot×U.Ty×Option Bool)
 | .slot s key (.own τ d)=>bif keq key (s,1024) then[(.slot s 0,τ,some d)] else[]
 | .box _ k bs=>bs.zipIdx.flatMap fun(b,j)=>match b with| .own τ true=>[(.box k j,τ,some true)]| .shr τ=>[(.box k j,τ,none)]|_=>[]
 |_=>[]
abbrev Its.T:List (It U)→Type
 |[]=>Unit
 |i::r=>i.T×Its.T r
def Its.slots:(l:List (It U))→Its.T l→List (Nat×SV U)
 |[],_=>[]
 |i::r,x=>(i.s,i.sv x.1)::Its.slots r x.2
def Its.ents:(l:List (It U))→Its.T l→List (Key×Ent U)
 |[],_=>[]
 |i::r,x=>i.ents x.1++Its.ents r x.2
def Its.read(σ:AState U):(l:List (It U))→Option (Its.T l)
 |[]=>some ()
 |i::r=>match i.read σ,Its.read σ r with
  |some x,some y=>some (x,y)
  |_,_=>none
theorem Its.read_some{σ:AState U}:∀{l:List (It U)}{x:Its.T l},Its.read σ l=some x→(∀p∈Its.slots l x,σ.get p.1=some p.2)∧∀p∈Its.ents l x,σ.ent p.1=some p.2
 |[],x,h=>⟨fun p hp=>by simp[Its.slots] at hp,fun p hp=>by simp[Its.ents] at hp⟩
 |i::r,x,h=>by
  simp only[Its.read] at h
  split at h
  ·rename_i x' y' h1 h2
   cases h
   obtain⟨g1,g2⟩:=It.read_some h1
   obtain⟨g3,g4⟩:=Its.read_some h2
   refine⟨fun p hp=> ?_,fun p hp=> ?_⟩
   ·simp only[Its.slots,zak] at hp
    rcases hp with rfl|hp
    ·exact g1
    ·exact g3 p hp
   ·simp only[Its.ents,zao] at hp
    exact hp.elim (g2 p) (g4 p)
  ·cases h
theorem Its.slots_fst:∀{l:List (It U)}{x:Its.T l},∀p∈Its.slots l x,p.1∈l.map It.s
 |[],x,p,hp=>by simp[Its.slots] at hp
 |i::r,x,p,hp=>by
  simp only[Its.slots,zak] at hp
  rcases hp with rfl|hp
  ·simp
  ·have:=Its.slots_fst (l:=r) p hp
   simp only[zbt,zak]
   exact .inr this
theorem It.nil_s{i:It U}{p:Spot×U.Ty×Option Bool}(hp:p∈i.nil){s j:Nat}(he:p.1=.slot s j):s=i.s:=by
 unfold It.nil at hp
 split at hp
 ·rw[zah] at hp
  split at hp
  ·rw[zau] at hp
   subst hp
   cases he;rfl
  ·simp at hp
 ·obtain⟨⟨b,j'⟩,_,hb⟩:=zat.1 hp
  simp only at hb
  split at hb
  ·rw[zau] at hb
   subst hb
   cases he
  ·rw[zau] at hb
   subst hb
   cases he
  ·simp at hb
 ·simp at hp
def It.frz:It U→List Nat
 | .slot s _ (.shr _)=>[s]
 |_=>[]
def It.prt:It U→List Key
 | .slot _ key (.part _)=>[key]
 | .box _ k bs=>bs.zipIdx.flatMap fun(b,j)=>match b with| .part _=>[(k.1,4096*(k.2+1)+j)]|_=>[]
 |_=>[]
def annOf(l:List (It U))(I:Its.T l→Its.T l→Prop)(μ:Its.T l→Nat):Ann U where
 X:=Its.T l
 slots:=Its.slots l
 ents:=Its.ents l
 un:=fun σ K=>match Its.read σ l with|some x=>K x|none=>False
 nil:=l.flatMap It.nil
 frz:=l.flatMap It.frz
 prt:=l.flatMap It.prt
 I:=I
 μ:=μ
 names:=l.map It.s
 inn:=fun x p hp=>Its.slots_fst p hp
 nin:=fun p hp s j he=>by
  obtain⟨i,hi,hp⟩:=zat.1 hp
  exact zaz.2 ⟨i,hi,(It.nil_s hp he).symm⟩
 law:=fun σ K h=>by
  split at h
  ·rename_i x hx
   obtain⟨h1,h2⟩:=Its.read_some hx
   exact⟨x,h,h1,h2⟩
  ·exact h.elim
def annL:List (Nat×Ann U)→Nat→Option (Ann U)
 |[],_=>none
 |(i,a)::r,n=>bif Nat.beq i n then some a else annL r n
end AM
