/- THE ABSTRACT MACHINE: functions: a contract holds where the weakest precondition of the body does. -/
import Derived.Test.YtjlajhgabffmpaaGreatQAmCode
namespace AM
set_option linter.unusedVariables false
open Go
variable{U:lu}
def EY(i:Nat)(rest:List Value):Mode->DV U->SV U×List (Nat×i_ U)
 | .ro,.one c=>(one (.c c),[])
 | .ro,.agg cs=>(.v ⟨true,cs.map .c⟩,[])
 | .ro,.ptr cs=>(one (.ia cs),[])
 | .ro,.fn p=>(.fn p,[])
 | .wr,.one (.sl τ xs)=>(one (.ref (2000000+i,0) []),[(0,.arr ⟨τ,xs⟩ true)])
 | .wr,.agg cs=>(.v ⟨true,(putCells (2000000+i) true 0 cs).1⟩,(putCells (2000000+i) true 0 cs).2)
 | .mv,.one c=>(.v ⟨false,(putCells (2000000+i) true 4096 [c]).1⟩,(putCells (2000000+i) true 4096 [c]).2)
 | .mv,.agg cs=>(.v ⟨true,(putCells (2000000+i) true 4096 cs).1⟩,(putCells (2000000+i) true 4096 cs).2)
 | .box true,.box cs=>(one (.kH (2000000+i,0) 0),(0,.box ((putCells (2000000+i) true 4096 cs).1++rest.map fun v=> .c (.lit v)))::(putCells (2000000+i) true 4096 cs).2)
 | .box false,.box cs=>(one (.kH (2000000+i,0) 0),[(0,.box (cs.map .c++rest.map fun v=> .c (.lit v)))])
 |_,_=>(.wm [],[])
def E0(rest:List Value):Nat->List Mode->List (DV U)->List (Nat×Option (SV U))
 |i,m::ms,d::ds=>(i,some (EY i rest m d).1)::E0 rest (i+1) ms ds
 |_,_,_=>[]
def Nw(rest:List Value):Nat->List Mode->List (DV U)->List (Key×Option (i_ U))
 |i,m::ms,d::ds=>pE (2000000+i) (EY i rest m d).2++Nw rest (i+1) ms ds
 |_,_,_=>[]
def entry(rest:List Value)(n:Nat)(ms:List Mode)(ds:List (DV U)):ai U:={n,bI:=E0 rest 0 ms ds,oy:=Nw rest 0 ms ds,aN:=[]}
def N4(E:Env U)(σ:ai U):ResultVar->Option (AV U)
 | .tmp t=>match σ.get t with
  |some (.v x)=>some x
  |_=>none
 | .cell a t=>match σ.get a with
  |some (.v ⟨false,[.kH k 0]⟩)=>match σ.bM k,E.size t,E.isAgg t with
   |some (.box cs),some n,some g=>bif Nat.beq n cs.length&&(g||Nat.beq n 1) then some ⟨g,cs⟩ else none
   |_,_,_=>none
  |_=>none
def aa1(ds:List (DV U)):Bool:=ds.any fun| .box _=>true|_=>false
def Rz(fresh:Bool)(σ:ai U):AV U->Option (List U.C×Key)
 |⟨false,[.kH k 0]⟩=>bif fresh then(match σ.bM k with|some (.box bs)=>(match plain bs with|some l=>some (l,k)|none=>none)|_=>none) else none
 |_=>none
def outs(E:Env U)(σ:ai U):List Bool->List ResultVar->List TypeId->Option (List Prop×List (DV U)×List Key)
 |_,[],_=>some ([],[],[])
 |fs,r::rs,ts=>match N4 E σ r with
  |some x=>
   match Rz (fs.headD true) σ x with
   |some (l,k)=>match outs E σ fs.tail rs ts.tail with
    |some (qs,ds,ks')=>some (qs,.box l::ds,k::ks')
    |none=>none
   |none=>
   let want:=match ts with|t::_=>E.shape 8 t|[]=>[]
   let tb:=restrict σ.bM (SV.v x).keys
   match(bif fs.headD true then(match fu tb want x.cs with|some (ps,cs,ks,true)=>some (ps,cs,ks)|_=>none) else(match cellsOf tb σ.aN want x.cs with|some (ps,cs)=>some (ps,cs,[])|none=>none)) with
   |some (ps,cs,ks)=>match Nx x cs,outs E σ fs.tail rs ts.tail with
    |some d,some (qs,ds,ks')=>some (ps++qs,d::ds,ks++ks')
    |_,_=>none
   |none=>none
  |none=>none
def pO(σ:ai U)(i:Nat):Nat->List U.C->Option (List U.C×List Key)
 |_,[]=>some ([],[])
 |j,.lit v::r=>match pO σ i (j+1) r with|some (cs,ks)=>some (.lit v::cs,ks)|none=>none
 |j,.sl _ _::r=>match σ.bM (2000000+i,j),pO σ i (j+1) r with
  |some (.arr a true),some (cs,ks)=>some (.sl a.τ a.xs::cs,(2000000+i,j)::ks)
  |_,_=>none
def Rm(bs:List (AC U))(rest:List Value):List Prop:=(bs.length=rest.length)::(match rest with
 |[]=>[]
 |r=>[bs=r.map fun v=> .c (.lit v)])
theorem acu{bs:List (AC U)}{rest:List Value}(h:∀p∈Rm bs rest,p):bs=rest.map fun v=> .c (.lit v):=by
 cases rest with
 |nil=>exact FU (h _ gB)
 |cons r rs=>exact h _ (cI _ gB)
def Il(σ:ai U)(rest:List Value)(i:Nat)(want:List (Option U.Ty)):Mode->DV U->Option (List Prop×List (DV U)×List Key)
 | .ro,_=>some ([],[],[])
 | .mv,_=>some ([],[],[])
 | .wr,.one (.sl _ _)=>match σ.bM (2000000+i,0) with
  |some (.arr a true)=>some ([],[.one (.sl a.τ a.xs)],[(2000000+i,0)])
  |_=>none
 | .wr,.agg cs=>bif Nat.ble cs.length 1024 then(match pO σ i 0 cs with|some (ds,ks)=>some ([],[.agg ds],ks)|none=>none) else none
 | .box true,.box cs=>match σ.bM (2000000+i,0) with
  |some (.box bs)=>match fu (restrict σ.bM (SV.v ⟨true,bs⟩).keys) want (bs.take cs.length) with
   |some (ps,l,ks,true)=>bif Nat.beq l.length cs.length then some (ps++Rm (bs.drop cs.length) rest,[.box l],(2000000+i,0)::ks) else none
   |_=>none
  |_=>none
 | .box false,.box cs=>match σ.bM (2000000+i,0) with
  |some (.box bs)=>match plain (bs.take cs.length) with
   |some l=>bif Nat.beq l.length cs.length then some (Rm (bs.drop cs.length) rest,[.box l],[(2000000+i,0)]) else none
   |none=>none
  |_=>none
 |_,_=>none
def s6(σ:ai U)(rest:List Value):Nat->List (List (Option U.Ty))->List Mode->List (DV U)->Option (List Prop×List (DV U)×List Key)
 |i,ws,m::ms,d::ds=>match Il σ rest i (ws.headD []) m d,s6 σ rest (i+1) ws.tail ms ds with
  |some (ps,xs,ks),some (qs,ys,ks')=>some (ps++qs,xs++ys,ks++ks')
  |_,_=>none
 |_,_,_,_=>some ([],[],[])
def SM(ms:List Mode):Bool:=ms.any fun m=>match m with| .wr=>true| .mv=>true| .box true=>true|_=>false
def uY(ms:List Mode):Bool:=ms.all fun| .ro=>true|_=>false
def qv(E:Env U)(σ:ai U):List Bool->List ResultVar->List Key
 |_,[]=>[]
 |fs,r::rs=>(bif fs.headD true then[] else match N4 E σ r with|some x=>(SV.v x).keys|none=>[])++qv E σ fs.tail rs
def fin(E:Env U)(rs:List ResultVar)(ts:List TypeId)(rest:List Value)(ps:List TypeId)(ms:List Mode)(ds:List (DV U))(r:Res U)(σ:ai U):Prop:=
 match outs E (jT σ) r.fresh rs ts,s6 (jT σ) rest 0 (ps.map E.zD) ms ds with
 |some (ps,vs,ks),some (qs,mu,ks')=>bif distinct (ks++ks')&& !(meet (qv E (jT σ) r.fresh rs) (ks++ks'))&&(!(aa1 r.val)||uY ms) then QB (ps++qs) (vs=r.val/\mu=r.M0) else False
 |_,_=>False
def leave(E:Env U)(rs:List ResultVar)(ts:List TypeId)(rest:List Value)(ps:List TypeId)(ms:List Mode)(ds:List (DV U))(r:Res U):Out U->Prop
 | .ret σ=>fin E rs ts rest ps ms ds r σ
 | .normal σ=>fin E rs ts rest ps ms ds r σ
 | .exit _ _=>False
section
variable{E:Env U}{w:World}{F:Nat->Prop}
theorem kw.len:∀{ms:List Mode}{ds:List (DV U)}{vs:List Value}{ls:List (List Nat)},kw E w F ms ds vs ls->ds.length=ms.length/\vs.length=ms.length/\ls.length=ms.length
 |[],[],[],[],_=>⟨rfl,rfl,rfl⟩
 |m::ms,d::ds,v::vs,l::ls,h=>by
  obtain⟨h1,h2,h3⟩:=kw.len h.2
  simp[h1,h2,h3]
 |[],_::_,_,_,h=>h.elim
 |[],[],_::_,_,h=>h.elim
 |[],[],[],_::_,h=>h.elim
 |_::_,[],_,_,h=>h.elim
 |_::_,_::_,[],_,h=>h.elim
 |_::_,_::_,_::_,[],h=>h.elim
theorem uH{ls:List (List Nat)}:ls.flatten.Nodup↔(∀l∈ls,l.Nodup)/\ls.Pairwise (fun a b=>∀x∈a,∀y∈b,x≠y):=List.pairwise_flatten
theorem alf{ls:List (List Nat)}(h:ls.flatten.Nodup){i j:Nat}(FQ:i≠j){b:Nat}(hb:b∈ls.getD i []):b∉ls.getD j []:=by
 intro bg
 rw[uH] at h
 have gZ:∀{k:Nat},b∈ls.getD k []->∃hk:k<ls.length,b∈ls[k]:=by
  intro k hk
  rcases pa k ls.length with g|g
  ·exact⟨g,by rwa[eX,fH g] at hk⟩
  ·rw[eX,ox g] at hk;cases hk
 obtain⟨hi,hb⟩:=gZ hb
 obtain⟨hj,bg⟩:=gZ bg
 have hp:=UA.1 h.2
 rcases Nat.lt_or_gt_of_ne FQ with g|g
 ·exact hp i j hi hj g _ hb _ bg rfl
 ·exact hp j i hj hi g _ bg _ hb rfl
theorem aky{ls:List (List Nat)}{j b:Nat}(hb:b∈ls.getD j []):b∈ls.flatten:=by
 rcases pa j ls.length with g|g
 ·rw[eX,fH g] at hb
  exact Y0.2 ⟨_,FJ g,hb⟩
 ·rw[eX,ox g] at hb;cases hb
theorem acM{ls:List (List Nat)}(h:ls.flatten.Nodup)(j:Nat):(ls.getD j []).Nodup:=by
 rcases pa j ls.length with g|g
 ·rw[eX,fH g]
  exact(uH.1 h).1 _ (FJ g)
 ·rw[eX,ox g];exact YZ
theorem alA{a b:List Key}(h:distinct (a++b)=true):distinct a=true/\distinct b=true/\∀k∈a,k∉b:=by
 rw[uC,rz] at h
 exact⟨uC.2 h.1,uC.2 h.2.1,fun k hk db=>h.2.2 k hk k db rfl⟩
theorem aly{x:AV U}{cs:List U.C}{d:DV U}{v:Value}{vs:List Value}{fl:List (List Nat)}(hd:Nx x cs=some d)(hv:if x.agg then v=.agg vs.toArray else vs=[v])(hl:vs.length=cs.length)(hf:fl.length=cs.length)
  (h:∀(i:Nat)(c:U.C),cs[i]? =some c->Rp E w F true c (vs.getD i undef) (fl.getD i [])):lr E w F true d v fl.flatten:=by
 unfold Nx at hd
 cases Uu:x.agg<;>rw[Uu] at hd hv<;>simp only[cond_true,cond_false,xt,if_false,if_true] at hd hv
 ·split at hd
  ·rename_i c
   cases hd
   subst hv
   simp only[fY,fG] at hf
   obtain⟨l,rfl⟩:=List.length_eq_one_iff.1 hf
   simpa[lr] using h 0 c rfl
  ·cases hd
 ·cases hd
  simp only[lr,if_true]
  exact⟨vs,fl,hv,hl,hf,h,rfl⟩
theorem alx{x:AV U}{cs:List U.C}{d:DV U}{v:Value}{vs:List Value}(hd:Nx x cs=some d)(hv:if x.agg then v=.agg vs.toArray else vs=[v])(hl:vs.length=cs.length)
  (h:∀(i:Nat)(c:U.C),cs[i]? =some c->Rp E w F false c (vs.getD i undef) []):lr E w F false d v []:=by
 unfold Nx at hd
 cases Uu:x.agg<;>rw[Uu] at hd hv<;>simp only[cond_true,cond_false,xt,if_false,if_true] at hd hv
 ·split at hd
  ·rename_i c
   cases hd
   subst hv
   simpa[lr] using h 0 c rfl
  ·cases hd
 ·cases hd
  simp only[lr,xt,if_false]
  exact⟨vs,hv,hl,h,trivial⟩
def Ue(i:Nat)(m:Mode)(d:DV U)(v:Value)(kv:Key->Value):Prop:=
 match m,d with
 | .wr,.one _=>kv (2000000+i,0)=v
 | .wr,.agg cs=>∃vs:List Value,v=.agg vs.toArray/\vs.length=cs.length/\(∀(j:Nat)(τ:U.Ty)(xs:List (U.T τ)),cs[j]? =some (.sl τ xs)->kv (2000000+i,j)=vs.getD j undef)/\(∀(j:Nat)(u:Value),cs[j]? =some (.lit u)->vs.getD j undef=u/\gM u)
 | .box _,.box _=>kv (2000000+i,0)=v
 |_,_=>True
def AH(kv:Key->Value):Nat->List Mode->List (DV U)->List Value->Prop
 |i,m::ms,d::ds,v::vs=>Ue i m d v kv/\AH kv (i+1) ms ds vs
 |_,_,_,_=>True
def kW:Mode->Bool
 | .box _=>true
 |_=>false
def q_(w:World)(rest:List Value):List Mode->List (DV U)->List Value->Prop
 |m::ms,d::ds,v::vs=>(∀cs,kW m=true->d=.box cs->rest=sE w v cs.length)/\q_ w rest ms ds vs
 |_,_,_=>True
def uz(w:World):List Mode->List (DV U)->List Value->List Value
 |m::ms,d::ds,v::vs=>bif kW m then(match d with| .box cs=>sE w v cs.length|_=>[]) else uz w ms ds vs
 |_,_,_=>[]
def ru:List Mode->Bool
 |[]=>true
 |m::r=>bif kW m then !(r.any kW) else ru r
theorem adr{w:World}{rest:List Value}:∀{ms:List Mode}{ds:List (DV U)}{vs:List Value},ms.any kW=false->q_ w rest ms ds vs
 |[],_,_,_=>trivial
 |m::ms,[],_,_=>trivial
 |m::ms,d::ds,[],_=>trivial
 |m::ms,d::ds,v::vs,h=>by
  simp only[Ux,QL] at h
  exact⟨fun cs hb _=>(by rw[h.1] at hb;cases hb),adr h.2⟩
theorem adq{w:World}:∀{ms:List Mode}{ds:List (DV U)}{vs:List Value},ru ms=true->q_ w (uz w ms ds vs) ms ds vs
 |[],_,_,_=>trivial
 |m::ms,[],_,_=>trivial
 |m::ms,d::ds,[],_=>trivial
 |m::ms,d::ds,v::vs,h=>by
  unfold ru at h
  unfold uz
  cases hb:kW m<;>rw[hb] at h<;>simp only[cond_true,cond_false] at h⊢
  ·exact⟨fun cs bg _=>(by rw[hb] at bg;cases bg),adq h⟩
  ·exact⟨fun cs _ hd=>by rw[hd],adr (by simpa using h)⟩
theorem adp{w:World}:∀{ms:List Mode}{ds:List (DV U)}{vs:List Value},tG w 0 ms ds vs->q_ w [] ms ds vs
 |[],_,_,_=>trivial
 |m::ms,[],_,_=>trivial
 |m::ms,d::ds,[],_=>trivial
 |m::ms,d::ds,v::vs,h=>by
  refine⟨fun cs hb hd=> ?_,adp h.2⟩
  cases m with
  |box own=>exact(FU (h.1 own cs rfl hd)).symm
  |ro=>cases hb
  |wr=>cases hb
  |mv=>cases hb
theorem acv{w:World}:∀{ms:List Mode}{ds:List (DV U)}{vs:List Value},ms.any kW=false->uz w ms ds vs=[]
 |[],_,_,_=>rfl
 |m::ms,[],_,_=>rfl
 |m::ms,d::ds,[],_=>rfl
 |m::ms,d::ds,v::vs,h=>by
  simp only[Ux,QL] at h
  unfold uz
  rw[h.1]
  exact acv h.2
theorem acw{n:Nat}:∀{ms:List Mode}{ds:List (DV U)}{vs:List Value}{ls:List (List Nat)},kw E w F ms ds vs ls->tG w n ms ds vs->ru ms=true->ms.any kW=true->(uz w ms ds vs).length=n
 |[],[],[],[],_,_,_,hb=>by simp at hb
 |m::ms,d::ds,v::vs,l::ls,h,hr,h1,hb=>by
  unfold ru at h1
  unfold uz
  cases hm:kW m<;>rw[hm] at h1<;>simp only[cond_true,cond_false] at h1⊢
  ·exact acw h.2 hr.2 h1 (by simpa[hm] using hb)
  ·cases m with
   |box own=>
    cases d with
    |box cs=>exact hr.1 own cs rfl rfl
    |one _=>exact h.1.elim
    |agg _=>exact h.1.elim
    |ptr _=>exact h.1.elim
    |fn _=>exact h.1.elim
   |ro=>cases hm
   |wr=>cases hm
   |mv=>cases hm
 |[],_::_,_,_,h,_,_,_=>h.elim
 |[],[],_::_,_,h,_,_,_=>h.elim
 |[],[],[],_::_,h,_,_,_=>h.elim
 |_::_,[],_,_,h,_,_,_=>h.elim
 |_::_,_::_,[],_,h,_,_,_=>h.elim
 |_::_,_::_,_::_,[],h,_,_,_=>h.elim
theorem Rq{dst:Nat}:∀{cs:List U.C}{base:Nat},(((putCells dst true base cs).2).map (·.1)).Nodup/\∀p∈(putCells dst true base cs).2,base<=p.1
 |[],base=>⟨by simp[putCells],fun p hp=>by simp[putCells] at hp⟩
 | .lit v::r,base=>by
  obtain⟨h1,h2⟩:=Rq (dst:=dst) (cs:=r) (base:=base+1)
  exact⟨by simpa[putCells] using h1,fun p hp=>by have:=h2 p (by simpa[putCells] using hp);omega⟩
 | .sl τ xs::r,base=>by
  obtain⟨h1,h2⟩:=Rq (dst:=dst) (cs:=r) (base:=base+1)
  refine⟨?_,fun p hp=> ?_⟩
  ·simp only[putCells,cond_true,wb,tS]
   refine⟨fun hm=> ?_,h1⟩
   obtain⟨p,hp,e⟩:=l_.1 hm
   have:=h2 p hp
   omega
  ·simp only[putCells,cond_true,kf] at hp
   rcases hp with rfl|hp
   ·exact tR _
   ·have:=h2 p hp;omega
theorem acA{dst:Nat}:∀{cs:List U.C}{base j:Nat}{τ:U.Ty}{xs:List (U.T τ)},cs[j]? =some (.sl τ xs)->(putCells dst true base cs).1[j]? =some (.ref (dst,base+j) [])
 |[],base,j,τ,xs,h=>by simp at h
 |c::r,base,j,τ,xs,h=>by
  cases j with
  |zero=>
   simp only[vh,gJ] at h
   subst h
   rfl
  |succ j=>
   have:=acA (dst:=dst) (cs:=r) (base:=base+1) (j:=j) (by simpa using h)
   cases c<;>simpa[putCells,QX,zew 1 j] using this
theorem als{i:Nat}{rest:List Value}{m:Mode}{d:DV U}{v:Value}{l:List Nat}(h:ou E w F m d v l)(lG:∀cs,kW m=true->d=.box cs->rest=sE w v cs.length):
  ∃t:fA U,(EY i rest m d).2=t.es/\(t.map (·.1)).Nodup/\t.bl=l/\∀kv fp bad,(∀s∈t,kv (2000000+i,s.1)=s.2.2.1)->
   RS E w F kv fp bad (EY i rest m d).1 v/\(∀s∈t,tH E w F kv fp bad s.2.1 s.2.2.1 s.2.2.2)/\Ue i m d v kv:=by
 have agg:∀(bs:Nat){cs:List U.C}{v:Value}{l:List Nat},mD E w F cs v l->∃t:fA U,(putCells (2000000+i) true bs cs).2=t.es/\(t.map (·.1)).Nodup/\t.bl=l/\∃vs:List Value,v=.agg vs.toArray/\vs.length=cs.length/\(∀(j:Nat)(u:Value),cs[j]? =some (.lit u)->vs.getD j undef=u/\gM u)/\
   ∀kv fp bad,(∀s∈t,kv (2000000+i,s.1)=s.2.2.1)->l8 E w F kv fp bad (putCells (2000000+i) true bs cs).1 vs/\(∀s∈t,tH E w F kv fp bad s.2.1 s.2.2.1 s.2.2.2):=by
  rintro bs cs v l ⟨vs,fl,h1,h2,h3,h4,h5⟩
  obtain⟨t,t1,t2,t3,t4⟩:=Ks (dst:=2000000+i) (base:=bs) h2 h3 h4
  refine⟨t,t1,?_,by rw[t3,h5],vs,h1,h2,fun j u hj=> ?_,fun kv fp bad hk=>⟨t4 kv fp bad hk,fun s hs=>t2 s hs kv fp bad⟩⟩
  ·have:=(Rq (dst:=2000000+i) (cs:=cs) (base:=bs)).1
   rw[t1] at this
   simpa[fA.es,Function.comp_def] using this
  ·obtain⟨_,g2,g3⟩:=(h4 j _ hj).mJ
   exact⟨g2,g3⟩
 cases m with
 |ro=>
  cases d with
  |one c=>exact⟨[],rfl,by simp,h.2.symm,fun kv fp bad _=>⟨AG ⟨h.1.gD,.inr h.1⟩,by simp,trivial⟩⟩
  |agg cs=>
   obtain⟨vs,rfl,h2,h3,h4⟩:=h
   exact⟨[],rfl,by simp,h4.symm,fun kv fp bad _=>⟨⟨vs,MR h2 h3,rfl⟩,by simp,trivial⟩⟩
  |ptr cs=>
   obtain⟨⟨b,o,rfl,h2,h3⟩,h4⟩:=h
   exact⟨[],rfl,by simp,h4.symm,fun kv fp bad _=>⟨AG ⟨⟨rfl,trivial⟩,.inr ⟨b,o,rfl,h2,h3⟩⟩,by simp,trivial⟩⟩
  |fn p=>exact⟨[],rfl,by simp,h.2.symm,fun kv fp bad _=>⟨h.1,by simp,trivial⟩⟩
  |box cs=>exact h.elim
 |wr=>
  cases d with
  |one c=>
   cases c with
   |lit _=>exact h.elim
   |sl τ xs=>
    refine⟨[(0,.arr ⟨τ,xs⟩ true,v,l)],rfl,by simp,by simp[fA.bl],fun kv fp bad hk=> ?_⟩
    have BS:kv (2000000+i,0)=v:=hk _ (mF.2 rfl)
    refine⟨AG ⟨?_,.inr (by simp only[RA];rw[BS];rfl)⟩,fun s hs=>by rw[mF.1 hs];exact h,BS⟩
    rcases h with⟨_,⟨ad,rfl⟩,_⟩|⟨b,cap,cur,vs,ic,rfl,_⟩<;>exact⟨rfl,trivial⟩
  |agg cs=>
   obtain⟨t,t1,t2,t3,vs,t4,t5,t6,t7⟩:=agg 0 h
   refine⟨t,t1,t2,t3,fun kv fp bad hk=> ?_⟩
   obtain⟨g1,g2⟩:=t7 kv fp bad hk
   refine⟨⟨vs,g1,t4⟩,g2,vs,t4,t5,fun j τ xs hj=> ?_,t6⟩
   have hr:=acA (dst:=2000000+i) (base:=0) hj
   have gZ:j<vs.length:=by
    rw[t5]
    rcases pa j cs.length with g|g
    ·exact g
    ·rw[ox g] at hj;cases hj
   have:=cw (g1.2 j _ _ hr (fM (d:=undef) gZ)) rfl
   simp only[RA,vf] at this
   exact this.symm
  |box _=>exact h.elim
  |ptr _=>exact h.elim
  |fn _=>exact h.elim
 |mv=>
  cases d with
  |one c=>
   obtain⟨t,t1,t2,t3,t4⟩:=Ks (E:=E) (w:=w) (F:=F) (dst:=2000000+i) (base:=4096) (cs:=[c]) (vs:=[v]) (fl:=[l]) rfl rfl (fun j c' hc=>by
    cases j with
    |zero=>simp only[vh,gJ] at hc;subst hc;exact h
    |succ j=>simp at hc)
   refine⟨t,t1,?_,by simpa using t3,fun kv fp bad hk=>⟨⟨[v],t4 kv fp bad hk,by simp⟩,fun s hs=>t2 s hs kv fp bad,trivial⟩⟩
   have:=(Rq (dst:=2000000+i) (cs:=[c]) (base:=4096)).1
   rw[t1] at this
   simpa[fA.es,Function.comp_def] using this
  |agg cs=>
   obtain⟨t,t1,t2,t3,vs,t4,t5,t6,t7⟩:=agg 4096 h
   refine⟨t,t1,t2,t3,fun kv fp bad hk=> ?_⟩
   obtain⟨g1,g2⟩:=t7 kv fp bad hk
   exact⟨⟨vs,g1,t4⟩,g2,trivial⟩
  |box _=>exact h.elim
  |ptr _=>exact h.elim
  |fn _=>exact h.elim
 |box own=>
  cases d with
  |box cs=>
   have hrs:=lG cs rfl rfl
   obtain⟨b,cur,e,fl,h1,h2,h3,h4,h5,h6,h7,h8⟩:=h
   rw[<-hrs] at h4 h5
   have iH:cur.toList.take cs.length++cur.toList.drop cs.length=cur.toList:=UB _ _
   have sQ:∀(j:Nat)(c:U.C),cs[j]? =some c->(cur.toList.take cs.length).getD j undef=cur.toList.getD j undef:=by
    intro j c hc
    have hj:j<cs.length:=by
     rcases pa j cs.length with g|g
     ·exact g
     ·rw[ox g] at hc;cases hc
    simp only[eX,qa,if_pos hj]
   have W9:∀kv fp bad,l8 E w F kv fp bad (rest.map fun v=> .c (.lit v)) rest:=by
    intro kv fp bad
    refine⟨by simp,fun j x u hx hu=> ?_⟩
    rw[nO,hu] at hx
    cases hx
    exact xn (h5 u (Gn hu))
   cases own with
   |true=>
    obtain⟨t,t1,t2,t3,t4⟩:=Ks (E:=E) (w:=w) (F:=F) (dst:=2000000+i) (base:=4096) (cs:=cs) (vs:=cur.toList.take cs.length) (fl:=fl) (by simp;omega) h6 (fun j c hc=>by rw[sQ j c hc];exact h7 j c hc)
    have W5:=Rq (dst:=2000000+i) (cs:=cs) (base:=4096)
    refine⟨(0,.box ((putCells (2000000+i) true 4096 cs).1++rest.map fun v=> .c (.lit v)),v,[b])::t,by simp[EY,fA.es,t1],?_,by rw[h8];simp only[fA.bl,zt,List.singleton_append] at t3⊢;rw[t3],fun kv fp bad hk=> ?_⟩
    ·rw[wb,tS]
     have h0:(t.map (·.1))=((putCells (2000000+i) true 4096 cs).2).map (·.1):=by rw[t1];simp[fA.es,Function.comp_def]
     rw[h0]
     refine⟨fun hm=> ?_,W5.1⟩
     obtain⟨p,hp,e⟩:=l_.1 hm
     have:=W5.2 p hp
     simp only at e
     omega
    ·have BS:kv (2000000+i,0)=v:=hk _ gB
     have z0:=fun s hs=>hk s (cI _ hs)
     refine⟨AG ⟨by rw[h1];exact⟨rfl,trivial⟩,.inr ⟨b,by rw[BS,h1],h1⟩⟩,fun s hs=> ?_,BS⟩
     rcases kf.1 hs with rfl|hs
     ·refine⟨b,cur,e,h1,h2,rfl,?_⟩
      rw[<-iH,h4]
      exact(t4 kv fp bad z0).append (W9 kv fp bad)
     ·exact t2 s hs kv fp bad
   |false=>
    have Gd:fl.flatten=[]:=by
     rw[zdm]
     intro b' bg
     obtain⟨l',H_,Gh⟩:=Y0.1 bg
     obtain⟨j,hj,rfl⟩:=sn H_
     have ug:j<cs.length:=by omega
     have:=h7 j _ (fH ug)
     rw[eX (l:=fl),fH hj] at this
     exact this.Vv (F':=fun _=>False) Gh
    rw[Gd] at h8
    refine⟨[(0,.box (cs.map .c++rest.map fun v=> .c (.lit v)),v,[b])],rfl,by simp,by simp[fA.bl,h8],fun kv fp bad hk=> ?_⟩
    have BS:kv (2000000+i,0)=v:=hk _ gB
    refine⟨AG ⟨by rw[h1];exact⟨rfl,trivial⟩,.inr ⟨b,by rw[BS,h1],h1⟩⟩,fun s hs=> ?_,BS⟩
    rw[mF.1 hs]
    refine⟨b,cur,e,h1,h2,rfl,?_⟩
    rw[<-iH,h4]
    refine(MR (by simp;omega) (fun j c hc=> ?_)).append (W9 kv fp bad)
    rw[sQ j c hc]
    have:=h7 j c hc
    exact this.lz (fun _ hb=>hb) (fun b' bg=>this.Vv bg)
  |one _=>exact h.elim
  |agg _=>exact h.elim
  |ptr _=>exact h.elim
  |fn _=>exact h.elim
theorem akx{dst:Nat}{t:fA U}{k:Key}{e:i_ U}(h:eZ (pE dst t.es) k=some e):∃s∈t,k=(dst,s.1)/\e=s.2.1:=by
 have:=FY h
 simp only[pE,fA.es,List.map_map,l_,Function.comp,pb,gJ] at this
 obtain⟨s,hs,h1,h2⟩:=this
 exact⟨s,hs,h1.symm,h2.symm⟩
theorem ac9{rest:List Value}:∀{ms:List Mode}{ds:List (DV U)}{vs:List Value}{ls:List (List Nat)}{i:Nat},kw E w F ms ds vs ls->q_ w rest ms ds vs->
  ∃ts:List (fA U),ts.map fA.bl=ls/\(∀t∈ts,(t.map (·.1)).Nodup)/\
   (∀k e,eZ (Nw rest i ms ds) k=some e->∃j s,s∈ts.getD j []/\k=(2000000+(i+j),s.1)/\e=s.2.1)/\
   ∀kv fp bad,(∀j s,s∈ts.getD j []->kv (2000000+(i+j),s.1)=s.2.2.1)->
    (∀s x,look (E0 rest i ms ds) s=some x->∃j,s=i+j/\j<vs.length/\RS E w F kv fp bad x (vs.getD j undef))/\
    (∀j s,s∈ts.getD j []->tH E w F kv fp bad s.2.1 s.2.2.1 s.2.2.2)/\AH kv i ms ds vs
 |[],[],[],[],i,_,_=>⟨[],rfl,by simp,fun k e he=>(by cases he),fun kv fp bad _=>⟨fun s x hs=>(by cases hs),by simp,trivial⟩⟩
 |m::ms,d::ds,v::vs,l::ls,i,h,hr=>by
  obtain⟨ts,i1,i2,i3,i4⟩:=ac9 (rest:=rest) (i:=i+1) h.2 hr.2
  obtain⟨t,t1,t2,t3,t4⟩:=als (i:=i) h.1 hr.1
  refine⟨t::ts,by rw[wb,t3,i1],fun t' ht=> ?_,fun k e he=> ?_,fun kv fp bad hk=> ?_⟩
  ·rcases kf.1 ht with rfl|ht
   ·exact t2
   ·exact i2 t' ht
  ·have he:=(F4 _ _ _).symm.trans he
   split at he
   ·rw[t1] at he
    obtain⟨s,hs,h1,h2⟩:=akx he
    exact⟨0,s,by simpa using hs,by simpa using h1,h2⟩
   ·obtain⟨j,s,hs,h1,h2⟩:=i3 k e he
    exact⟨j+1,s,by simpa using hs,by rw[h1];simp only[pb,and_true];omega,h2⟩
  ·obtain⟨g1,g2,g3⟩:=t4 kv fp bad (fun s hs=>by have:=hk 0 s (by simpa using hs);simpa using this)
   obtain⟨k1,k2,k3⟩:=i4 kv fp bad (fun j s hs=>by have:=hk (j+1) s (by simpa using hs);simpa[QX,zew 1 j] using this)
   refine⟨fun s x hs=> ?_,fun j s hs=> ?_,g3,k3⟩
   ·have hs:=(MO _ _ _ _).symm.trans hs
    split at hs
    ·rename_i e;cases hs;exact⟨0,by simp[e],by simp,by simpa using g1⟩
    ·obtain⟨j,rfl,h2,h3⟩:=k1 s x hs
     exact⟨j+1,by omega,by simpa using h2,by simpa using h3⟩
   ·cases j with
    |zero=>exact g2 s (by simpa using hs)
    |succ j=>exact k2 j s (by simpa using hs)
 |[],_::_,_,_,_,h,_=>h.elim
 |[],[],_::_,_,_,h,_=>h.elim
 |[],[],[],_::_,_,h,_=>h.elim
 |_::_,[],_,_,_,h,_=>h.elim
 |_::_,_::_,[],_,_,h,_=>h.elim
 |_::_,_::_,_::_,[],_,h,_=>h.elim
def RC(w:World)(F:Nat->Prop)(kv:Key->Value)(ls:List (List Nat)):Pm:=
 ⟨w,fun b=>b∈ls.flatten,F,fun k=>if 2000000<=k.1/\k.2<1024 then some (kv k) else none⟩
theorem ak'{ts:List (fA U)}{j:Nat}:(ts.map fA.bl).getD j []=(ts.getD j []).bl:=by
 rw[eX,eX,nO]
 cases ts[j]? <;>rfl
theorem alr{n:Nat}{rest:List Value}{ms:List Mode}{ds:List (DV U)}{vs:List Value}{ls:List (List Nat)}(hF:∀b,F b->b<w.heap.size)(Nc:WD E w F)(h:kw E w F ms ds vs ls)(hr:q_ w rest ms ds vs)(hn:ls.flatten.Nodup)(hl:∀b∈ls.flatten,b<w.heap.size/\¬F b)
  (hms:ms.length<=n) (xu:n<=1000000):
  ∃KS V9,cQ E (RC w F KS ls) F KS V9 (entry rest n ms ds) {tmps:=vs.toArray++Array.replicate (n-vs.length) undef,defers:=[]} w/\AH KS 0 ms ds vs:=by
 obtain⟨l1,l2,l3⟩:=h.len
 obtain⟨ts,i1,i2,i3,i4⟩:=ac9 (rest:=rest) (i:=0) h hr
 have qD:∀{j:Nat},((ts.getD j []).map (·.1)).Nodup:=by
  intro j
  rcases pa j ts.length with g|g
  ·rw[eX,fH g];exact i2 _ (FJ g)
  ·rw[eX,ox g];exact YZ
 let KS:Key->Value:=fun k=>(ts.getD (k.1-2000000) []).Bw k.1 (fun _=>undef) k
 let V9:Key->List Nat:=fun k=>(ts.getD (k.1-2000000) []).Ac k.1 (fun _=>[]) k
 have P7:∀j s,s∈ts.getD j []->KS (2000000+(0+j),s.1)=s.2.2.1:=by
  intro j s hs
  simp only[KS,vf,Nat.add_sub_cancel_left]
  exact fA.xV qD hs
 have sR:∀j s,s∈ts.getD j []->V9 (2000000+(0+j),s.1)=s.2.2.2:=by
  intro j s hs
  simp only[V9,vf,Nat.add_sub_cancel_left]
  exact fA.vA qD hs
 obtain⟨g1,g2,g3⟩:=i4 KS V9 (bR (entry rest n ms ds)) P7
 have Qe:∀{j:Nat},(ts.getD j []).bl=ls.getD j []:=fun{j}=>by rw[<-i1,ak']
 have aaW:∀{j:Nat}{s:Nat×i_ U×Value×List Nat}{b:Nat},s∈ts.getD j []->b∈s.2.2.2->b∈ls.getD j []:=fun{j s b} hs hb=>by rw[<-Qe];exact fA.pX.2 ⟨s,hs,hb⟩
 refine⟨KS,V9,⟨by simp[entry];omega,rfl,fun s x hs=> ?_,fun k e he=> ?_,fun k k' e e' b fg h1 h2 hb=> ?_,fun k e he=> ?_,fun k e b he hb=> ?_,hF,fun b hb=> .inl hb,iC.refl _ _,fun k v hk=> ?_,Nc⟩,g3⟩
 ·obtain⟨j,rfl,hj,h3⟩:=g1 s x hs
  have:(vs.toArray++Array.replicate (n-vs.length) undef).getD (0+j) undef=vs.getD j undef:=by
   rw[vf,QY,Array.getElem?_append_left (by simpa using hj)]
   simp[eX]
  show RS E w F _ _ _ x ((vs.toArray++Array.replicate (n-vs.length) undef).getD (0+j) undef)
  rw[this];exact h3
 ·obtain⟨j,s,hs,rfl,rfl⟩:=i3 k e he
  rw[P7 j s hs,sR j s hs]
  exact g2 j s hs
 ·obtain⟨j,s,hs,rfl,rfl⟩:=i3 k e h1
  obtain⟨j',s',ky,rfl,rfl⟩:=i3 k' e' h2
  rw[sR j s hs] at hb
  rw[sR j' s' ky]
  by_cases hj:j=j'
  ·subst hj
   have wh:(ts.getD j []).bl.Nodup:=by rw[Qe];exact acM hn j
   exact fA.rW wh hs ky (fun e=>fg (by rw[e])) hb
  ·exact fun bg=>alf hn hj (aaW hs hb) (aaW ky bg)
 ·obtain⟨j,s,hs,rfl,rfl⟩:=i3 k e he
  rw[sR j s hs]
  have wh:(ts.getD j []).bl.Nodup:=by rw[Qe];exact acM hn j
  exact fA.yL wh hs
 ·obtain⟨j,s,hs,rfl,rfl⟩:=i3 k e he
  rw[sR j s hs] at hb
  have:=aky (aaW hs hb)
  exact⟨(hl b this).2,.inl this,(hl b this).1⟩
 ·simp only[RC] at hk
  split at hk
  ·rename_i hc
   cases hk
   exact⟨hc.1,hc.2,xu,rfl⟩
  ·cases hk
variable{pm:Pm}{kv:Key->Value}{fp:Key->List Nat}{σ:ai U}{a:Act}
def MJ(tmps:Array Value):ResultVar->Sem Value
 | .tmp t=>pure (tmps.getD t undef)
 | .cell a t=>do loadVar t (<-asAddr (tmps.getD a undef))
def JR(P:Program)(tmps:Array Value)(w:World):List ResultVar->List Value->Prop
 |[],[]=>True
 |r::rs,u::us=>(MJ tmps r).run P w=.ok u w/\JR P tmps w rs us
 |_,_=>False
theorem acP{P:Program}{tmps:Array Value}{w:World}:∀{rs:List ResultVar}{us:List Value},JR P tmps w rs us->(List.mapM (MJ tmps) rs).run P w=.ok us w
 |[],[],_=>rfl
 |r::rs,u::us,h=>by
  rw[List.mapM_cons,Sem.run_bind,h.1]
  simp only[Result.andThen,Sem.run_bind,acP h.2]
  rfl
 |[],_::_,h=>h.elim
 |_::_,[],h=>h.elim
theorem aj_{P:Program}{fn:Func}{tmps:Array Value}{w:World}{us:List Value}(h:JR P tmps w fn.results.toList us):
  (results fn tmps).run P w=.ok (Pj us) w:=by
 have hg:(fun x=>match x with
   |ResultVar.tmp t=>(pure (tmps.getD t undef):Sem Value)
   |ResultVar.cell a t=>do loadVar t (<-asAddr (tmps.getD a undef)))=MJ tmps:=by
  funext x;cases x<;>rfl
 unfold results
 have hr:fn.results=fn.results.toList.toArray:=rfl
 rw[hr,List.mapM_toArray]
 show Sem.run P (do
  let vs←Functor.map List.toArray (List.mapM (fun x=>match x with
   |ResultVar.tmp t=>(pure (tmps.getD t undef):Sem Value)
   |ResultVar.cell a t=>do loadVar t (<-asAddr (tmps.getD a undef))) fn.results.toList)
  pure (if h:vs.size=1 then vs[0] else Value.tuple vs)) w=_
 rw[hg,Sem.run_bind]
 have hm:(Functor.map List.toArray (List.mapM (MJ tmps) fn.results.toList)).run P w=.ok us.toArray w:=by
  rw[map_eq_pure_bind,Sem.run_bind,acP h]
  rfl
 rw[hm]
 show Result.ok _ w=_
 congr 1
 match us with
 |[]=>rfl
 |[t]=>rfl
 |t::u::r=>
  rw[dif_neg (by simp)]
  rfl
theorem acx(h:cQ E pm F kv fp σ a w){r:ResultVar}{x:AV U}(hr:N4 E σ r=some x):∃u,(MJ a.tmps r).run E.P w=.ok u w/\RV E w F kv fp (bR σ) x u:=by
 unfold N4 at hr
 split at hr
 ·rename_i t
  split at hr
  ·rename_i y hy
   cases hr
   exact⟨_,rfl,h.bI t _ hy⟩
  ·cases hr
 ·rename_i s t
  split at hr
  ·rename_i k hk
   split at hr
   ·rename_i cs n g he hn hg
    rw[iu] at hr
    split at hr
    ·rename_i hc
     cases hr
     simp only[cO] at hc
     obtain⟨b,h1,h2⟩:=cw (HL (h.bI s _ hk)) rfl
     obtain⟨b',cur,e,h3,h4,h5,h6⟩:=h.dV k _ he
     rw[h1] at h3;cases h3
     have hlen:n=cur.toList.length:=(nc hc.1).trans h6.1
     obtain⟨v,hv1,hv2⟩:=U5 (E:=E) (w:=w) (us:=cur.toList) (off:=0) (b:=b) hn hg hc.2 hlen.symm (fun j v hj=>by
      simp only[World.cell?,h4,vf]
      simpa using hj)
     refine⟨v,?_,cur.toList,h6,hv2⟩
     have fo:(MJ a.tmps (.cell s t)).run E.P w=(Instr.loadAt t (.pointer (some ⟨b,0,none⟩))).run E.P w:=by
      simp only[MJ,h2,asAddr,Instr.loadAt,Instr.sureAddr,pure_bind]
     rw[fo];exact hv1
    ·cases hr
   ·cases hr
  ·cases hr
theorem akj(h:cQ E pm F kv fp σ a w):∀{rs:List ResultVar}{fs:List Bool}{ts:List TypeId}{ps:List Prop}{ds:List (DV U)}{ks:List Key},outs E σ fs rs ts=some (ps,ds,ks)->(∀p∈ps,p)->ks.Nodup->
  ∃(us:List Value)(si:List (List Nat)),JR E.P a.tmps w rs us/\(∀F':Nat->Prop,(∀b,F b->F' b)->(∀k e b,k∈qv E σ fs rs->σ.bM k=some e->b∈fp k->F' b)->nu E w F' fs ds us si)/\si.flatten.Nodup/\(∀b∈si.flatten,∃k∈ks,b∈fp k)/\(∀k∈ks,(σ.bM k).isSome=true):=by
 intro rs
 induction rs with
 |nil=>
  intro fs ts ps ds ks ho hp hn
  simp only[outs,gJ,pb] at ho
  obtain⟨rfl,rfl,rfl⟩:=ho
  exact⟨[],[],trivial,fun _ _ _=>trivial,by simp,by simp,by simp⟩
 |cons r rs ih=>
  intro fs ts ps ds ks ho hp hn
  have Ia:∀k,k∈qv E σ fs.tail rs->k∈qv E σ fs (r::rs):=fun k hk=>by
   simp only[qv,jO];exact .inr hk
  simp only[outs] at ho
  split at ho
  ·rename_i x hx
   split at ho
   ·rename_i l k xZ
    split at ho
    ·rename_i qs ds2 ks2 KW
     cases ho
     have hh:fs.headD true=true:=by
      cases hh:fs.headD true with
      |true=>rfl
      |false=>
       rw[hh] at xZ
       unfold Rz at xZ
       split at xZ<;>cases xZ
     rw[hh] at xZ
     unfold Rz at xZ
     split at xZ
     ·rename_i k0
      simp only[cond_true] at xZ
      split at xZ
      ·rename_i bs he
       split at xZ
       ·rename_i l' hl
        cases xZ
        obtain⟨uf,n2⟩:=tS.1 hn
        obtain⟨us,si,i1,i2,i3,i4,i5⟩:=ih KW hp n2
        obtain⟨u,hu,vs,r1,r2⟩:=acx h hx
        simp only[xt,if_false] at r2
        subst r2
        obtain⟨b,P7,rfl⟩:=cw (r1.2 0 _ u rfl rfl) rfl
        obtain⟨b',cur,e',g1,g2,g3,g4⟩:=h.dV k _ he
        rw[P7] at g1
        simp only[Value.pointer.injEq,gJ,Addr.mk.injEq] at g1
        obtain⟨rfl,_,_⟩:=g1
        have vz:=Pn hl
        have Gb:bs.length=l.length:=by rw[vz];simp
        have rP:lr E w F true (.box l:DV U) (.pointer (some ⟨b,0,none⟩)) [b]:=by
         refine⟨rfl,b,cur,e',rfl,g2,rfl,by rw[<-Gb,g4.1];simp,fun i c hc=> ?_⟩
         have hbc:bs[i]? =some (.c c):=by rw[vz,nO,hc];rfl
         have gZ:i<cur.toList.length:=by
          rw[<-g4.1]
          rcases pa i bs.length with g|g
          ·exact g
          ·rw[ox g] at hbc;cases hbc
         have sN:cur.toList[i]? =some (cur.toList[i]):=fH gZ
         rw[eX,sN]
         exact(cw (g4.2 i _ _ hbc sN) rfl:Rp E w F false _ _ _)
        refine⟨_::us,[b]::si,⟨hu,i1⟩,fun F' wj hK'=>⟨by rw[hh];exact lr.fZ wj rP,i2 F' wj fun k e b hk=>hK' k e b (Ia k hk)⟩,?_,fun b' bg=> ?_,fun k' db=> ?_⟩
        ·rw[Ms,rz]
         refine⟨by simp,i3,fun b' bg c hc e=> ?_⟩
         rw[mF.1 bg] at e
         subst e
         obtain⟨k2,lm,tY⟩:=i4 b hc
         obtain⟨e2,tX⟩:=m8.1 (i5 k2 lm)
         exact h.apart k k2 _ e2 b (fun e=>uf (e▸lm)) he tX (by rw[g3];exact mF.2 rfl) tY
        ·rw[Ms,jO] at bg
         rcases bg with bg|bg
         ·rw[mF.1 bg]
          exact⟨k,gB,by rw[g3];exact mF.2 rfl⟩
         ·obtain⟨k2,lm,tY⟩:=i4 b' bg
          exact⟨k2,cI _ lm,tY⟩
        ·rcases kf.1 db with rfl|db
         ·rw[he];rfl
         ·exact i5 k' db
       ·cases xZ
      ·cases xZ
     ·cases xZ
    ·cases ho
   split at ho
   ·rename_i Un cs ks1 A6
    split at ho
    ·rename_i d qs ds2 ks2 hd KW
     simp only[gJ,pb] at ho
     obtain⟨rfl,rfl,rfl⟩:=ho
     rw[rz] at hn
     obtain⟨n1,n2,n3⟩:=hn
     obtain⟨us,si,i1,i2,i3,i4,i5⟩:=ih KW (fun p kP=>hp p (by simp[kP])) n2
     obtain⟨u,hu,vs,r1,r2⟩:=acx h hx
     cases hh:fs.headD true with
     |true=>
      rw[hh] at A6
      simp only[cond_true] at A6
      split at A6
      ·rename_i Kz vS ks' aak
       cases A6
       obtain⟨g1,g2,g3,g4⟩:=MM h aak (fun p kP=>hp p (by simp[kP])) r1 n1
       obtain⟨fl,f1,f2,f3,f4⟩:=g3 rfl
       refine⟨u::us,fl.flatten::si,⟨hu,i1⟩,fun F' wj hK'=>⟨by rw[hh];exact lr.fZ wj (aly hd r2 (by rw[g1];exact r1.1.symm) f1 f2),i2 F' wj fun k e b hk=>hK' k e b (Ia k hk)⟩,?_,fun b hb=> ?_,fun k hk=> ?_⟩
       ·rw[Ms,rz]
        refine⟨f3,i3,fun b hb c hc e=> ?_⟩
        subst e
        obtain⟨k1,z0,tZ⟩:=f4 b hb
        obtain⟨k2,lm,tY⟩:=i4 b hc
        obtain⟨e1,V0⟩:=m8.1 (g2 k1 z0)
        obtain⟨e2,tX⟩:=m8.1 (i5 k2 lm)
        exact h.apart k1 k2 e1 e2 b (n3 k1 z0 k2 lm) V0 tX tZ tY
       ·rw[Ms,jO] at hb
        rcases hb with hb|hb
        ·obtain⟨k,hk,hb⟩:=f4 b hb;exact⟨k,sh _ hk,hb⟩
        ·obtain⟨k,hk,hb⟩:=i4 b hb;exact⟨k,rb _ hk,hb⟩
       ·rcases jO.1 hk with hk|hk
        ·exact g2 k hk
        ·exact i5 k hk
      ·cases A6
     |false=>
      rw[hh] at A6
      simp only[cond_false] at A6
      split at A6
      ·rename_i Kz vS aak
       cases A6
       obtain⟨g1,g2⟩:=adg h aak (fun p kP=>hp p (by simp[kP])) r1
       refine⟨u::us,[]::si,⟨hu,i1⟩,fun F' wj hK'=>⟨by
        rw[hh]
        refine alx hd r2 (by rw[g1];exact r1.1.symm) (fun i c hc=>(g2 i c hc).fZ (fun b hb=> ?_))
        rcases hb with hb|⟨k,hk,hb⟩
        ·exact wj b hb
        ·rw[zr] at hk
         obtain⟨e,he⟩:=m8.1 hk.2
         exact hK' k e b (by simp only[qv,hh,cond_false,jO,hx];exact .inl hk.1) he hb,i2 F' wj fun k e b hk=>hK' k e b (Ia k hk)⟩,by simpa using i3,by simpa using i4,by simpa using i5⟩
      ·cases A6
    ·cases ho
   ·cases ho
  ·cases ho
theorem ZW(h:cQ E pm F kv fp σ a w){i:Nat}:∀{cs:List U.C}{j:Nat}{vs:List Value}{ds:List U.C}{ks:List Key},pO σ i j cs=some (ds,ks)->vs.length=cs.length->
  (∀(n:Nat)(τ:U.Ty)(xs:List (U.T τ)),cs[n]? =some (.sl τ xs)->kv (2000000+i,j+n)=vs.getD n undef)->(∀(n:Nat)(u:Value),cs[n]? =some (.lit u)->vs.getD n undef=u/\gM u)->
  ds.length=cs.length/\∃fl:List (List Nat),fl.length=ds.length/\(∀(n:Nat)(c:U.C),ds[n]? =some c->Rp E w F true c (vs.getD n undef) (fl.getD n []))/\fl.flatten=ks.flatMap fp/\(∀k∈ks,(σ.bM k).isSome=true/\j<=k.2)/\ks.Nodup
 |[],j,vs,ds,ks,hf,hl,h1,h2=>by
  simp only[pO,gJ,pb] at hf
  obtain⟨rfl,rfl⟩:=hf
  exact⟨rfl,[],rfl,fun n c hc=>by simp at hc,rfl,by simp,by simp⟩
 |c::cs,j,[],ds,ks,hf,hl,h1,h2=>by simp at hl
 |c::cs,j,v::vs,ds,ks,hf,hl,h1,h2=>by
  have Mn:∀(n:Nat)(τ:U.Ty)(xs:List (U.T τ)),cs[n]? =some (.sl τ xs)->kv (2000000+i,j+1+n)=vs.getD n undef:=fun n τ xs hn=>by
   have:=h1 (n+1) τ xs (by simpa using hn)
   simpa[QX,zew 1 n] using this
  have Oo:∀(n:Nat)(u:Value),cs[n]? =some (.lit u)->vs.getD n undef=u/\gM u:=fun n u hn=>by simpa using h2 (n+1) u (by simpa using hn)
  cases c with
  |lit u=>
   simp only[pO] at hf
   split at hf
   ·rename_i ds' ks' hf'
    cases hf
    obtain⟨i1,fl,i2,i3,i4,i5,i6⟩:=ZW h hf' (by simpa using hl) Mn Oo
    obtain⟨g1,g2⟩:=h2 0 u rfl
    have hvu:v=u:=by simpa using g1
    subst hvu
    refine⟨by simp[i1],[]::fl,by simp[i2],fun n c hc=> ?_,by simpa using i4,fun k hk=>⟨(i5 k hk).1,by have:=(i5 k hk).2;omega⟩,i6⟩
    cases n with
    |zero=>simp only[vh,gJ] at hc;subst hc;exact .lit _ _ g2
    |succ n=>simpa using i3 n c (by simpa using hc)
   ·cases hf
  |sl τ xs=>
   simp only[pO] at hf
   split at hf
   ·rename_i y ds' ks' he hf'
    cases hf
    obtain⟨i1,fl,i2,i3,i4,i5,i6⟩:=ZW h hf' (by simpa using hl) Mn Oo
    have hv:kv (2000000+i,j)=v:=by simpa using h1 0 τ xs rfl
    have ho:fi E w F true y (kv (2000000+i,j)) (fp (2000000+i,j)):=h.dV _ _ he
    refine⟨by simp[i1],fp (2000000+i,j)::fl,by simp[i2],fun n c hc=> ?_,by simp[i4],fun k hk=> ?_,?_⟩
    ·cases n with
     |zero=>simp only[vh,gJ] at hc;subst hc;rw[hv] at ho;exact ho.rp
     |succ n=>simpa using i3 n c (by simpa using hc)
    ·rcases kf.1 hk with rfl|hk
     ·exact⟨by rw[he];rfl,tR _⟩
     ·exact⟨(i5 k hk).1,by have:=(i5 k hk).2;omega⟩
    ·rw[tS]
     exact⟨fun hm=>by have:=(i5 _ hm).2;simp only at this;omega,i6⟩
   ·cases hf
theorem alh(h:cQ E pm F kv fp σ a w){w0:World}{F0:Nat->Prop}{rest:List Value}{i:Nat}{want:List (Option U.Ty)}{m:Mode}{d:DV U}{v:Value}{l:List Nat}{ps:List Prop}{mu:List (DV U)}{ks:List Key}
  (hf:Il σ rest i want m d=some (ps,mu,ks)) (hp:∀p∈ps,p) (pI:ou E w0 F0 m d v l) (lG:∀cs,kW m=true->d=.box cs->rest=sE w0 v cs.length) (Ga:Ue i m d v kv) (hn:ks.Nodup):
  ∃ji,fE E w F w0 [m] [v] mu ji/\ji.flatten.Nodup/\(∀b∈ji.flatten,∃k∈ks,b∈fp k)/\(∀k∈ks,(σ.bM k).isSome=true)/\(m=.box false->∀b∈l,∃k∈ks,b∈fp k):=by
 cases m with
 |ro=>
  simp only[Il,gJ,pb] at hf
  obtain⟨_,rfl,rfl⟩:=hf
  exact⟨[],trivial,by simp,by simp,by simp,fun e=>by cases e⟩
 |mv=>
  simp only[Il,gJ,pb] at hf
  obtain⟨_,rfl,rfl⟩:=hf
  exact⟨[],trivial,by simp,by simp,by simp,fun e=>by cases e⟩
 |wr=>
  cases d with
  |one c=>
   cases c with
   |lit _=>exact pI.elim
   |sl τ xs=>
    simp only[Il] at hf
    split at hf
    ·rename_i y he
     cases hf
     have hv:kv (2000000+i,0)=v:=Ga
     have ho:fi E w F true y (kv (2000000+i,0)) (fp (2000000+i,0)):=h.dV _ _ he
     rw[hv] at ho
     exact⟨[fp (2000000+i,0)],⟨ho,trivial⟩,by simpa using h.nodup _ _ he,by simp,by simp[he],fun e=>by cases e⟩
    ·cases hf
  |agg cs=>
   simp only[Il] at hf
   rw[iu] at hf
   split at hf
   ·split at hf
    ·rename_i ds ks' hfc
     cases hf
     obtain⟨vs,p1,p2,p3,p4⟩:=Ga
     obtain⟨i1,fl,i2,i3,i4,i5,i6⟩:=ZW h hfc p2 (by simpa using p3) p4
     refine⟨[fl.flatten],⟨⟨vs,fl,p1,by rw[p2,i1],i2,i3,rfl⟩,trivial⟩,?_,fun b hb=> ?_,fun k hk=>(i5 k hk).1,fun e=>by cases e⟩
     ·simp only[Ms,zey,xr]
      rw[i4]
      exact ZV h i6 (fun k hk=>(i5 k hk).1)
     ·simp only[Ms,zey,xr] at hb
      rw[i4] at hb
      exact ow.1 hb
    ·cases hf
   ·cases hf
  |box _=>exact pI.elim
  |ptr _=>exact pI.elim
  |fn _=>exact pI.elim
 |box own=>
  cases d with
  |one _=>exact pI.elim
  |agg _=>exact pI.elim
  |ptr _=>exact pI.elim
  |fn _=>exact pI.elim
  |box cs=>
   have hrs:=lG cs rfl rfl
   have hv:kv (2000000+i,0)=v:=Ga
   obtain⟨b0,amS,e0,fl0,z1,z2,z3,z4,z5,z6,z7,z8⟩:=pI
   have M9:∀{bs:List (AC U)}{cur:Array Value}{n:Nat},l8 E w F kv fp (bR σ) bs cur.toList->bs.drop n=rest.map (fun v=> .c (.lit v))->cur.toList.drop n=rest:=by
    intro bs cur n hd he
    have h1:=hd.drop n
    rw[he] at h1
    refine Um fun j=> ?_
    cases hj:rest[j]? with
    |none=>
     rw[List.getElem?_eq_none_iff] at hj⊢
     rw[<-h1.1];simpa using hj
    |some u=>
     have gZ:j<(cur.toList.drop n).length:=by
      rw[<-h1.1,xp]
      rcases pa j rest.length with g|g
      ·exact g
      ·rw[ox g] at hj;cases hj
     rw[fH gZ]
     have:=Z7 (h1.2 j (.c (.lit u)) _ (by rw[nO,hj];rfl) (fH gZ))
     rw[this]
   cases own with
   |true=>
    simp only[Il] at hf
    split at hf
    ·rename_i bs he
     split at hf
     ·rename_i Kz l0 ks' ht
      rw[iu] at hf
      split at hf
      ·rename_i KZ
       cases hf
       have KZ:=nc KZ
       obtain⟨b,cur,e,h3,h4,h5,h6⟩:=h.dV _ _ he
       rw[hv] at h3
       obtain⟨g1,g2,g3,_⟩:=MM h ht (fun p kP=>hp p (by simp[kP])) (h6.take cs.length) (tS.1 hn).2
       obtain⟨fl,f1,f2,f3,f4⟩:=g3 rfl
       have aat:bs.drop cs.length=rest.map fun v=> .c (.lit v):=acu fun p kP=>hp p (rb _ kP)
       have SD:=M9 h6 aat
       have Qe:cs.length<=cur.size:=by
        have h8:bs.length=cur.size:=by have:=h6.1;simpa using this
        rw[g1,oz] at KZ
        omega
       have aaY:b∉fl.flatten:=by
        intro hb
        obtain⟨k',db,bg⟩:=f4 b hb
        obtain⟨e2,tX⟩:=m8.1 (g2 k' db)
        exact h.apart _ k' _ e2 b (fun e=>(tS.1 hn).1 (by rw[e];exact db)) he tX (by rw[h5];simp) bg
       refine⟨[b::fl.flatten],⟨⟨b,cur,e,fl,h3,h4,by omega,by rw[KZ,SD,hrs],by rw[KZ];exact z5,f1,fun j c hc=> ?_,rfl⟩,trivial⟩,(by rw[Ms,zey,xr,tS];exact⟨aaY,f3⟩),fun c hc=> ?_,fun k hk=> ?_,fun e=>by cases e⟩
       ·have hj:j<cs.length:=by
         rw[<-KZ]
         rcases pa j l0.length with g|g
         ·exact g
         ·rw[ox g] at hc;cases hc
        have:=f2 j c hc
        rw[eX,qa,if_pos hj,<-eX] at this
        exact this
       ·simp only[Ms,zey,xr,kf] at hc
        rcases hc with rfl|hc
        ·exact⟨_,gB,by rw[h5];simp⟩
        ·obtain⟨k',db,hc⟩:=f4 c hc;exact⟨k',cI _ db,hc⟩
       ·rcases kf.1 hk with rfl|hk
        ·rw[he];rfl
        ·exact g2 k hk
      ·cases hf
     ·cases hf
    ·cases hf
   |false=>
    simp only[Il] at hf
    split at hf
    ·rename_i bs he
     split at hf
     ·rename_i l0 A7
      rw[iu] at hf
      split at hf
      ·rename_i KZ
       cases hf
       have KZ:=nc KZ
       have vz:=Pn A7
       obtain⟨b,cur,e,h3,h4,h5,h6⟩:=h.dV _ _ he
       rw[hv] at h3
       have aat:bs.drop cs.length=rest.map fun v=> .c (.lit v):=acu fun p kP=>hp p kP
       have SD:=M9 h6 aat
       have h8:bs.length=cur.size:=by have:=h6.1;simpa using this
       have Qe:cs.length<=cur.size:=by
        have:=congrArg List.length vz
        rw[oz,xp,KZ] at this
        omega
       refine⟨[[b]],⟨⟨b,cur,e,List.replicate l0.length [],h3,h4,by omega,by rw[KZ,SD,hrs],by rw[KZ];exact z5,by simp,fun j c hc=> ?_,by rw[zI]⟩,trivial⟩,by simp,fun c hc=>⟨_,gB,by rw[h5];simpa using hc⟩,by simp[he],fun _ c hc=> ?_⟩
       ·have hj:j<cs.length:=by
         rw[<-KZ]
         rcases pa j l0.length with g|g
         ·exact g
         ·rw[ox g] at hc;cases hc
        have hci:bs[j]? =some (.c c):=by
         have:(bs.take cs.length)[j]? =some (.c c):=by rw[vz,nO,hc];rfl
         rwa[qa,if_pos hj] at this
        have h7:=cw (h6.2 j (.c c) (cur.toList.getD j undef) hci (fM (by simp;omega))) rfl
        rw[HG]
        exact h7
       ·refine⟨_,gB,?_⟩
        rw[h5]
        rw[z1] at h3
        cases h3
        rw[z8,kf] at hc
        rcases hc with rfl|hc
        ·simp
        ·exfalso
         obtain⟨l',H_,Gh⟩:=Y0.1 hc
         obtain⟨j,hj,rfl⟩:=sn H_
         have ug:j<cs.length:=by omega
         have:=z7 j _ (fH ug)
         rw[eX (l:=fl0),fH hj] at this
         exact this.Vv (F':=fun _=>False) Gh
      ·cases hf
     ·cases hf
    ·cases hf
theorem fE.cons{w0:World}{m:Mode}{v:Value}{RZ:List (DV U)}{GJ:List (List Nat)}{ms:List Mode}{vs:List Value}{mu2:List (DV U)}{Vx:List (List Nat)}(h:fE E w F w0 [m] [v] RZ GJ)(h':fE E w F w0 ms vs mu2 Vx):
  fE E w F w0 (m::ms) (v::vs) (RZ++mu2) (GJ++Vx):=by
 cases m with
 |ro=>cases RZ<;>cases GJ<;>first|exact h.elim|exact h'
 |mv=>cases RZ<;>cases GJ<;>first|exact h.elim|exact h'
 |wr=>
  cases RZ with
  |nil=>cases GJ<;>exact h.elim
  |cons d RZ=>
   cases GJ with
   |nil=>cases d<;>first|exact h.elim|(rename_i c;cases c<;>exact h.elim)
   |cons l GJ=>
    cases d with
    |one c=>cases c with
     |lit _=>exact h.elim
     |sl τ ys=>
      obtain⟨h1,h2⟩:=h
      cases RZ<;>cases GJ<;>first|exact h2.elim|exact⟨h1,h'⟩
    |agg cs=>
     obtain⟨h1,h2⟩:=h
     cases RZ<;>cases GJ<;>first|exact h2.elim|exact⟨h1,h'⟩
    |box _=>exact h.elim
    |ptr _=>exact h.elim
    |fn _=>exact h.elim
 |box own=>
  cases RZ with
  |nil=>cases GJ<;>exact h.elim
  |cons d RZ=>
   cases GJ with
   |nil=>cases d<;>exact h.elim
   |cons l GJ=>
    cases d with
    |box cs=>
     obtain⟨h1,h2⟩:=h
     cases RZ<;>cases GJ<;>first|exact h2.elim|exact⟨h1,h'⟩
    |one _=>exact h.elim
    |agg _=>exact h.elim
    |ptr _=>exact h.elim
    |fn _=>exact h.elim
theorem ac7(h:cQ E pm F kv fp σ a w){w0:World}{F0:Nat->Prop}{rest:List Value}:∀{ms:List Mode}{i:Nat}{ws:List (List (Option U.Ty))}{ds:List (DV U)}{vs:List Value}{ls:List (List Nat)}{ps:List Prop}{mu:List (DV U)}{ks:List Key},
  s6 σ rest i ws ms ds=some (ps,mu,ks)->(∀p∈ps,p)->kw E w0 F0 ms ds vs ls->q_ w0 rest ms ds vs->AH kv i ms ds vs->ks.Nodup->
  ∃ji,fE E w F w0 ms vs mu ji/\ji.flatten.Nodup/\(∀b∈ji.flatten,∃k∈ks,b∈fp k)/\(∀k∈ks,(σ.bM k).isSome=true)/\(SM ms=false->∀b∈ls.flatten,∃k∈ks,b∈fp k)
 |[],i,ws,[],[],[],ps,mu,ks,hf,hp,pI,hr,Ga,hn=>by
  simp only[s6,gJ,pb] at hf
  obtain⟨_,rfl,rfl⟩:=hf
  exact⟨[],trivial,by simp,by simp,by simp,by simp⟩
 |m::ms,i,ws,d::ds,v::vs,l::ls,ps,mu,ks,hf,hp,pI,hr,Ga,hn=>by
  simp only[s6] at hf
  split at hf
  ·rename_i Un xs ks1 qs ys ks2 h1 h2
   cases hf
   rw[rz] at hn
   obtain⟨n1,n2,n3⟩:=hn
   obtain⟨GJ,i1,i2,i3,i4,i5⟩:=alh h h1 (fun p kP=>hp p (by simp[kP])) pI.1 hr.1 Ga.1 n1
   obtain⟨Vx,j1,j2,j3,j4,j5⟩:=ac7 h h2 (fun p kP=>hp p (by simp[kP])) pI.2 hr.2 Ga.2 n2
   refine⟨GJ++Vx,i1.cons j1,?_,fun b hb=> ?_,fun k hk=>(jO.1 hk).elim (i4 k) (j4 k),fun ho b hb=> ?_⟩
   ·rw[Mf,rz]
    refine⟨i2,j2,fun b hb c hc e=> ?_⟩
    subst e
    obtain⟨k1,z0,tZ⟩:=i3 b hb
    obtain⟨k2,lm,tY⟩:=j3 b hc
    obtain⟨e1,V0⟩:=m8.1 (i4 k1 z0)
    obtain⟨e2,tX⟩:=m8.1 (j4 k2 lm)
    exact h.apart k1 k2 e1 e2 b (n3 k1 z0 k2 lm) V0 tX tZ tY
   ·rw[Mf,jO] at hb
    rcases hb with hb|hb
    ·obtain⟨k,hk,hb⟩:=i3 b hb;exact⟨k,sh _ hk,hb⟩
    ·obtain⟨k,hk,hb⟩:=j3 b hb;exact⟨k,rb _ hk,hb⟩
   ·simp only[SM,Ux,QL] at ho
    rw[Ms,jO] at hb
    rcases hb with hb|hb
    ·have:m=.ro\/m=.box false:=by
      cases m with
      |ro=>exact .inl rfl
      |wr=>simp at ho
      |mv=>simp at ho
      |box own=>cases own with
       |true=>simp at ho
       |false=>exact .inr rfl
     rcases this with rfl|rfl
     ·have:l=[]:=by cases d<;>first|exact pI.1.2|(obtain⟨_,_,_,_,h⟩:=pI.1;exact h)|exact pI.1.elim
      rw[this] at hb;cases hb
     ·obtain⟨k,hk,hb⟩:=i5 rfl b hb;exact⟨k,sh _ hk,hb⟩
    ·obtain⟨k,hk,hb⟩:=j5 ho.2 b hb;exact⟨k,rb _ hk,hb⟩
  ·cases hf
 |[],_,_,_::_,_,_,_,_,_,_,_,pI,_,_,_=>pI.elim
 |[],_,_,[],_::_,_,_,_,_,_,_,pI,_,_,_=>pI.elim
 |[],_,_,[],[],_::_,_,_,_,_,_,pI,_,_,_=>pI.elim
 |_::_,_,_,[],_,_,_,_,_,_,_,pI,_,_,_=>pI.elim
 |_::_,_,_,_::_,[],_,_,_,_,_,_,pI,_,_,_=>pI.elim
 |_::_,_,_,_::_,_::_,[],_,_,_,_,_,pI,_,_,_=>pI.elim
theorem fE.mono{w0:World}{F':Nat->Prop}(hF:∀b,F b->F' b):∀{ms:List Mode}{vs:List Value}{dm:List (DV U)}{ls:List (List Nat)},fE E w F w0 ms vs dm ls->fE E w F' w0 ms vs dm ls:=by
 intro ms
 induction ms with
 |nil=>intro vs dm ls h;cases vs<;>cases dm<;>cases ls<;>first|trivial|exact h.elim
 |cons m ms ih=>
  intro vs dm ls h
  cases m with
  |ro=>cases vs with
   |nil=>cases dm<;>cases ls<;>exact h.elim
   |cons v vs=>simp only[fE] at h⊢;exact ih h
  |mv=>cases vs with
   |nil=>cases dm<;>cases ls<;>exact h.elim
   |cons v vs=>simp only[fE] at h⊢;exact ih h
  |wr=>cases vs with
   |nil=>cases dm<;>cases ls<;>exact h.elim
   |cons v vs=>cases dm with
    |nil=>cases ls<;>exact h.elim
    |cons d dm=>cases d with
     |one c=>cases c with
      |lit _=>cases ls<;>exact h.elim
      |sl τ ys=>cases ls with
       |nil=>exact h.elim
       |cons l ls=>exact⟨fi.any h.1,ih h.2⟩
     |agg cs=>cases ls with
       |nil=>exact h.elim
       |cons l ls=>exact⟨h.1.any,ih h.2⟩
     |box _=>cases ls<;>exact h.elim
     |ptr _=>cases ls<;>exact h.elim
     |fn _=>cases ls<;>exact h.elim
  |box own=>cases vs with
   |nil=>cases dm<;>cases ls<;>exact h.elim
   |cons v vs=>cases dm with
    |nil=>cases ls<;>exact h.elim
    |cons d dm=>cases d with
     |box cs=>cases ls with
       |nil=>exact h.elim
       |cons l ls=>exact⟨h.1.fZ hF,ih h.2⟩
     |one _=>cases ls<;>exact h.elim
     |agg _=>cases ls<;>exact h.elim
     |ptr _=>cases ls<;>exact h.elim
     |fn _=>cases ls<;>exact h.elim
theorem N3:∀{ms:List Mode}{ds:List (DV U)}{vs:List Value}{ls:List (List Nat)},kw E w F ms ds vs ls->uY ms=true->ls.flatten=[]
 |[],[],[],[],_,_=>rfl
 |m::ms,d::ds,v::vs,l::ls,h,hr=>by
  simp only[uY,QV,cO] at hr
  have h2:=N3 h.2 hr.2
  have h1:l=[]:=by
   cases m with
   |ro=>cases d<;>first|exact h.1.2|(obtain⟨_,_,_,_,h⟩:=h.1;exact h)|exact h.1.elim
   |wr=>simp at hr
   |mv=>simp at hr
   |box _=>simp at hr
  simp[h1,h2]
 |[],_::_,_,_,h,_=>h.elim
 |[],[],_::_,_,h,_=>h.elim
 |[],[],[],_::_,h,_=>h.elim
 |_::_,[],_,_,h,_=>h.elim
 |_::_,_::_,[],_,h,_=>h.elim
 |_::_,_::_,_::_,[],h,_=>h.elim
inductive Bd:U.C->Prop
 |lit (v:Value) (h:gM v):Bd (.lit v)
 |sl (τ:U.Ty) (xs:List (U.T τ)) (hl:xs.length<=maxLen) (h:∀(i:Nat)(x:U.T τ)(j:Nat)(c:U.C),xs[i]? =some x->(U.enc τ x)[j]? =some c->Bd c):Bd (.sl τ xs)
theorem Rp.bd{m:Bool}{c:U.C}{v:Value}{l:List Nat}(h:Rp E w F m c v l):Bd c:=by
 induction h with
 |lit m v h=>exact .lit v h
 |nil m τ a c h=>exact .sl τ [] (by simp) (fun i x j c hx=>by simp at hx)
 |shr τ xs b off cap vs Qg hc hm hv hr ih=>exact .sl τ xs hm ih
 |own τ xs b cap cur vs ic hb hc hm hs hv hr ih=>exact .sl τ xs (xo hc hm) ih
def gh:DV U->Prop
 | .one c=>Bd c
 | .agg cs=>∀c∈cs,Bd c
 | .box cs=>∀c∈cs,Bd c
 | .ptr cs=>∀c∈cs,Bd c
 | .fn _=>True
theorem Ix{cs:List U.C}(hh:∀(i:Nat)(c:U.C),cs[i]? =some c->Bd c):∀c∈cs,Bd c:=by
 intro c hc
 obtain⟨i,hi,rfl⟩:=sn hc
 exact hh i _ (fH hi)
theorem mD.bd{cs:List U.C}{v:Value}{l:List Nat}(h:mD E w F cs v l):∀c∈cs,Bd c:=by
 obtain⟨vs,fl,_,_,_,h4,_⟩:=h
 exact Ix fun i c hc=>(h4 i c hc).bd
theorem ou.bd{m:Mode}{d:DV U}{v:Value}{l:List Nat}(h:ou E w F m d v l):gh d:=by
 cases m with
 |ro=>
  cases d with
  |one c=>exact h.1.bd
  |agg cs=>obtain⟨vs,_,_,h3,_⟩:=h;exact Ix fun i c hc=>(h3 i c hc).bd
  |ptr cs=>
   obtain⟨⟨b,o,_,_,h3⟩,_⟩:=h
   exact Ix fun i c hc=>by obtain⟨u,_,h5⟩:=h3 i c hc;exact h5.bd
  |fn _=>trivial
  |box _=>exact h.elim
 |wr=>
  cases d with
  |one c=>
   cases c with
   |lit _=>exact h.elim
   |sl τ xs=>exact(h.lz (F':=fun _=>True) (fun _ _=>trivial) (fun _ _=>trivial)).bd
  |agg _=>exact mD.bd h
  |box _=>exact h.elim
  |ptr _=>exact h.elim
  |fn _=>exact h.elim
 |mv=>
  cases d with
  |one c=>exact Rp.bd h
  |agg _=>exact mD.bd h
  |box _=>exact h.elim
  |ptr _=>exact h.elim
  |fn _=>exact h.elim
 |box own=>
  cases d with
  |box cs=>obtain⟨b,cur,e,fl,_,_,_,_,_,_,h7,_⟩:=h;exact Ix fun i c hc=>(h7 i c hc).bd
  |one _=>exact h.elim
  |agg _=>exact h.elim
  |ptr _=>exact h.elim
  |fn _=>exact h.elim
theorem kw.bd:∀{ms:List Mode}{ds:List (DV U)}{vs:List Value}{ls:List (List Nat)},kw E w F ms ds vs ls->∀d∈ds,gh d
 |[],[],[],[],_,d,hd=>by simp at hd
 |m::ms,d0::ds,v::vs,l::ls,h,d,hd=>by
  rcases kf.1 hd with rfl|hd
  ·exact h.1.bd
  ·exact kw.bd h.2 d hd
 |[],_::_,_,_,h,_,_=>h.elim
 |[],[],_::_,_,h,_,_=>h.elim
 |[],[],[],_::_,h,_,_=>h.elim
 |_::_,[],_,_,h,_,_=>h.elim
 |_::_,_::_,[],_,h,_,_=>h.elim
 |_::_,_::_,_::_,[],h,_,_=>h.elim
theorem Ad(hE:E.Good){f:FuncId}{fn:Func}{c:Code}(hf:E.P.funcs[f]? =some fn)(hb:fn.body=some c)(k:kz U)(hms:k.md.length<=fn.ntmps)(xu:fn.ntmps<=1000000)(tZ:ru k.md=true\/k.Kl=0)
  (hw:∀x,(∀p∈k.pre x,p)->(∀d∈k.ds x,gh d)->∀rest,(k.md.any kW=true->rest.length=k.Kl)->(k.md.any kW=false->rest=[])->
   ∀vs:List Value,vs.length=k.md.length->∃τ,(∀{pm:Pm}{F:Nat->Prop}{kv:Key->Value}{fp:Key->List Nat}{a:Act}{w:World},cQ E pm F kv fp (entry rest fn.ntmps k.md (k.ds x)) a w->(∀i,i<vs.length->a.tmps.getD i undef=vs.getD i undef)->cQ E pm F kv fp τ a w)/\
    WpS E c τ (leave E fn.results.toList fn.resultTypes.toList rest fn.params.toList k.md (k.ds x) (k.pj x))):fh E f k:=by
 intro x M' w F vs ls hF Nc pI aas qD hld
 obtain⟨l1,l2,l3⟩:=pI.len
 refine calls_of_wp hf hb ?_
 obtain⟨rest,amh,har,hrn⟩:∃rest:List Value,(k.md.any kW=true->rest.length=k.Kl)/\q_ w rest k.md (k.ds x) vs/\(k.md.any kW=false->rest=[]):=by
  rcases tZ with tZ|tZ
  ·exact⟨uz w k.md (k.ds x) vs,fun h=>acw pI aas tZ h,adq tZ,fun h=>acv h⟩
  ·rw[tZ] at aas
   exact⟨[],fun _=>tZ.symm,adp aas,fun _=>rfl⟩
 obtain⟨KS,V9,h0,aav⟩:=alr (n:=fn.ntmps) (rest:=rest) hF Nc pI har qD hld hms xu
 have jy:(vs.toArray).size=vs.length:=by simp
 rw[jy]
 have adK:∀{kv:Key->Value},(∀i j,j<1024->kv (2000000+i,j)=KS (2000000+i,j))->∀{i:Nat}{ms:List Mode}{ds:List (DV U)}{vs:List Value}{ls:List (List Nat)}{mu:List Prop×List (DV U)×List Key}{σ:ai U}{ws:List (List (Option U.Ty))},AH KS i ms ds vs->s6 σ rest i ws ms ds=some mu->AH kv i ms ds vs:=by
  intro kv hk i ms
  induction ms generalizing i with
  |nil=>intro ds vs ls mu σ ws _ _;cases ds<;>trivial
  |cons m ms ih=>
   intro ds vs ls mu σ ws hp hfm
   cases ds with
   |nil=>trivial
   |cons d ds=>
    cases vs with
    |nil=>trivial
    |cons v vs=>
     simp only[s6] at hfm
     split at hfm
     ·rename_i h1 h2
      refine⟨?_,ih (ls:=[]) hp.2 h2⟩
      have fw:=hp.1
      cases m with
      |ro=>trivial
      |mv=>trivial
      |box own=>
       cases d with
       |box cs=>exact(hk i 0 (by decide)).trans fw
       |one _=>trivial
       |agg _=>trivial
       |ptr _=>trivial
       |fn _=>trivial
      |wr=>
       cases d with
       |one c=>exact(hk i 0 (by decide)).trans fw
       |agg cs=>
        simp only[Il] at h1
        rw[iu] at h1
        split at h1
        ·rename_i hlen
         rw[QS] at hlen
         obtain⟨us,q1,q2,q3,q4⟩:=fw
         refine⟨us,q1,q2,fun j τ xs hj=> ?_,q4⟩
         have hjl:j<cs.length:=by
          rcases pa j cs.length with g|g
          ·exact g
          ·rw[ox g] at hj;cases hj
         exact(hk i j (by omega)).trans (q3 j τ xs hj)
        ·cases h1
       |box _=>trivial
       |ptr _=>trivial
       |fn _=>trivial
     ·cases hfm
 have key:∀(σ:ai U),fin E fn.results.toList fn.resultTypes.toList rest fn.params.toList k.md (k.ds x) (k.pj x) σ->∀F1 kv fp a' w',cQ E (RC w F KS ls) F1 kv fp σ a' w'->a'.defers=[]/\∃v,(results fn a'.tmps).run E.P w'=.ok v w'/\∃(us:List Value)(si ji:List (List Nat)),Ending.returned v=.returned (Pj us)/\iC (·∈ls.flatten) w w'/\
   nu E w' (ER F w w' (si.flatten++ji.flatten) ls.flatten) (k.pj x).fresh (k.pj x).val us si/\
   fE E w' (ER F w w' (si.flatten++ji.flatten) ls.flatten) w k.md vs (k.pj x).M0 ji/\
   (si.flatten++ji.flatten).Nodup/\(∀b∈si.flatten,(b∈ls.flatten\/w.heap.size<=b)/\b<w'.heap.size)/\(∀b∈ji.flatten,b∈ls.flatten\/(w.heap.size<=b/\b<w'.heap.size)):=by
  intro σ rO F1 kv fp a' w' hs0
  refine⟨hs0.defers,?_⟩
  have hs:cQ E (RC w F KS ls) F1 kv fp (jT σ) a' w':=HE hs0 _
  unfold fin at rO
  split at rO
  ·rename_i ps ds ks qs mu ks' ho hm
   rw[iu] at rO
   split at rO
   ·rename_i hc
    simp only[cO,FL,ra] at hc
    obtain⟨⟨c1,c3⟩,c5⟩:=hc
    obtain⟨hp,rfl,rfl⟩:=adm.1 rO
    obtain⟨d1,d2,d3⟩:=alA c1
    have ams:∀i j,j<1024->kv (2000000+i,j)=KS (2000000+i,j):=fun i j hj=>(hs.N8 (2000000+i,j) (KS (2000000+i,j)) (by simp[RC,hj])).2.2.2
    obtain⟨ji,m1,m2,m3,m4,_⟩:=ac7 hs hm (fun p kP=>hp p (by simp[kP])) pI har (adK ams (ls:=[]) aav hm) (uC.1 d2)
    have x_:∀{k':Key}{b:Nat},((jT σ).bM k').isSome=true->b∈fp k'->¬F1 b/\(b∈ls.flatten\/w.heap.size<=b)/\b<w'.heap.size:=by
     intro k' b db hb
     obtain⟨e,he⟩:=m8.1 db
     exact hs.fV k' e b he hb
    have W8:∀b∈ji.flatten,b∈ls.flatten\/(w.heap.size<=b/\b<w'.heap.size):=by
     intro b hb
     obtain⟨k',db,hb⟩:=m3 b hb
     have:=x_ (m4 k' db) hb
     rcases this.2.1 with g|g
     ·exact .inl g
     ·exact .inr ⟨g,this.2.2⟩
    have hG:∀own:List Nat,(∀b∈own,¬F1 b)->∀b,F1 b->ER F w w' own ls.flatten b:=fun own ho b hb=>by
     rcases hs.ub b hb with g|g|g
     ·exact .inl g
     ·exact .inr ⟨.inr g,hs.uc b hb,fun hbo=>ho b hbo hb⟩
     ·exact .inr ⟨.inl g,hs.uc b hb,fun hbo=>ho b hbo hb⟩
    obtain⟨us,si,o1,o2,o3,o4,o5⟩:=akj hs ho (fun p kP=>hp p (by simp[kP])) (uC.1 d1)
    have hG1:=hG (si.flatten++ji.flatten) fun b hbo=>by
     rcases jO.1 hbo with g|g
     ·obtain⟨k',db,g⟩:=o4 b g;exact(x_ (o5 k' db) g).1
     ·obtain⟨k',db,g⟩:=m3 b g;exact(x_ (m4 k' db) g).1
    refine⟨_,aj_ o1,_,si,ji,rfl,hs.upto,o2 _ hG1 (fun k' e b hkr he hb=> ?_),m1.mono hG1,?_,fun b hb=> ?_,W8⟩
    ·have:=x_ (by rw[he];rfl) hb
     refine .inr ⟨this.2.1.symm,this.2.2,fun hbm=> ?_⟩
     have Og:∀k2 e2,k2∈ks++ks'->(jT σ).bM k2=some e2->b∉fp k2:=fun k2 e2 lm tX tY=>by
      refine hs.apart k' k2 e e2 b (fun e=> ?_) he tX hb tY
      have:meet (qv E (jT σ) (k.pj x).fresh fn.results.toList) (ks++ks')=true:=vg.2 ⟨k',hkr,sI.2 (by rw[e];exact lm)⟩
      rw[c3] at this;cases this
     rcases jO.1 hbm with g|g
     ·obtain⟨k2,lm,tY⟩:=o4 b g
      obtain⟨e2,tX⟩:=m8.1 (o5 k2 lm)
      exact Og k2 e2 (sh _ lm) tX tY
     ·obtain⟨k2,lm,tY⟩:=m3 b g
      obtain⟨e2,tX⟩:=m8.1 (m4 k2 lm)
      exact Og k2 e2 (rb _ lm) tX tY
    ·rw[rz]
     refine⟨o3,m2,fun b hb c hc e=> ?_⟩
     subst e
     obtain⟨k1,z0,tZ⟩:=o4 b hb
     obtain⟨k2,lm,tY⟩:=m3 b hc
     obtain⟨e1,V0⟩:=m8.1 (o5 k1 z0)
     obtain⟨e2,tX⟩:=m8.1 (m4 k2 lm)
     exact hs.apart k1 k2 e1 e2 b (fun e=>d3 k1 z0 (by rw[e];exact lm)) V0 tX tZ tY
    ·obtain⟨k',db,hb⟩:=o4 b hb
     exact(x_ (o5 k' db) hb).2
   ·exact rO.elim
  ·exact rO.elim
 obtain⟨τ,Mi,hwp⟩:=hw x M' pI.bd rest amh hrn vs (by omega)
 refine hwp (Mi h0 (fun i hi=>by simp[Array.getD,eX,hi,zds hi (Nat.le_add_right _ _)])) (fun o ho F1 kv fp a' w' hs=> ?_)
 cases o with
 |normal σ=>exact key σ ho F1 kv fp a' w' hs
 |ret σ=>exact key σ ho F1 kv fp a' w' hs
 |exit id σ=>exact ho.elim
theorem ald(hE:E.Good){f:FuncId}{fn:Func}{c:Code}(hf:E.P.funcs[f]? =some fn)(hb:fn.body=some c)(k:kz U)(om:k.α->Nat->Option (ud U))(hms:k.md.length<=fn.ntmps)(xu:fn.ntmps<=1000000)(tZ:ru k.md=true\/k.Kl=0)
  (hw:∀x,(∀p∈k.pre x,p)->(∀d∈k.ds x,gh d)->∀rest,(k.md.any kW=true->rest.length=k.Kl)->(k.md.any kW=false->rest=[])->
   AM.wp E (om x) c (entry rest fn.ntmps k.md (k.ds x)) (leave E fn.results.toList fn.resultTypes.toList rest fn.params.toList k.md (k.ds x) (k.pj x))):fh E f k:=
 Ad hE hf hb k hms xu tZ fun x hp hd rest hr hn _ _=>⟨_,fun h _=>h,Mv hE (hw x hp hd rest hr hn)⟩
theorem cQ.over{F:Nat->Prop}{kv:Key->Value}{fp:Key->List Nat}{σ:ai U}{a:Act}{w:World}{pm:Pm}(h:cQ E pm F kv fp σ a w)(s:Nat)(x:SV U)(hx:RS E w F kv fp (bR σ) x (a.tmps.getD s undef)):
  cQ E pm F kv fp {σ with bI:=(s,some x)::σ.bI} a w:=by
 refine{h with bI:=fun t y hy=> ?_}
 unfold ai.get at hy
 simp only[look] at hy
 cases hb:Nat.beq s t<;>rw[hb] at hy<;>simp only[cond_true,cond_false] at hy
 ·exact h.bI t y hy
 ·cases hy
  rw[<-nc hb]
  exact hx
def Io(n:Nat)(b:Bool)(τ:U.Ty)(xs:List (U.T τ)):ai U:={entry [] n [.ro] [.one (.sl τ xs)] with bI:=(0,some (one (.kn b τ xs)))::(entry [] n [.ro] [.one (.sl τ xs)]).bI}
theorem alc(hE:E.Good){f:FuncId}{fn:Func}{c:Code}(hf:E.P.funcs[f]? =some fn)(hb:fn.body=some c)(k:kz U)(om:k.α->Nat->Option (ud U))(hms:k.md.length<=fn.ntmps)(xu:fn.ntmps<=1000000)(tZ:ru k.md=true\/k.Kl=0)
  (hmd:k.md=[.ro]) (τ:U.Ty) (xs:k.α->List (U.T τ)) (Ie:∀x,k.ds x=[.one (.sl τ (xs x))])
  (hw:∀x,(∀p∈k.pre x,p)->(∀d∈k.ds x,gh d)->∀b:Bool,(b=true->xs x=[])->
   AM.wp E (om x) c (Io fn.ntmps b τ (xs x)) (leave E fn.results.toList fn.resultTypes.toList [] fn.params.toList k.md (k.ds x) (k.pj x))):fh E f k:=by
 refine Ad hE hf hb k hms xu tZ fun x hp hd rest hr hn vs F9=> ?_
 have lG:rest=[]:=hn (by rw[hmd];rfl)
 subst lG
 have F9:0<vs.length:=by rw[F9,hmd];decide
 by_cases hv:uK (vs.getD 0 undef)=true->xs x=[]
 ·refine⟨Io fn.ntmps (uK (vs.getD 0 undef)) τ (xs x),fun{pm F kv fp a w} h ha=> ?_,Mv hE (hw x hp hd _ hv)⟩
  rw[hmd,Ie] at h
  have h0:=h.bI 0 (one (.c (.sl τ (xs x)))) rfl
  have h1:Rp E w F false (.sl τ (xs x)) (a.tmps.getD 0 undef) []:=cw (li h0 rfl) rfl
  rw[ha 0 F9] at h1
  have h2:=h.over 0 (one (.kn (uK (vs.getD 0 undef)) τ (xs x))) (iD (x:=.kn (uK (vs.getD 0 undef)) τ (xs x)) (by rw[ha 0 F9];exact⟨by rw[<-ha 0 F9];exact(li (h.bI 0 (one (.c (.sl τ (xs x)))) rfl) rfl).1,.inr ⟨h1,rfl⟩⟩))
  exact h2
 ·refine⟨Io fn.ntmps false τ (xs x),fun{pm F kv fp a w} h ha=> ?_,Mv hE (hw x hp hd _ (by simp))⟩
  rw[hmd,Ie] at h
  have h0:=h.bI 0 (one (.c (.sl τ (xs x)))) rfl
  have h1:Rp E w F false (.sl τ (xs x)) (a.tmps.getD 0 undef) []:=cw (li h0 rfl) rfl
  rw[ha 0 F9] at h1
  refine absurd (fun hn=> ?_) hv
  rcases h1.inv with⟨h3,_⟩|⟨b,off,cap,wc,h3,_⟩
  ·exact h3
  ·rw[h3] at hn;simp[uK] at hn
end
theorem Rp.env{E E':Env U}(ht:E'.tid=E.tid){w:World}{F:Nat->Prop}{m:Bool}{c:U.C}{v:Value}{l:List Nat}(h:Rp E w F m c v l):Rp E' w F m c v l:=by
 induction h with
 |lit m v h=>exact .lit m v h
 |nil m τ a c h=>exact .nil m τ a c h
 |shr τ xs b off cap vs Qg hc hm hv hr ih=>exact .shr τ xs b off cap vs Qg hc hm hv ih
 |own τ xs b cap cur vs ic hb hc hm hs hv hr ih=>exact .own τ xs b cap cur vs ic (by rw[ht];exact hb) hc hm hs hv ih
section
variable{E E':Env U}{w:World}{F:Nat->Prop}
theorem fi.env(ht:E'.tid=E.tid){d:Bool}{a:jh U}{v:Value}{l:List Nat}(h:fi E w F d a v l):fi E' w F d a v l:=by
 rcases h with h|⟨b,cap,cur,vs,ic,h1,h2,h3,h4,h5,h6,h7,h8⟩
 ·exact .inl h
 ·exact .inr ⟨b,cap,cur,vs,ic,h1,by rw[ht];exact h2,h3,h4,h5,h6,fun i x j c hx hj=>(h7 i x j c hx hj).env ht,h8⟩
theorem se.env(ht:E'.tid=E.tid){own:Bool}{cs:List U.C}{rest:List Value}{v:Value}{l:List Nat}(h:se E w F own cs rest v l):se E' w F own cs rest v l:=by
 obtain⟨b,cur,e,fl,h1,h2,h3,h4,h5,h6,h7,h8⟩:=h
 exact⟨b,cur,e,fl,h1,h2,h3,h4,h5,h6,fun i c hc=>(h7 i c hc).env ht,h8⟩
theorem mD.env(ht:E'.tid=E.tid){cs:List U.C}{v:Value}{l:List Nat}(h:mD E w F cs v l):mD E' w F cs v l:=by
 obtain⟨vs,fl,h1,h2,h3,h4,h5⟩:=h
 exact⟨vs,fl,h1,h2,h3,fun i c hc=>(h4 i c hc).env ht,h5⟩
theorem RDA.env(ht:E'.tid=E.tid){d:DA U}{v:Value}(h:RDA E w F d v):RDA E' w F d v:=by
 obtain⟨vs,h1,h2,h3⟩:=h
 exact⟨vs,h1,fun i c hc=>(h2 i c hc).env ht,h3⟩
theorem nN.env(hP:E'.P=E.P)(ht:E'.tid=E.tid){p:List (DA U)->Option Value}{v:Value}(h:nN E w F p v):nN E' w F p v:=by
 obtain⟨g,pT,h1,h2,h3⟩:=h
 refine⟨g,pT,h1,by rw[hP];exact h2,fun ds r hr w' F' h4 h5 vs h6=> ?_⟩
 rw[hP]
 exact h3 ds r hr w' F' h4 h5 vs ⟨h6.1,fun i d v hd hv=>(h6.2 i d v hd hv).env ht.symm⟩
theorem ou.env(hP:E'.P=E.P)(ht:E'.tid=E.tid){m:Mode}{d:DV U}{v:Value}{l:List Nat}(h:ou E w F m d v l):ou E' w F m d v l:=by
 cases m with
 |ro=>
  cases d with
  |one c=>exact⟨h.1.env ht,h.2⟩
  |agg cs=>obtain⟨vs,h1,h2,h3,h4⟩:=h;exact⟨vs,h1,h2,fun i c hc=>(h3 i c hc).env ht,h4⟩
  |ptr cs=>
   obtain⟨⟨b,o,h1,h2,h3⟩,h4⟩:=h
   exact⟨⟨b,o,h1,h2,fun i c hc=>by obtain⟨u,g1,g2⟩:=h3 i c hc;exact⟨u,g1,g2.env ht⟩⟩,h4⟩
  |fn _=>exact⟨h.1.env hP ht,h.2⟩
  |box _=>exact h.elim
 |wr=>
  cases d with
  |one c=>cases c with
   |lit _=>exact h.elim
   |sl τ xs=>exact fi.env ht h
  |agg _=>exact mD.env ht h
  |box _=>exact h.elim
  |ptr _=>exact h.elim
  |fn _=>exact h.elim
 |mv=>
  cases d with
  |one c=>exact Rp.env ht h
  |agg _=>exact mD.env ht h
  |box _=>exact h.elim
  |ptr _=>exact h.elim
  |fn _=>exact h.elim
 |box own=>
  cases d with
  |box cs=>exact se.env ht h
  |one _=>exact h.elim
  |agg _=>exact h.elim
  |ptr _=>exact h.elim
  |fn _=>exact h.elim
theorem kw.env(hP:E'.P=E.P)(ht:E'.tid=E.tid):∀{ms:List Mode}{ds:List (DV U)}{vs:List Value}{ls:List (List Nat)},kw E w F ms ds vs ls->kw E' w F ms ds vs ls
 |[],[],[],[],_=>trivial
 |m::ms,d0::ds,v::vs,l::ls,h=>⟨h.1.env hP ht,kw.env hP ht h.2⟩
 |[],_::_,_,_,h=>h.elim
 |[],[],_::_,_,h=>h.elim
 |[],[],[],_::_,h=>h.elim
 |_::_,[],_,_,h=>h.elim
 |_::_,_::_,[],_,h=>h.elim
 |_::_,_::_,_::_,[],h=>h.elim
theorem lr.env(ht:E'.tid=E.tid){fresh:Bool}{d:DV U}{v:Value}{l:List Nat}(h:lr E w F fresh d v l):lr E' w F fresh d v l:=by
 cases d with
 |ptr _=>exact h
 |fn _=>exact h
 |one c=>cases fresh with
  |true=>exact Rp.env ht h
  |false=>exact⟨h.1.env ht,h.2⟩
 |agg cs=>cases fresh with
  |true=>exact mD.env ht h
  |false=>obtain⟨vs,h1,h2,h3,h4⟩:=h;exact⟨vs,h1,h2,fun i c hc=>(h3 i c hc).env ht,h4⟩
 |box cs=>obtain⟨g,b,cur,e,h1,h2,h3,h4,h5⟩:=h;exact⟨g,b,cur,e,h1,h2,h3,h4,fun i c hc=>(h5 i c hc).env ht⟩
theorem nu.env(ht:E'.tid=E.tid):∀{fs:List Bool}{ds:List (DV U)}{us:List Value}{ls:List (List Nat)},nu E w F fs ds us ls->nu E' w F fs ds us ls
 |_,[],[],[],_=>trivial
 |_,d::ds,u::us,l::ls,h=>⟨h.1.env ht,nu.env ht h.2⟩
 |_,[],_::_,_,h=>h.elim
 |_,[],[],_::_,h=>h.elim
 |_,_::_,[],_,h=>h.elim
 |_,_::_,_::_,[],h=>h.elim
theorem fE.env(ht:E'.tid=E.tid){w0:World}:∀{ms:List Mode}{vs:List Value}{dm:List (DV U)}{ls:List (List Nat)},fE E w F w0 ms vs dm ls->fE E' w F w0 ms vs dm ls:=by
 intro ms
 induction ms with
 |nil=>intro vs dm ls h;cases vs<;>cases dm<;>cases ls<;>first|trivial|exact h.elim
 |cons m ms ih=>
  intro vs dm ls h
  cases m with
  |ro=>cases vs with
   |nil=>cases dm<;>cases ls<;>exact h.elim
   |cons v vs=>simp only[fE] at h⊢;exact ih h
  |mv=>cases vs with
   |nil=>cases dm<;>cases ls<;>exact h.elim
   |cons v vs=>simp only[fE] at h⊢;exact ih h
  |wr=>cases vs with
   |nil=>cases dm<;>cases ls<;>exact h.elim
   |cons v vs=>cases dm with
    |nil=>cases ls<;>exact h.elim
    |cons d dm=>cases d with
     |one c=>cases c with
      |lit _=>cases ls<;>exact h.elim
      |sl τ ys=>cases ls with
       |nil=>exact h.elim
       |cons l ls=>exact⟨h.1.env ht,ih h.2⟩
     |agg cs=>cases ls with
       |nil=>exact h.elim
       |cons l ls=>exact⟨h.1.env ht,ih h.2⟩
     |box _=>cases ls<;>exact h.elim
     |ptr _=>cases ls<;>exact h.elim
     |fn _=>cases ls<;>exact h.elim
  |box own=>cases vs with
   |nil=>cases dm<;>cases ls<;>exact h.elim
   |cons v vs=>cases dm with
    |nil=>cases ls<;>exact h.elim
    |cons d dm=>cases d with
     |box cs=>cases ls with
       |nil=>exact h.elim
       |cons l ls=>exact⟨h.1.env ht,ih h.2⟩
     |one _=>cases ls<;>exact h.elim
     |agg _=>cases ls<;>exact h.elim
     |ptr _=>cases ls<;>exact h.elim
     |fn _=>cases ls<;>exact h.elim
end
theorem fh.env{E E':Env U}(hP:E'.P=E.P)(ht:E'.tid=E.tid)(hT:E'.Zp=E.Zp){f:FuncId}{k:kz U}(h:fh E f k):fh E' f k:=by
 intro x hp w F vs ls h1 hL h2 M9 h3 h4
 have:=h x hp w F vs ls h1 (by unfold WD;rw[<-hT];exact hL) (h2.env hP.symm ht.symm) M9 h3 h4
 rw[hP]
 refine this.mono ?_
 rintro e w' ⟨us,si,ji,g1,g2,g3,g4,g5⟩
 exact⟨us,si,ji,g1,g2,g3.env ht,g4.env ht,g5⟩
def LG:List (FuncId×kz U)->FuncId->Option (kz U)
 |[],_=>none
 |(g,k)::r,f=>bif Nat.beq g f then some k else LG r f
def Is:List (FuncId×kz U)->FuncId->Option (kz U)
 |[],_=>none
 |(g,k)::r,f=>bif Nat.beq g f then LG r f else Is r f
def Env.add(E:Env U)(l:List (FuncId×kz U)):Env U:={E with Qu:=LG l,Qt:=Is l}
def Holds(E:Env U)(p:FuncId×kz U):Prop:=zp E.P p.1/\fh E p.1 p.2
theorem U9{E:Env U}(hE:E.Ok){l:List (FuncId×kz U)}(h:∀p∈l,Holds E p):(E.add l).Good:=by
 have one:∀{f:FuncId}{k:kz U}{l:List (FuncId×kz U)},LG l f=some k->(f,k)∈l:=by
  intro f k l
  induction l with
  |nil=>intro h;cases h
  |cons p l ih=>
   obtain⟨g,k'⟩:=p
   intro h
   simp only[LG] at h
   cases hb:Nat.beq g f<;>rw[hb] at h<;>simp only[cond_true,cond_false] at h
   ·exact cI _ (ih h)
   ·cases h
    rw[nc hb]
    exact gB
 have two:∀{f:FuncId}{k:kz U}{l:List (FuncId×kz U)},Is l f=some k->(f,k)∈l:=by
  intro f k l
  induction l with
  |nil=>intro h;cases h
  |cons p l ih=>
   obtain⟨g,k'⟩:=p
   intro h
   simp only[Is] at h
   cases hb:Nat.beq g f<;>rw[hb] at h<;>simp only[cond_true,cond_false] at h
   ·exact cI _ (ih h)
   ·exact cI _ (one h)
 have go:∀{f:FuncId}{k:kz U},(f,k)∈l->zp (E.add l).P f/\fh (E.add l) f k:=fun hm=>⟨(h _ hm).1,fh.env (E:=E) (E':=E.add l) rfl rfl rfl (h _ hm).2⟩
 exact⟨⟨hE.code,hE.mixed⟩,fun f k hk=>go (one hk),fun f k hk=>go (two hk)⟩
def nI(fn:Func):Code:=match fn.body with|some c=>c|none=> .skip
def SP(rest:List Value)(E:Env U)(l:List (FuncId×kz U))(fn:Func)(k:kz U)(om:k.α->Nat->Option (ud U))(x:k.α):Prop:=
 AM.wp (E.add l) (om x) (nI fn) (entry rest fn.ntmps k.md (k.ds x)) (leave (E.add l) fn.results.toList fn.resultTypes.toList rest fn.params.toList k.md (k.ds x) (k.pj x))
def ad7(E:Env U)(l:List (FuncId×kz U))(fn:Func)(k:kz U)(om:k.α->Nat->Option (ud U))(x:k.α):Prop:=SP [] E l fn k om x
def Ef(P:Program)(f:FuncId)(fn:Func)(ms:List Mode):Bool:=
 fn.body.isSome&& !(fn.name== "runtime.NumGoroutine")&&Nat.ble ms.length fn.ntmps&&Nat.ble fn.ntmps 1000000
theorem acV{E:Env U}(hE:E.Ok){f:FuncId}{fn:Func}(hf:E.P.funcs[f]? =some fn)(k:kz U)(hc:Ef E.P f fn k.md=true)(l:List (FuncId×kz U))(hl:∀p∈l,Holds E p)
  (om:k.α->Nat->Option (ud U)) (hw:∀x,(∀p∈k.pre x,p)->(∀d∈k.ds x,gh d)->∀rest,(k.md.any kW=true->rest.length=k.Kl)->(k.md.any kW=false->rest=[])->SP rest E l fn k om x) (tZ:ru k.md=true\/k.Kl=0):Holds E (f,k):=by
 unfold Ef at hc
 simp only[cO,ra,QS] at hc
 obtain⟨⟨⟨c1,c2⟩,c3⟩,c4⟩:=hc
 refine⟨⟨fn,hf,c1,c2⟩,?_⟩
 have hb:fn.body=some (nI fn):=by
  unfold nI
  cases h:fn.body with
  |none=>rw[h] at c1;cases c1
  |some c=>rfl
 have:=ald (E:=E.add l) (U9 hE hl) hf hb k om c3 c4 tZ hw
 exact fh.env (E:=E.add l) (E':=E) rfl rfl rfl this
theorem holds_of{E:Env U}(hE:E.Ok){f:FuncId}{fn:Func}(hf:E.P.funcs[f]? =some fn)(k:kz U)(hc:Ef E.P f fn k.md=true)(l:List (FuncId×kz U))(hl:∀p∈l,Holds E p)
  (om:k.α->Nat->Option (ud U)) (hw:∀x,(∀p∈k.pre x,p)->(∀d∈k.ds x,gh d)->ad7 E l fn k om x) (h0:k.Kl=0:=by rfl):Holds E (f,k):=
 acV hE hf k hc l hl om (fun x hp hb rest hr hn=>by
  have e:rest=[]:=by
   cases rP:k.md.any kW with
   |false=>exact hn rP
   |true=>exact FU ((hr rP).trans h0)
  rw[e];exact hw x hp hb) (.inr h0)
theorem zS{E:Env U}(hE:E.Ok){f:FuncId}{fn:Func}(hf:E.P.funcs[f]? =some fn)(k:kz U)(hc:Ef E.P f fn k.md=true)(rP:k.md.any kW=true)(l:List (FuncId×kz U))(hl:∀p∈l,Holds E p)
  (om:k.α->Nat->Option (ud U)) (hw:∀x,(∀p∈k.pre x,p)->(∀d∈k.ds x,gh d)->∀rest:List Value,rest.length=k.Kl->SP rest E l fn k om x) (tZ:ru k.md=true:=by rfl):Holds E (f,k):=
 acV hE hf k hc l hl om (fun x hp hb rest hr _=>hw x hp hb rest (hr rP)) (.inl tZ)
def A_(E:Env U)(l:List (FuncId×kz U))(fn:Func)(k:kz U)(om:k.α->Nat->Option (ud U))(x:k.α)(τ:U.Ty)(xs:List (U.T τ))(b:Bool):Prop:=
 AM.wp (E.add l) (om x) (nI fn) (Io fn.ntmps b τ xs) (leave (E.add l) fn.results.toList fn.resultTypes.toList [] fn.params.toList k.md (k.ds x) (k.pj x))
theorem zT{E:Env U}(hE:E.Ok){f:FuncId}{fn:Func}(hf:E.P.funcs[f]? =some fn)(k:kz U)(hc:Ef E.P f fn k.md=true)(hmd:k.md=[.ro])(τ:U.Ty)(xs:k.α->List (U.T τ))(Ie:∀x,k.ds x=[.one (.sl τ (xs x))])
  (l:List (FuncId×kz U)) (hl:∀p∈l,Holds E p)
  (om:k.α->Nat->Option (ud U)) (hw:∀x,(∀p∈k.pre x,p)->(∀d∈k.ds x,gh d)->A_ E l fn k om x τ (xs x) false/\(xs x=[]->A_ E l fn k om x τ (xs x) true)):Holds E (f,k):=by
 unfold Ef at hc
 simp only[cO,ra,QS] at hc
 obtain⟨⟨⟨c1,c2⟩,c3⟩,c4⟩:=hc
 refine⟨⟨fn,hf,c1,c2⟩,?_⟩
 have hb:fn.body=some (nI fn):=by
  unfold nI
  cases h:fn.body with
  |none=>rw[h] at c1;cases c1
  |some c=>rfl
 have:=alc (E:=E.add l) (U9 hE hl) hf hb k om c3 c4 (.inl (by rw[hmd];rfl)) hmd τ xs Ie (fun x hp hd b hb=>by
  cases b with
  |false=>exact(hw x hp hd).1
  |true=>exact(hw x hp hd).2 (hb rfl))
 exact fh.env (E:=E.add l) (E':=E) rfl rfl rfl this
def rk(E:Env U)(l:List (FuncId×kz U))(fn:Func)(k:kz U)(om:k.α->Nat->Option (ud U))(x:k.α)(r:Nat)(A:ud U):Prop:=
 AM.wp (E.add l) (om x) (abe r (nI fn)) (entry [] fn.ntmps k.md (k.ds x)) (aef A (leave (E.add l) fn.results.toList fn.resultTypes.toList [] fn.params.toList k.md (k.ds x) (k.pj x)))
def mO(E:Env U)(l:List (FuncId×kz U))(fn:Func)(k:kz U)(om:k.α->Nat->Option (ud U))(x:k.α)(r:Nat)(A:ud U)(y:A.X):Prop:=
 AM.wp (E.add l) (om x) (abd r (nI fn)) (mj A [] ⟨fn.ntmps,[],[],[]⟩ y) (leave (E.add l) fn.results.toList fn.resultTypes.toList [] fn.params.toList k.md (k.ds x) (k.pj x))
theorem vu{E:Env U}(hE:E.Ok){f:FuncId}{fn:Func}(hf:E.P.funcs[f]? =some fn)(k:kz U)(hc:Ef E.P f fn k.md=true)(l:List (FuncId×kz U))(hl:∀p∈l,Holds E p)
  (om:k.α->Nat->Option (ud U)) (r:Nat) (A:k.α->ud U) (hr:(Qq r (nI fn)).isSome=true)
  (hw:∀x,(∀p∈k.pre x,p)->(∀d∈k.ds x,gh d)->rk E l fn k om x r (A x)/\∀y,(A x).I y y->mO E l fn k om x r (A x) y) (h0:k.Kl=0:=by rfl):Holds E (f,k):=by
 unfold Ef at hc
 simp only[cO,ra,QS] at hc
 obtain⟨⟨⟨c1,c2⟩,c3⟩,c4⟩:=hc
 refine⟨⟨fn,hf,c1,c2⟩,?_⟩
 have hb:fn.body=some (nI fn):=by
  unfold nI
  cases h:fn.body with
  |none=>rw[h] at c1;cases c1
  |some c=>rfl
 obtain⟨p,hp⟩:=m8.1 hr
 have eA:abe r (nI fn)=p.1:=by simp only[abe,hp]
 have eB:abd r (nI fn)=p.2:=by simp only[abd,hp]
 have:=Ad (E:=E.add l) (U9 hE hl) hf hb k c3 c4 (.inr h0) (fun x hx hd rest hrr W6 _ _=>by
  have e:rest=[]:=by
   cases rP:k.md.any kW with
   |false=>exact W6 rP
   |true=>exact FU ((hrr rP).trans h0)
  subst e
  obtain⟨g1,g2⟩:=hw x hx hd
  unfold rk at g1
  unfold mO at g2
  rw[eA] at g1
  rw[eB] at g2
  exact⟨_,fun h _=>h,alF (U9 hE hl) hp rfl g1 g2⟩)
 exact fh.env (E:=E.add l) (E':=E) rfl rfl rfl this
def kz.below(k:kz U)(μ:k.α->Nat)(n:Nat):kz U:={k with pre:=fun x=>(μ x<n)::k.pre x}
theorem GR{E:Env U}{f:FuncId}{fn:Func}(hf:E.P.funcs[f]? =some fn){k:kz U}(hc:Ef E.P f fn k.md=true)(μ:k.α->Nat)(h:∀n,Holds E (f,k.below μ n)->Holds E (f,k.below μ (n+1))):Holds E (f,k):=by
 have hok:zp E.P f:=by
  unfold Ef at hc
  simp only[cO,ra] at hc
  exact⟨fn,hf,hc.1.1.1,hc.1.1.2⟩
 have all:∀n,Holds E (f,k.below μ n):=by
  intro n
  induction n with
  |zero=>exact⟨hok,fun x hp=>absurd (hp _ gB) (Nat.not_lt_zero _)⟩
  |succ n ih=>exact h n ih
 refine⟨hok,fun x hp=>(all (μ x+1)).2 x fun p hpp=> ?_⟩
 rcases kf.1 hpp with rfl|hpp
 ·exact Nat.lt_succ_self _
 ·exact hp p hpp
theorem all_nil{α:Type 1}{p:α->Prop}:∀x∈([]:List α),p x:=fun x hx=>by cases hx
theorem all_cons{α:Type 1}{p:α->Prop}{a:α}{l:List α}(h:p a)(hl:∀x∈l,p x):∀x∈a::l,p x:=by
 intro x hx
 rcases kf.1 hx with rfl|hx
 ·exact h
 ·exact hl x hx
end AM
