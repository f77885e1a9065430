import Derived.Test.YthciaocifglggaaGreatDoorQAmCode
namespace AM
set_option linter.unusedVariables false
open Go
variable{U:kz}
def Bs(i:Nat)(rest:List Value):Mode->DV U->SV U×List (Nat×ir U)
 | .ro,.one c=>(one (.c c),[])
 | .ro,.agg cs=>(.v ⟨true,cs.map .c⟩,[])
 | .ro,.ptr cs=>(one (.ia cs),[])
 | .ro,.fn p=>(.fn p,[])
 | .wr,.one (.sl τ xs)=>(one (.ref (2000000+i,0) []),[(0,.arr ⟨τ,xs⟩ true)])
 | .wr,.agg cs=>(.v ⟨true,(putCells (2000000+i) true 0 cs).1⟩,(putCells (2000000+i) true 0 cs).2)
 | .mv,.one c=>(.v ⟨false,(putCells (2000000+i) true 4096 [c]).1⟩,(putCells (2000000+i) true 4096 [c]).2)
 | .mv,.agg cs=>(.v ⟨true,(putCells (2000000+i) true 4096 cs).1⟩,(putCells (2000000+i) true 4096 cs).2)
 | .box true,.box cs=>(one (.j0 (2000000+i,0) 0),(0,.box ((putCells (2000000+i) true 4096 cs).1++rest.map fun v=> .c (.lit v)))::(putCells (2000000+i) true 4096 cs).2)
 | .box false,.box cs=>(one (.j0 (2000000+i,0) 0),[(0,.box (cs.map .c++rest.map fun v=> .c (.lit v)))])
 |_,_=>(.tJ [],[])
def Bu(rest:List Value):Nat->List Mode->List (DV U)->List (Nat×Option (SV U))
 |i,m::ms,d::ds=>(i,some (Bs i rest m d).1)::Bu rest (i+1) ms ds
 |_,_,_=>[]
def Iv(rest:List Value):Nat->List Mode->List (DV U)->List (Key×Option (ir U))
 |i,m::ms,d::ds=>nN (2000000+i) (Bs i rest m d).2++Iv rest (i+1) ms ds
 |_,_,_=>[]
def entry(rest:List Value)(n:Nat)(ms:List Mode)(ds:List (DV U)):af U:={n,bp:=Bu rest 0 ms ds,mW:=Iv rest 0 ms ds,aC:=[]}
def Jf(E:Env U)(σ:af U):ResultVar->Option (AV U)
 | .tmp t=>match σ.get t with
  |some (.v x)=>some x
  |_=>none
 | .cell a t=>match σ.get a with
  |some (.v ⟨false,[.j0 k 0]⟩)=>match σ.bH k,E.size t,E.isAgg t with
   |some (.box cs),some n,some g=>bif Nat.beq n cs.length&&(g||Nat.beq n 1) then some ⟨g,cs⟩ else none
   |_,_,_=>none
  |_=>none
def X3(ds:List (DV U)):Bool:=ds.any fun| .box _=>true|_=>false
def L1(fresh:Bool)(σ:af U):AV U->Option (List U.C×Key)
 |⟨false,[.j0 k 0]⟩=>bif fresh then(match σ.bH k with|some (.box bs)=>(match plain bs with|some l=>some (l,k)|none=>none)|_=>none) else none
 |_=>none
def outs(E:Env U)(σ:af U):List Bool->List ResultVar->List TypeId->Option (List Prop×List (DV U)×List Key)
 |_,[],_=>some ([],[],[])
 |fs,r::rs,ts=>match Jf E σ r with
  |some x=>
   match L1 (fs.headD true) σ x with
   |some (l,k)=>match outs E σ fs.tail rs ts.tail with
    |some (qs,ds,ks')=>some (qs,.box l::ds,k::ks')
    |none=>none
   |none=>
   let want:=match ts with|t::_=>E.shape 8 t|[]=>[]
   let tb:=restrict σ.bH (SV.v x).keys
   match(bif fs.headD true then(match eL tb want x.cs with|some (ps,cs,ks,true)=>some (ps,cs,ks)|_=>none) else(match cellsOf tb σ.aC want x.cs with|some (ps,cs)=>some (ps,cs,[])|none=>none)) with
   |some (ps,cs,ks)=>match Iw x cs,outs E σ fs.tail rs ts.tail with
    |some d,some (qs,ds,ks')=>some (ps++qs,d::ds,ks++ks')
    |_,_=>none
   |none=>none
  |none=>none
def nX(σ:af U)(i:Nat):Nat->List U.C->Option (List U.C×List Key)
 |_,[]=>some ([],[])
 |j,.lit v::r=>match nX σ i (j+1) r with|some (cs,ks)=>some (.lit v::cs,ks)|none=>none
 |j,.sl _ _::r=>match σ.bH (2000000+i,j),nX σ i (j+1) r with
  |some (.arr a true),some (cs,ks)=>some (.sl a.τ a.xs::cs,(2000000+i,j)::ks)
  |_,_=>none
def LO(bs:List (AC U))(rest:List Value):List Prop:=(bs.length=rest.length)::(match rest with
 |[]=>[]
 |r=>[bs=r.map fun v=> .c (.lit v)])
theorem aaA{bs:List (AC U)}{rest:List Value}(h:∀p∈LO bs rest,p):bs=rest.map fun v=> .c (.lit v):=by
 cases rest with
 |nil=>exact Du (h _ dw)
 |cons r rs=>exact h _ (bi _ dw)
def Ed(σ:af U)(rest:List Value)(i:Nat)(want:List (Option U.Ty)):Mode->DV U->Option (List Prop×List (DV U)×List Key)
 | .ro,_=>some ([],[],[])
 | .mv,_=>some ([],[],[])
 | .wr,.one (.sl _ _)=>match σ.bH (2000000+i,0) with
  |some (.arr a true)=>some ([],[.one (.sl a.τ a.xs)],[(2000000+i,0)])
  |_=>none
 | .wr,.agg cs=>bif Nat.ble cs.length 1024 then(match nX σ i 0 cs with|some (ds,ks)=>some ([],[.agg ds],ks)|none=>none) else none
 | .box true,.box cs=>match σ.bH (2000000+i,0) with
  |some (.box bs)=>match eL (restrict σ.bH (SV.v ⟨true,bs⟩).keys) want (bs.take cs.length) with
   |some (ps,l,ks,true)=>bif Nat.beq l.length cs.length then some (ps++LO (bs.drop cs.length) rest,[.box l],(2000000+i,0)::ks) else none
   |_=>none
  |_=>none
 | .box false,.box cs=>match σ.bH (2000000+i,0) with
  |some (.box bs)=>match plain (bs.take cs.length) with
   |some l=>bif Nat.beq l.length cs.length then some (LO (bs.drop cs.length) rest,[.box l],[(2000000+i,0)]) else none
   |none=>none
  |_=>none
 |_,_=>none
def qx(σ:af U)(rest:List Value):Nat->List (List (Option U.Ty))->List Mode->List (DV U)->Option (List Prop×List (DV U)×List Key)
 |i,ws,m::ms,d::ds=>match Ed σ rest i (ws.headD []) m d,qx σ rest (i+1) ws.tail ms ds with
  |some (ps,xs,ks),some (qs,ys,ks')=>some (ps++qs,xs++ys,ks++ks')
  |_,_=>none
 |_,_,_,_=>some ([],[],[])
def Nx(ms:List Mode):Bool:=ms.any fun m=>match m with| .wr=>true| .mv=>true| .box true=>true|_=>false
def qK(ms:List Mode):Bool:=ms.all fun| .ro=>true|_=>false
def oz(E:Env U)(σ:af U):List Bool->List ResultVar->List Key
 |_,[]=>[]
 |fs,r::rs=>(bif fs.headD true then[] else match Jf E σ r with|some x=>(SV.v x).keys|none=>[])++oz E σ fs.tail rs
def fin(E:Env U)(rs:List ResultVar)(ts:List TypeId)(rest:List Value)(ps:List TypeId)(ms:List Mode)(ds:List (DV U))(r:Res U)(σ:af U):Prop:=
 match outs E (je σ) r.fresh rs ts,qx (je σ) rest 0 (ps.map E.wP) ms ds with
 |some (ps,vs,ks),some (qs,mu,ks')=>bif distinct (ks++ks')&& !(meet (oz E (je σ) r.fresh rs) (ks++ks'))&&(!(X3 r.val)||qK ms) then K9 (ps++qs) (vs=r.val/\mu=r.Gg) else False
 |_,_=>False
def leave(E:Env U)(rs:List ResultVar)(ts:List TypeId)(rest:List Value)(ps:List TypeId)(ms:List Mode)(ds:List (DV U))(r:Res U):Out U->Prop
 | .ret σ=>fin E rs ts rest ps ms ds r σ
 | .normal σ=>fin E rs ts rest ps ms ds r σ
 | .exit _ _=>False
section
variable{E:Env U}{w:World}{F:Nat->Prop}
theorem iY.len:∀{ms:List Mode}{ds:List (DV U)}{vs:List Value}{ls:List (List Nat)},iY E w F ms ds vs ls->ds.length=ms.length/\vs.length=ms.length/\ls.length=ms.length
 |[],[],[],[],_=>⟨rfl,rfl,rfl⟩
 |m::ms,d::ds,v::vs,l::ls,h=>by
  obtain⟨h1,h2,h3⟩:=iY.len h.2
  simp[h1,h2,h3]
 |[],_::_,_,_,h=>h.elim
 |[],[],_::_,_,h=>h.elim
 |[],[],[],_::_,h=>h.elim
 |_::_,[],_,_,h=>h.elim
 |_::_,_::_,[],_,h=>h.elim
 |_::_,_::_,_::_,[],h=>h.elim
theorem rZ{ls:List (List Nat)}:ls.flatten.Nodup↔(∀l∈ls,l.Nodup)/\ls.Pairwise (fun a b=>∀x∈a,∀y∈b,x≠y):=List.pairwise_flatten
theorem ak8{ls:List (List Nat)}(h:ls.flatten.Nodup){i j:Nat}(BZ:i≠j){b:Nat}(hb:b∈ls.getD i []):b∉ls.getD j []:=by
 intro aY
 rw[rZ] at h
 have fX:∀{k:Nat},b∈ls.getD k []->∃hk:k<ls.length,b∈ls[k]:=by
  intro k hk
  rcases mX k ls.length with g|g
  ·exact⟨g,by rwa[fY,gg g] at hk⟩
  ·rw[fY,mi g] at hk;cases hk
 obtain⟨hi,hb⟩:=fX hb
 obtain⟨hj,aY⟩:=fX aY
 have hp:=RT.1 h.2
 rcases Nat.lt_or_gt_of_ne BZ with g|g
 ·exact hp i j hi hj g _ hb _ aY rfl
 ·exact hp j i hj hi g _ aY _ hb rfl
theorem akp{ls:List (List Nat)}{j b:Nat}(hb:b∈ls.getD j []):b∈ls.flatten:=by
 rcases mX j ls.length with g|g
 ·rw[fY,gg g] at hb
  exact UR.2 ⟨_,Hu g,hb⟩
 ·rw[fY,mi g] at hb;cases hb
theorem aaP{ls:List (List Nat)}(h:ls.flatten.Nodup)(j:Nat):(ls.getD j []).Nodup:=by
 rcases mX j ls.length with g|g
 ·rw[fY,gg g]
  exact(rZ.1 h).1 _ (Hu g)
 ·rw[fY,mi g];exact UQ
theorem alq{a b:List Key}(h:distinct (a++b)=true):distinct a=true/\distinct b=true/\∀k∈a,k∉b:=by
 rw[rW,pu] at h
 exact⟨rW.2 h.1,rW.2 h.2.1,fun k hk cM=>h.2.2 k hk k cM rfl⟩
theorem alo{x:AV U}{cs:List U.C}{d:DV U}{v:Value}{vs:List Value}{fl:List (List Nat)}(hd:Iw x cs=some d)(hv:if x.agg then v=.agg vs.toArray else vs=[v])(hl:vs.length=cs.length)(hf:fl.length=cs.length)
  (h:∀(i:Nat)(c:U.C),cs[i]? =some c->Rp E w F true c (vs.getD i undef) (fl.getD i [])):kc E w F true d v fl.flatten:=by
 unfold Iw at hd
 cases OX:x.agg<;>rw[OX] at hd hv<;>simp only[cond_true,cond_false,wE,if_false,if_true] at hd hv
 ·split at hd
  ·rename_i c
   cases hd
   subst hv
   simp only[n_,om] at hf
   obtain⟨l,rfl⟩:=List.length_eq_one_iff.1 hf
   simpa[kc] using h 0 c rfl
  ·cases hd
 ·cases hd
  simp only[kc,if_true]
  exact⟨vs,fl,hv,hl,hf,h,rfl⟩
theorem aln{x:AV U}{cs:List U.C}{d:DV U}{v:Value}{vs:List Value}(hd:Iw x cs=some d)(hv:if x.agg then v=.agg vs.toArray else vs=[v])(hl:vs.length=cs.length)
  (h:∀(i:Nat)(c:U.C),cs[i]? =some c->Rp E w F false c (vs.getD i undef) []):kc E w F false d v []:=by
 unfold Iw at hd
 cases OX:x.agg<;>rw[OX] at hd hv<;>simp only[cond_true,cond_false,wE,if_false,if_true] at hd hv
 ·split at hd
  ·rename_i c
   cases hd
   subst hv
   simpa[kc] using h 0 c rfl
  ·cases hd
 ·cases hd
  simp only[kc,wE,if_false]
  exact⟨vs,hv,hl,h,trivial⟩
def OI(i:Nat)(m:Mode)(d:DV U)(v:Value)(kv:Key->Value):Prop:=
 match m,d with
 | .wr,.one _=>kv (2000000+i,0)=v
 | .wr,.agg cs=>∃vs:List Value,v=.agg vs.toArray/\vs.length=cs.length/\(∀(j:Nat)(τ:U.Ty)(xs:List (U.T τ)),cs[j]? =some (.sl τ xs)->kv (2000000+i,j)=vs.getD j undef)/\(∀(j:Nat)(u:Value),cs[j]? =some (.lit u)->vs.getD j undef=u/\fA u)
 | .box _,.box _=>kv (2000000+i,0)=v
 |_,_=>True
def xr(kv:Key->Value):Nat->List Mode->List (DV U)->List Value->Prop
 |i,m::ms,d::ds,v::vs=>OI i m d v kv/\xr kv (i+1) ms ds vs
 |_,_,_,_=>True
def kj:Mode->Bool
 | .box _=>true
 |_=>false
def o9(w:World)(rest:List Value):List Mode->List (DV U)->List Value->Prop
 |m::ms,d::ds,v::vs=>(∀cs,kj m=true->d=.box cs->rest=qc w v cs.length)/\o9 w rest ms ds vs
 |_,_,_=>True
def rT(w:World):List Mode->List (DV U)->List Value->List Value
 |m::ms,d::ds,v::vs=>bif kj m then(match d with| .box cs=>qc w v cs.length|_=>[]) else rT w ms ds vs
 |_,_,_=>[]
def pk:List Mode->Bool
 |[]=>true
 |m::r=>bif kj m then !(r.any kj) else pk r
theorem abr{w:World}{rest:List Value}:∀{ms:List Mode}{ds:List (DV U)}{vs:List Value},ms.any kj=false->o9 w rest ms ds vs
 |[],_,_,_=>trivial
 |m::ms,[],_,_=>trivial
 |m::ms,d::ds,[],_=>trivial
 |m::ms,d::ds,v::vs,h=>by
  simp only[UO,Ld] at h
  exact⟨fun cs hb _=>(by rw[h.1] at hb;cases hb),abr h.2⟩
theorem abq{w:World}:∀{ms:List Mode}{ds:List (DV U)}{vs:List Value},pk ms=true->o9 w (rT w ms ds vs) ms ds vs
 |[],_,_,_=>trivial
 |m::ms,[],_,_=>trivial
 |m::ms,d::ds,[],_=>trivial
 |m::ms,d::ds,v::vs,h=>by
  unfold pk at h
  unfold rT
  cases hb:kj m<;>rw[hb] at h<;>simp only[cond_true,cond_false] at h⊢
  ·exact⟨fun cs aY _=>(by rw[hb] at aY;cases aY),abq h⟩
  ·exact⟨fun cs _ hd=>by rw[hd],abr (by simpa using h)⟩
theorem abp{w:World}:∀{ms:List Mode}{ds:List (DV U)}{vs:List Value},rh w 0 ms ds vs->o9 w [] ms ds vs
 |[],_,_,_=>trivial
 |m::ms,[],_,_=>trivial
 |m::ms,d::ds,[],_=>trivial
 |m::ms,d::ds,v::vs,h=>by
  refine⟨fun cs hb hd=> ?_,abp h.2⟩
  cases m with
  |box own=>exact(Du (h.1 own cs rfl hd)).symm
  |ro=>cases hb
  |wr=>cases hb
  |mv=>cases hb
theorem aaB{w:World}:∀{ms:List Mode}{ds:List (DV U)}{vs:List Value},ms.any kj=false->rT w ms ds vs=[]
 |[],_,_,_=>rfl
 |m::ms,[],_,_=>rfl
 |m::ms,d::ds,[],_=>rfl
 |m::ms,d::ds,v::vs,h=>by
  simp only[UO,Ld] at h
  unfold rT
  rw[h.1]
  exact aaB h.2
theorem aaC{n:Nat}:∀{ms:List Mode}{ds:List (DV U)}{vs:List Value}{ls:List (List Nat)},iY E w F ms ds vs ls->rh w n ms ds vs->pk ms=true->ms.any kj=true->(rT w ms ds vs).length=n
 |[],[],[],[],_,_,_,hb=>by simp at hb
 |m::ms,d::ds,v::vs,l::ls,h,hr,h1,hb=>by
  unfold pk at h1
  unfold rT
  cases hm:kj m<;>rw[hm] at h1<;>simp only[cond_true,cond_false] at h1⊢
  ·exact aaC h.2 hr.2 h1 (by simpa[hm] using hb)
  ·cases m with
   |box own=>
    cases d with
    |box cs=>exact hr.1 own cs rfl rfl
    |one _=>exact h.1.elim
    |agg _=>exact h.1.elim
    |ptr _=>exact h.1.elim
    |fn _=>exact h.1.elim
   |ro=>cases hm
   |wr=>cases hm
   |mv=>cases hm
 |[],_::_,_,_,h,_,_,_=>h.elim
 |[],[],_::_,_,h,_,_,_=>h.elim
 |[],[],[],_::_,h,_,_,_=>h.elim
 |_::_,[],_,_,h,_,_,_=>h.elim
 |_::_,_::_,[],_,h,_,_,_=>h.elim
 |_::_,_::_,_::_,[],h,_,_,_=>h.elim
theorem LR{dst:Nat}:∀{cs:List U.C}{base:Nat},(((putCells dst true base cs).2).map (·.1)).Nodup/\∀p∈(putCells dst true base cs).2,base<=p.1
 |[],base=>⟨by simp[putCells],fun p hp=>by simp[putCells] at hp⟩
 | .lit v::r,base=>by
  obtain⟨h1,h2⟩:=LR (dst:=dst) (cs:=r) (base:=base+1)
  exact⟨by simpa[putCells] using h1,fun p hp=>by have:=h2 p (by simpa[putCells] using hp);omega⟩
 | .sl τ xs::r,base=>by
  obtain⟨h1,h2⟩:=LR (dst:=dst) (cs:=r) (base:=base+1)
  refine⟨?_,fun p hp=> ?_⟩
  ·simp only[putCells,cond_true,tI,rv]
   refine⟨fun hm=> ?_,h1⟩
   obtain⟨p,hp,e⟩:=lH.1 hm
   have:=h2 p hp
   omega
  ·simp only[putCells,cond_true,jw] at hp
   rcases hp with rfl|hp
   ·exact tB _
   ·have:=h2 p hp;omega
theorem aaG{dst:Nat}:∀{cs:List U.C}{base j:Nat}{τ:U.Ty}{xs:List (U.T τ)},cs[j]? =some (.sl τ xs)->(putCells dst true base cs).1[j]? =some (.ref (dst,base+j) [])
 |[],base,j,τ,xs,h=>by simp at h
 |c::r,base,j,τ,xs,h=>by
  cases j with
  |zero=>
   simp only[sB,fJ] at h
   subst h
   rfl
  |succ j=>
   have:=aaG (dst:=dst) (cs:=r) (base:=base+1) (j:=j) (by simpa using h)
   cases c<;>simpa[putCells,Lm,Y6 1 j] using this
theorem ali{i:Nat}{rest:List Value}{m:Mode}{d:DV U}{v:Value}{l:List Nat}(h:mg E w F m d v l)(kI:∀cs,kj m=true->d=.box cs->rest=qc w v cs.length):
  ∃t:eZ U,(Bs i rest m d).2=t.es/\(t.map (·.1)).Nodup/\t.bl=l/\∀kv fp bad,(∀s∈t,kv (2000000+i,s.1)=s.2.2.1)->
   RS E w F kv fp bad (Bs i rest m d).1 v/\(∀s∈t,ri E w F kv fp bad s.2.1 s.2.2.1 s.2.2.2)/\OI i m d v kv:=by
 have agg:∀(bs:Nat){cs:List U.C}{v:Value}{l:List Nat},lp E w F cs v l->∃t:eZ U,(putCells (2000000+i) true bs cs).2=t.es/\(t.map (·.1)).Nodup/\t.bl=l/\∃vs:List Value,v=.agg vs.toArray/\vs.length=cs.length/\(∀(j:Nat)(u:Value),cs[j]? =some (.lit u)->vs.getD j undef=u/\fA u)/\
   ∀kv fp bad,(∀s∈t,kv (2000000+i,s.1)=s.2.2.1)->kX E w F kv fp bad (putCells (2000000+i) true bs cs).1 vs/\(∀s∈t,ri E w F kv fp bad s.2.1 s.2.2.1 s.2.2.2):=by
  rintro bs cs v l ⟨vs,fl,h1,h2,h3,h4,h5⟩
  obtain⟨t,t1,t2,t3,t4⟩:=F5 (dst:=2000000+i) (base:=bs) h2 h3 h4
  refine⟨t,t1,?_,by rw[t3,h5],vs,h1,h2,fun j u hj=> ?_,fun kv fp bad hk=>⟨t4 kv fp bad hk,fun s hs=>t2 s hs kv fp bad⟩⟩
  ·have:=(LR (dst:=2000000+i) (cs:=cs) (base:=bs)).1
   rw[t1] at this
   simpa[eZ.es,Function.comp_def] using this
  ·obtain⟨_,g2,g3⟩:=(h4 j _ hj).jC
   exact⟨g2,g3⟩
 cases m with
 |ro=>
  cases d with
  |one c=>exact⟨[],rfl,by simp,h.2.symm,fun kv fp bad _=>⟨xp ⟨h.1.fB,.inr h.1⟩,by simp,trivial⟩⟩
  |agg cs=>
   obtain⟨vs,rfl,h2,h3,h4⟩:=h
   exact⟨[],rfl,by simp,h4.symm,fun kv fp bad _=>⟨⟨vs,H0 h2 h3,rfl⟩,by simp,trivial⟩⟩
  |ptr cs=>
   obtain⟨⟨b,o,rfl,h2,h3⟩,h4⟩:=h
   exact⟨[],rfl,by simp,h4.symm,fun kv fp bad _=>⟨xp ⟨⟨rfl,trivial⟩,.inr ⟨b,o,rfl,h2,h3⟩⟩,by simp,trivial⟩⟩
  |fn p=>exact⟨[],rfl,by simp,h.2.symm,fun kv fp bad _=>⟨h.1,by simp,trivial⟩⟩
  |box cs=>exact h.elim
 |wr=>
  cases d with
  |one c=>
   cases c with
   |lit _=>exact h.elim
   |sl τ xs=>
    refine⟨[(0,.arr ⟨τ,xs⟩ true,v,l)],rfl,by simp,by simp[eZ.bl],fun kv fp bad hk=> ?_⟩
    have yC:kv (2000000+i,0)=v:=hk _ (oa.2 rfl)
    refine⟨xp ⟨?_,.inr (by simp only[RA];rw[yC];rfl)⟩,fun s hs=>by rw[oa.1 hs];exact h,yC⟩
    rcases h with⟨_,⟨ad,rfl⟩,_⟩|⟨b,cap,cur,vs,gA,rfl,_⟩<;>exact⟨rfl,trivial⟩
  |agg cs=>
   obtain⟨t,t1,t2,t3,vs,t4,t5,t6,t7⟩:=agg 0 h
   refine⟨t,t1,t2,t3,fun kv fp bad hk=> ?_⟩
   obtain⟨g1,g2⟩:=t7 kv fp bad hk
   refine⟨⟨vs,g1,t4⟩,g2,vs,t4,t5,fun j τ xs hj=> ?_,t6⟩
   have hr:=aaG (dst:=2000000+i) (base:=0) hj
   have fX:j<vs.length:=by
    rw[t5]
    rcases mX j cs.length with g|g
    ·exact g
    ·rw[mi g] at hj;cases hj
   have:=cn (g1.2 j _ _ hr (eH (d:=undef) fX)) rfl
   simp only[RA,tW] at this
   exact this.symm
  |box _=>exact h.elim
  |ptr _=>exact h.elim
  |fn _=>exact h.elim
 |mv=>
  cases d with
  |one c=>
   obtain⟨t,t1,t2,t3,t4⟩:=F5 (E:=E) (w:=w) (F:=F) (dst:=2000000+i) (base:=4096) (cs:=[c]) (vs:=[v]) (fl:=[l]) rfl rfl (fun j c' hc=>by
    cases j with
    |zero=>simp only[sB,fJ] at hc;subst hc;exact h
    |succ j=>simp at hc)
   refine⟨t,t1,?_,by simpa using t3,fun kv fp bad hk=>⟨⟨[v],t4 kv fp bad hk,by simp⟩,fun s hs=>t2 s hs kv fp bad,trivial⟩⟩
   have:=(LR (dst:=2000000+i) (cs:=[c]) (base:=4096)).1
   rw[t1] at this
   simpa[eZ.es,Function.comp_def] using this
  |agg cs=>
   obtain⟨t,t1,t2,t3,vs,t4,t5,t6,t7⟩:=agg 4096 h
   refine⟨t,t1,t2,t3,fun kv fp bad hk=> ?_⟩
   obtain⟨g1,g2⟩:=t7 kv fp bad hk
   exact⟨⟨vs,g1,t4⟩,g2,trivial⟩
  |box _=>exact h.elim
  |ptr _=>exact h.elim
  |fn _=>exact h.elim
 |box own=>
  cases d with
  |box cs=>
   have W8:=kI cs rfl rfl
   obtain⟨b,cur,e,fl,h1,h2,h3,h4,h5,h6,h7,h8⟩:=h
   rw[<-W8] at h4 h5
   have gU:cur.toList.take cs.length++cur.toList.drop cs.length=cur.toList:=Lq _ _
   have qm:∀(j:Nat)(c:U.C),cs[j]? =some c->(cur.toList.take cs.length).getD j undef=cur.toList.getD j undef:=by
    intro j c hc
    have hj:j<cs.length:=by
     rcases mX j cs.length with g|g
     ·exact g
     ·rw[mi g] at hc;cases hc
    simp only[fY,nF,if_pos hj]
   have So:∀kv fp bad,kX E w F kv fp bad (rest.map fun v=> .c (.lit v)) rest:=by
    intro kv fp bad
    refine⟨by simp,fun j x u hx hu=> ?_⟩
    rw[lZ,hu] at hx
    cases hx
    exact uI (h5 u (Cs hu))
   cases own with
   |true=>
    obtain⟨t,t1,t2,t3,t4⟩:=F5 (E:=E) (w:=w) (F:=F) (dst:=2000000+i) (base:=4096) (cs:=cs) (vs:=cur.toList.take cs.length) (fl:=fl) (by simp;omega) h6 (fun j c hc=>by rw[qm j c hc];exact h7 j c hc)
    have Sk:=LR (dst:=2000000+i) (cs:=cs) (base:=4096)
    refine⟨(0,.box ((putCells (2000000+i) true 4096 cs).1++rest.map fun v=> .c (.lit v)),v,[b])::t,by simp[Bs,eZ.es,t1],?_,by rw[h8];simp only[eZ.bl,xv,List.singleton_append] at t3⊢;rw[t3],fun kv fp bad hk=> ?_⟩
    ·rw[tI,rv]
     have h0:(t.map (·.1))=((putCells (2000000+i) true 4096 cs).2).map (·.1):=by rw[t1];simp[eZ.es,Function.comp_def]
     rw[h0]
     refine⟨fun hm=> ?_,Sk.1⟩
     obtain⟨p,hp,e⟩:=lH.1 hm
     have:=Sk.2 p hp
     simp only at e
     omega
    ·have yC:kv (2000000+i,0)=v:=hk _ dw
     have w6:=fun s hs=>hk s (bi _ hs)
     refine⟨xp ⟨by rw[h1];exact⟨rfl,trivial⟩,.inr ⟨b,by rw[yC,h1],h1⟩⟩,fun s hs=> ?_,yC⟩
     rcases jw.1 hs with rfl|hs
     ·refine⟨b,cur,e,h1,h2,rfl,?_⟩
      rw[<-gU,h4]
      exact(t4 kv fp bad w6).append (So kv fp bad)
     ·exact t2 s hs kv fp bad
   |false=>
    have yD:fl.flatten=[]:=by
     rw[zdm]
     intro b' aY
     obtain⟨l',D3,Co⟩:=UR.1 aY
     obtain⟨j,hj,rfl⟩:=tX D3
     have tH:j<cs.length:=by omega
     have:=h7 j _ (gg tH)
     rw[fY (l:=fl),gg hj] at this
     exact this.P5 (F':=fun _=>False) Co
    rw[yD] at h8
    refine⟨[(0,.box (cs.map .c++rest.map fun v=> .c (.lit v)),v,[b])],rfl,by simp,by simp[eZ.bl,h8],fun kv fp bad hk=> ?_⟩
    have yC:kv (2000000+i,0)=v:=hk _ dw
    refine⟨xp ⟨by rw[h1];exact⟨rfl,trivial⟩,.inr ⟨b,by rw[yC,h1],h1⟩⟩,fun s hs=> ?_,yC⟩
    rw[oa.1 hs]
    refine⟨b,cur,e,h1,h2,rfl,?_⟩
    rw[<-gU,h4]
    refine(H0 (by simp;omega) (fun j c hc=> ?_)).append (So kv fp bad)
    rw[qm j c hc]
    have:=h7 j c hc
    exact this.kD (fun _ hb=>hb) (fun b' aY=>this.P5 aY)
  |one _=>exact h.elim
  |agg _=>exact h.elim
  |ptr _=>exact h.elim
  |fn _=>exact h.elim
theorem ako{dst:Nat}{t:eZ U}{k:Key}{e:ir U}(h:eo (nN dst t.es) k=some e):∃s∈t,k=(dst,s.1)/\e=s.2.1:=by
 have:=B8 h
 simp only[nN,eZ.es,List.map_map,lH,Function.comp,nE,fJ] at this
 obtain⟨s,hs,h1,h2⟩:=this
 exact⟨s,hs,h1.symm,h2.symm⟩
theorem aa_{rest:List Value}:∀{ms:List Mode}{ds:List (DV U)}{vs:List Value}{ls:List (List Nat)}{i:Nat},iY E w F ms ds vs ls->o9 w rest ms ds vs->
  ∃ts:List (eZ U),ts.map eZ.bl=ls/\(∀t∈ts,(t.map (·.1)).Nodup)/\
   (∀k e,eo (Iv rest i ms ds) k=some e->∃j s,s∈ts.getD j []/\k=(2000000+(i+j),s.1)/\e=s.2.1)/\
   ∀kv fp bad,(∀j s,s∈ts.getD j []->kv (2000000+(i+j),s.1)=s.2.2.1)->
    (∀s x,look (Bu rest i ms ds) s=some x->∃j,s=i+j/\j<vs.length/\RS E w F kv fp bad x (vs.getD j undef))/\
    (∀j s,s∈ts.getD j []->ri E w F kv fp bad s.2.1 s.2.2.1 s.2.2.2)/\xr kv i ms ds vs
 |[],[],[],[],i,_,_=>⟨[],rfl,by simp,fun k e he=>(by cases he),fun kv fp bad _=>⟨fun s x hs=>(by cases hs),by simp,trivial⟩⟩
 |m::ms,d::ds,v::vs,l::ls,i,h,hr=>by
  obtain⟨ts,i1,i2,i3,i4⟩:=aa_ (rest:=rest) (i:=i+1) h.2 hr.2
  obtain⟨t,t1,t2,t3,t4⟩:=ali (i:=i) h.1 hr.1
  refine⟨t::ts,by rw[tI,t3,i1],fun t' ht=> ?_,fun k e he=> ?_,fun kv fp bad hk=> ?_⟩
  ·rcases jw.1 ht with rfl|ht
   ·exact t2
   ·exact i2 t' ht
  ·have he:=(B9 _ _ _).symm.trans he
   split at he
   ·rw[t1] at he
    obtain⟨s,hs,h1,h2⟩:=ako he
    exact⟨0,s,by simpa using hs,by simpa using h1,h2⟩
   ·obtain⟨j,s,hs,h1,h2⟩:=i3 k e he
    exact⟨j+1,s,by simpa using hs,by rw[h1];simp only[nE,and_true];omega,h2⟩
  ·obtain⟨g1,g2,g3⟩:=t4 kv fp bad (fun s hs=>by have:=hk 0 s (by simpa using hs);simpa using this)
   obtain⟨k1,k2,k3⟩:=i4 kv fp bad (fun j s hs=>by have:=hk (j+1) s (by simpa using hs);simpa[Lm,Y6 1 j] using this)
   refine⟨fun s x hs=> ?_,fun j s hs=> ?_,g3,k3⟩
   ·have hs:=(HX _ _ _ _).symm.trans hs
    split at hs
    ·rename_i e;cases hs;exact⟨0,by simp[e],by simp,by simpa using g1⟩
    ·obtain⟨j,rfl,h2,h3⟩:=k1 s x hs
     exact⟨j+1,by omega,by simpa using h2,by simpa using h3⟩
   ·cases j with
    |zero=>exact g2 s (by simpa using hs)
    |succ j=>exact k2 j s (by simpa using hs)
 |[],_::_,_,_,_,h,_=>h.elim
 |[],[],_::_,_,_,h,_=>h.elim
 |[],[],[],_::_,_,h,_=>h.elim
 |_::_,[],_,_,_,h,_=>h.elim
 |_::_,_::_,[],_,_,h,_=>h.elim
 |_::_,_::_,_::_,[],_,h,_=>h.elim
def L2(w:World)(F:Nat->Prop)(kv:Key->Value)(ls:List (List Nat)):Pm:=
 ⟨w,fun b=>b∈ls.flatten,F,fun k=>if 2000000<=k.1/\k.2<1024 then some (kv k) else none⟩
theorem ak1{ts:List (eZ U)}{j:Nat}:(ts.map eZ.bl).getD j []=(ts.getD j []).bl:=by
 rw[fY,fY,lZ]
 cases ts[j]? <;>rfl
theorem alh{n:Nat}{rest:List Value}{ms:List Mode}{ds:List (DV U)}{vs:List Value}{ls:List (List Nat)}(hF:∀b,F b->b<w.heap.size)(yj:Lj E w F)(h:iY E w F ms ds vs ls)(hr:o9 w rest ms ds vs)(hn:ls.flatten.Nodup)(hl:∀b∈ls.flatten,b<w.heap.size/\¬F b)
  (Zf:ms.length<=n) (sL:n<=1000000):
  ∃Gm QI,cG E (L2 w F Gm ls) F Gm QI (entry rest n ms ds) {tmps:=vs.toArray++Array.replicate (n-vs.length) undef,defers:=[]} w/\xr Gm 0 ms ds vs:=by
 obtain⟨l1,l2,l3⟩:=h.len
 obtain⟨ts,i1,i2,i3,i4⟩:=aa_ (rest:=rest) (i:=0) h hr
 have oi:∀{j:Nat},((ts.getD j []).map (·.1)).Nodup:=by
  intro j
  rcases mX j ts.length with g|g
  ·rw[fY,gg g];exact i2 _ (Hu g)
  ·rw[fY,mi g];exact UQ
 let Gm:Key->Value:=fun k=>(ts.getD (k.1-2000000) []).yi k.1 (fun _=>undef) k
 let QI:Key->List Nat:=fun k=>(ts.getD (k.1-2000000) []).xb k.1 (fun _=>[]) k
 have KL:∀j s,s∈ts.getD j []->Gm (2000000+(0+j),s.1)=s.2.2.1:=by
  intro j s hs
  simp only[Gm,tW,Nat.add_sub_cancel_left]
  exact eZ.vh oi hs
 have qn:∀j s,s∈ts.getD j []->QI (2000000+(0+j),s.1)=s.2.2.2:=by
  intro j s hs
  simp only[QI,tW,Nat.add_sub_cancel_left]
  exact eZ.sO oi hs
 obtain⟨g1,g2,g3⟩:=i4 Gm QI (bW (entry rest n ms ds)) KL
 have KS:∀{j:Nat},(ts.getD j []).bl=ls.getD j []:=fun{j}=>by rw[<-i1,ak1]
 have XZ:∀{j:Nat}{s:Nat×ir U×Value×List Nat}{b:Nat},s∈ts.getD j []->b∈s.2.2.2->b∈ls.getD j []:=fun{j s b} hs hb=>by rw[<-KS];exact eZ.n6.2 ⟨s,hs,hb⟩
 refine⟨Gm,QI,⟨by simp[entry];omega,rfl,fun s x hs=> ?_,fun k e he=> ?_,fun k k' e e' b et h1 h2 hb=> ?_,fun k e he=> ?_,fun k e b he hb=> ?_,hF,fun b hb=> .inl hb,gy.refl _ _,fun k v hk=> ?_,yj⟩,g3⟩
 ·obtain⟨j,rfl,hj,h3⟩:=g1 s x hs
  have:(vs.toArray++Array.replicate (n-vs.length) undef).getD (0+j) undef=vs.getD j undef:=by
   rw[tW,Lr,Array.getElem?_append_left (by simpa using hj)]
   simp[fY]
  show RS E w F _ _ _ x ((vs.toArray++Array.replicate (n-vs.length) undef).getD (0+j) undef)
  rw[this];exact h3
 ·obtain⟨j,s,hs,rfl,rfl⟩:=i3 k e he
  rw[KL j s hs,qn j s hs]
  exact g2 j s hs
 ·obtain⟨j,s,hs,rfl,rfl⟩:=i3 k e h1
  obtain⟨j',s',jG,rfl,rfl⟩:=i3 k' e' h2
  rw[qn j s hs] at hb
  rw[qn j' s' jG]
  by_cases hj:j=j'
  ·subst hj
   have tF:(ts.getD j []).bl.Nodup:=by rw[KS];exact aaP hn j
   exact eZ.pU tF hs jG (fun e=>et (by rw[e])) hb
  ·exact fun aY=>ak8 hn hj (XZ hs hb) (XZ jG aY)
 ·obtain⟨j,s,hs,rfl,rfl⟩:=i3 k e he
  rw[qn j s hs]
  have tF:(ts.getD j []).bl.Nodup:=by rw[KS];exact aaP hn j
  exact eZ.vO tF hs
 ·obtain⟨j,s,hs,rfl,rfl⟩:=i3 k e he
  rw[qn j s hs] at hb
  have:=akp (XZ hs hb)
  exact⟨(hl b this).2,.inl this,(hl b this).1⟩
 ·simp only[L2] at hk
  split at hk
  ·rename_i hc
   cases hk
   exact⟨hc.1,hc.2,sL,rfl⟩
  ·cases hk
variable{pm:Pm}{kv:Key->Value}{fp:Key->List Nat}{σ:af U}{a:Act}
def HT(tmps:Array Value):ResultVar->Sem Value
 | .tmp t=>pure (tmps.getD t undef)
 | .cell a t=>do loadVar t (<-asAddr (tmps.getD a undef))
def FB(P:Program)(tmps:Array Value)(w:World):List ResultVar->List Value->Prop
 |[],[]=>True
 |r::rs,u::us=>(HT tmps r).run P w=.ok u w/\FB P tmps w rs us
 |_,_=>False
theorem aaS{P:Program}{tmps:Array Value}{w:World}:∀{rs:List ResultVar}{us:List Value},FB P tmps w rs us->(List.mapM (HT tmps) rs).run P w=.ok us w
 |[],[],_=>rfl
 |r::rs,u::us,h=>by
  rw[List.mapM_cons,Sem.run_bind,h.1]
  simp only[Result.andThen,Sem.run_bind,aaS h.2]
  rfl
 |[],_::_,h=>h.elim
 |_::_,[],h=>h.elim
theorem aj2{P:Program}{fn:Func}{tmps:Array Value}{w:World}{us:List Value}(h:FB P tmps w fn.results.toList us):
  (results fn tmps).run P w=.ok (J9 us) w:=by
 have hg:(fun x=>match x with
   |ResultVar.tmp t=>(pure (tmps.getD t undef):Sem Value)
   |ResultVar.cell a t=>do loadVar t (<-asAddr (tmps.getD a undef)))=HT tmps:=by
  funext x;cases x<;>rfl
 unfold results
 have hr:fn.results=fn.results.toList.toArray:=rfl
 rw[hr,List.mapM_toArray]
 show Sem.run P (do
  let vs←Functor.map List.toArray (List.mapM (fun x=>match x with
   |ResultVar.tmp t=>(pure (tmps.getD t undef):Sem Value)
   |ResultVar.cell a t=>do loadVar t (<-asAddr (tmps.getD a undef))) fn.results.toList)
  pure (if h:vs.size=1 then vs[0] else Value.tuple vs)) w=_
 rw[hg,Sem.run_bind]
 have hm:(Functor.map List.toArray (List.mapM (HT tmps) fn.results.toList)).run P w=.ok us.toArray w:=by
  rw[map_eq_pure_bind,Sem.run_bind,aaS h]
  rfl
 rw[hm]
 show Result.ok _ w=_
 congr 1
 match us with
 |[]=>rfl
 |[t]=>rfl
 |t::u::r=>
  rw[dif_neg (by simp)]
  rfl
theorem aaD(h:cG E pm F kv fp σ a w){r:ResultVar}{x:AV U}(hr:Jf E σ r=some x):∃u,(HT a.tmps r).run E.P w=.ok u w/\RV E w F kv fp (bW σ) x u:=by
 unfold Jf at hr
 split at hr
 ·rename_i t
  split at hr
  ·rename_i y hy
   cases hr
   exact⟨_,rfl,h.bp t _ hy⟩
  ·cases hr
 ·rename_i s t
  split at hr
  ·rename_i k hk
   split at hr
   ·rename_i cs n g he hn hg
    rw[gT] at hr
    split at hr
    ·rename_i hc
     cases hr
     simp only[eE] at hc
     obtain⟨b,h1,h2⟩:=cn (DH (h.bp s _ hk)) rfl
     obtain⟨b',cur,e,h3,h4,h5,h6⟩:=h.cV k _ he
     rw[h1] at h3;cases h3
     have hlen:n=cur.toList.length:=(lN hc.1).trans h6.1
     obtain⟨v,WX,WW⟩:=Px (E:=E) (w:=w) (us:=cur.toList) (off:=0) (b:=b) hn hg hc.2 hlen.symm (fun j v hj=>by
      simp only[World.cell?,h4,tW]
      simpa using hj)
     refine⟨v,?_,cur.toList,h6,WW⟩
     have eG:(HT a.tmps (.cell s t)).run E.P w=(Instr.loadAt t (.pointer (some ⟨b,0,none⟩))).run E.P w:=by
      simp only[HT,h2,asAddr,Instr.loadAt,Instr.sureAddr,pure_bind]
     rw[eG];exact WX
    ·cases hr
   ·cases hr
  ·cases hr
theorem aka(h:cG E pm F kv fp σ a w):∀{rs:List ResultVar}{fs:List Bool}{ts:List TypeId}{ps:List Prop}{ds:List (DV U)}{ks:List Key},outs E σ fs rs ts=some (ps,ds,ks)->(∀p∈ps,p)->ks.Nodup->
  ∃(us:List Value)(pY:List (List Nat)),FB E.P a.tmps w rs us/\(∀F':Nat->Prop,(∀b,F b->F' b)->(∀k e b,k∈oz E σ fs rs->σ.bH k=some e->b∈fp k->F' b)->lW E w F' fs ds us pY)/\pY.flatten.Nodup/\(∀b∈pY.flatten,∃k∈ks,b∈fp k)/\(∀k∈ks,(σ.bH k).isSome=true):=by
 intro rs
 induction rs with
 |nil=>
  intro fs ts ps ds ks ho hp hn
  simp only[outs,fJ,nE] at ho
  obtain⟨rfl,rfl,rfl⟩:=ho
  exact⟨[],[],trivial,fun _ _ _=>trivial,by simp,by simp,by simp⟩
 |cons r rs ih=>
  intro fs ts ps ds ks ho hp hn
  have D4:∀k,k∈oz E σ fs.tail rs->k∈oz E σ fs (r::rs):=fun k hk=>by
   simp only[oz,kA];exact .inr hk
  simp only[outs] at ho
  split at ho
  ·rename_i x hx
   split at ho
   ·rename_i l k vn
    split at ho
    ·rename_i qs Yf ks2 Gr
     cases ho
     have hh:fs.headD true=true:=by
      cases hh:fs.headD true with
      |true=>rfl
      |false=>
       rw[hh] at vn
       unfold L1 at vn
       split at vn<;>cases vn
     rw[hh] at vn
     unfold L1 at vn
     split at vn
     ·rename_i k0
      simp only[cond_true] at vn
      split at vn
      ·rename_i bs he
       split at vn
       ·rename_i l' hl
        cases vn
        obtain⟨xK,n2⟩:=rv.1 hn
        obtain⟨us,pY,i1,i2,i3,i4,i5⟩:=ih Gr hp n2
        obtain⟨u,hu,vs,r1,r2⟩:=aaD h hx
        simp only[wE,if_false] at r2
        subst r2
        obtain⟨b,KL,rfl⟩:=cn (r1.2 0 _ u rfl rfl) rfl
        obtain⟨b',cur,e',g1,g2,g3,g4⟩:=h.cV k _ he
        rw[KL] at g1
        simp only[Value.pointer.injEq,fJ,Addr.mk.injEq] at g1
        obtain⟨rfl,_,_⟩:=g1
        have sN:=J' hl
        have Cl:bs.length=l.length:=by rw[sN];simp
        have pO:kc E w F true (.box l:DV U) (.pointer (some ⟨b,0,none⟩)) [b]:=by
         refine⟨rfl,b,cur,e',rfl,g2,rfl,by rw[<-Cl,g4.1];simp,fun i c hc=> ?_⟩
         have hbc:bs[i]? =some (.c c):=by rw[sN,lZ,hc];rfl
         have fX:i<cur.toList.length:=by
          rw[<-g4.1]
          rcases mX i bs.length with g|g
          ·exact g
          ·rw[mi g] at hbc;cases hbc
         have qg:cur.toList[i]? =some (cur.toList[i]):=gg fX
         rw[fY,qg]
         exact(cn (g4.2 i _ _ hbc qg) rfl:Rp E w F false _ _ _)
        refine⟨_::us,[b]::pY,⟨hu,i1⟩,fun F' uq Zn=>⟨by rw[hh];exact kc.fh uq pO,i2 F' uq fun k e b hk=>Zn k e b (D4 k hk)⟩,?_,fun b' aY=> ?_,fun k' cM=> ?_⟩
        ·rw[HI,pu]
         refine⟨by simp,i3,fun b' aY c hc e=> ?_⟩
         rw[oa.1 aY] at e
         subst e
         obtain⟨k2,kJ,rE⟩:=i4 b hc
         obtain⟨e2,rD⟩:=lJ.1 (i5 k2 kJ)
         exact h.apart k k2 _ e2 b (fun e=>xK (e▸kJ)) he rD (by rw[g3];exact oa.2 rfl) rE
        ·rw[HI,kA] at aY
         rcases aY with aY|aY
         ·rw[oa.1 aY]
          exact⟨k,dw,by rw[g3];exact oa.2 rfl⟩
         ·obtain⟨k2,kJ,rE⟩:=i4 b' aY
          exact⟨k2,bi _ kJ,rE⟩
        ·rcases jw.1 cM with rfl|cM
         ·rw[he];rfl
         ·exact i5 k' cM
       ·cases vn
      ·cases vn
     ·cases vn
    ·cases ho
   split at ho
   ·rename_i ON cs ks1 xI
    split at ho
    ·rename_i d qs Yf ks2 hd Gr
     simp only[fJ,nE] at ho
     obtain⟨rfl,rfl,rfl⟩:=ho
     rw[pu] at hn
     obtain⟨n1,n2,n3⟩:=hn
     obtain⟨us,pY,i1,i2,i3,i4,i5⟩:=ih Gr (fun p j_=>hp p (by simp[j_])) n2
     obtain⟨u,hu,vs,r1,r2⟩:=aaD h hx
     cases hh:fs.headD true with
     |true=>
      rw[hh] at xI
      simp only[cond_true] at xI
      split at xI
      ·rename_i Ga tt ks' W1
       cases xI
       obtain⟨g1,g2,g3,g4⟩:=HV h W1 (fun p j_=>hp p (by simp[j_])) r1 n1
       obtain⟨fl,f1,f2,f3,f4⟩:=g3 rfl
       refine⟨u::us,fl.flatten::pY,⟨hu,i1⟩,fun F' uq Zn=>⟨by rw[hh];exact kc.fh uq (alo hd r2 (by rw[g1];exact r1.1.symm) f1 f2),i2 F' uq fun k e b hk=>Zn k e b (D4 k hk)⟩,?_,fun b hb=> ?_,fun k hk=> ?_⟩
       ·rw[HI,pu]
        refine⟨f3,i3,fun b hb c hc e=> ?_⟩
        subst e
        obtain⟨k1,w6,rF⟩:=f4 b hb
        obtain⟨k2,kJ,rE⟩:=i4 b hc
        obtain⟨e1,XV⟩:=lJ.1 (g2 k1 w6)
        obtain⟨e2,rD⟩:=lJ.1 (i5 k2 kJ)
        exact h.apart k1 k2 e1 e2 b (n3 k1 w6 k2 kJ) XV rD rF rE
       ·rw[HI,kA] at hb
        rcases hb with hb|hb
        ·obtain⟨k,hk,hb⟩:=f4 b hb;exact⟨k,pw _ hk,hb⟩
        ·obtain⟨k,hk,hb⟩:=i4 b hb;exact⟨k,oq _ hk,hb⟩
       ·rcases kA.1 hk with hk|hk
        ·exact g2 k hk
        ·exact i5 k hk
      ·cases xI
     |false=>
      rw[hh] at xI
      simp only[cond_false] at xI
      split at xI
      ·rename_i Ga tt W1
       cases xI
       obtain⟨g1,g2⟩:=abg h W1 (fun p j_=>hp p (by simp[j_])) r1
       refine⟨u::us,[]::pY,⟨hu,i1⟩,fun F' uq Zn=>⟨by
        rw[hh]
        refine aln hd r2 (by rw[g1];exact r1.1.symm) (fun i c hc=>(g2 i c hc).fh (fun b hb=> ?_))
        rcases hb with hb|⟨k,hk,hb⟩
        ·exact uq b hb
        ·rw[BW] at hk
         obtain⟨e,he⟩:=lJ.1 hk.2
         exact Zn k e b (by simp only[oz,hh,cond_false,kA,hx];exact .inl hk.1) he hb,i2 F' uq fun k e b hk=>Zn k e b (D4 k hk)⟩,by simpa using i3,by simpa using i4,by simpa using i5⟩
      ·cases xI
    ·cases ho
   ·cases ho
  ·cases ho
theorem Ww(h:cG E pm F kv fp σ a w){i:Nat}:∀{cs:List U.C}{j:Nat}{vs:List Value}{ds:List U.C}{ks:List Key},nX σ i j cs=some (ds,ks)->vs.length=cs.length->
  (∀(n:Nat)(τ:U.Ty)(xs:List (U.T τ)),cs[n]? =some (.sl τ xs)->kv (2000000+i,j+n)=vs.getD n undef)->(∀(n:Nat)(u:Value),cs[n]? =some (.lit u)->vs.getD n undef=u/\fA u)->
  ds.length=cs.length/\∃fl:List (List Nat),fl.length=ds.length/\(∀(n:Nat)(c:U.C),ds[n]? =some c->Rp E w F true c (vs.getD n undef) (fl.getD n []))/\fl.flatten=ks.flatMap fp/\(∀k∈ks,(σ.bH k).isSome=true/\j<=k.2)/\ks.Nodup
 |[],j,vs,ds,ks,hf,hl,h1,h2=>by
  simp only[nX,fJ,nE] at hf
  obtain⟨rfl,rfl⟩:=hf
  exact⟨rfl,[],rfl,fun n c hc=>by simp at hc,rfl,by simp,by simp⟩
 |c::cs,j,[],ds,ks,hf,hl,h1,h2=>by simp at hl
 |c::cs,j,v::vs,ds,ks,hf,hl,h1,h2=>by
  have HF:∀(n:Nat)(τ:U.Ty)(xs:List (U.T τ)),cs[n]? =some (.sl τ xs)->kv (2000000+i,j+1+n)=vs.getD n undef:=fun n τ xs hn=>by
   have:=h1 (n+1) τ xs (by simpa using hn)
   simpa[Lm,Y6 1 n] using this
  have QH:∀(n:Nat)(u:Value),cs[n]? =some (.lit u)->vs.getD n undef=u/\fA u:=fun n u hn=>by simpa using h2 (n+1) u (by simpa using hn)
  cases c with
  |lit u=>
   simp only[nX] at hf
   split at hf
   ·rename_i ds' ks' Zk
    cases hf
    obtain⟨i1,fl,i2,i3,i4,i5,i6⟩:=Ww h Zk (by simpa using hl) HF QH
    obtain⟨g1,g2⟩:=h2 0 u rfl
    have hvu:v=u:=by simpa using g1
    subst hvu
    refine⟨by simp[i1],[]::fl,by simp[i2],fun n c hc=> ?_,by simpa using i4,fun k hk=>⟨(i5 k hk).1,by have:=(i5 k hk).2;omega⟩,i6⟩
    cases n with
    |zero=>simp only[sB,fJ] at hc;subst hc;exact .lit _ _ g2
    |succ n=>simpa using i3 n c (by simpa using hc)
   ·cases hf
  |sl τ xs=>
   simp only[nX] at hf
   split at hf
   ·rename_i y ds' ks' he Zk
    cases hf
    obtain⟨i1,fl,i2,i3,i4,i5,i6⟩:=Ww h Zk (by simpa using hl) HF QH
    have hv:kv (2000000+i,j)=v:=by simpa using h1 0 τ xs rfl
    have ho:eu E w F true y (kv (2000000+i,j)) (fp (2000000+i,j)):=h.cV _ _ he
    refine⟨by simp[i1],fp (2000000+i,j)::fl,by simp[i2],fun n c hc=> ?_,by simp[i4],fun k hk=> ?_,?_⟩
    ·cases n with
     |zero=>simp only[sB,fJ] at hc;subst hc;rw[hv] at ho;exact ho.rp
     |succ n=>simpa using i3 n c (by simpa using hc)
    ·rcases jw.1 hk with rfl|hk
     ·exact⟨by rw[he];rfl,tB _⟩
     ·exact⟨(i5 k hk).1,by have:=(i5 k hk).2;omega⟩
    ·rw[rv]
     exact⟨fun hm=>by have:=(i5 _ hm).2;simp only at this;omega,i6⟩
   ·cases hf
theorem ak'(h:cG E pm F kv fp σ a w){w0:World}{F0:Nat->Prop}{rest:List Value}{i:Nat}{want:List (Option U.Ty)}{m:Mode}{d:DV U}{v:Value}{l:List Nat}{ps:List Prop}{mu:List (DV U)}{ks:List Key}
  (hf:Ed σ rest i want m d=some (ps,mu,ks)) (hp:∀p∈ps,p) (mo:mg E w0 F0 m d v l) (kI:∀cs,kj m=true->d=.box cs->rest=qc w0 v cs.length) (Ck:OI i m d v kv) (hn:ks.Nodup):
  ∃iB,eR E w F w0 [m] [v] mu iB/\iB.flatten.Nodup/\(∀b∈iB.flatten,∃k∈ks,b∈fp k)/\(∀k∈ks,(σ.bH k).isSome=true)/\(m=.box false->∀b∈l,∃k∈ks,b∈fp k):=by
 cases m with
 |ro=>
  simp only[Ed,fJ,nE] at hf
  obtain⟨_,rfl,rfl⟩:=hf
  exact⟨[],trivial,by simp,by simp,by simp,fun e=>by cases e⟩
 |mv=>
  simp only[Ed,fJ,nE] at hf
  obtain⟨_,rfl,rfl⟩:=hf
  exact⟨[],trivial,by simp,by simp,by simp,fun e=>by cases e⟩
 |wr=>
  cases d with
  |one c=>
   cases c with
   |lit _=>exact mo.elim
   |sl τ xs=>
    simp only[Ed] at hf
    split at hf
    ·rename_i y he
     cases hf
     have hv:kv (2000000+i,0)=v:=Ck
     have ho:eu E w F true y (kv (2000000+i,0)) (fp (2000000+i,0)):=h.cV _ _ he
     rw[hv] at ho
     exact⟨[fp (2000000+i,0)],⟨ho,trivial⟩,by simpa using h.nodup _ _ he,by simp,by simp[he],fun e=>by cases e⟩
    ·cases hf
  |agg cs=>
   simp only[Ed] at hf
   rw[gT] at hf
   split at hf
   ·split at hf
    ·rename_i ds ks' hfc
     cases hf
     obtain⟨vs,p1,p2,p3,p4⟩:=Ck
     obtain⟨i1,fl,i2,i3,i4,i5,i6⟩:=Ww h hfc p2 (by simpa using p3) p4
     refine⟨[fl.flatten],⟨⟨vs,fl,p1,by rw[p2,i1],i2,i3,rfl⟩,trivial⟩,?_,fun b hb=> ?_,fun k hk=>(i5 k hk).1,fun e=>by cases e⟩
     ·simp only[HI,zey,tV]
      rw[i4]
      exact Wv h i6 (fun k hk=>(i5 k hk).1)
     ·simp only[HI,zey,tV] at hb
      rw[i4] at hb
      exact nl.1 hb
    ·cases hf
   ·cases hf
  |box _=>exact mo.elim
  |ptr _=>exact mo.elim
  |fn _=>exact mo.elim
 |box own=>
  cases d with
  |one _=>exact mo.elim
  |agg _=>exact mo.elim
  |ptr _=>exact mo.elim
  |fn _=>exact mo.elim
  |box cs=>
   have W8:=kI cs rfl rfl
   have hv:kv (2000000+i,0)=v:=Ck
   obtain⟨b0,amF,e0,fl0,z1,z2,z3,z4,z5,z6,z7,z8⟩:=mo
   have If:∀{bs:List (AC U)}{cur:Array Value}{n:Nat},kX E w F kv fp (bW σ) bs cur.toList->bs.drop n=rest.map (fun v=> .c (.lit v))->cur.toList.drop n=rest:=by
    intro bs cur n hd he
    have h1:=hd.drop n
    rw[he] at h1
    refine Lp fun j=> ?_
    cases hj:rest[j]? with
    |none=>
     rw[List.getElem?_eq_none_iff] at hj⊢
     rw[<-h1.1];simpa using hj
    |some u=>
     have fX:j<(cur.toList.drop n).length:=by
      rw[<-h1.1,BV]
      rcases mX j rest.length with g|g
      ·exact g
      ·rw[mi g] at hj;cases hj
     rw[gg fX]
     have:=WI (h1.2 j (.c (.lit u)) _ (by rw[lZ,hj];rfl) (gg fX))
     rw[this]
   cases own with
   |true=>
    simp only[Ed] at hf
    split at hf
    ·rename_i bs he
     split at hf
     ·rename_i Ga l0 ks' ht
      rw[gT] at hf
      split at hf
      ·rename_i Gu
       cases hf
       have Gu:=lN Gu
       obtain⟨b,cur,e,h3,h4,h5,h6⟩:=h.cV _ _ he
       rw[hv] at h3
       obtain⟨g1,g2,g3,_⟩:=HV h ht (fun p j_=>hp p (by simp[j_])) (h6.take cs.length) (rv.1 hn).2
       obtain⟨fl,f1,f2,f3,f4⟩:=g3 rfl
       have Xc:bs.drop cs.length=rest.map fun v=> .c (.lit v):=aaA fun p j_=>hp p (oq _ j_)
       have Np:=If h6 Xc
       have KS:cs.length<=cur.size:=by
        have h8:bs.length=cur.size:=by have:=h6.1;simpa using this
        rw[g1,od] at Gu
        omega
       have X1:b∉fl.flatten:=by
        intro hb
        obtain⟨k',cM,aY⟩:=f4 b hb
        obtain⟨e2,rD⟩:=lJ.1 (g2 k' cM)
        exact h.apart _ k' _ e2 b (fun e=>(rv.1 hn).1 (by rw[e];exact cM)) he rD (by rw[h5];simp) aY
       refine⟨[b::fl.flatten],⟨⟨b,cur,e,fl,h3,h4,by omega,by rw[Gu,Np,W8],by rw[Gu];exact z5,f1,fun j c hc=> ?_,rfl⟩,trivial⟩,(by rw[HI,zey,tV,rv];exact⟨X1,f3⟩),fun c hc=> ?_,fun k hk=> ?_,fun e=>by cases e⟩
       ·have hj:j<cs.length:=by
         rw[<-Gu]
         rcases mX j l0.length with g|g
         ·exact g
         ·rw[mi g] at hc;cases hc
        have:=f2 j c hc
        rw[fY,nF,if_pos hj,<-fY] at this
        exact this
       ·simp only[HI,zey,tV,jw] at hc
        rcases hc with rfl|hc
        ·exact⟨_,dw,by rw[h5];simp⟩
        ·obtain⟨k',cM,hc⟩:=f4 c hc;exact⟨k',bi _ cM,hc⟩
       ·rcases jw.1 hk with rfl|hk
        ·rw[he];rfl
        ·exact g2 k hk
      ·cases hf
     ·cases hf
    ·cases hf
   |false=>
    simp only[Ed] at hf
    split at hf
    ·rename_i bs he
     split at hf
     ·rename_i l0 yB
      rw[gT] at hf
      split at hf
      ·rename_i Gu
       cases hf
       have Gu:=lN Gu
       have sN:=J' yB
       obtain⟨b,cur,e,h3,h4,h5,h6⟩:=h.cV _ _ he
       rw[hv] at h3
       have Xc:bs.drop cs.length=rest.map fun v=> .c (.lit v):=aaA fun p j_=>hp p j_
       have Np:=If h6 Xc
       have h8:bs.length=cur.size:=by have:=h6.1;simpa using this
       have KS:cs.length<=cur.size:=by
        have:=congrArg List.length sN
        rw[od,BV,Gu] at this
        omega
       refine⟨[[b]],⟨⟨b,cur,e,List.replicate l0.length [],h3,h4,by omega,by rw[Gu,Np,W8],by rw[Gu];exact z5,by simp,fun j c hc=> ?_,by rw[wS]⟩,trivial⟩,by simp,fun c hc=>⟨_,dw,by rw[h5];simpa using hc⟩,by simp[he],fun _ c hc=> ?_⟩
       ·have hj:j<cs.length:=by
         rw[<-Gu]
         rcases mX j l0.length with g|g
         ·exact g
         ·rw[mi g] at hc;cases hc
        have hci:bs[j]? =some (.c c):=by
         have:(bs.take cs.length)[j]? =some (.c c):=by rw[sN,lZ,hc];rfl
         rwa[nF,if_pos hj] at this
        have h7:=cn (h6.2 j (.c c) (cur.toList.getD j undef) hci (eH (by simp;omega))) rfl
        rw[DD]
        exact h7
       ·refine⟨_,dw,?_⟩
        rw[h5]
        rw[z1] at h3
        cases h3
        rw[z8,jw] at hc
        rcases hc with rfl|hc
        ·simp
        ·exfalso
         obtain⟨l',D3,Co⟩:=UR.1 hc
         obtain⟨j,hj,rfl⟩:=tX D3
         have tH:j<cs.length:=by omega
         have:=z7 j _ (gg tH)
         rw[fY (l:=fl0),gg hj] at this
         exact this.P5 (F':=fun _=>False) Co
      ·cases hf
     ·cases hf
    ·cases hf
theorem eR.cons{w0:World}{m:Mode}{v:Value}{Mv:List (DV U)}{CD:List (List Nat)}{ms:List Mode}{vs:List Value}{mu2:List (DV U)}{P6:List (List Nat)}(h:eR E w F w0 [m] [v] Mv CD)(h':eR E w F w0 ms vs mu2 P6):
  eR E w F w0 (m::ms) (v::vs) (Mv++mu2) (CD++P6):=by
 cases m with
 |ro=>cases Mv<;>cases CD<;>first|exact h.elim|exact h'
 |mv=>cases Mv<;>cases CD<;>first|exact h.elim|exact h'
 |wr=>
  cases Mv with
  |nil=>cases CD<;>exact h.elim
  |cons d Mv=>
   cases CD with
   |nil=>cases d<;>first|exact h.elim|(rename_i c;cases c<;>exact h.elim)
   |cons l CD=>
    cases d with
    |one c=>cases c with
     |lit _=>exact h.elim
     |sl τ ys=>
      obtain⟨h1,h2⟩:=h
      cases Mv<;>cases CD<;>first|exact h2.elim|exact⟨h1,h'⟩
    |agg cs=>
     obtain⟨h1,h2⟩:=h
     cases Mv<;>cases CD<;>first|exact h2.elim|exact⟨h1,h'⟩
    |box _=>exact h.elim
    |ptr _=>exact h.elim
    |fn _=>exact h.elim
 |box own=>
  cases Mv with
  |nil=>cases CD<;>exact h.elim
  |cons d Mv=>
   cases CD with
   |nil=>cases d<;>exact h.elim
   |cons l CD=>
    cases d with
    |box cs=>
     obtain⟨h1,h2⟩:=h
     cases Mv<;>cases CD<;>first|exact h2.elim|exact⟨h1,h'⟩
    |one _=>exact h.elim
    |agg _=>exact h.elim
    |ptr _=>exact h.elim
    |fn _=>exact h.elim
theorem aa9(h:cG E pm F kv fp σ a w){w0:World}{F0:Nat->Prop}{rest:List Value}:∀{ms:List Mode}{i:Nat}{ws:List (List (Option U.Ty))}{ds:List (DV U)}{vs:List Value}{ls:List (List Nat)}{ps:List Prop}{mu:List (DV U)}{ks:List Key},
  qx σ rest i ws ms ds=some (ps,mu,ks)->(∀p∈ps,p)->iY E w0 F0 ms ds vs ls->o9 w0 rest ms ds vs->xr kv i ms ds vs->ks.Nodup->
  ∃iB,eR E w F w0 ms vs mu iB/\iB.flatten.Nodup/\(∀b∈iB.flatten,∃k∈ks,b∈fp k)/\(∀k∈ks,(σ.bH k).isSome=true)/\(Nx ms=false->∀b∈ls.flatten,∃k∈ks,b∈fp k)
 |[],i,ws,[],[],[],ps,mu,ks,hf,hp,mo,hr,Ck,hn=>by
  simp only[qx,fJ,nE] at hf
  obtain⟨_,rfl,rfl⟩:=hf
  exact⟨[],trivial,by simp,by simp,by simp,by simp⟩
 |m::ms,i,ws,d::ds,v::vs,l::ls,ps,mu,ks,hf,hp,mo,hr,Ck,hn=>by
  simp only[qx] at hf
  split at hf
  ·rename_i ON xs ks1 qs ys ks2 h1 h2
   cases hf
   rw[pu] at hn
   obtain⟨n1,n2,n3⟩:=hn
   obtain⟨CD,i1,i2,i3,i4,i5⟩:=ak' h h1 (fun p j_=>hp p (by simp[j_])) mo.1 hr.1 Ck.1 n1
   obtain⟨P6,j1,j2,j3,j4,j5⟩:=aa9 h h2 (fun p j_=>hp p (by simp[j_])) mo.2 hr.2 Ck.2 n2
   refine⟨CD++P6,i1.cons j1,?_,fun b hb=> ?_,fun k hk=>(kA.1 hk).elim (i4 k) (j4 k),fun ho b hb=> ?_⟩
   ·rw[Hw,pu]
    refine⟨i2,j2,fun b hb c hc e=> ?_⟩
    subst e
    obtain⟨k1,w6,rF⟩:=i3 b hb
    obtain⟨k2,kJ,rE⟩:=j3 b hc
    obtain⟨e1,XV⟩:=lJ.1 (i4 k1 w6)
    obtain⟨e2,rD⟩:=lJ.1 (j4 k2 kJ)
    exact h.apart k1 k2 e1 e2 b (n3 k1 w6 k2 kJ) XV rD rF rE
   ·rw[Hw,kA] at hb
    rcases hb with hb|hb
    ·obtain⟨k,hk,hb⟩:=i3 b hb;exact⟨k,pw _ hk,hb⟩
    ·obtain⟨k,hk,hb⟩:=j3 b hb;exact⟨k,oq _ hk,hb⟩
   ·simp only[Nx,UO,Ld] at ho
    rw[HI,kA] at hb
    rcases hb with hb|hb
    ·have:m=.ro\/m=.box false:=by
      cases m with
      |ro=>exact .inl rfl
      |wr=>simp at ho
      |mv=>simp at ho
      |box own=>cases own with
       |true=>simp at ho
       |false=>exact .inr rfl
     rcases this with rfl|rfl
     ·have:l=[]:=by cases d<;>first|exact mo.1.2|(obtain⟨_,_,_,_,h⟩:=mo.1;exact h)|exact mo.1.elim
      rw[this] at hb;cases hb
     ·obtain⟨k,hk,hb⟩:=i5 rfl b hb;exact⟨k,pw _ hk,hb⟩
    ·obtain⟨k,hk,hb⟩:=j5 ho.2 b hb;exact⟨k,oq _ hk,hb⟩
  ·cases hf
 |[],_,_,_::_,_,_,_,_,_,_,_,mo,_,_,_=>mo.elim
 |[],_,_,[],_::_,_,_,_,_,_,_,mo,_,_,_=>mo.elim
 |[],_,_,[],[],_::_,_,_,_,_,_,mo,_,_,_=>mo.elim
 |_::_,_,_,[],_,_,_,_,_,_,_,mo,_,_,_=>mo.elim
 |_::_,_,_,_::_,[],_,_,_,_,_,_,mo,_,_,_=>mo.elim
 |_::_,_,_,_::_,_::_,[],_,_,_,_,_,mo,_,_,_=>mo.elim
theorem eR.mono{w0:World}{F':Nat->Prop}(hF:∀b,F b->F' b):∀{ms:List Mode}{vs:List Value}{dm:List (DV U)}{ls:List (List Nat)},eR E w F w0 ms vs dm ls->eR E w F' w0 ms vs dm ls:=by
 intro ms
 induction ms with
 |nil=>intro vs dm ls h;cases vs<;>cases dm<;>cases ls<;>first|trivial|exact h.elim
 |cons m ms ih=>
  intro vs dm ls h
  cases m with
  |ro=>cases vs with
   |nil=>cases dm<;>cases ls<;>exact h.elim
   |cons v vs=>simp only[eR] at h⊢;exact ih h
  |mv=>cases vs with
   |nil=>cases dm<;>cases ls<;>exact h.elim
   |cons v vs=>simp only[eR] at h⊢;exact ih h
  |wr=>cases vs with
   |nil=>cases dm<;>cases ls<;>exact h.elim
   |cons v vs=>cases dm with
    |nil=>cases ls<;>exact h.elim
    |cons d dm=>cases d with
     |one c=>cases c with
      |lit _=>cases ls<;>exact h.elim
      |sl τ ys=>cases ls with
       |nil=>exact h.elim
       |cons l ls=>exact⟨eu.any h.1,ih h.2⟩
     |agg cs=>cases ls with
       |nil=>exact h.elim
       |cons l ls=>exact⟨h.1.any,ih h.2⟩
     |box _=>cases ls<;>exact h.elim
     |ptr _=>cases ls<;>exact h.elim
     |fn _=>cases ls<;>exact h.elim
  |box own=>cases vs with
   |nil=>cases dm<;>cases ls<;>exact h.elim
   |cons v vs=>cases dm with
    |nil=>cases ls<;>exact h.elim
    |cons d dm=>cases d with
     |box cs=>cases ls with
       |nil=>exact h.elim
       |cons l ls=>exact⟨h.1.fh hF,ih h.2⟩
     |one _=>cases ls<;>exact h.elim
     |agg _=>cases ls<;>exact h.elim
     |ptr _=>cases ls<;>exact h.elim
     |fn _=>cases ls<;>exact h.elim
theorem Je:∀{ms:List Mode}{ds:List (DV U)}{vs:List Value}{ls:List (List Nat)},iY E w F ms ds vs ls->qK ms=true->ls.flatten=[]
 |[],[],[],[],_,_=>rfl
 |m::ms,d::ds,v::vs,l::ls,h,hr=>by
  simp only[qK,O2,eE] at hr
  have h2:=Je h.2 hr.2
  have h1:l=[]:=by
   cases m with
   |ro=>cases d<;>first|exact h.1.2|(obtain⟨_,_,_,_,h⟩:=h.1;exact h)|exact h.1.elim
   |wr=>simp at hr
   |mv=>simp at hr
   |box _=>simp at hr
  simp[h1,h2]
 |[],_::_,_,_,h,_=>h.elim
 |[],[],_::_,_,h,_=>h.elim
 |[],[],[],_::_,h,_=>h.elim
 |_::_,[],_,_,h,_=>h.elim
 |_::_,_::_,[],_,h,_=>h.elim
 |_::_,_::_,_::_,[],h,_=>h.elim
inductive Bd:U.C->Prop
 |lit (v:Value) (h:fA v):Bd (.lit v)
 |sl (τ:U.Ty) (xs:List (U.T τ)) (hl:xs.length<=maxLen) (h:∀(i:Nat)(x:U.T τ)(j:Nat)(c:U.C),xs[i]? =some x->(U.enc τ x)[j]? =some c->Bd c):Bd (.sl τ xs)
theorem Rp.bd{m:Bool}{c:U.C}{v:Value}{l:List Nat}(h:Rp E w F m c v l):Bd c:=by
 induction h with
 |lit m v h=>exact .lit v h
 |nil m τ a c h=>exact .sl τ [] (by simp) (fun i x j c hx=>by simp at hx)
 |shr τ xs b off cap vs KU hc hm hv hr ih=>exact .sl τ xs hm ih
 |own τ xs b cap cur vs gA hb hc hm hs hv hr ih=>exact .sl τ xs (BU hc hm) ih
def eJ:DV U->Prop
 | .one c=>Bd c
 | .agg cs=>∀c∈cs,Bd c
 | .box cs=>∀c∈cs,Bd c
 | .ptr cs=>∀c∈cs,Bd c
 | .fn _=>True
theorem El{cs:List U.C}(hh:∀(i:Nat)(c:U.C),cs[i]? =some c->Bd c):∀c∈cs,Bd c:=by
 intro c hc
 obtain⟨i,hi,rfl⟩:=tX hc
 exact hh i _ (gg hi)
theorem lp.bd{cs:List U.C}{v:Value}{l:List Nat}(h:lp E w F cs v l):∀c∈cs,Bd c:=by
 obtain⟨vs,fl,_,_,_,h4,_⟩:=h
 exact El fun i c hc=>(h4 i c hc).bd
theorem mg.bd{m:Mode}{d:DV U}{v:Value}{l:List Nat}(h:mg E w F m d v l):eJ d:=by
 cases m with
 |ro=>
  cases d with
  |one c=>exact h.1.bd
  |agg cs=>obtain⟨vs,_,_,h3,_⟩:=h;exact El fun i c hc=>(h3 i c hc).bd
  |ptr cs=>
   obtain⟨⟨b,o,_,_,h3⟩,_⟩:=h
   exact El fun i c hc=>by obtain⟨u,_,h5⟩:=h3 i c hc;exact h5.bd
  |fn _=>trivial
  |box _=>exact h.elim
 |wr=>
  cases d with
  |one c=>
   cases c with
   |lit _=>exact h.elim
   |sl τ xs=>exact(h.kD (F':=fun _=>True) (fun _ _=>trivial) (fun _ _=>trivial)).bd
  |agg _=>exact lp.bd h
  |box _=>exact h.elim
  |ptr _=>exact h.elim
  |fn _=>exact h.elim
 |mv=>
  cases d with
  |one c=>exact Rp.bd h
  |agg _=>exact lp.bd h
  |box _=>exact h.elim
  |ptr _=>exact h.elim
  |fn _=>exact h.elim
 |box own=>
  cases d with
  |box cs=>obtain⟨b,cur,e,fl,_,_,_,_,_,_,h7,_⟩:=h;exact El fun i c hc=>(h7 i c hc).bd
  |one _=>exact h.elim
  |agg _=>exact h.elim
  |ptr _=>exact h.elim
  |fn _=>exact h.elim
theorem iY.bd:∀{ms:List Mode}{ds:List (DV U)}{vs:List Value}{ls:List (List Nat)},iY E w F ms ds vs ls->∀d∈ds,eJ d
 |[],[],[],[],_,d,hd=>by simp at hd
 |m::ms,d0::ds,v::vs,l::ls,h,d,hd=>by
  rcases jw.1 hd with rfl|hd
  ·exact h.1.bd
  ·exact iY.bd h.2 d hd
 |[],_::_,_,_,h,_,_=>h.elim
 |[],[],_::_,_,h,_,_=>h.elim
 |[],[],[],_::_,h,_,_=>h.elim
 |_::_,[],_,_,h,_,_=>h.elim
 |_::_,_::_,[],_,h,_,_=>h.elim
 |_::_,_::_,_::_,[],h,_,_=>h.elim
theorem xc(hE:E.Good){f:FuncId}{fn:Func}{c:Code}(hf:E.P.funcs[f]? =some fn)(hb:fn.body=some c)(k:jH U)(Zf:k.md.length<=fn.ntmps)(sL:fn.ntmps<=1000000)(rF:pk k.md=true\/k.FW=0)
  (hw:∀x,(∀p∈k.pre x,p)->(∀d∈k.ds x,eJ d)->∀rest,(k.md.any kj=true->rest.length=k.FW)->(k.md.any kj=false->rest=[])->
   ∀vs:List Value,vs.length=k.md.length->∃τ,(∀{pm:Pm}{F:Nat->Prop}{kv:Key->Value}{fp:Key->List Nat}{a:Act}{w:World},cG E pm F kv fp (entry rest fn.ntmps k.md (k.ds x)) a w->(∀i,i<vs.length->a.tmps.getD i undef=vs.getD i undef)->cG E pm F kv fp τ a w)/\
    WpS E c τ (leave E fn.results.toList fn.resultTypes.toList rest fn.params.toList k.md (k.ds x) (k.mE x))):ee E f k:=by
 intro x Ig w F vs ls hF yj mo Xb oi hld
 obtain⟨l1,l2,l3⟩:=mo.len
 refine calls_of_wp hf hb ?_
 obtain⟨rest,al_,har,hrn⟩:∃rest:List Value,(k.md.any kj=true->rest.length=k.FW)/\o9 w rest k.md (k.ds x) vs/\(k.md.any kj=false->rest=[]):=by
  rcases rF with rF|rF
  ·exact⟨rT w k.md (k.ds x) vs,fun h=>aaC mo Xb rF h,abq rF,fun h=>aaB h⟩
  ·rw[rF] at Xb
   exact⟨[],fun _=>rF.symm,abp Xb,fun _=>rfl⟩
 obtain⟨Gm,QI,h0,Xg⟩:=alh (n:=fn.ntmps) (rest:=rest) hF yj mo har oi hld Zf sL
 have iU:(vs.toArray).size=vs.length:=by simp
 rw[iU]
 have abM:∀{kv:Key->Value},(∀i j,j<1024->kv (2000000+i,j)=Gm (2000000+i,j))->∀{i:Nat}{ms:List Mode}{ds:List (DV U)}{vs:List Value}{ls:List (List Nat)}{mu:List Prop×List (DV U)×List Key}{σ:af U}{ws:List (List (Option U.Ty))},xr Gm i ms ds vs->qx σ rest i ws ms ds=some mu->xr kv i ms ds vs:=by
  intro kv hk i ms
  induction ms generalizing i with
  |nil=>intro ds vs ls mu σ ws _ _;cases ds<;>trivial
  |cons m ms ih=>
   intro ds vs ls mu σ ws hp hfm
   cases ds with
   |nil=>trivial
   |cons d ds=>
    cases vs with
    |nil=>trivial
    |cons v vs=>
     simp only[qx] at hfm
     split at hfm
     ·rename_i h1 h2
      refine⟨?_,ih (ls:=[]) hp.2 h2⟩
      have gb:=hp.1
      cases m with
      |ro=>trivial
      |mv=>trivial
      |box own=>
       cases d with
       |box cs=>exact(hk i 0 (by decide)).trans gb
       |one _=>trivial
       |agg _=>trivial
       |ptr _=>trivial
       |fn _=>trivial
      |wr=>
       cases d with
       |one c=>exact(hk i 0 (by decide)).trans gb
       |agg cs=>
        simp only[Ed] at h1
        rw[gT] at h1
        split at h1
        ·rename_i hlen
         rw[OL] at hlen
         obtain⟨us,q1,q2,q3,q4⟩:=gb
         refine⟨us,q1,q2,fun j τ xs hj=> ?_,q4⟩
         have hjl:j<cs.length:=by
          rcases mX j cs.length with g|g
          ·exact g
          ·rw[mi g] at hj;cases hj
         exact(hk i j (by omega)).trans (q3 j τ xs hj)
        ·cases h1
       |box _=>trivial
       |ptr _=>trivial
       |fn _=>trivial
     ·cases hfm
 have key:∀(σ:af U),fin E fn.results.toList fn.resultTypes.toList rest fn.params.toList k.md (k.ds x) (k.mE x) σ->∀F1 kv fp a' w',cG E (L2 w F Gm ls) F1 kv fp σ a' w'->a'.defers=[]/\∃v,(results fn a'.tmps).run E.P w'=.ok v w'/\∃(us:List Value)(pY iB:List (List Nat)),Ending.returned v=.returned (J9 us)/\gy (·∈ls.flatten) w w'/\
   lW E w' (Bp F w w' (pY.flatten++iB.flatten) ls.flatten) (k.mE x).fresh (k.mE x).val us pY/\
   eR E w' (Bp F w w' (pY.flatten++iB.flatten) ls.flatten) w k.md vs (k.mE x).Gg iB/\
   (pY.flatten++iB.flatten).Nodup/\(∀b∈pY.flatten,(b∈ls.flatten\/w.heap.size<=b)/\b<w'.heap.size)/\(∀b∈iB.flatten,b∈ls.flatten\/(w.heap.size<=b/\b<w'.heap.size)):=by
  intro σ pN F1 kv fp a' w' hs0
  refine⟨hs0.defers,?_⟩
  have hs:cG E (L2 w F Gm ls) F1 kv fp (je σ) a' w':=DB hs0 _
  unfold fin at pN
  split at pN
  ·rename_i ps ds ks qs mu ks' ho hm
   rw[gT] at pN
   split at pN
   ·rename_i hc
    simp only[eE,B3,rj] at hc
    obtain⟨⟨c1,c3⟩,c5⟩:=hc
    obtain⟨hp,rfl,rfl⟩:=abm.1 pN
    obtain⟨d1,d2,d3⟩:=alq c1
    have amh:∀i j,j<1024->kv (2000000+i,j)=Gm (2000000+i,j):=fun i j hj=>(hs.Ji (2000000+i,j) (Gm (2000000+i,j)) (by simp[L2,hj])).2.2.2
    obtain⟨iB,m1,m2,m3,m4,_⟩:=aa9 hs hm (fun p j_=>hp p (by simp[j_])) mo har (abM amh (ls:=[]) Xg hm) (rW.1 d2)
    have vo:∀{k':Key}{b:Nat},((je σ).bH k').isSome=true->b∈fp k'->¬F1 b/\(b∈ls.flatten\/w.heap.size<=b)/\b<w'.heap.size:=by
     intro k' b cM hb
     obtain⟨e,he⟩:=lJ.1 cM
     exact hs.ff k' e b he hb
    have Sn:∀b∈iB.flatten,b∈ls.flatten\/(w.heap.size<=b/\b<w'.heap.size):=by
     intro b hb
     obtain⟨k',cM,hb⟩:=m3 b hb
     have:=vo (m4 k' cM) hb
     rcases this.2.1 with g|g
     ·exact .inl g
     ·exact .inr ⟨g,this.2.2⟩
    have hG:∀own:List Nat,(∀b∈own,¬F1 b)->∀b,F1 b->Bp F w w' own ls.flatten b:=fun own ho b hb=>by
     rcases hs.rH b hb with g|g|g
     ·exact .inl g
     ·exact .inr ⟨.inr g,hs.rI b hb,fun Zm=>ho b Zm hb⟩
     ·exact .inr ⟨.inl g,hs.rI b hb,fun Zm=>ho b Zm hb⟩
    obtain⟨us,pY,o1,o2,o3,o4,o5⟩:=aka hs ho (fun p j_=>hp p (by simp[j_])) (rW.1 d1)
    have hG1:=hG (pY.flatten++iB.flatten) fun b Zm=>by
     rcases kA.1 Zm with g|g
     ·obtain⟨k',cM,g⟩:=o4 b g;exact(vo (o5 k' cM) g).1
     ·obtain⟨k',cM,g⟩:=m3 b g;exact(vo (m4 k' cM) g).1
    refine⟨_,aj2 o1,_,pY,iB,rfl,hs.upto,o2 _ hG1 (fun k' e b hkr he hb=> ?_),m1.mono hG1,?_,fun b hb=> ?_,Sn⟩
    ·have:=vo (by rw[he];rfl) hb
     refine .inr ⟨this.2.1.symm,this.2.2,fun hbm=> ?_⟩
     have Jm:∀k2 e2,k2∈ks++ks'->(je σ).bH k2=some e2->b∉fp k2:=fun k2 e2 kJ rD rE=>by
      refine hs.apart k' k2 e e2 b (fun e=> ?_) he rD hb rE
      have:meet (oz E (je σ) (k.mE x).fresh fn.results.toList) (ks++ks')=true:=sA.2 ⟨k',hkr,qe.2 (by rw[e];exact kJ)⟩
      rw[c3] at this;cases this
     rcases kA.1 hbm with g|g
     ·obtain⟨k2,kJ,rE⟩:=o4 b g
      obtain⟨e2,rD⟩:=lJ.1 (o5 k2 kJ)
      exact Jm k2 e2 (pw _ kJ) rD rE
     ·obtain⟨k2,kJ,rE⟩:=m3 b g
      obtain⟨e2,rD⟩:=lJ.1 (m4 k2 kJ)
      exact Jm k2 e2 (oq _ kJ) rD rE
    ·rw[pu]
     refine⟨o3,m2,fun b hb c hc e=> ?_⟩
     subst e
     obtain⟨k1,w6,rF⟩:=o4 b hb
     obtain⟨k2,kJ,rE⟩:=m3 b hc
     obtain⟨e1,XV⟩:=lJ.1 (o5 k1 w6)
     obtain⟨e2,rD⟩:=lJ.1 (m4 k2 kJ)
     exact hs.apart k1 k2 e1 e2 b (fun e=>d3 k1 w6 (by rw[e];exact kJ)) XV rD rF rE
    ·obtain⟨k',cM,hb⟩:=o4 b hb
     exact(vo (o5 k' cM) hb).2
   ·exact pN.elim
  ·exact pN.elim
 obtain⟨τ,HA,hwp⟩:=hw x Ig mo.bd rest al_ hrn vs (by omega)
 refine hwp (HA h0 (fun i hi=>by simp[Array.getD,fY,hi,Y' hi (Nat.le_add_right _ _)])) (fun o ho F1 kv fp a' w' hs=> ?_)
 cases o with
 |normal σ=>exact key σ ho F1 kv fp a' w' hs
 |ret σ=>exact key σ ho F1 kv fp a' w' hs
 |exit id σ=>exact ho.elim
theorem ak6(hE:E.Good){f:FuncId}{fn:Func}{c:Code}(hf:E.P.funcs[f]? =some fn)(hb:fn.body=some c)(k:jH U)(mU:k.α->Nat->Option (rJ U))(Zf:k.md.length<=fn.ntmps)(sL:fn.ntmps<=1000000)(rF:pk k.md=true\/k.FW=0)
  (hw:∀x,(∀p∈k.pre x,p)->(∀d∈k.ds x,eJ d)->∀rest,(k.md.any kj=true->rest.length=k.FW)->(k.md.any kj=false->rest=[])->
   AM.wp E (mU x) c (entry rest fn.ntmps k.md (k.ds x)) (leave E fn.results.toList fn.resultTypes.toList rest fn.params.toList k.md (k.ds x) (k.mE x))):ee E f k:=
 xc hE hf hb k Zf sL rF fun x hp hd rest hr hn _ _=>⟨_,fun h _=>h,HK hE (hw x hp hd rest hr hn)⟩
theorem cG.over{F:Nat->Prop}{kv:Key->Value}{fp:Key->List Nat}{σ:af U}{a:Act}{w:World}{pm:Pm}(h:cG E pm F kv fp σ a w)(s:Nat)(x:SV U)(hx:RS E w F kv fp (bW σ) x (a.tmps.getD s undef)):
  cG E pm F kv fp {σ with bp:=(s,some x)::σ.bp} a w:=by
 refine{h with bp:=fun t y hy=> ?_}
 unfold af.get at hy
 simp only[look] at hy
 cases hb:Nat.beq s t<;>rw[hb] at hy<;>simp only[cond_true,cond_false] at hy
 ·exact h.bp t y hy
 ·cases hy
  rw[<-lN hb]
  exact hx
def Ee(n:Nat)(b:Bool)(τ:U.Ty)(xs:List (U.T τ)):af U:={entry [] n [.ro] [.one (.sl τ xs)] with bp:=(0,some (one (.kn b τ xs)))::(entry [] n [.ro] [.one (.sl τ xs)]).bp}
theorem ak5(hE:E.Good){f:FuncId}{fn:Func}{c:Code}(hf:E.P.funcs[f]? =some fn)(hb:fn.body=some c)(k:jH U)(mU:k.α->Nat->Option (rJ U))(Zf:k.md.length<=fn.ntmps)(sL:fn.ntmps<=1000000)(rF:pk k.md=true\/k.FW=0)
  (Xq:k.md=[.ro]) (τ:U.Ty) (xs:k.α->List (U.T τ)) (D7:∀x,k.ds x=[.one (.sl τ (xs x))])
  (hw:∀x,(∀p∈k.pre x,p)->(∀d∈k.ds x,eJ d)->∀b:Bool,(b=true->xs x=[])->
   AM.wp E (mU x) c (Ee fn.ntmps b τ (xs x)) (leave E fn.results.toList fn.resultTypes.toList [] fn.params.toList k.md (k.ds x) (k.mE x))):ee E f k:=by
 refine xc hE hf hb k Zf sL rF fun x hp hd rest hr hn vs Ci=> ?_
 have kI:rest=[]:=hn (by rw[Xq];rfl)
 subst kI
 have Ci:0<vs.length:=by rw[Ci,Xq];decide
 by_cases hv:sa (vs.getD 0 undef)=true->xs x=[]
 ·refine⟨Ee fn.ntmps (sa (vs.getD 0 undef)) τ (xs x),fun{pm F kv fp a w} h ha=> ?_,HK hE (hw x hp hd _ hv)⟩
  rw[Xq,D7] at h
  have h0:=h.bp 0 (one (.c (.sl τ (xs x)))) rfl
  have h1:Rp E w F false (.sl τ (xs x)) (a.tmps.getD 0 undef) []:=cn (kt h0 rfl) rfl
  rw[ha 0 Ci] at h1
  have h2:=h.over 0 (one (.kn (sa (vs.getD 0 undef)) τ (xs x))) (gZ (x:=.kn (sa (vs.getD 0 undef)) τ (xs x)) (by rw[ha 0 Ci];exact⟨by rw[<-ha 0 Ci];exact(kt (h.bp 0 (one (.c (.sl τ (xs x)))) rfl) rfl).1,.inr ⟨h1,rfl⟩⟩))
  exact h2
 ·refine⟨Ee fn.ntmps false τ (xs x),fun{pm F kv fp a w} h ha=> ?_,HK hE (hw x hp hd _ (by simp))⟩
  rw[Xq,D7] at h
  have h0:=h.bp 0 (one (.c (.sl τ (xs x)))) rfl
  have h1:Rp E w F false (.sl τ (xs x)) (a.tmps.getD 0 undef) []:=cn (kt h0 rfl) rfl
  rw[ha 0 Ci] at h1
  refine absurd (fun hn=> ?_) hv
  rcases h1.inv with⟨h3,_⟩|⟨b,off,cap,tY,h3,_⟩
  ·exact h3
  ·rw[h3] at hn;simp[sa] at hn
end
theorem Rp.env{E E':Env U}(ht:E'.tid=E.tid){w:World}{F:Nat->Prop}{m:Bool}{c:U.C}{v:Value}{l:List Nat}(h:Rp E w F m c v l):Rp E' w F m c v l:=by
 induction h with
 |lit m v h=>exact .lit m v h
 |nil m τ a c h=>exact .nil m τ a c h
 |shr τ xs b off cap vs KU hc hm hv hr ih=>exact .shr τ xs b off cap vs KU hc hm hv ih
 |own τ xs b cap cur vs gA hb hc hm hs hv hr ih=>exact .own τ xs b cap cur vs gA (by rw[ht];exact hb) hc hm hs hv ih
section
variable{E E':Env U}{w:World}{F:Nat->Prop}
theorem eu.env(ht:E'.tid=E.tid){d:Bool}{a:eK U}{v:Value}{l:List Nat}(h:eu E w F d a v l):eu E' w F d a v l:=by
 rcases h with h|⟨b,cap,cur,vs,gA,h1,h2,h3,h4,h5,h6,h7,h8⟩
 ·exact .inl h
 ·exact .inr ⟨b,cap,cur,vs,gA,h1,by rw[ht];exact h2,h3,h4,h5,h6,fun i x j c hx hj=>(h7 i x j c hx hj).env ht,h8⟩
theorem pW.env(ht:E'.tid=E.tid){own:Bool}{cs:List U.C}{rest:List Value}{v:Value}{l:List Nat}(h:pW E w F own cs rest v l):pW E' w F own cs rest v l:=by
 obtain⟨b,cur,e,fl,h1,h2,h3,h4,h5,h6,h7,h8⟩:=h
 exact⟨b,cur,e,fl,h1,h2,h3,h4,h5,h6,fun i c hc=>(h7 i c hc).env ht,h8⟩
theorem lp.env(ht:E'.tid=E.tid){cs:List U.C}{v:Value}{l:List Nat}(h:lp E w F cs v l):lp E' w F cs v l:=by
 obtain⟨vs,fl,h1,h2,h3,h4,h5⟩:=h
 exact⟨vs,fl,h1,h2,h3,fun i c hc=>(h4 i c hc).env ht,h5⟩
theorem Zs.env(ht:E'.tid=E.tid){d:DA U}{v:Value}(h:Zs E w F d v):Zs E' w F d v:=by
 obtain⟨vs,h1,h2,h3⟩:=h
 exact⟨vs,h1,fun i c hc=>(h2 i c hc).env ht,h3⟩
theorem mh.env(hP:E'.P=E.P)(ht:E'.tid=E.tid){p:List (DA U)->Option Value}{v:Value}(h:mh E w F p v):mh E' w F p v:=by
 obtain⟨g,n0,h1,h2,h3⟩:=h
 refine⟨g,n0,h1,by rw[hP];exact h2,fun ds r hr w' F' h4 h5 vs h6=> ?_⟩
 rw[hP]
 exact h3 ds r hr w' F' h4 h5 vs ⟨h6.1,fun i d v hd hv=>(h6.2 i d v hd hv).env ht.symm⟩
theorem mg.env(hP:E'.P=E.P)(ht:E'.tid=E.tid){m:Mode}{d:DV U}{v:Value}{l:List Nat}(h:mg E w F m d v l):mg E' w F m d v l:=by
 cases m with
 |ro=>
  cases d with
  |one c=>exact⟨h.1.env ht,h.2⟩
  |agg cs=>obtain⟨vs,h1,h2,h3,h4⟩:=h;exact⟨vs,h1,h2,fun i c hc=>(h3 i c hc).env ht,h4⟩
  |ptr cs=>
   obtain⟨⟨b,o,h1,h2,h3⟩,h4⟩:=h
   exact⟨⟨b,o,h1,h2,fun i c hc=>by obtain⟨u,g1,g2⟩:=h3 i c hc;exact⟨u,g1,g2.env ht⟩⟩,h4⟩
  |fn _=>exact⟨h.1.env hP ht,h.2⟩
  |box _=>exact h.elim
 |wr=>
  cases d with
  |one c=>cases c with
   |lit _=>exact h.elim
   |sl τ xs=>exact eu.env ht h
  |agg _=>exact lp.env ht h
  |box _=>exact h.elim
  |ptr _=>exact h.elim
  |fn _=>exact h.elim
 |mv=>
  cases d with
  |one c=>exact Rp.env ht h
  |agg _=>exact lp.env ht h
  |box _=>exact h.elim
  |ptr _=>exact h.elim
  |fn _=>exact h.elim
 |box own=>
  cases d with
  |box cs=>exact pW.env ht h
  |one _=>exact h.elim
  |agg _=>exact h.elim
  |ptr _=>exact h.elim
  |fn _=>exact h.elim
theorem iY.env(hP:E'.P=E.P)(ht:E'.tid=E.tid):∀{ms:List Mode}{ds:List (DV U)}{vs:List Value}{ls:List (List Nat)},iY E w F ms ds vs ls->iY E' w F ms ds vs ls
 |[],[],[],[],_=>trivial
 |m::ms,d0::ds,v::vs,l::ls,h=>⟨h.1.env hP ht,iY.env hP ht h.2⟩
 |[],_::_,_,_,h=>h.elim
 |[],[],_::_,_,h=>h.elim
 |[],[],[],_::_,h=>h.elim
 |_::_,[],_,_,h=>h.elim
 |_::_,_::_,[],_,h=>h.elim
 |_::_,_::_,_::_,[],h=>h.elim
theorem kc.env(ht:E'.tid=E.tid){fresh:Bool}{d:DV U}{v:Value}{l:List Nat}(h:kc E w F fresh d v l):kc E' w F fresh d v l:=by
 cases d with
 |ptr _=>exact h
 |fn _=>exact h
 |one c=>cases fresh with
  |true=>exact Rp.env ht h
  |false=>exact⟨h.1.env ht,h.2⟩
 |agg cs=>cases fresh with
  |true=>exact lp.env ht h
  |false=>obtain⟨vs,h1,h2,h3,h4⟩:=h;exact⟨vs,h1,h2,fun i c hc=>(h3 i c hc).env ht,h4⟩
 |box cs=>obtain⟨g,b,cur,e,h1,h2,h3,h4,h5⟩:=h;exact⟨g,b,cur,e,h1,h2,h3,h4,fun i c hc=>(h5 i c hc).env ht⟩
theorem lW.env(ht:E'.tid=E.tid):∀{fs:List Bool}{ds:List (DV U)}{us:List Value}{ls:List (List Nat)},lW E w F fs ds us ls->lW E' w F fs ds us ls
 |_,[],[],[],_=>trivial
 |_,d::ds,u::us,l::ls,h=>⟨h.1.env ht,lW.env ht h.2⟩
 |_,[],_::_,_,h=>h.elim
 |_,[],[],_::_,h=>h.elim
 |_,_::_,[],_,h=>h.elim
 |_,_::_,_::_,[],h=>h.elim
theorem eR.env(ht:E'.tid=E.tid){w0:World}:∀{ms:List Mode}{vs:List Value}{dm:List (DV U)}{ls:List (List Nat)},eR E w F w0 ms vs dm ls->eR E' w F w0 ms vs dm ls:=by
 intro ms
 induction ms with
 |nil=>intro vs dm ls h;cases vs<;>cases dm<;>cases ls<;>first|trivial|exact h.elim
 |cons m ms ih=>
  intro vs dm ls h
  cases m with
  |ro=>cases vs with
   |nil=>cases dm<;>cases ls<;>exact h.elim
   |cons v vs=>simp only[eR] at h⊢;exact ih h
  |mv=>cases vs with
   |nil=>cases dm<;>cases ls<;>exact h.elim
   |cons v vs=>simp only[eR] at h⊢;exact ih h
  |wr=>cases vs with
   |nil=>cases dm<;>cases ls<;>exact h.elim
   |cons v vs=>cases dm with
    |nil=>cases ls<;>exact h.elim
    |cons d dm=>cases d with
     |one c=>cases c with
      |lit _=>cases ls<;>exact h.elim
      |sl τ ys=>cases ls with
       |nil=>exact h.elim
       |cons l ls=>exact⟨h.1.env ht,ih h.2⟩
     |agg cs=>cases ls with
       |nil=>exact h.elim
       |cons l ls=>exact⟨h.1.env ht,ih h.2⟩
     |box _=>cases ls<;>exact h.elim
     |ptr _=>cases ls<;>exact h.elim
     |fn _=>cases ls<;>exact h.elim
  |box own=>cases vs with
   |nil=>cases dm<;>cases ls<;>exact h.elim
   |cons v vs=>cases dm with
    |nil=>cases ls<;>exact h.elim
    |cons d dm=>cases d with
     |box cs=>cases ls with
       |nil=>exact h.elim
       |cons l ls=>exact⟨h.1.env ht,ih h.2⟩
     |one _=>cases ls<;>exact h.elim
     |agg _=>cases ls<;>exact h.elim
     |ptr _=>cases ls<;>exact h.elim
     |fn _=>cases ls<;>exact h.elim
end
theorem ee.env{E E':Env U}(hP:E'.P=E.P)(ht:E'.tid=E.tid)(hT:E'.O'=E.O'){f:FuncId}{k:jH U}(h:ee E f k):ee E' f k:=by
 intro x hp w F vs ls h1 hL h2 If h3 h4
 have:=h x hp w F vs ls h1 (by unfold Lj;rw[<-hT];exact hL) (h2.env hP.symm ht.symm) If h3 h4
 rw[hP]
 refine this.mono ?_
 rintro e w' ⟨us,pY,iB,g1,g2,g3,g4,g5⟩
 exact⟨us,pY,iB,g1,g2,g3.env ht,g4.env ht,g5⟩
def GO:List (FuncId×jH U)->FuncId->Option (jH U)
 |[],_=>none
 |(g,k)::r,f=>bif Nat.beq g f then some k else GO r f
def Eg:List (FuncId×jH U)->FuncId->Option (jH U)
 |[],_=>none
 |(g,k)::r,f=>bif Nat.beq g f then GO r f else Eg r f
def Env.add(E:Env U)(l:List (FuncId×jH U)):Env U:={E with K3:=GO l,K0:=Eg l}
def Holds(E:Env U)(p:FuncId×jH U):Prop:=wB E.P p.1/\ee E p.1 p.2
theorem PB{E:Env U}(hE:E.Ok){l:List (FuncId×jH U)}(h:∀p∈l,Holds E p):(E.add l).Good:=by
 have one:∀{f:FuncId}{k:jH U}{l:List (FuncId×jH U)},GO l f=some k->(f,k)∈l:=by
  intro f k l
  induction l with
  |nil=>intro h;cases h
  |cons p l ih=>
   obtain⟨g,k'⟩:=p
   intro h
   simp only[GO] at h
   cases hb:Nat.beq g f<;>rw[hb] at h<;>simp only[cond_true,cond_false] at h
   ·exact bi _ (ih h)
   ·cases h
    rw[lN hb]
    exact dw
 have two:∀{f:FuncId}{k:jH U}{l:List (FuncId×jH U)},Eg l f=some k->(f,k)∈l:=by
  intro f k l
  induction l with
  |nil=>intro h;cases h
  |cons p l ih=>
   obtain⟨g,k'⟩:=p
   intro h
   simp only[Eg] at h
   cases hb:Nat.beq g f<;>rw[hb] at h<;>simp only[cond_true,cond_false] at h
   ·exact bi _ (ih h)
   ·exact bi _ (one h)
 have go:∀{f:FuncId}{k:jH U},(f,k)∈l->wB (E.add l).P f/\ee (E.add l) f k:=fun hm=>⟨(h _ hm).1,ee.env (E:=E) (E':=E.add l) rfl rfl rfl (h _ hm).2⟩
 exact⟨⟨hE.code,hE.mixed⟩,fun f k hk=>go (one hk),fun f k hk=>go (two hk)⟩
def me(fn:Func):Code:=match fn.body with|some c=>c|none=> .skip
def NA(rest:List Value)(E:Env U)(l:List (FuncId×jH U))(fn:Func)(k:jH U)(mU:k.α->Nat->Option (rJ U))(x:k.α):Prop:=
 AM.wp (E.add l) (mU x) (me fn) (entry rest fn.ntmps k.md (k.ds x)) (leave (E.add l) fn.results.toList fn.resultTypes.toList rest fn.params.toList k.md (k.ds x) (k.mE x))
def ab8(E:Env U)(l:List (FuncId×jH U))(fn:Func)(k:jH U)(mU:k.α->Nat->Option (rJ U))(x:k.α):Prop:=NA [] E l fn k mU x
def AQ(P:Program)(f:FuncId)(fn:Func)(ms:List Mode):Bool:=
 fn.body.isSome&& !(fn.name== "runtime.NumGoroutine")&&Nat.ble ms.length fn.ntmps&&Nat.ble fn.ntmps 1000000
theorem aaY{E:Env U}(hE:E.Ok){f:FuncId}{fn:Func}(hf:E.P.funcs[f]? =some fn)(k:jH U)(hc:AQ E.P f fn k.md=true)(l:List (FuncId×jH U))(hl:∀p∈l,Holds E p)
  (mU:k.α->Nat->Option (rJ U)) (hw:∀x,(∀p∈k.pre x,p)->(∀d∈k.ds x,eJ d)->∀rest,(k.md.any kj=true->rest.length=k.FW)->(k.md.any kj=false->rest=[])->NA rest E l fn k mU x) (rF:pk k.md=true\/k.FW=0):Holds E (f,k):=by
 unfold AQ at hc
 simp only[eE,rj,OL] at hc
 obtain⟨⟨⟨c1,c2⟩,c3⟩,c4⟩:=hc
 refine⟨⟨fn,hf,c1,c2⟩,?_⟩
 have hb:fn.body=some (me fn):=by
  unfold me
  cases h:fn.body with
  |none=>rw[h] at c1;cases c1
  |some c=>rfl
 have:=ak6 (E:=E.add l) (PB hE hl) hf hb k mU c3 c4 rF hw
 exact ee.env (E:=E.add l) (E':=E) rfl rfl rfl this
theorem holds_of{E:Env U}(hE:E.Ok){f:FuncId}{fn:Func}(hf:E.P.funcs[f]? =some fn)(k:jH U)(hc:AQ E.P f fn k.md=true)(l:List (FuncId×jH U))(hl:∀p∈l,Holds E p)
  (mU:k.α->Nat->Option (rJ U)) (hw:∀x,(∀p∈k.pre x,p)->(∀d∈k.ds x,eJ d)->ab8 E l fn k mU x) (h0:k.FW=0:=by rfl):Holds E (f,k):=
 aaY hE hf k hc l hl mU (fun x hp hb rest hr hn=>by
  have e:rest=[]:=by
   cases pO:k.md.any kj with
   |false=>exact hn pO
   |true=>exact Du ((hr pO).trans h0)
  rw[e];exact hw x hp hb) (.inr h0)
theorem w2{E:Env U}(hE:E.Ok){f:FuncId}{fn:Func}(hf:E.P.funcs[f]? =some fn)(k:jH U)(hc:AQ E.P f fn k.md=true)(pO:k.md.any kj=true)(l:List (FuncId×jH U))(hl:∀p∈l,Holds E p)
  (mU:k.α->Nat->Option (rJ U)) (hw:∀x,(∀p∈k.pre x,p)->(∀d∈k.ds x,eJ d)->∀rest:List Value,rest.length=k.FW->NA rest E l fn k mU x) (rF:pk k.md=true:=by rfl):Holds E (f,k):=
 aaY hE hf k hc l hl mU (fun x hp hb rest hr _=>hw x hp hb rest (hr pO)) (.inl rF)
def xO(E:Env U)(l:List (FuncId×jH U))(fn:Func)(k:jH U)(mU:k.α->Nat->Option (rJ U))(x:k.α)(τ:U.Ty)(xs:List (U.T τ))(b:Bool):Prop:=
 AM.wp (E.add l) (mU x) (me fn) (Ee fn.ntmps b τ xs) (leave (E.add l) fn.results.toList fn.resultTypes.toList [] fn.params.toList k.md (k.ds x) (k.mE x))
theorem w3{E:Env U}(hE:E.Ok){f:FuncId}{fn:Func}(hf:E.P.funcs[f]? =some fn)(k:jH U)(hc:AQ E.P f fn k.md=true)(Xq:k.md=[.ro])(τ:U.Ty)(xs:k.α->List (U.T τ))(D7:∀x,k.ds x=[.one (.sl τ (xs x))])
  (l:List (FuncId×jH U)) (hl:∀p∈l,Holds E p)
  (mU:k.α->Nat->Option (rJ U)) (hw:∀x,(∀p∈k.pre x,p)->(∀d∈k.ds x,eJ d)->xO E l fn k mU x τ (xs x) false/\(xs x=[]->xO E l fn k mU x τ (xs x) true)):Holds E (f,k):=by
 unfold AQ at hc
 simp only[eE,rj,OL] at hc
 obtain⟨⟨⟨c1,c2⟩,c3⟩,c4⟩:=hc
 refine⟨⟨fn,hf,c1,c2⟩,?_⟩
 have hb:fn.body=some (me fn):=by
  unfold me
  cases h:fn.body with
  |none=>rw[h] at c1;cases c1
  |some c=>rfl
 have:=ak5 (E:=E.add l) (PB hE hl) hf hb k mU c3 c4 (.inl (by rw[Xq];rfl)) Xq τ xs D7 (fun x hp hd b hb=>by
  cases b with
  |false=>exact(hw x hp hd).1
  |true=>exact(hw x hp hd).2 (hb rfl))
 exact ee.env (E:=E.add l) (E':=E) rfl rfl rfl this
def xa(E:Env U)(l:List (FuncId×jH U))(fn:Func)(k:jH U)(mU:k.α->Nat->Option (rJ U))(x:k.α)(r:Nat)(A:rJ U):Prop:=
 AM.wp (E.add l) (mU x) (Yh r (me fn)) (entry [] fn.ntmps k.md (k.ds x)) (ach A (leave (E.add l) fn.results.toList fn.resultTypes.toList [] fn.params.toList k.md (k.ds x) (k.mE x)))
def sf(E:Env U)(l:List (FuncId×jH U))(fn:Func)(k:jH U)(mU:k.α->Nat->Option (rJ U))(x:k.α)(r:Nat)(A:rJ U)(y:A.X):Prop:=
 AM.wp (E.add l) (mU x) (Yg r (me fn)) (lg A [] ⟨fn.ntmps,[],[],[]⟩ y) (leave (E.add l) fn.results.toList fn.resultTypes.toList [] fn.params.toList k.md (k.ds x) (k.mE x))
theorem CM{E:Env U}(hE:E.Ok){f:FuncId}{fn:Func}(hf:E.P.funcs[f]? =some fn)(k:jH U)(hc:AQ E.P f fn k.md=true)(l:List (FuncId×jH U))(hl:∀p∈l,Holds E p)
  (mU:k.α->Nat->Option (rJ U)) (r:Nat) (A:k.α->rJ U) (hr:(KY r (me fn)).isSome=true)
  (hw:∀x,(∀p∈k.pre x,p)->(∀d∈k.ds x,eJ d)->xa E l fn k mU x r (A x)/\∀y,(A x).I y y->sf E l fn k mU x r (A x) y) (h0:k.FW=0:=by rfl):Holds E (f,k):=by
 unfold AQ at hc
 simp only[eE,rj,OL] at hc
 obtain⟨⟨⟨c1,c2⟩,c3⟩,c4⟩:=hc
 refine⟨⟨fn,hf,c1,c2⟩,?_⟩
 have hb:fn.body=some (me fn):=by
  unfold me
  cases h:fn.body with
  |none=>rw[h] at c1;cases c1
  |some c=>rfl
 obtain⟨p,hp⟩:=lJ.1 hr
 have eA:Yh r (me fn)=p.1:=by simp only[Yh,hp]
 have eB:Yg r (me fn)=p.2:=by simp only[Yg,hp]
 have:=xc (E:=E.add l) (PB hE hl) hf hb k c3 c4 (.inr h0) (fun x hx hd rest W9 Sl _ _=>by
  have e:rest=[]:=by
   cases pO:k.md.any kj with
   |false=>exact Sl pO
   |true=>exact Du ((W9 pO).trans h0)
  subst e
  obtain⟨g1,g2⟩:=hw x hx hd
  unfold xa at g1
  unfold sf at g2
  rw[eA] at g1
  rw[eB] at g2
  exact⟨_,fun h _=>h,alw (PB hE hl) hp rfl g1 g2⟩)
 exact ee.env (E:=E.add l) (E':=E) rfl rfl rfl this
def jH.below(k:jH U)(μ:k.α->Nat)(n:Nat):jH U:={k with pre:=fun x=>(μ x<n)::k.pre x}
theorem KD{E:Env U}{f:FuncId}{fn:Func}(hf:E.P.funcs[f]? =some fn){k:jH U}(hc:AQ E.P f fn k.md=true)(μ:k.α->Nat)(h:∀n,Holds E (f,k.below μ n)->Holds E (f,k.below μ (n+1))):Holds E (f,k):=by
 have OQ:wB E.P f:=by
  unfold AQ at hc
  simp only[eE,rj] at hc
  exact⟨fn,hf,hc.1.1.1,hc.1.1.2⟩
 have all:∀n,Holds E (f,k.below μ n):=by
  intro n
  induction n with
  |zero=>exact⟨OQ,fun x hp=>absurd (hp _ dw) (Nat.not_lt_zero _)⟩
  |succ n ih=>exact h n ih
 refine⟨OQ,fun x hp=>(all (μ x+1)).2 x fun p hpp=> ?_⟩
 rcases jw.1 hpp with rfl|hpp
 ·exact Nat.lt_succ_self _
 ·exact hp p hpp
theorem all_nil{α:Type 1}{p:α->Prop}:∀x∈([]:List α),p x:=fun x hx=>by cases hx
theorem all_cons{α:Type 1}{p:α->Prop}{a:α}{l:List α}(h:p a)(hl:∀x∈l,p x):∀x∈a::l,p x:=by
 intro x hx
 rcases jw.1 hx with rfl|hx
 ·exact h
 ·exact hl x hx
end AM
