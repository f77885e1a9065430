import Derived.Test.YtmcepppejchhkaaGreatDoorQAmCode
namespace AM
set_option linter.unusedVariables false
open Go
variable{U:lQ}
def Fp(i:Nat)(rest:List Value):Mode->DV U->SV U×List (Nat×iX U)
 | .ro,.one c=>(one (.c c),[])
 | .ro,.agg cs=>(.v ⟨true,cs.map .c⟩,[])
 | .ro,.ptr cs=>(one (.ia cs),[])
 | .ro,.fn p=>(.fn p,[])
 | .wr,.one (.sl τ xs)=>(one (.ref (2000000+i,0) []),[(0,.arr ⟨τ,xs⟩ true)])
 | .wr,.agg cs=>(.v ⟨true,(putCells (2000000+i) true 0 cs).1⟩,(putCells (2000000+i) true 0 cs).2)
 | .mv,.one c=>(.v ⟨false,(putCells (2000000+i) true 4096 [c]).1⟩,(putCells (2000000+i) true 4096 [c]).2)
 | .mv,.agg cs=>(.v ⟨true,(putCells (2000000+i) true 4096 cs).1⟩,(putCells (2000000+i) true 4096 cs).2)
 | .box true,.box cs=>(one (.kQ (2000000+i,0) 0),(0,.box ((putCells (2000000+i) true 4096 cs).1++rest.map fun v=> .c (.lit v)))::(putCells (2000000+i) true 4096 cs).2)
 | .box false,.box cs=>(one (.kQ (2000000+i,0) 0),[(0,.box (cs.map .c++rest.map fun v=> .c (.lit v)))])
 |_,_=>(.wR [],[])
def Fs(rest:List Value):Nat->List Mode->List (DV U)->List (Nat×Option (SV U))
 |i,m::ms,d::ds=>(i,some (Fp i rest m d).1)::Fs rest (i+1) ms ds
 |_,_,_=>[]
def ND(rest:List Value):Nat->List Mode->List (DV U)->List (Key×Option (iX U))
 |i,m::ms,d::ds=>p8 (2000000+i) (Fp i rest m d).2++ND rest (i+1) ms ds
 |_,_,_=>[]
def entry(rest:List Value)(n:Nat)(ms:List Mode)(ds:List (DV U)):ak U:={n,bG:=Fs rest 0 ms ds,o9:=ND rest 0 ms ds,aS:=[]}
def Oa(E:Env U)(σ:ak U):ResultVar->Option (AV U)
 | .tmp t=>match σ.get t with
  |some (.v x)=>some x
  |_=>none
 | .cell a t=>match σ.get a with
  |some (.v ⟨false,[.kQ k 0]⟩)=>match σ.bP k,E.size t,E.isAgg t with
   |some (.box cs),some n,some g=>bif Nat.beq n cs.length&&(g||Nat.beq n 1) then some ⟨g,cs⟩ else none
   |_,_,_=>none
  |_=>none
def abI(ds:List (DV U)):Bool:=ds.any fun| .box _=>true|_=>false
def RE(fresh:Bool)(σ:ak U):AV U->Option (List U.C×Key)
 |⟨false,[.kQ k 0]⟩=>bif fresh then(match σ.bP k with|some (.box bs)=>(match plain bs with|some l=>some (l,k)|none=>none)|_=>none) else none
 |_=>none
def outs(E:Env U)(σ:ak U):List Bool->List ResultVar->List TypeId->Option (List Prop×List (DV U)×List Key)
 |_,[],_=>some ([],[],[])
 |fs,r::rs,ts=>match Oa E σ r with
  |some x=>
   match RE (fs.headD true) σ x with
   |some (l,k)=>match outs E σ fs.tail rs ts.tail with
    |some (qs,ds,ks')=>some (qs,.box l::ds,k::ks')
    |none=>none
   |none=>
   let want:=match ts with|t::_=>E.shape 8 t|[]=>[]
   let tb:=restrict σ.bP (SV.v x).keys
   match(bif fs.headD true then(match fm tb want x.cs with|some (ps,cs,ks,true)=>some (ps,cs,ks)|_=>none) else(match cellsOf tb σ.aS want x.cs with|some (ps,cs)=>some (ps,cs,[])|none=>none)) with
   |some (ps,cs,ks)=>match NE x cs,outs E σ fs.tail rs ts.tail with
    |some d,some (qs,ds,ks')=>some (ps++qs,d::ds,ks++ks')
    |_,_=>none
   |none=>none
  |none=>none
def qh(σ:ak U)(i:Nat):Nat->List U.C->Option (List U.C×List Key)
 |_,[]=>some ([],[])
 |j,.lit v::r=>match qh σ i (j+1) r with|some (cs,ks)=>some (.lit v::cs,ks)|none=>none
 |j,.sl _ _::r=>match σ.bP (2000000+i,j),qh σ i (j+1) r with
  |some (.arr a true),some (cs,ks)=>some (.sl a.τ a.xs::cs,(2000000+i,j)::ks)
  |_,_=>none
def Ro(bs:List (AC U))(rest:List Value):List Prop:=(bs.length=rest.length)::(match rest with
 |[]=>[]
 |r=>[bs=r.map fun v=> .c (.lit v)])
theorem adi{bs:List (AC U)}{rest:List Value}(h:∀p∈Ro bs rest,p):bs=rest.map fun v=> .c (.lit v):=by
 cases rest with
 |nil=>exact Gl (h _ iH)
 |cons r rs=>exact h _ (fF _ iH)
def II(σ:ak U)(rest:List Value)(i:Nat)(want:List (Option U.Ty)):Mode->DV U->Option (List Prop×List (DV U)×List Key)
 | .ro,_=>some ([],[],[])
 | .mv,_=>some ([],[],[])
 | .wr,.one (.sl _ _)=>match σ.bP (2000000+i,0) with
  |some (.arr a true)=>some ([],[.one (.sl a.τ a.xs)],[(2000000+i,0)])
  |_=>none
 | .wr,.agg cs=>bif Nat.ble cs.length 1024 then(match qh σ i 0 cs with|some (ds,ks)=>some ([],[.agg ds],ks)|none=>none) else none
 | .box true,.box cs=>match σ.bP (2000000+i,0) with
  |some (.box bs)=>match fm (restrict σ.bP (SV.v ⟨true,bs⟩).keys) want (bs.take cs.length) with
   |some (ps,l,ks,true)=>bif Nat.beq l.length cs.length then some (ps++Ro (bs.drop cs.length) rest,[.box l],(2000000+i,0)::ks) else none
   |_=>none
  |_=>none
 | .box false,.box cs=>match σ.bP (2000000+i,0) with
  |some (.box bs)=>match plain (bs.take cs.length) with
   |some l=>bif Nat.beq l.length cs.length then some (Ro (bs.drop cs.length) rest,[.box l],[(2000000+i,0)]) else none
   |none=>none
  |_=>none
 |_,_=>none
def tH(σ:ak U)(rest:List Value):Nat->List (List (Option U.Ty))->List Mode->List (DV U)->Option (List Prop×List (DV U)×List Key)
 |i,ws,m::ms,d::ds=>match II σ rest i (ws.headD []) m d,tH σ rest (i+1) ws.tail ms ds with
  |some (ps,xs,ks),some (qs,ys,ks')=>some (ps++qs,xs++ys,ks++ks')
  |_,_=>none
 |_,_,_,_=>some ([],[],[])
def SR(ms:List Mode):Bool:=ms.any fun m=>match m with| .wr=>true| .mv=>true| .box true=>true|_=>false
def tO(ms:List Mode):Bool:=ms.all fun| .ro=>true|_=>false
def rb(E:Env U)(σ:ak U):List Bool->List ResultVar->List Key
 |_,[]=>[]
 |fs,r::rs=>(bif fs.headD true then[] else match Oa E σ r with|some x=>(SV.v x).keys|none=>[])++rb E σ fs.tail rs
def fin(E:Env U)(rs:List ResultVar)(ts:List TypeId)(rest:List Value)(ps:List TypeId)(ms:List Mode)(ds:List (DV U))(r:Res U)(σ:ak U):Prop:=
 match outs E (jN σ) r.fresh rs ts,tH (jN σ) rest 0 (ps.map E.Ai) ms ds with
 |some (ps,vs,ks),some (qs,mu,ks')=>bif distinct (ks++ks')&& !(meet (rb E (jN σ) r.fresh rs) (ks++ks'))&&(!(abI r.val)||tO ms) then QB (ps++qs) (vs=r.val/\mu=r.Ll) else False
 |_,_=>False
def leave(E:Env U)(rs:List ResultVar)(ts:List TypeId)(rest:List Value)(ps:List TypeId)(ms:List Mode)(ds:List (DV U))(r:Res U):Out U->Prop
 | .ret σ=>fin E rs ts rest ps ms ds r σ
 | .normal σ=>fin E rs ts rest ps ms ds r σ
 | .exit _ _=>False
section
variable{E:Env U}{w:World}{F:Nat->Prop}
theorem jD.len:∀{ms:List Mode}{ds:List (DV U)}{vs:List Value}{ls:List (List Nat)},jD E w F ms ds vs ls->ds.length=ms.length/\vs.length=ms.length/\ls.length=ms.length
 |[],[],[],[],_=>⟨rfl,rfl,rfl⟩
 |m::ms,d::ds,v::vs,l::ls,h=>by
  obtain⟨h1,h2,h3⟩:=jD.len h.2
  simp[h1,h2,h3]
 |[],_::_,_,_,h=>h.elim
 |[],[],_::_,_,h=>h.elim
 |[],[],[],_::_,h=>h.elim
 |_::_,[],_,_,h=>h.elim
 |_::_,_::_,[],_,h=>h.elim
 |_::_,_::_,_::_,[],h=>h.elim
theorem vg{ls:List (List Nat)}:ls.flatten.Nodup↔(∀l∈ls,l.Nodup)/\ls.Pairwise (fun a b=>∀x∈a,∀y∈b,x≠y):=List.pairwise_flatten
theorem amv{ls:List (List Nat)}(h:ls.flatten.Nodup){i j:Nat}(Gh:i≠j){b:Nat}(hb:b∈ls.getD i []):b∉ls.getD j []:=by
 intro bj
 rw[vg] at h
 have gy:∀{k:Nat},b∈ls.getD k []->∃hk:k<ls.length,b∈ls[k]:=by
  intro k hk
  rcases pt k ls.length with g|g
  ·exact⟨g,by rwa[eV,fE g] at hk⟩
  ·rw[eV,ot g] at hk;cases hk
 obtain⟨hi,hb⟩:=gy hb
 obtain⟨hj,bj⟩:=gy bj
 have hp:=UM.1 h.2
 rcases Nat.lt_or_gt_of_ne Gh with g|g
 ·exact hp i j hi hj g _ hb _ bj rfl
 ·exact hp j i hj hi g _ bj _ hb rfl
theorem alO{ls:List (List Nat)}{j b:Nat}(hb:b∈ls.getD j []):b∈ls.flatten:=by
 rcases pt j ls.length with g|g
 ·rw[eV,fE g] at hb
  exact ZC.2 ⟨_,D5 g,hb⟩
 ·rw[eV,ot g] at hb;cases hb
theorem adx{ls:List (List Nat)}(h:ls.flatten.Nodup)(j:Nat):(ls.getD j []).Nodup:=by
 rcases pt j ls.length with g|g
 ·rw[eV,fE g]
  exact(vg.1 h).1 _ (D5 g)
 ·rw[eV,ot g];exact ZB
theorem amO{a b:List Key}(h:distinct (a++b)=true):distinct a=true/\distinct b=true/\∀k∈a,k∉b:=by
 rw[va,rV] at h
 exact⟨va.2 h.1,va.2 h.2.1,fun k hk cY=>h.2.2 k hk k cY rfl⟩
theorem amM{x:AV U}{cs:List U.C}{d:DV U}{v:Value}{vs:List Value}{fl:List (List Nat)}(hd:NE x cs=some d)(hv:if x.agg then v=.agg vs.toArray else vs=[v])(hl:vs.length=cs.length)(hf:fl.length=cs.length)
  (h:∀(i:Nat)(c:U.C),cs[i]? =some c->Rp E w F true c (vs.getD i undef) (fl.getD i [])):lg E w F true d v fl.flatten:=by
 unfold NE at hd
 cases UG:x.agg<;>rw[UG] at hd hv<;>simp only[cond_true,cond_false,xS,if_false,if_true] at hd hv
 ·split at hd
  ·rename_i c
   cases hd
   subst hv
   simp only[fP,fz] at hf
   obtain⟨l,rfl⟩:=List.length_eq_one_iff.1 hf
   simpa[lg] using h 0 c rfl
  ·cases hd
 ·cases hd
  simp only[lg,if_true]
  exact⟨vs,fl,hv,hl,hf,h,rfl⟩
theorem amL{x:AV U}{cs:List U.C}{d:DV U}{v:Value}{vs:List Value}(hd:NE x cs=some d)(hv:if x.agg then v=.agg vs.toArray else vs=[v])(hl:vs.length=cs.length)
  (h:∀(i:Nat)(c:U.C),cs[i]? =some c->Rp E w F false c (vs.getD i undef) []):lg E w F false d v []:=by
 unfold NE at hd
 cases UG:x.agg<;>rw[UG] at hd hv<;>simp only[cond_true,cond_false,xS,if_false,if_true] at hd hv
 ·split at hd
  ·rename_i c
   cases hd
   subst hv
   simpa[lg] using h 0 c rfl
  ·cases hd
 ·cases hd
  simp only[lg,xS,if_false]
  exact⟨vs,hv,hl,h,trivial⟩
def Un(i:Nat)(m:Mode)(d:DV U)(v:Value)(kv:Key->Value):Prop:=
 match m,d with
 | .wr,.one _=>kv (2000000+i,0)=v
 | .wr,.agg cs=>∃vs:List Value,v=.agg vs.toArray/\vs.length=cs.length/\(∀(j:Nat)(τ:U.Ty)(xs:List (U.T τ)),cs[j]? =some (.sl τ xs)->kv (2000000+i,j)=vs.getD j undef)/\(∀(j:Nat)(u:Value),cs[j]? =some (.lit u)->vs.getD j undef=u/\gD u)
 | .box _,.box _=>kv (2000000+i,0)=v
 |_,_=>True
def Bb(kv:Key->Value):Nat->List Mode->List (DV U)->List Value->Prop
 |i,m::ms,d::ds,v::vs=>Un i m d v kv/\Bb kv (i+1) ms ds vs
 |_,_,_,_=>True
def lj:Mode->Bool
 | .box _=>true
 |_=>false
def rH(w:World)(rest:List Value):List Mode->List (DV U)->List Value->Prop
 |m::ms,d::ds,v::vs=>(∀cs,lj m=true->d=.box cs->rest=s_ w v cs.length)/\rH w rest ms ds vs
 |_,_,_=>True
def u7(w:World):List Mode->List (DV U)->List Value->List Value
 |m::ms,d::ds,v::vs=>bif lj m then(match d with| .box cs=>s_ w v cs.length|_=>[]) else u7 w ms ds vs
 |_,_,_=>[]
def rR:List Mode->Bool
 |[]=>true
 |m::r=>bif lj m then !(r.any lj) else rR r
theorem aea{w:World}{rest:List Value}:∀{ms:List Mode}{ds:List (DV U)}{vs:List Value},ms.any lj=false->rH w rest ms ds vs
 |[],_,_,_=>trivial
 |m::ms,[],_,_=>trivial
 |m::ms,d::ds,[],_=>trivial
 |m::ms,d::ds,v::vs,h=>by
  simp only[UK,QK] at h
  exact⟨fun cs hb _=>(by rw[h.1] at hb;cases hb),aea h.2⟩
theorem ad_{w:World}:∀{ms:List Mode}{ds:List (DV U)}{vs:List Value},rR ms=true->rH w (u7 w ms ds vs) ms ds vs
 |[],_,_,_=>trivial
 |m::ms,[],_,_=>trivial
 |m::ms,d::ds,[],_=>trivial
 |m::ms,d::ds,v::vs,h=>by
  unfold rR at h
  unfold u7
  cases hb:lj m<;>rw[hb] at h<;>simp only[cond_true,cond_false] at h⊢
  ·exact⟨fun cs bj _=>(by rw[hb] at bj;cases bj),ad_ h⟩
  ·exact⟨fun cs _ hd=>by rw[hd],aea (by simpa using h)⟩
theorem ad9{w:World}:∀{ms:List Mode}{ds:List (DV U)}{vs:List Value},uf w 0 ms ds vs->rH w [] ms ds vs
 |[],_,_,_=>trivial
 |m::ms,[],_,_=>trivial
 |m::ms,d::ds,[],_=>trivial
 |m::ms,d::ds,v::vs,h=>by
  refine⟨fun cs hb hd=> ?_,ad9 h.2⟩
  cases m with
  |box own=>exact(Gl (h.1 own cs rfl hd)).symm
  |ro=>cases hb
  |wr=>cases hb
  |mv=>cases hb
theorem adj{w:World}:∀{ms:List Mode}{ds:List (DV U)}{vs:List Value},ms.any lj=false->u7 w ms ds vs=[]
 |[],_,_,_=>rfl
 |m::ms,[],_,_=>rfl
 |m::ms,d::ds,[],_=>rfl
 |m::ms,d::ds,v::vs,h=>by
  simp only[UK,QK] at h
  unfold u7
  rw[h.1]
  exact adj h.2
theorem adk{n:Nat}:∀{ms:List Mode}{ds:List (DV U)}{vs:List Value}{ls:List (List Nat)},jD E w F ms ds vs ls->uf w n ms ds vs->rR ms=true->ms.any lj=true->(u7 w ms ds vs).length=n
 |[],[],[],[],_,_,_,hb=>by simp at hb
 |m::ms,d::ds,v::vs,l::ls,h,hr,h1,hb=>by
  unfold rR at h1
  unfold u7
  cases hm:lj m<;>rw[hm] at h1<;>simp only[cond_true,cond_false] at h1⊢
  ·exact adk h.2 hr.2 h1 (by simpa[hm] using hb)
  ·cases m with
   |box own=>
    cases d with
    |box cs=>exact hr.1 own cs rfl rfl
    |one _=>exact h.1.elim
    |agg _=>exact h.1.elim
    |ptr _=>exact h.1.elim
    |fn _=>exact h.1.elim
   |ro=>cases hm
   |wr=>cases hm
   |mv=>cases hm
 |[],_::_,_,_,h,_,_,_=>h.elim
 |[],[],_::_,_,h,_,_,_=>h.elim
 |[],[],[],_::_,h,_,_,_=>h.elim
 |_::_,[],_,_,h,_,_,_=>h.elim
 |_::_,_::_,[],_,h,_,_,_=>h.elim
 |_::_,_::_,_::_,[],h,_,_,_=>h.elim
theorem Rs{dst:Nat}:∀{cs:List U.C}{base:Nat},(((putCells dst true base cs).2).map (·.1)).Nodup/\∀p∈(putCells dst true base cs).2,base<=p.1
 |[],base=>⟨by simp[putCells],fun p hp=>by simp[putCells] at hp⟩
 | .lit v::r,base=>by
  obtain⟨h1,h2⟩:=Rs (dst:=dst) (cs:=r) (base:=base+1)
  exact⟨by simpa[putCells] using h1,fun p hp=>by have:=h2 p (by simpa[putCells] using hp);omega⟩
 | .sl τ xs::r,base=>by
  obtain⟨h1,h2⟩:=Rs (dst:=dst) (cs:=r) (base:=base+1)
  refine⟨?_,fun p hp=> ?_⟩
  ·simp only[putCells,cond_true,wH,ur]
   refine⟨fun hm=> ?_,h1⟩
   obtain⟨p,hp,e⟩:=mz.1 hm
   have:=h2 p hp
   omega
  ·simp only[putCells,cond_true,kc] at hp
   rcases hp with rfl|hp
   ·exact uh _
   ·have:=h2 p hp;omega
theorem ado{dst:Nat}:∀{cs:List U.C}{base j:Nat}{τ:U.Ty}{xs:List (U.T τ)},cs[j]? =some (.sl τ xs)->(putCells dst true base cs).1[j]? =some (.ref (dst,base+j) [])
 |[],base,j,τ,xs,h=>by simp at h
 |c::r,base,j,τ,xs,h=>by
  cases j with
  |zero=>
   simp only[vF,gI] at h
   subst h
   rfl
  |succ j=>
   have:=ado (dst:=dst) (cs:=r) (base:=base+1) (j:=j) (by simpa using h)
   cases c<;>simpa[putCells,QX,zew 1 j] using this
theorem amH{i:Nat}{rest:List Value}{m:Mode}{d:DV U}{v:Value}{l:List Nat}(h:o6 E w F m d v l)(j0:∀cs,lj m=true->d=.box cs->rest=s_ w v cs.length):
  ∃t:fw U,(Fp i rest m d).2=t.es/\(t.map (·.1)).Nodup/\t.bl=l/\∀kv fp bad,(∀s∈t,kv (2000000+i,s.1)=s.2.2.1)->
   RS E w F kv fp bad (Fp i rest m d).1 v/\(∀s∈t,ug E w F kv fp bad s.2.1 s.2.2.1 s.2.2.2)/\Un i m d v kv:=by
 have agg:∀(bs:Nat){cs:List U.C}{v:Value}{l:List Nat},mT E w F cs v l->∃t:fw U,(putCells (2000000+i) true bs cs).2=t.es/\(t.map (·.1)).Nodup/\t.bl=l/\∃vs:List Value,v=.agg vs.toArray/\vs.length=cs.length/\(∀(j:Nat)(u:Value),cs[j]? =some (.lit u)->vs.getD j undef=u/\gD u)/\
   ∀kv fp bad,(∀s∈t,kv (2000000+i,s.1)=s.2.2.1)->mw E w F kv fp bad (putCells (2000000+i) true bs cs).1 vs/\(∀s∈t,ug E w F kv fp bad s.2.1 s.2.2.1 s.2.2.2):=by
  rintro bs cs v l ⟨vs,fl,h1,h2,h3,h4,h5⟩
  obtain⟨t,t1,t2,t3,t4⟩:=KX (dst:=2000000+i) (base:=bs) h2 h3 h4
  refine⟨t,t1,?_,by rw[t3,h5],vs,h1,h2,fun j u hj=> ?_,fun kv fp bad hk=>⟨t4 kv fp bad hk,fun s hs=>t2 s hs kv fp bad⟩⟩
  ·have:=(Rs (dst:=2000000+i) (cs:=cs) (base:=bs)).1
   rw[t1] at this
   simpa[fw.es,Function.comp_def] using this
  ·obtain⟨_,g2,g3⟩:=(h4 j _ hj).kt
   exact⟨g2,g3⟩
 cases m with
 |ro=>
  cases d with
  |one c=>exact⟨[],rfl,by simp,h.2.symm,fun kv fp bad _=>⟨Ba ⟨h.1.gF,.inr h.1⟩,by simp,trivial⟩⟩
  |agg cs=>
   obtain⟨vs,rfl,h2,h3,h4⟩:=h
   exact⟨[],rfl,by simp,h4.symm,fun kv fp bad _=>⟨⟨vs,M7 h2 h3,rfl⟩,by simp,trivial⟩⟩
  |ptr cs=>
   obtain⟨⟨b,o,rfl,h2,h3⟩,h4⟩:=h
   exact⟨[],rfl,by simp,h4.symm,fun kv fp bad _=>⟨Ba ⟨⟨rfl,trivial⟩,.inr ⟨b,o,rfl,h2,h3⟩⟩,by simp,trivial⟩⟩
  |fn p=>exact⟨[],rfl,by simp,h.2.symm,fun kv fp bad _=>⟨h.1,by simp,trivial⟩⟩
  |box cs=>exact h.elim
 |wr=>
  cases d with
  |one c=>
   cases c with
   |lit _=>exact h.elim
   |sl τ xs=>
    refine⟨[(0,.arr ⟨τ,xs⟩ true,v,l)],rfl,by simp,by simp[fw.bl],fun kv fp bad hk=> ?_⟩
    have Ci:kv (2000000+i,0)=v:=hk _ (mW.2 rfl)
    refine⟨Ba ⟨?_,.inr (by simp only[RA];rw[Ci];rfl)⟩,fun s hs=>by rw[mW.1 hs];exact h,Ci⟩
    rcases h with⟨_,⟨ad,rfl⟩,_⟩|⟨b,cap,cur,vs,ie,rfl,_⟩<;>exact⟨rfl,trivial⟩
  |agg cs=>
   obtain⟨t,t1,t2,t3,vs,t4,t5,t6,t7⟩:=agg 0 h
   refine⟨t,t1,t2,t3,fun kv fp bad hk=> ?_⟩
   obtain⟨g1,g2⟩:=t7 kv fp bad hk
   refine⟨⟨vs,g1,t4⟩,g2,vs,t4,t5,fun j τ xs hj=> ?_,t6⟩
   have hr:=ado (dst:=2000000+i) (base:=0) hj
   have gy:j<vs.length:=by
    rw[t5]
    rcases pt j cs.length with g|g
    ·exact g
    ·rw[ot g] at hj;cases hj
   have:=cx (g1.2 j _ _ hr (fM (d:=undef) gy)) rfl
   simp only[RA,vB] at this
   exact this.symm
  |box _=>exact h.elim
  |ptr _=>exact h.elim
  |fn _=>exact h.elim
 |mv=>
  cases d with
  |one c=>
   obtain⟨t,t1,t2,t3,t4⟩:=KX (E:=E) (w:=w) (F:=F) (dst:=2000000+i) (base:=4096) (cs:=[c]) (vs:=[v]) (fl:=[l]) rfl rfl (fun j c' hc=>by
    cases j with
    |zero=>simp only[vF,gI] at hc;subst hc;exact h
    |succ j=>simp at hc)
   refine⟨t,t1,?_,by simpa using t3,fun kv fp bad hk=>⟨⟨[v],t4 kv fp bad hk,by simp⟩,fun s hs=>t2 s hs kv fp bad,trivial⟩⟩
   have:=(Rs (dst:=2000000+i) (cs:=[c]) (base:=4096)).1
   rw[t1] at this
   simpa[fw.es,Function.comp_def] using this
  |agg cs=>
   obtain⟨t,t1,t2,t3,vs,t4,t5,t6,t7⟩:=agg 4096 h
   refine⟨t,t1,t2,t3,fun kv fp bad hk=> ?_⟩
   obtain⟨g1,g2⟩:=t7 kv fp bad hk
   exact⟨⟨vs,g1,t4⟩,g2,trivial⟩
  |box _=>exact h.elim
  |ptr _=>exact h.elim
  |fn _=>exact h.elim
 |box own=>
  cases d with
  |box cs=>
   have hrs:=j0 cs rfl rfl
   obtain⟨b,cur,e,fl,h1,h2,h3,h4,h5,h6,h7,h8⟩:=h
   rw[<-hrs] at h4 h5
   have ix:cur.toList.take cs.length++cur.toList.drop cs.length=cur.toList:=Uv _ _
   have tv:∀(j:Nat)(c:U.C),cs[j]? =some c->(cur.toList.take cs.length).getD j undef=cur.toList.getD j undef:=by
    intro j c hc
    have hj:j<cs.length:=by
     rcases pt j cs.length with g|g
     ·exact g
     ·rw[ot g] at hc;cases hc
    simp only[eV,qy,if_pos hj]
   have XB:∀kv fp bad,mw E w F kv fp bad (rest.map fun v=> .c (.lit v)) rest:=by
    intro kv fp bad
    refine⟨by simp,fun j x u hx hu=> ?_⟩
    rw[nS,hu] at hx
    cases hx
    exact xQ (h5 u (GK hu))
   cases own with
   |true=>
    obtain⟨t,t1,t2,t3,t4⟩:=KX (E:=E) (w:=w) (F:=F) (dst:=2000000+i) (base:=4096) (cs:=cs) (vs:=cur.toList.take cs.length) (fl:=fl) (by simp;omega) h6 (fun j c hc=>by rw[tv j c hc];exact h7 j c hc)
    have Xx:=Rs (dst:=2000000+i) (cs:=cs) (base:=4096)
    refine⟨(0,.box ((putCells (2000000+i) true 4096 cs).1++rest.map fun v=> .c (.lit v)),v,[b])::t,by simp[Fp,fw.es,t1],?_,by rw[h8];simp only[fw.bl,zZ,List.singleton_append] at t3⊢;rw[t3],fun kv fp bad hk=> ?_⟩
    ·rw[wH,ur]
     have h0:(t.map (·.1))=((putCells (2000000+i) true 4096 cs).2).map (·.1):=by rw[t1];simp[fw.es,Function.comp_def]
     rw[h0]
     refine⟨fun hm=> ?_,Xx.1⟩
     obtain⟨p,hp,e⟩:=mz.1 hm
     have:=Xx.2 p hp
     simp only at e
     omega
    ·have Ci:kv (2000000+i,0)=v:=hk _ iH
     have AB:=fun s hs=>hk s (fF _ hs)
     refine⟨Ba ⟨by rw[h1];exact⟨rfl,trivial⟩,.inr ⟨b,by rw[Ci,h1],h1⟩⟩,fun s hs=> ?_,Ci⟩
     rcases kc.1 hs with rfl|hs
     ·refine⟨b,cur,e,h1,h2,rfl,?_⟩
      rw[<-ix,h4]
      exact(t4 kv fp bad AB).append (XB kv fp bad)
     ·exact t2 s hs kv fp bad
   |false=>
    have Cj:fl.flatten=[]:=by
     rw[zdm]
     intro b' bj
     obtain⟨l',Iw,GF⟩:=ZC.1 bj
     obtain⟨j,hj,rfl⟩:=sT Iw
     have uA:j<cs.length:=by omega
     have:=h7 j _ (fE uA)
     rw[eV (l:=fl),fE hj] at this
     exact this.VJ (F':=fun _=>False) GF
    rw[Cj] at h8
    refine⟨[(0,.box (cs.map .c++rest.map fun v=> .c (.lit v)),v,[b])],rfl,by simp,by simp[fw.bl,h8],fun kv fp bad hk=> ?_⟩
    have Ci:kv (2000000+i,0)=v:=hk _ iH
    refine⟨Ba ⟨by rw[h1];exact⟨rfl,trivial⟩,.inr ⟨b,by rw[Ci,h1],h1⟩⟩,fun s hs=> ?_,Ci⟩
    rw[mW.1 hs]
    refine⟨b,cur,e,h1,h2,rfl,?_⟩
    rw[<-ix,h4]
    refine(M7 (by simp;omega) (fun j c hc=> ?_)).append (XB kv fp bad)
    rw[tv j c hc]
    have:=h7 j c hc
    exact this.lT (fun _ hb=>hb) (fun b' bj=>this.VJ bj)
  |one _=>exact h.elim
  |agg _=>exact h.elim
  |ptr _=>exact h.elim
  |fn _=>exact h.elim
theorem alN{dst:Nat}{t:fw U}{k:Key}{e:iX U}(h:eY (p8 dst t.es) k=some e):∃s∈t,k=(dst,s.1)/\e=s.2.1:=by
 have:=Gq h
 simp only[p8,fw.es,List.map_map,mz,Function.comp,pE,gI] at this
 obtain⟨s,hs,h1,h2⟩:=this
 exact⟨s,hs,h1.symm,h2.symm⟩
theorem adT{rest:List Value}:∀{ms:List Mode}{ds:List (DV U)}{vs:List Value}{ls:List (List Nat)}{i:Nat},jD E w F ms ds vs ls->rH w rest ms ds vs->
  ∃ts:List (fw U),ts.map fw.bl=ls/\(∀t∈ts,(t.map (·.1)).Nodup)/\
   (∀k e,eY (ND rest i ms ds) k=some e->∃j s,s∈ts.getD j []/\k=(2000000+(i+j),s.1)/\e=s.2.1)/\
   ∀kv fp bad,(∀j s,s∈ts.getD j []->kv (2000000+(i+j),s.1)=s.2.2.1)->
    (∀s x,look (Fs rest i ms ds) s=some x->∃j,s=i+j/\j<vs.length/\RS E w F kv fp bad x (vs.getD j undef))/\
    (∀j s,s∈ts.getD j []->ug E w F kv fp bad s.2.1 s.2.2.1 s.2.2.2)/\Bb kv i ms ds vs
 |[],[],[],[],i,_,_=>⟨[],rfl,by simp,fun k e he=>(by cases he),fun kv fp bad _=>⟨fun s x hs=>(by cases hs),by simp,trivial⟩⟩
 |m::ms,d::ds,v::vs,l::ls,i,h,hr=>by
  obtain⟨ts,i1,i2,i3,i4⟩:=adT (rest:=rest) (i:=i+1) h.2 hr.2
  obtain⟨t,t1,t2,t3,t4⟩:=amH (i:=i) h.1 hr.1
  refine⟨t::ts,by rw[wH,t3,i1],fun t' ht=> ?_,fun k e he=> ?_,fun kv fp bad hk=> ?_⟩
  ·rcases kc.1 ht with rfl|ht
   ·exact t2
   ·exact i2 t' ht
  ·have he:=(Gr _ _ _).symm.trans he
   split at he
   ·rw[t1] at he
    obtain⟨s,hs,h1,h2⟩:=alN he
    exact⟨0,s,by simpa using hs,by simpa using h1,h2⟩
   ·obtain⟨j,s,hs,h1,h2⟩:=i3 k e he
    exact⟨j+1,s,by simpa using hs,by rw[h1];simp only[pE,and_true];omega,h2⟩
  ·obtain⟨g1,g2,g3⟩:=t4 kv fp bad (fun s hs=>by have:=hk 0 s (by simpa using hs);simpa using this)
   obtain⟨k1,k2,k3⟩:=i4 kv fp bad (fun j s hs=>by have:=hk (j+1) s (by simpa using hs);simpa[QX,zew 1 j] using this)
   refine⟨fun s x hs=> ?_,fun j s hs=> ?_,g3,k3⟩
   ·have hs:=(M4 _ _ _ _).symm.trans hs
    split at hs
    ·rename_i e;cases hs;exact⟨0,by simp[e],by simp,by simpa using g1⟩
    ·obtain⟨j,rfl,h2,h3⟩:=k1 s x hs
     exact⟨j+1,by omega,by simpa using h2,by simpa using h3⟩
   ·cases j with
    |zero=>exact g2 s (by simpa using hs)
    |succ j=>exact k2 j s (by simpa using hs)
 |[],_::_,_,_,_,h,_=>h.elim
 |[],[],_::_,_,_,h,_=>h.elim
 |[],[],[],_::_,_,h,_=>h.elim
 |_::_,[],_,_,_,h,_=>h.elim
 |_::_,_::_,[],_,_,h,_=>h.elim
 |_::_,_::_,_::_,[],_,h,_=>h.elim
def RG(w:World)(F:Nat->Prop)(kv:Key->Value)(ls:List (List Nat)):Pm:=
 ⟨w,fun b=>b∈ls.flatten,F,fun k=>if 2000000<=k.1/\k.2<1024 then some (kv k) else none⟩
theorem amo{ts:List (fw U)}{j:Nat}:(ts.map fw.bl).getD j []=(ts.getD j []).bl:=by
 rw[eV,eV,nS]
 cases ts[j]? <;>rfl
theorem amG{n:Nat}{rest:List Value}{ms:List Mode}{ds:List (DV U)}{vs:List Value}{ls:List (List Nat)}(hF:∀b,F b->b<w.heap.size)(BY:QR E w F)(h:jD E w F ms ds vs ls)(hr:rH w rest ms ds vs)(hn:ls.flatten.Nodup)(hl:∀b∈ls.flatten,b<w.heap.size/\¬F b)
  (hms:ms.length<=n) (vQ:n<=1000000):
  ∃Lp Wo,cR E (RG w F Lp ls) F Lp Wo (entry rest n ms ds) {tmps:=vs.toArray++Array.replicate (n-vs.length) undef,defers:=[]} w/\Bb Lp 0 ms ds vs:=by
 obtain⟨l1,l2,l3⟩:=h.len
 obtain⟨ts,i1,i2,i3,i4⟩:=adT (rest:=rest) (i:=0) h hr
 have qE:∀{j:Nat},((ts.getD j []).map (·.1)).Nodup:=by
  intro j
  rcases pt j ts.length with g|g
  ·rw[eV,fE g];exact i2 _ (D5 g)
  ·rw[eV,ot g];exact ZB
 let Lp:Key->Value:=fun k=>(ts.getD (k.1-2000000) []).BX k.1 (fun _=>undef) k
 let Wo:Key->List Nat:=fun k=>(ts.getD (k.1-2000000) []).AH k.1 (fun _=>[]) k
 have P9:∀j s,s∈ts.getD j []->Lp (2000000+(0+j),s.1)=s.2.2.1:=by
  intro j s hs
  simp only[Lp,vB,Nat.add_sub_cancel_left]
  exact fw.yE qE hs
 have tw:∀j s,s∈ts.getD j []->Wo (2000000+(0+j),s.1)=s.2.2.2:=by
  intro j s hs
  simp only[Wo,vB,Nat.add_sub_cancel_left]
  exact fw.vV qE hs
 obtain⟨g1,g2,g3⟩:=i4 Lp Wo (bY (entry rest n ms ds)) P9
 have Qg:∀{j:Nat},(ts.getD j []).bl=ls.getD j []:=fun{j}=>by rw[<-i1,amo]
 have abD:∀{j:Nat}{s:Nat×iX U×Value×List Nat}{b:Nat},s∈ts.getD j []->b∈s.2.2.2->b∈ls.getD j []:=fun{j s b} hs hb=>by rw[<-Qg];exact fw.qp.2 ⟨s,hs,hb⟩
 refine⟨Lp,Wo,⟨by simp[entry];omega,rfl,fun s x hs=> ?_,fun k e he=> ?_,fun k k' e e' b fc h1 h2 hb=> ?_,fun k e he=> ?_,fun k e b he hb=> ?_,hF,fun b hb=> .inl hb,ic.refl _ _,fun k v hk=> ?_,BY⟩,g3⟩
 ·obtain⟨j,rfl,hj,h3⟩:=g1 s x hs
  have:(vs.toArray++Array.replicate (n-vs.length) undef).getD (0+j) undef=vs.getD j undef:=by
   rw[vB,QZ,Array.getElem?_append_left (by simpa using hj)]
   simp[eV]
  show RS E w F _ _ _ x ((vs.toArray++Array.replicate (n-vs.length) undef).getD (0+j) undef)
  rw[this];exact h3
 ·obtain⟨j,s,hs,rfl,rfl⟩:=i3 k e he
  rw[P9 j s hs,tw j s hs]
  exact g2 j s hs
 ·obtain⟨j,s,hs,rfl,rfl⟩:=i3 k e h1
  obtain⟨j',s',kE,rfl,rfl⟩:=i3 k' e' h2
  rw[tw j s hs] at hb
  rw[tw j' s' kE]
  by_cases hj:j=j'
  ·subst hj
   have wN:(ts.getD j []).bl.Nodup:=by rw[Qg];exact adx hn j
   exact fw.sD wN hs kE (fun e=>fc (by rw[e])) hb
  ·exact fun bj=>amv hn hj (abD hs hb) (abD kE bj)
 ·obtain⟨j,s,hs,rfl,rfl⟩:=i3 k e he
  rw[tw j s hs]
  have wN:(ts.getD j []).bl.Nodup:=by rw[Qg];exact adx hn j
  exact fw.zi wN hs
 ·obtain⟨j,s,hs,rfl,rfl⟩:=i3 k e he
  rw[tw j s hs] at hb
  have:=alO (abD hs hb)
  exact⟨(hl b this).2,.inl this,(hl b this).1⟩
 ·simp only[RG] at hk
  split at hk
  ·rename_i hc
   cases hk
   exact⟨hc.1,hc.2,vQ,rfl⟩
  ·cases hk
variable{pm:Pm}{kv:Key->Value}{fp:Key->List Nat}{σ:ak U}{a:Act}
def MZ(tmps:Array Value):ResultVar->Sem Value
 | .tmp t=>pure (tmps.getD t undef)
 | .cell a t=>do loadVar t (<-asAddr (tmps.getD a undef))
def Kg(P:Program)(tmps:Array Value)(w:World):List ResultVar->List Value->Prop
 |[],[]=>True
 |r::rs,u::us=>(MZ tmps r).run P w=.ok u w/\Kg P tmps w rs us
 |_,_=>False
theorem adA{P:Program}{tmps:Array Value}{w:World}:∀{rs:List ResultVar}{us:List Value},Kg P tmps w rs us->(List.mapM (MZ tmps) rs).run P w=.ok us w
 |[],[],_=>rfl
 |r::rs,u::us,h=>by
  rw[List.mapM_cons,Sem.run_bind,h.1]
  simp only[Result.andThen,Sem.run_bind,adA h.2]
  rfl
 |[],_::_,h=>h.elim
 |_::_,[],h=>h.elim
theorem alo{P:Program}{fn:Func}{tmps:Array Value}{w:World}{us:List Value}(h:Kg P tmps w fn.results.toList us):
  (results fn tmps).run P w=.ok (Pr us) w:=by
 have hg:(fun x=>match x with
   |ResultVar.tmp t=>(pure (tmps.getD t undef):Sem Value)
   |ResultVar.cell a t=>do loadVar t (<-asAddr (tmps.getD a undef)))=MZ tmps:=by
  funext x;cases x<;>rfl
 unfold results
 have hr:fn.results=fn.results.toList.toArray:=rfl
 rw[hr,List.mapM_toArray]
 show Sem.run P (do
  let vs←Functor.map List.toArray (List.mapM (fun x=>match x with
   |ResultVar.tmp t=>(pure (tmps.getD t undef):Sem Value)
   |ResultVar.cell a t=>do loadVar t (<-asAddr (tmps.getD a undef))) fn.results.toList)
  pure (if h:vs.size=1 then vs[0] else Value.tuple vs)) w=_
 rw[hg,Sem.run_bind]
 have hm:(Functor.map List.toArray (List.mapM (MZ tmps) fn.results.toList)).run P w=.ok us.toArray w:=by
  rw[map_eq_pure_bind,Sem.run_bind,adA h]
  rfl
 rw[hm]
 show Result.ok _ w=_
 congr 1
 match us with
 |[]=>rfl
 |[t]=>rfl
 |t::u::r=>
  rw[dif_neg (by simp)]
  rfl
theorem adl(h:cR E pm F kv fp σ a w){r:ResultVar}{x:AV U}(hr:Oa E σ r=some x):∃u,(MZ a.tmps r).run E.P w=.ok u w/\RV E w F kv fp (bY σ) x u:=by
 unfold Oa at hr
 split at hr
 ·rename_i t
  split at hr
  ·rename_i y hy
   cases hr
   exact⟨_,rfl,h.bG t _ hy⟩
  ·cases hr
 ·rename_i s t
  split at hr
  ·rename_i k hk
   split at hr
   ·rename_i cs n g he hn hg
    rw[iw] at hr
    split at hr
    ·rename_i hc
     cases hr
     simp only[cN] at hc
     obtain⟨b,h1,h2⟩:=cx (H7 (h.bG s _ hk)) rfl
     obtain⟨b',cur,e,h3,h4,h5,h6⟩:=h.dD k _ he
     rw[h1] at h3;cases h3
     have hlen:n=cur.toList.length:=(nF hc.1).trans h6.1
     obtain⟨v,hv1,hv2⟩:=Vg (E:=E) (w:=w) (us:=cur.toList) (off:=0) (b:=b) hn hg hc.2 hlen.symm (fun j v hj=>by
      simp only[World.cell?,h4,vB]
      simpa using hj)
     refine⟨v,?_,cur.toList,h6,hv2⟩
     have fi:(MZ a.tmps (.cell s t)).run E.P w=(Instr.loadAt t (.pointer (some ⟨b,0,none⟩))).run E.P w:=by
      simp only[MZ,h2,asAddr,Instr.loadAt,Instr.sureAddr,pure_bind]
     rw[fi];exact hv1
    ·cases hr
   ·cases hr
  ·cases hr
theorem alz(h:cR E pm F kv fp σ a w):∀{rs:List ResultVar}{fs:List Bool}{ts:List TypeId}{ps:List Prop}{ds:List (DV U)}{ks:List Key},outs E σ fs rs ts=some (ps,ds,ks)->(∀p∈ps,p)->ks.Nodup->
  ∃(us:List Value)(sQ:List (List Nat)),Kg E.P a.tmps w rs us/\(∀F':Nat->Prop,(∀b,F b->F' b)->(∀k e b,k∈rb E σ fs rs->σ.bP k=some e->b∈fp k->F' b)->nQ E w F' fs ds us sQ)/\sQ.flatten.Nodup/\(∀b∈sQ.flatten,∃k∈ks,b∈fp k)/\(∀k∈ks,(σ.bP k).isSome=true):=by
 intro rs
 induction rs with
 |nil=>
  intro fs ts ps ds ks ho hp hn
  simp only[outs,gI,pE] at ho
  obtain⟨rfl,rfl,rfl⟩:=ho
  exact⟨[],[],trivial,fun _ _ _=>trivial,by simp,by simp,by simp⟩
 |cons r rs ih=>
  intro fs ts ps ds ks ho hp hn
  have Ix:∀k,k∈rb E σ fs.tail rs->k∈rb E σ fs (r::rs):=fun k hk=>by
   simp only[rb,jI];exact .inr hk
  simp only[outs] at ho
  split at ho
  ·rename_i x hx
   split at ho
   ·rename_i l k yK
    split at ho
    ·rename_i qs ds2 ks2 Lt
     cases ho
     have hh:fs.headD true=true:=by
      cases hh:fs.headD true with
      |true=>rfl
      |false=>
       rw[hh] at yK
       unfold RE at yK
       split at yK<;>cases yK
     rw[hh] at yK
     unfold RE at yK
     split at yK
     ·rename_i k0
      simp only[cond_true] at yK
      split at yK
      ·rename_i bs he
       split at yK
       ·rename_i l' hl
        cases yK
        obtain⟨uL,n2⟩:=ur.1 hn
        obtain⟨us,sQ,i1,i2,i3,i4,i5⟩:=ih Lt hp n2
        obtain⟨u,hu,vs,r1,r2⟩:=adl h hx
        simp only[xS,if_false] at r2
        subst r2
        obtain⟨b,P9,rfl⟩:=cx (r1.2 0 _ u rfl rfl) rfl
        obtain⟨b',cur,e',g1,g2,g3,g4⟩:=h.dD k _ he
        rw[P9] at g1
        simp only[Value.pointer.injEq,gI,Addr.mk.injEq] at g1
        obtain⟨rfl,_,_⟩:=g1
        have vU:=Pt hl
        have GA:bs.length=l.length:=by rw[vU];simp
        have sq:lg E w F true (.box l:DV U) (.pointer (some ⟨b,0,none⟩)) [b]:=by
         refine⟨rfl,b,cur,e',rfl,g2,rfl,by rw[<-GA,g4.1];simp,fun i c hc=> ?_⟩
         have hbc:bs[i]? =some (.c c):=by rw[vU,nS,hc];rfl
         have gy:i<cur.toList.length:=by
          rw[<-g4.1]
          rcases pt i bs.length with g|g
          ·exact g
          ·rw[ot g] at hbc;cases hbc
         have tr:cur.toList[i]? =some (cur.toList[i]):=fE gy
         rw[eV,tr]
         exact(cx (g4.2 i _ _ hbc tr) rfl:Rp E w F false _ _ _)
        refine⟨_::us,[b]::sQ,⟨hu,i1⟩,fun F' wO hK'=>⟨by rw[hh];exact lg.fW wO sq,i2 F' wO fun k e b hk=>hK' k e b (Ix k hk)⟩,?_,fun b' bj=> ?_,fun k' cY=> ?_⟩
        ·rw[MJ,rV]
         refine⟨by simp,i3,fun b' bj c hc e=> ?_⟩
         rw[mW.1 bj] at e
         subst e
         obtain⟨k2,lH,uC⟩:=i4 b hc
         obtain⟨e2,uB⟩:=nA.1 (i5 k2 lH)
         exact h.apart k k2 _ e2 b (fun e=>uL (e▸lH)) he uB (by rw[g3];exact mW.2 rfl) uC
        ·rw[MJ,jI] at bj
         rcases bj with bj|bj
         ·rw[mW.1 bj]
          exact⟨k,iH,by rw[g3];exact mW.2 rfl⟩
         ·obtain⟨k2,lH,uC⟩:=i4 b' bj
          exact⟨k2,fF _ lH,uC⟩
        ·rcases kc.1 cY with rfl|cY
         ·rw[he];rfl
         ·exact i5 k' cY
       ·cases yK
      ·cases yK
     ·cases yK
    ·cases ho
   split at ho
   ·rename_i Uw cs ks1 Bx
    split at ho
    ·rename_i d qs ds2 ks2 hd Lt
     simp only[gI,pE] at ho
     obtain⟨rfl,rfl,rfl⟩:=ho
     rw[rV] at hn
     obtain⟨n1,n2,n3⟩:=hn
     obtain⟨us,sQ,i1,i2,i3,i4,i5⟩:=ih Lt (fun p kW=>hp p (by simp[kW])) n2
     obtain⟨u,hu,vs,r1,r2⟩:=adl h hx
     cases hh:fs.headD true with
     |true=>
      rw[hh] at Bx
      simp only[cond_true] at Bx
      split at Bx
      ·rename_i K6 wu ks' aaV
       cases Bx
       obtain⟨g1,g2,g3,g4⟩:=M2 h aaV (fun p kW=>hp p (by simp[kW])) r1 n1
       obtain⟨fl,f1,f2,f3,f4⟩:=g3 rfl
       refine⟨u::us,fl.flatten::sQ,⟨hu,i1⟩,fun F' wO hK'=>⟨by rw[hh];exact lg.fW wO (amM hd r2 (by rw[g1];exact r1.1.symm) f1 f2),i2 F' wO fun k e b hk=>hK' k e b (Ix k hk)⟩,?_,fun b hb=> ?_,fun k hk=> ?_⟩
       ·rw[MJ,rV]
        refine⟨f3,i3,fun b hb c hc e=> ?_⟩
        subst e
        obtain⟨k1,AB,uD⟩:=f4 b hb
        obtain⟨k2,lH,uC⟩:=i4 b hc
        obtain⟨e1,Wg⟩:=nA.1 (g2 k1 AB)
        obtain⟨e2,uB⟩:=nA.1 (i5 k2 lH)
        exact h.apart k1 k2 e1 e2 b (n3 k1 AB k2 lH) Wg uB uD uC
       ·rw[MJ,jI] at hb
        rcases hb with hb|hb
        ·obtain⟨k,hk,hb⟩:=f4 b hb;exact⟨k,rW _ hk,hb⟩
        ·obtain⟨k,hk,hb⟩:=i4 b hb;exact⟨k,qM _ hk,hb⟩
       ·rcases jI.1 hk with hk|hk
        ·exact g2 k hk
        ·exact i5 k hk
      ·cases Bx
     |false=>
      rw[hh] at Bx
      simp only[cond_false] at Bx
      split at Bx
      ·rename_i K6 wu aaV
       cases Bx
       obtain⟨g1,g2⟩:=ad0 h aaV (fun p kW=>hp p (by simp[kW])) r1
       refine⟨u::us,[]::sQ,⟨hu,i1⟩,fun F' wO hK'=>⟨by
        rw[hh]
        refine amL hd r2 (by rw[g1];exact r1.1.symm) (fun i c hc=>(g2 i c hc).fW (fun b hb=> ?_))
        rcases hb with hb|⟨k,hk,hb⟩
        ·exact wO b hb
        ·rw[xR] at hk
         obtain⟨e,he⟩:=nA.1 hk.2
         exact hK' k e b (by simp only[rb,hh,cond_false,jI,hx];exact .inl hk.1) he hb,i2 F' wO fun k e b hk=>hK' k e b (Ix k hk)⟩,by simpa using i3,by simpa using i4,by simpa using i5⟩
      ·cases Bx
    ·cases ho
   ·cases ho
  ·cases ho
theorem aay(h:cR E pm F kv fp σ a w){i:Nat}:∀{cs:List U.C}{j:Nat}{vs:List Value}{ds:List U.C}{ks:List Key},qh σ i j cs=some (ds,ks)->vs.length=cs.length->
  (∀(n:Nat)(τ:U.Ty)(xs:List (U.T τ)),cs[n]? =some (.sl τ xs)->kv (2000000+i,j+n)=vs.getD n undef)->(∀(n:Nat)(u:Value),cs[n]? =some (.lit u)->vs.getD n undef=u/\gD u)->
  ds.length=cs.length/\∃fl:List (List Nat),fl.length=ds.length/\(∀(n:Nat)(c:U.C),ds[n]? =some c->Rp E w F true c (vs.getD n undef) (fl.getD n []))/\fl.flatten=ks.flatMap fp/\(∀k∈ks,(σ.bP k).isSome=true/\j<=k.2)/\ks.Nodup
 |[],j,vs,ds,ks,hf,hl,h1,h2=>by
  simp only[qh,gI,pE] at hf
  obtain⟨rfl,rfl⟩:=hf
  exact⟨rfl,[],rfl,fun n c hc=>by simp at hc,rfl,by simp,by simp⟩
 |c::cs,j,[],ds,ks,hf,hl,h1,h2=>by simp at hl
 |c::cs,j,v::vs,ds,ks,hf,hl,h1,h2=>by
  have MG:∀(n:Nat)(τ:U.Ty)(xs:List (U.T τ)),cs[n]? =some (.sl τ xs)->kv (2000000+i,j+1+n)=vs.getD n undef:=fun n τ xs hn=>by
   have:=h1 (n+1) τ xs (by simpa using hn)
   simpa[QX,zew 1 n] using this
  have Ow:∀(n:Nat)(u:Value),cs[n]? =some (.lit u)->vs.getD n undef=u/\gD u:=fun n u hn=>by simpa using h2 (n+1) u (by simpa using hn)
  cases c with
  |lit u=>
   simp only[qh] at hf
   split at hf
   ·rename_i ds' ks' hf'
    cases hf
    obtain⟨i1,fl,i2,i3,i4,i5,i6⟩:=aay h hf' (by simpa using hl) MG Ow
    obtain⟨g1,g2⟩:=h2 0 u rfl
    have hvu:v=u:=by simpa using g1
    subst hvu
    refine⟨by simp[i1],[]::fl,by simp[i2],fun n c hc=> ?_,by simpa using i4,fun k hk=>⟨(i5 k hk).1,by have:=(i5 k hk).2;omega⟩,i6⟩
    cases n with
    |zero=>simp only[vF,gI] at hc;subst hc;exact .lit _ _ g2
    |succ n=>simpa using i3 n c (by simpa using hc)
   ·cases hf
  |sl τ xs=>
   simp only[qh] at hf
   split at hf
   ·rename_i y ds' ks' he hf'
    cases hf
    obtain⟨i1,fl,i2,i3,i4,i5,i6⟩:=aay h hf' (by simpa using hl) MG Ow
    have hv:kv (2000000+i,j)=v:=by simpa using h1 0 τ xs rfl
    have ho:fe E w F true y (kv (2000000+i,j)) (fp (2000000+i,j)):=h.dD _ _ he
    refine⟨by simp[i1],fp (2000000+i,j)::fl,by simp[i2],fun n c hc=> ?_,by simp[i4],fun k hk=> ?_,?_⟩
    ·cases n with
     |zero=>simp only[vF,gI] at hc;subst hc;rw[hv] at ho;exact ho.rp
     |succ n=>simpa using i3 n c (by simpa using hc)
    ·rcases kc.1 hk with rfl|hk
     ·exact⟨by rw[he];rfl,uh _⟩
     ·exact⟨(i5 k hk).1,by have:=(i5 k hk).2;omega⟩
    ·rw[ur]
     exact⟨fun hm=>by have:=(i5 _ hm).2;simp only at this;omega,i6⟩
   ·cases hf
theorem amx(h:cR E pm F kv fp σ a w){w0:World}{F0:Nat->Prop}{rest:List Value}{i:Nat}{want:List (Option U.Ty)}{m:Mode}{d:DV U}{v:Value}{l:List Nat}{ps:List Prop}{mu:List (DV U)}{ks:List Key}
  (hf:II σ rest i want m d=some (ps,mu,ks)) (hp:∀p∈ps,p) (oi:o6 E w0 F0 m d v l) (j0:∀cs,lj m=true->d=.box cs->rest=s_ w0 v cs.length) (Gz:Un i m d v kv) (hn:ks.Nodup):
  ∃jh,fq E w F w0 [m] [v] mu jh/\jh.flatten.Nodup/\(∀b∈jh.flatten,∃k∈ks,b∈fp k)/\(∀k∈ks,(σ.bP k).isSome=true)/\(m=.box false->∀b∈l,∃k∈ks,b∈fp k):=by
 cases m with
 |ro=>
  simp only[II,gI,pE] at hf
  obtain⟨_,rfl,rfl⟩:=hf
  exact⟨[],trivial,by simp,by simp,by simp,fun e=>by cases e⟩
 |mv=>
  simp only[II,gI,pE] at hf
  obtain⟨_,rfl,rfl⟩:=hf
  exact⟨[],trivial,by simp,by simp,by simp,fun e=>by cases e⟩
 |wr=>
  cases d with
  |one c=>
   cases c with
   |lit _=>exact oi.elim
   |sl τ xs=>
    simp only[II] at hf
    split at hf
    ·rename_i y he
     cases hf
     have hv:kv (2000000+i,0)=v:=Gz
     have ho:fe E w F true y (kv (2000000+i,0)) (fp (2000000+i,0)):=h.dD _ _ he
     rw[hv] at ho
     exact⟨[fp (2000000+i,0)],⟨ho,trivial⟩,by simpa using h.nodup _ _ he,by simp,by simp[he],fun e=>by cases e⟩
    ·cases hf
  |agg cs=>
   simp only[II] at hf
   rw[iw] at hf
   split at hf
   ·split at hf
    ·rename_i ds ks' hfc
     cases hf
     obtain⟨vs,p1,p2,p3,p4⟩:=Gz
     obtain⟨i1,fl,i2,i3,i4,i5,i6⟩:=aay h hfc p2 (by simpa using p3) p4
     refine⟨[fl.flatten],⟨⟨vs,fl,p1,by rw[p2,i1],i2,i3,rfl⟩,trivial⟩,?_,fun b hb=> ?_,fun k hk=>(i5 k hk).1,fun e=>by cases e⟩
     ·simp only[MJ,zey,uJ]
      rw[i4]
      exact aax h i6 (fun k hk=>(i5 k hk).1)
     ·simp only[MJ,zey,uJ] at hb
      rw[i4] at hb
      exact o8.1 hb
    ·cases hf
   ·cases hf
  |box _=>exact oi.elim
  |ptr _=>exact oi.elim
  |fn _=>exact oi.elim
 |box own=>
  cases d with
  |one _=>exact oi.elim
  |agg _=>exact oi.elim
  |ptr _=>exact oi.elim
  |fn _=>exact oi.elim
  |box cs=>
   have hrs:=j0 cs rfl rfl
   have hv:kv (2000000+i,0)=v:=Gz
   obtain⟨b0,aob,e0,fl0,z1,z2,z3,z4,z5,z6,z7,z8⟩:=oi
   have Nl:∀{bs:List (AC U)}{cur:Array Value}{n:Nat},mw E w F kv fp (bY σ) bs cur.toList->bs.drop n=rest.map (fun v=> .c (.lit v))->cur.toList.drop n=rest:=by
    intro bs cur n hd he
    have h1:=hd.drop n
    rw[he] at h1
    refine Uu fun j=> ?_
    cases hj:rest[j]? with
    |none=>
     rw[List.getElem?_eq_none_iff] at hj⊢
     rw[<-h1.1];simpa using hj
    |some u=>
     have gy:j<(cur.toList.drop n).length:=by
      rw[<-h1.1,wP]
      rcases pt j rest.length with g|g
      ·exact g
      ·rw[ot g] at hj;cases hj
     rw[fE gy]
     have:=aaJ (h1.2 j (.c (.lit u)) _ (by rw[nS,hj];rfl) (fE gy))
     rw[this]
   cases own with
   |true=>
    simp only[II] at hf
    split at hf
    ·rename_i bs he
     split at hf
     ·rename_i K6 l0 ks' ht
      rw[iw] at hf
      split at hf
      ·rename_i Lw
       cases hf
       have Lw:=nF Lw
       obtain⟨b,cur,e,h3,h4,h5,h6⟩:=h.dD _ _ he
       rw[hv] at h3
       obtain⟨g1,g2,g3,_⟩:=M2 h ht (fun p kW=>hp p (by simp[kW])) (h6.take cs.length) (ur.1 hn).2
       obtain⟨fl,f1,f2,f3,f4⟩:=g3 rfl
       have aa3:bs.drop cs.length=rest.map fun v=> .c (.lit v):=adi fun p kW=>hp p (qM _ kW)
       have SI:=Nl h6 aa3
       have Qg:cs.length<=cur.size:=by
        have h8:bs.length=cur.size:=by have:=h6.1;simpa using this
        rw[g1,oq] at Lw
        omega
       have abF:b∉fl.flatten:=by
        intro hb
        obtain⟨k',cY,bj⟩:=f4 b hb
        obtain⟨e2,uB⟩:=nA.1 (g2 k' cY)
        exact h.apart _ k' _ e2 b (fun e=>(ur.1 hn).1 (by rw[e];exact cY)) he uB (by rw[h5];simp) bj
       refine⟨[b::fl.flatten],⟨⟨b,cur,e,fl,h3,h4,by omega,by rw[Lw,SI,hrs],by rw[Lw];exact z5,f1,fun j c hc=> ?_,rfl⟩,trivial⟩,(by rw[MJ,zey,uJ,ur];exact⟨abF,f3⟩),fun c hc=> ?_,fun k hk=> ?_,fun e=>by cases e⟩
       ·have hj:j<cs.length:=by
         rw[<-Lw]
         rcases pt j l0.length with g|g
         ·exact g
         ·rw[ot g] at hc;cases hc
        have:=f2 j c hc
        rw[eV,qy,if_pos hj,<-eV] at this
        exact this
       ·simp only[MJ,zey,uJ,kc] at hc
        rcases hc with rfl|hc
        ·exact⟨_,iH,by rw[h5];simp⟩
        ·obtain⟨k',cY,hc⟩:=f4 c hc;exact⟨k',fF _ cY,hc⟩
       ·rcases kc.1 hk with rfl|hk
        ·rw[he];rfl
        ·exact g2 k hk
      ·cases hf
     ·cases hf
    ·cases hf
   |false=>
    simp only[II] at hf
    split at hf
    ·rename_i bs he
     split at hf
     ·rename_i l0 By
      rw[iw] at hf
      split at hf
      ·rename_i Lw
       cases hf
       have Lw:=nF Lw
       have vU:=Pt By
       obtain⟨b,cur,e,h3,h4,h5,h6⟩:=h.dD _ _ he
       rw[hv] at h3
       have aa3:bs.drop cs.length=rest.map fun v=> .c (.lit v):=adi fun p kW=>hp p kW
       have SI:=Nl h6 aa3
       have h8:bs.length=cur.size:=by have:=h6.1;simpa using this
       have Qg:cs.length<=cur.size:=by
        have:=congrArg List.length vU
        rw[oq,wP,Lw] at this
        omega
       refine⟨[[b]],⟨⟨b,cur,e,List.replicate l0.length [],h3,h4,by omega,by rw[Lw,SI,hrs],by rw[Lw];exact z5,by simp,fun j c hc=> ?_,by rw[An]⟩,trivial⟩,by simp,fun c hc=>⟨_,iH,by rw[h5];simpa using hc⟩,by simp[he],fun _ c hc=> ?_⟩
       ·have hj:j<cs.length:=by
         rw[<-Lw]
         rcases pt j l0.length with g|g
         ·exact g
         ·rw[ot g] at hc;cases hc
        have hci:bs[j]? =some (.c c):=by
         have:(bs.take cs.length)[j]? =some (.c c):=by rw[vU,nS,hc];rfl
         rwa[qy,if_pos hj] at this
        have h7:=cx (h6.2 j (.c c) (cur.toList.getD j undef) hci (fM (by simp;omega))) rfl
        rw[H3]
        exact h7
       ·refine⟨_,iH,?_⟩
        rw[h5]
        rw[z1] at h3
        cases h3
        rw[z8,kc] at hc
        rcases hc with rfl|hc
        ·simp
        ·exfalso
         obtain⟨l',Iw,GF⟩:=ZC.1 hc
         obtain⟨j,hj,rfl⟩:=sT Iw
         have uA:j<cs.length:=by omega
         have:=z7 j _ (fE uA)
         rw[eV (l:=fl0),fE hj] at this
         exact this.VJ (F':=fun _=>False) GF
      ·cases hf
     ·cases hf
    ·cases hf
theorem fq.cons{w0:World}{m:Mode}{v:Value}{R2:List (DV U)}{G4:List (List Nat)}{ms:List Mode}{vs:List Value}{mu2:List (DV U)}{VM:List (List Nat)}(h:fq E w F w0 [m] [v] R2 G4)(h':fq E w F w0 ms vs mu2 VM):
  fq E w F w0 (m::ms) (v::vs) (R2++mu2) (G4++VM):=by
 cases m with
 |ro=>cases R2<;>cases G4<;>first|exact h.elim|exact h'
 |mv=>cases R2<;>cases G4<;>first|exact h.elim|exact h'
 |wr=>
  cases R2 with
  |nil=>cases G4<;>exact h.elim
  |cons d R2=>
   cases G4 with
   |nil=>cases d<;>first|exact h.elim|(rename_i c;cases c<;>exact h.elim)
   |cons l G4=>
    cases d with
    |one c=>cases c with
     |lit _=>exact h.elim
     |sl τ ys=>
      obtain⟨h1,h2⟩:=h
      cases R2<;>cases G4<;>first|exact h2.elim|exact⟨h1,h'⟩
    |agg cs=>
     obtain⟨h1,h2⟩:=h
     cases R2<;>cases G4<;>first|exact h2.elim|exact⟨h1,h'⟩
    |box _=>exact h.elim
    |ptr _=>exact h.elim
    |fn _=>exact h.elim
 |box own=>
  cases R2 with
  |nil=>cases G4<;>exact h.elim
  |cons d R2=>
   cases G4 with
   |nil=>cases d<;>exact h.elim
   |cons l G4=>
    cases d with
    |box cs=>
     obtain⟨h1,h2⟩:=h
     cases R2<;>cases G4<;>first|exact h2.elim|exact⟨h1,h'⟩
    |one _=>exact h.elim
    |agg _=>exact h.elim
    |ptr _=>exact h.elim
    |fn _=>exact h.elim
theorem adR(h:cR E pm F kv fp σ a w){w0:World}{F0:Nat->Prop}{rest:List Value}:∀{ms:List Mode}{i:Nat}{ws:List (List (Option U.Ty))}{ds:List (DV U)}{vs:List Value}{ls:List (List Nat)}{ps:List Prop}{mu:List (DV U)}{ks:List Key},
  tH σ rest i ws ms ds=some (ps,mu,ks)->(∀p∈ps,p)->jD E w0 F0 ms ds vs ls->rH w0 rest ms ds vs->Bb kv i ms ds vs->ks.Nodup->
  ∃jh,fq E w F w0 ms vs mu jh/\jh.flatten.Nodup/\(∀b∈jh.flatten,∃k∈ks,b∈fp k)/\(∀k∈ks,(σ.bP k).isSome=true)/\(SR ms=false->∀b∈ls.flatten,∃k∈ks,b∈fp k)
 |[],i,ws,[],[],[],ps,mu,ks,hf,hp,oi,hr,Gz,hn=>by
  simp only[tH,gI,pE] at hf
  obtain⟨_,rfl,rfl⟩:=hf
  exact⟨[],trivial,by simp,by simp,by simp,by simp⟩
 |m::ms,i,ws,d::ds,v::vs,l::ls,ps,mu,ks,hf,hp,oi,hr,Gz,hn=>by
  simp only[tH] at hf
  split at hf
  ·rename_i Uw xs ks1 qs ys ks2 h1 h2
   cases hf
   rw[rV] at hn
   obtain⟨n1,n2,n3⟩:=hn
   obtain⟨G4,i1,i2,i3,i4,i5⟩:=amx h h1 (fun p kW=>hp p (by simp[kW])) oi.1 hr.1 Gz.1 n1
   obtain⟨VM,j1,j2,j3,j4,j5⟩:=adR h h2 (fun p kW=>hp p (by simp[kW])) oi.2 hr.2 Gz.2 n2
   refine⟨G4++VM,i1.cons j1,?_,fun b hb=> ?_,fun k hk=>(jI.1 hk).elim (i4 k) (j4 k),fun ho b hb=> ?_⟩
   ·rw[Mz,rV]
    refine⟨i2,j2,fun b hb c hc e=> ?_⟩
    subst e
    obtain⟨k1,AB,uD⟩:=i3 b hb
    obtain⟨k2,lH,uC⟩:=j3 b hc
    obtain⟨e1,Wg⟩:=nA.1 (i4 k1 AB)
    obtain⟨e2,uB⟩:=nA.1 (j4 k2 lH)
    exact h.apart k1 k2 e1 e2 b (n3 k1 AB k2 lH) Wg uB uD uC
   ·rw[Mz,jI] at hb
    rcases hb with hb|hb
    ·obtain⟨k,hk,hb⟩:=i3 b hb;exact⟨k,rW _ hk,hb⟩
    ·obtain⟨k,hk,hb⟩:=j3 b hb;exact⟨k,qM _ hk,hb⟩
   ·simp only[SR,UK,QK] at ho
    rw[MJ,jI] at hb
    rcases hb with hb|hb
    ·have:m=.ro\/m=.box false:=by
      cases m with
      |ro=>exact .inl rfl
      |wr=>simp at ho
      |mv=>simp at ho
      |box own=>cases own with
       |true=>simp at ho
       |false=>exact .inr rfl
     rcases this with rfl|rfl
     ·have:l=[]:=by cases d<;>first|exact oi.1.2|(obtain⟨_,_,_,_,h⟩:=oi.1;exact h)|exact oi.1.elim
      rw[this] at hb;cases hb
     ·obtain⟨k,hk,hb⟩:=i5 rfl b hb;exact⟨k,rW _ hk,hb⟩
    ·obtain⟨k,hk,hb⟩:=j5 ho.2 b hb;exact⟨k,qM _ hk,hb⟩
  ·cases hf
 |[],_,_,_::_,_,_,_,_,_,_,_,oi,_,_,_=>oi.elim
 |[],_,_,[],_::_,_,_,_,_,_,_,oi,_,_,_=>oi.elim
 |[],_,_,[],[],_::_,_,_,_,_,_,oi,_,_,_=>oi.elim
 |_::_,_,_,[],_,_,_,_,_,_,_,oi,_,_,_=>oi.elim
 |_::_,_,_,_::_,[],_,_,_,_,_,_,oi,_,_,_=>oi.elim
 |_::_,_,_,_::_,_::_,[],_,_,_,_,_,oi,_,_,_=>oi.elim
theorem fq.mono{w0:World}{F':Nat->Prop}(hF:∀b,F b->F' b):∀{ms:List Mode}{vs:List Value}{dm:List (DV U)}{ls:List (List Nat)},fq E w F w0 ms vs dm ls->fq E w F' w0 ms vs dm ls:=by
 intro ms
 induction ms with
 |nil=>intro vs dm ls h;cases vs<;>cases dm<;>cases ls<;>first|trivial|exact h.elim
 |cons m ms ih=>
  intro vs dm ls h
  cases m with
  |ro=>cases vs with
   |nil=>cases dm<;>cases ls<;>exact h.elim
   |cons v vs=>simp only[fq] at h⊢;exact ih h
  |mv=>cases vs with
   |nil=>cases dm<;>cases ls<;>exact h.elim
   |cons v vs=>simp only[fq] at h⊢;exact ih h
  |wr=>cases vs with
   |nil=>cases dm<;>cases ls<;>exact h.elim
   |cons v vs=>cases dm with
    |nil=>cases ls<;>exact h.elim
    |cons d dm=>cases d with
     |one c=>cases c with
      |lit _=>cases ls<;>exact h.elim
      |sl τ ys=>cases ls with
       |nil=>exact h.elim
       |cons l ls=>exact⟨fe.any h.1,ih h.2⟩
     |agg cs=>cases ls with
       |nil=>exact h.elim
       |cons l ls=>exact⟨h.1.any,ih h.2⟩
     |box _=>cases ls<;>exact h.elim
     |ptr _=>cases ls<;>exact h.elim
     |fn _=>cases ls<;>exact h.elim
  |box own=>cases vs with
   |nil=>cases dm<;>cases ls<;>exact h.elim
   |cons v vs=>cases dm with
    |nil=>cases ls<;>exact h.elim
    |cons d dm=>cases d with
     |box cs=>cases ls with
       |nil=>exact h.elim
       |cons l ls=>exact⟨h.1.fW hF,ih h.2⟩
     |one _=>cases ls<;>exact h.elim
     |agg _=>cases ls<;>exact h.elim
     |ptr _=>cases ls<;>exact h.elim
     |fn _=>cases ls<;>exact h.elim
theorem N_:∀{ms:List Mode}{ds:List (DV U)}{vs:List Value}{ls:List (List Nat)},jD E w F ms ds vs ls->tO ms=true->ls.flatten=[]
 |[],[],[],[],_,_=>rfl
 |m::ms,d::ds,v::vs,l::ls,h,hr=>by
  simp only[tO,QV,cN] at hr
  have h2:=N_ h.2 hr.2
  have h1:l=[]:=by
   cases m with
   |ro=>cases d<;>first|exact h.1.2|(obtain⟨_,_,_,_,h⟩:=h.1;exact h)|exact h.1.elim
   |wr=>simp at hr
   |mv=>simp at hr
   |box _=>simp at hr
  simp[h1,h2]
 |[],_::_,_,_,h,_=>h.elim
 |[],[],_::_,_,h,_=>h.elim
 |[],[],[],_::_,h,_=>h.elim
 |_::_,[],_,_,h,_=>h.elim
 |_::_,_::_,[],_,h,_=>h.elim
 |_::_,_::_,_::_,[],h,_=>h.elim
inductive Bd:U.C->Prop
 |lit (v:Value) (h:gD v):Bd (.lit v)
 |sl (τ:U.Ty) (xs:List (U.T τ)) (hl:xs.length<=maxLen) (h:∀(i:Nat)(x:U.T τ)(j:Nat)(c:U.C),xs[i]? =some x->(U.enc τ x)[j]? =some c->Bd c):Bd (.sl τ xs)
theorem Rp.bd{m:Bool}{c:U.C}{v:Value}{l:List Nat}(h:Rp E w F m c v l):Bd c:=by
 induction h with
 |lit m v h=>exact .lit v h
 |nil m τ a c h=>exact .sl τ [] (by simp) (fun i x j c hx=>by simp at hx)
 |shr τ xs b off cap vs Qi hc hm hv hr ih=>exact .sl τ xs hm ih
 |own τ xs b cap cur vs ie hb hc hm hs hv hr ih=>exact .sl τ xs (uN hc hm) ih
def gN:DV U->Prop
 | .one c=>Bd c
 | .agg cs=>∀c∈cs,Bd c
 | .box cs=>∀c∈cs,Bd c
 | .ptr cs=>∀c∈cs,Bd c
 | .fn _=>True
theorem IU{cs:List U.C}(hh:∀(i:Nat)(c:U.C),cs[i]? =some c->Bd c):∀c∈cs,Bd c:=by
 intro c hc
 obtain⟨i,hi,rfl⟩:=sT hc
 exact hh i _ (fE hi)
theorem mT.bd{cs:List U.C}{v:Value}{l:List Nat}(h:mT E w F cs v l):∀c∈cs,Bd c:=by
 obtain⟨vs,fl,_,_,_,h4,_⟩:=h
 exact IU fun i c hc=>(h4 i c hc).bd
theorem o6.bd{m:Mode}{d:DV U}{v:Value}{l:List Nat}(h:o6 E w F m d v l):gN d:=by
 cases m with
 |ro=>
  cases d with
  |one c=>exact h.1.bd
  |agg cs=>obtain⟨vs,_,_,h3,_⟩:=h;exact IU fun i c hc=>(h3 i c hc).bd
  |ptr cs=>
   obtain⟨⟨b,o,_,_,h3⟩,_⟩:=h
   exact IU fun i c hc=>by obtain⟨u,_,h5⟩:=h3 i c hc;exact h5.bd
  |fn _=>trivial
  |box _=>exact h.elim
 |wr=>
  cases d with
  |one c=>
   cases c with
   |lit _=>exact h.elim
   |sl τ xs=>exact(h.lT (F':=fun _=>True) (fun _ _=>trivial) (fun _ _=>trivial)).bd
  |agg _=>exact mT.bd h
  |box _=>exact h.elim
  |ptr _=>exact h.elim
  |fn _=>exact h.elim
 |mv=>
  cases d with
  |one c=>exact Rp.bd h
  |agg _=>exact mT.bd h
  |box _=>exact h.elim
  |ptr _=>exact h.elim
  |fn _=>exact h.elim
 |box own=>
  cases d with
  |box cs=>obtain⟨b,cur,e,fl,_,_,_,_,_,_,h7,_⟩:=h;exact IU fun i c hc=>(h7 i c hc).bd
  |one _=>exact h.elim
  |agg _=>exact h.elim
  |ptr _=>exact h.elim
  |fn _=>exact h.elim
theorem jD.bd:∀{ms:List Mode}{ds:List (DV U)}{vs:List Value}{ls:List (List Nat)},jD E w F ms ds vs ls->∀d∈ds,gN d
 |[],[],[],[],_,d,hd=>by simp at hd
 |m::ms,d0::ds,v::vs,l::ls,h,d,hd=>by
  rcases kc.1 hd with rfl|hd
  ·exact h.1.bd
  ·exact jD.bd h.2 d hd
 |[],_::_,_,_,h,_,_=>h.elim
 |[],[],_::_,_,h,_,_=>h.elim
 |[],[],[],_::_,h,_,_=>h.elim
 |_::_,[],_,_,h,_,_=>h.elim
 |_::_,_::_,[],_,h,_,_=>h.elim
 |_::_,_::_,_::_,[],h,_,_=>h.elim
theorem AI(hE:E.Good){f:FuncId}{fn:Func}{c:Code}(hf:E.P.funcs[f]? =some fn)(hb:fn.body=some c)(k:ka U)(hms:k.md.length<=fn.ntmps)(vQ:fn.ntmps<=1000000)(uD:rR k.md=true\/k.KQ=0)
  (hw:∀x,(∀p∈k.pre x,p)->(∀d∈k.ds x,gN d)->∀rest,(k.md.any lj=true->rest.length=k.KQ)->(k.md.any lj=false->rest=[])->
   ∀vs:List Value,vs.length=k.md.length->∃τ,(∀{pm:Pm}{F:Nat->Prop}{kv:Key->Value}{fp:Key->List Nat}{a:Act}{w:World},cR E pm F kv fp (entry rest fn.ntmps k.md (k.ds x)) a w->(∀i,i<vs.length->a.tmps.getD i undef=vs.getD i undef)->cR E pm F kv fp τ a w)/\
    WpS E c τ (leave E fn.results.toList fn.resultTypes.toList rest fn.params.toList k.md (k.ds x) (k.oe x))):eQ E f k:=by
 intro x Nn w F vs ls hF BY oi aa2 qE hld
 obtain⟨l1,l2,l3⟩:=oi.len
 refine calls_of_wp hf hb ?_
 obtain⟨rest,anz,har,hrn⟩:∃rest:List Value,(k.md.any lj=true->rest.length=k.KQ)/\rH w rest k.md (k.ds x) vs/\(k.md.any lj=false->rest=[]):=by
  rcases uD with uD|uD
  ·exact⟨u7 w k.md (k.ds x) vs,fun h=>adk oi aa2 uD h,ad_ uD,fun h=>adj h⟩
  ·rw[uD] at aa2
   exact⟨[],fun _=>uD.symm,ad9 aa2,fun _=>rfl⟩
 obtain⟨Lp,Wo,h0,aa5⟩:=amG (n:=fn.ntmps) (rest:=rest) hF BY oi har qE hld hms vQ
 have jy:(vs.toArray).size=vs.length:=by simp
 rw[jy]
 have aet:∀{kv:Key->Value},(∀i j,j<1024->kv (2000000+i,j)=Lp (2000000+i,j))->∀{i:Nat}{ms:List Mode}{ds:List (DV U)}{vs:List Value}{ls:List (List Nat)}{mu:List Prop×List (DV U)×List Key}{σ:ak U}{ws:List (List (Option U.Ty))},Bb Lp i ms ds vs->tH σ rest i ws ms ds=some mu->Bb kv i ms ds vs:=by
  intro kv hk i ms
  induction ms generalizing i with
  |nil=>intro ds vs ls mu σ ws _ _;cases ds<;>trivial
  |cons m ms ih=>
   intro ds vs ls mu σ ws hp hfm
   cases ds with
   |nil=>trivial
   |cons d ds=>
    cases vs with
    |nil=>trivial
    |cons v vs=>
     simp only[tH] at hfm
     split at hfm
     ·rename_i h1 h2
      refine⟨?_,ih (ls:=[]) hp.2 h2⟩
      have eJ:=hp.1
      cases m with
      |ro=>trivial
      |mv=>trivial
      |box own=>
       cases d with
       |box cs=>exact(hk i 0 (by decide)).trans eJ
       |one _=>trivial
       |agg _=>trivial
       |ptr _=>trivial
       |fn _=>trivial
      |wr=>
       cases d with
       |one c=>exact(hk i 0 (by decide)).trans eJ
       |agg cs=>
        simp only[II] at h1
        rw[iw] at h1
        split at h1
        ·rename_i hlen
         rw[QT] at hlen
         obtain⟨us,q1,q2,q3,q4⟩:=eJ
         refine⟨us,q1,q2,fun j τ xs hj=> ?_,q4⟩
         have hjl:j<cs.length:=by
          rcases pt j cs.length with g|g
          ·exact g
          ·rw[ot g] at hj;cases hj
         exact(hk i j (by omega)).trans (q3 j τ xs hj)
        ·cases h1
       |box _=>trivial
       |ptr _=>trivial
       |fn _=>trivial
     ·cases hfm
 have key:∀(σ:ak U),fin E fn.results.toList fn.resultTypes.toList rest fn.params.toList k.md (k.ds x) (k.oe x) σ->∀F1 kv fp a' w',cR E (RG w F Lp ls) F1 kv fp σ a' w'->a'.defers=[]/\∃v,(results fn a'.tmps).run E.P w'=.ok v w'/\∃(us:List Value)(sQ jh:List (List Nat)),Ending.returned v=.returned (Pr us)/\ic (·∈ls.flatten) w w'/\
   nQ E w' (Fh F w w' (sQ.flatten++jh.flatten) ls.flatten) (k.oe x).fresh (k.oe x).val us sQ/\
   fq E w' (Fh F w w' (sQ.flatten++jh.flatten) ls.flatten) w k.md vs (k.oe x).Ll jh/\
   (sQ.flatten++jh.flatten).Nodup/\(∀b∈sQ.flatten,(b∈ls.flatten\/w.heap.size<=b)/\b<w'.heap.size)/\(∀b∈jh.flatten,b∈ls.flatten\/(w.heap.size<=b/\b<w'.heap.size)):=by
  intro σ sn F1 kv fp a' w' hs0
  refine⟨hs0.defers,?_⟩
  have hs:cR E (RG w F Lp ls) F1 kv fp (jN σ) a' w':=H0 hs0 _
  unfold fin at sn
  split at sn
  ·rename_i ps ds ks qs mu ks' ho hm
   rw[iw] at sn
   split at sn
   ·rename_i hc
    simp only[cN,Gc,qK] at hc
    obtain⟨⟨c1,c3⟩,c5⟩:=hc
    obtain⟨hp,rfl,rfl⟩:=ad6.1 sn
    obtain⟨d1,d2,d3⟩:=amO c1
    have anO:∀i j,j<1024->kv (2000000+i,j)=Lp (2000000+i,j):=fun i j hj=>(hs.Oe (2000000+i,j) (Lp (2000000+i,j)) (by simp[RG,hj])).2.2.2
    obtain⟨jh,m1,m2,m3,m4,_⟩:=adR hs hm (fun p kW=>hp p (by simp[kW])) oi har (aet anO (ls:=[]) aa5 hm) (va.1 d2)
    have yL:∀{k':Key}{b:Nat},((jN σ).bP k').isSome=true->b∈fp k'->¬F1 b/\(b∈ls.flatten\/w.heap.size<=b)/\b<w'.heap.size:=by
     intro k' b cY hb
     obtain⟨e,he⟩:=nA.1 cY
     exact hs.fT k' e b he hb
    have XA:∀b∈jh.flatten,b∈ls.flatten\/(w.heap.size<=b/\b<w'.heap.size):=by
     intro b hb
     obtain⟨k',cY,hb⟩:=m3 b hb
     have:=yL (m4 k' cY) hb
     rcases this.2.1 with g|g
     ·exact .inl g
     ·exact .inr ⟨g,this.2.2⟩
    have hG:∀own:List Nat,(∀b∈own,¬F1 b)->∀b,F1 b->Fh F w w' own ls.flatten b:=fun own ho b hb=>by
     rcases hs.uH b hb with g|g|g
     ·exact .inl g
     ·exact .inr ⟨.inr g,hs.uI b hb,fun hbo=>ho b hbo hb⟩
     ·exact .inr ⟨.inl g,hs.uI b hb,fun hbo=>ho b hbo hb⟩
    obtain⟨us,sQ,o1,o2,o3,o4,o5⟩:=alz hs ho (fun p kW=>hp p (by simp[kW])) (va.1 d1)
    have hG1:=hG (sQ.flatten++jh.flatten) fun b hbo=>by
     rcases jI.1 hbo with g|g
     ·obtain⟨k',cY,g⟩:=o4 b g;exact(yL (o5 k' cY) g).1
     ·obtain⟨k',cY,g⟩:=m3 b g;exact(yL (m4 k' cY) g).1
    refine⟨_,alo o1,_,sQ,jh,rfl,hs.upto,o2 _ hG1 (fun k' e b hkr he hb=> ?_),m1.mono hG1,?_,fun b hb=> ?_,XA⟩
    ·have:=yL (by rw[he];rfl) hb
     refine .inr ⟨this.2.1.symm,this.2.2,fun hbm=> ?_⟩
     have On:∀k2 e2,k2∈ks++ks'->(jN σ).bP k2=some e2->b∉fp k2:=fun k2 e2 lH uB uC=>by
      refine hs.apart k' k2 e e2 b (fun e=> ?_) he uB hb uC
      have:meet (rb E (jN σ) (k.oe x).fresh fn.results.toList) (ks++ks')=true:=vD.2 ⟨k',hkr,tf.2 (by rw[e];exact lH)⟩
      rw[c3] at this;cases this
     rcases jI.1 hbm with g|g
     ·obtain⟨k2,lH,uC⟩:=o4 b g
      obtain⟨e2,uB⟩:=nA.1 (o5 k2 lH)
      exact On k2 e2 (rW _ lH) uB uC
     ·obtain⟨k2,lH,uC⟩:=m3 b g
      obtain⟨e2,uB⟩:=nA.1 (m4 k2 lH)
      exact On k2 e2 (qM _ lH) uB uC
    ·rw[rV]
     refine⟨o3,m2,fun b hb c hc e=> ?_⟩
     subst e
     obtain⟨k1,AB,uD⟩:=o4 b hb
     obtain⟨k2,lH,uC⟩:=m3 b hc
     obtain⟨e1,Wg⟩:=nA.1 (o5 k1 AB)
     obtain⟨e2,uB⟩:=nA.1 (m4 k2 lH)
     exact hs.apart k1 k2 e1 e2 b (fun e=>d3 k1 AB (by rw[e];exact lH)) Wg uB uD uC
    ·obtain⟨k',cY,hb⟩:=o4 b hb
     exact(yL (o5 k' cY) hb).2
   ·exact sn.elim
  ·exact sn.elim
 obtain⟨τ,MB,hwp⟩:=hw x Nn oi.bd rest anz hrn vs (by omega)
 refine hwp (MB h0 (fun i hi=>by simp[Array.getD,eV,hi,zds hi (Nat.le_add_right _ _)])) (fun o ho F1 kv fp a' w' hs=> ?_)
 cases o with
 |normal σ=>exact key σ ho F1 kv fp a' w' hs
 |ret σ=>exact key σ ho F1 kv fp a' w' hs
 |exit id σ=>exact ho.elim
theorem amt(hE:E.Good){f:FuncId}{fn:Func}{c:Code}(hf:E.P.funcs[f]? =some fn)(hb:fn.body=some c)(k:ka U)(oV:k.α->Nat->Option (sS U))(hms:k.md.length<=fn.ntmps)(vQ:fn.ntmps<=1000000)(uD:rR k.md=true\/k.KQ=0)
  (hw:∀x,(∀p∈k.pre x,p)->(∀d∈k.ds x,gN d)->∀rest,(k.md.any lj=true->rest.length=k.KQ)->(k.md.any lj=false->rest=[])->
   AM.wp E (oV x) c (entry rest fn.ntmps k.md (k.ds x)) (leave E fn.results.toList fn.resultTypes.toList rest fn.params.toList k.md (k.ds x) (k.oe x))):eQ E f k:=
 AI hE hf hb k hms vQ uD fun x hp hd rest hr hn _ _=>⟨_,fun h _=>h,MM hE (hw x hp hd rest hr hn)⟩
theorem cR.over{F:Nat->Prop}{kv:Key->Value}{fp:Key->List Nat}{σ:ak U}{a:Act}{w:World}{pm:Pm}(h:cR E pm F kv fp σ a w)(s:Nat)(x:SV U)(hx:RS E w F kv fp (bY σ) x (a.tmps.getD s undef)):
  cR E pm F kv fp {σ with bG:=(s,some x)::σ.bG} a w:=by
 refine{h with bG:=fun t y hy=> ?_}
 unfold ak.get at hy
 simp only[look] at hy
 cases hb:Nat.beq s t<;>rw[hb] at hy<;>simp only[cond_true,cond_false] at hy
 ·exact h.bG t y hy
 ·cases hy
  rw[<-nF hb]
  exact hx
def IK(n:Nat)(b:Bool)(τ:U.Ty)(xs:List (U.T τ)):ak U:={entry [] n [.ro] [.one (.sl τ xs)] with bG:=(0,some (one (.kn b τ xs)))::(entry [] n [.ro] [.one (.sl τ xs)]).bG}
theorem ams(hE:E.Good){f:FuncId}{fn:Func}{c:Code}(hf:E.P.funcs[f]? =some fn)(hb:fn.body=some c)(k:ka U)(oV:k.α->Nat->Option (sS U))(hms:k.md.length<=fn.ntmps)(vQ:fn.ntmps<=1000000)(uD:rR k.md=true\/k.KQ=0)
  (hmd:k.md=[.ro]) (τ:U.Ty) (xs:k.α->List (U.T τ)) (IA:∀x,k.ds x=[.one (.sl τ (xs x))])
  (hw:∀x,(∀p∈k.pre x,p)->(∀d∈k.ds x,gN d)->∀b:Bool,(b=true->xs x=[])->
   AM.wp E (oV x) c (IK fn.ntmps b τ (xs x)) (leave E fn.results.toList fn.resultTypes.toList [] fn.params.toList k.md (k.ds x) (k.oe x))):eQ E f k:=by
 refine AI hE hf hb k hms vQ uD fun x hp hd rest hr hn vs Gx=> ?_
 have j0:rest=[]:=hn (by rw[hmd];rfl)
 subst j0
 have Gx:0<vs.length:=by rw[Gx,hmd];decide
 by_cases hv:vi (vs.getD 0 undef)=true->xs x=[]
 ·refine⟨IK fn.ntmps (vi (vs.getD 0 undef)) τ (xs x),fun{pm F kv fp a w} h ha=> ?_,MM hE (hw x hp hd _ hv)⟩
  rw[hmd,IA] at h
  have h0:=h.bG 0 (one (.c (.sl τ (xs x)))) rfl
  have h1:Rp E w F false (.sl τ (xs x)) (a.tmps.getD 0 undef) []:=cx (lD h0 rfl) rfl
  rw[ha 0 Gx] at h1
  have h2:=h.over 0 (one (.kn (vi (vs.getD 0 undef)) τ (xs x))) (iD (x:=.kn (vi (vs.getD 0 undef)) τ (xs x)) (by rw[ha 0 Gx];exact⟨by rw[<-ha 0 Gx];exact(lD (h.bG 0 (one (.c (.sl τ (xs x)))) rfl) rfl).1,.inr ⟨h1,rfl⟩⟩))
  exact h2
 ·refine⟨IK fn.ntmps false τ (xs x),fun{pm F kv fp a w} h ha=> ?_,MM hE (hw x hp hd _ (by simp))⟩
  rw[hmd,IA] at h
  have h0:=h.bG 0 (one (.c (.sl τ (xs x)))) rfl
  have h1:Rp E w F false (.sl τ (xs x)) (a.tmps.getD 0 undef) []:=cx (lD h0 rfl) rfl
  rw[ha 0 Gx] at h1
  refine absurd (fun hn=> ?_) hv
  rcases h1.inv with⟨h3,_⟩|⟨b,off,cap,wJ,h3,_⟩
  ·exact h3
  ·rw[h3] at hn;simp[vi] at hn
end
theorem Rp.env{E E':Env U}(ht:E'.tid=E.tid){w:World}{F:Nat->Prop}{m:Bool}{c:U.C}{v:Value}{l:List Nat}(h:Rp E w F m c v l):Rp E' w F m c v l:=by
 induction h with
 |lit m v h=>exact .lit m v h
 |nil m τ a c h=>exact .nil m τ a c h
 |shr τ xs b off cap vs Qi hc hm hv hr ih=>exact .shr τ xs b off cap vs Qi hc hm hv ih
 |own τ xs b cap cur vs ie hb hc hm hs hv hr ih=>exact .own τ xs b cap cur vs ie (by rw[ht];exact hb) hc hm hs hv ih
section
variable{E E':Env U}{w:World}{F:Nat->Prop}
theorem fe.env(ht:E'.tid=E.tid){d:Bool}{a:iE U}{v:Value}{l:List Nat}(h:fe E w F d a v l):fe E' w F d a v l:=by
 rcases h with h|⟨b,cap,cur,vs,ie,h1,h2,h3,h4,h5,h6,h7,h8⟩
 ·exact .inl h
 ·exact .inr ⟨b,cap,cur,vs,ie,h1,by rw[ht];exact h2,h3,h4,h5,h6,fun i x j c hx hj=>(h7 i x j c hx hj).env ht,h8⟩
theorem sM.env(ht:E'.tid=E.tid){own:Bool}{cs:List U.C}{rest:List Value}{v:Value}{l:List Nat}(h:sM E w F own cs rest v l):sM E' w F own cs rest v l:=by
 obtain⟨b,cur,e,fl,h1,h2,h3,h4,h5,h6,h7,h8⟩:=h
 exact⟨b,cur,e,fl,h1,h2,h3,h4,h5,h6,fun i c hc=>(h7 i c hc).env ht,h8⟩
theorem mT.env(ht:E'.tid=E.tid){cs:List U.C}{v:Value}{l:List Nat}(h:mT E w F cs v l):mT E' w F cs v l:=by
 obtain⟨vs,fl,h1,h2,h3,h4,h5⟩:=h
 exact⟨vs,fl,h1,h2,h3,fun i c hc=>(h4 i c hc).env ht,h5⟩
theorem RDA.env(ht:E'.tid=E.tid){d:DA U}{v:Value}(h:RDA E w F d v):RDA E' w F d v:=by
 obtain⟨vs,h1,h2,h3⟩:=h
 exact⟨vs,h1,fun i c hc=>(h2 i c hc).env ht,h3⟩
theorem oa.env(hP:E'.P=E.P)(ht:E'.tid=E.tid){p:List (DA U)->Option Value}{v:Value}(h:oa E w F p v):oa E' w F p v:=by
 obtain⟨g,ql,h1,h2,h3⟩:=h
 refine⟨g,ql,h1,by rw[hP];exact h2,fun ds r hr w' F' h4 h5 vs h6=> ?_⟩
 rw[hP]
 exact h3 ds r hr w' F' h4 h5 vs ⟨h6.1,fun i d v hd hv=>(h6.2 i d v hd hv).env ht.symm⟩
theorem o6.env(hP:E'.P=E.P)(ht:E'.tid=E.tid){m:Mode}{d:DV U}{v:Value}{l:List Nat}(h:o6 E w F m d v l):o6 E' w F m d v l:=by
 cases m with
 |ro=>
  cases d with
  |one c=>exact⟨h.1.env ht,h.2⟩
  |agg cs=>obtain⟨vs,h1,h2,h3,h4⟩:=h;exact⟨vs,h1,h2,fun i c hc=>(h3 i c hc).env ht,h4⟩
  |ptr cs=>
   obtain⟨⟨b,o,h1,h2,h3⟩,h4⟩:=h
   exact⟨⟨b,o,h1,h2,fun i c hc=>by obtain⟨u,g1,g2⟩:=h3 i c hc;exact⟨u,g1,g2.env ht⟩⟩,h4⟩
  |fn _=>exact⟨h.1.env hP ht,h.2⟩
  |box _=>exact h.elim
 |wr=>
  cases d with
  |one c=>cases c with
   |lit _=>exact h.elim
   |sl τ xs=>exact fe.env ht h
  |agg _=>exact mT.env ht h
  |box _=>exact h.elim
  |ptr _=>exact h.elim
  |fn _=>exact h.elim
 |mv=>
  cases d with
  |one c=>exact Rp.env ht h
  |agg _=>exact mT.env ht h
  |box _=>exact h.elim
  |ptr _=>exact h.elim
  |fn _=>exact h.elim
 |box own=>
  cases d with
  |box cs=>exact sM.env ht h
  |one _=>exact h.elim
  |agg _=>exact h.elim
  |ptr _=>exact h.elim
  |fn _=>exact h.elim
theorem jD.env(hP:E'.P=E.P)(ht:E'.tid=E.tid):∀{ms:List Mode}{ds:List (DV U)}{vs:List Value}{ls:List (List Nat)},jD E w F ms ds vs ls->jD E' w F ms ds vs ls
 |[],[],[],[],_=>trivial
 |m::ms,d0::ds,v::vs,l::ls,h=>⟨h.1.env hP ht,jD.env hP ht h.2⟩
 |[],_::_,_,_,h=>h.elim
 |[],[],_::_,_,h=>h.elim
 |[],[],[],_::_,h=>h.elim
 |_::_,[],_,_,h=>h.elim
 |_::_,_::_,[],_,h=>h.elim
 |_::_,_::_,_::_,[],h=>h.elim
theorem lg.env(ht:E'.tid=E.tid){fresh:Bool}{d:DV U}{v:Value}{l:List Nat}(h:lg E w F fresh d v l):lg E' w F fresh d v l:=by
 cases d with
 |ptr _=>exact h
 |fn _=>exact h
 |one c=>cases fresh with
  |true=>exact Rp.env ht h
  |false=>exact⟨h.1.env ht,h.2⟩
 |agg cs=>cases fresh with
  |true=>exact mT.env ht h
  |false=>obtain⟨vs,h1,h2,h3,h4⟩:=h;exact⟨vs,h1,h2,fun i c hc=>(h3 i c hc).env ht,h4⟩
 |box cs=>obtain⟨g,b,cur,e,h1,h2,h3,h4,h5⟩:=h;exact⟨g,b,cur,e,h1,h2,h3,h4,fun i c hc=>(h5 i c hc).env ht⟩
theorem nQ.env(ht:E'.tid=E.tid):∀{fs:List Bool}{ds:List (DV U)}{us:List Value}{ls:List (List Nat)},nQ E w F fs ds us ls->nQ E' w F fs ds us ls
 |_,[],[],[],_=>trivial
 |_,d::ds,u::us,l::ls,h=>⟨h.1.env ht,nQ.env ht h.2⟩
 |_,[],_::_,_,h=>h.elim
 |_,[],[],_::_,h=>h.elim
 |_,_::_,[],_,h=>h.elim
 |_,_::_,_::_,[],h=>h.elim
theorem fq.env(ht:E'.tid=E.tid){w0:World}:∀{ms:List Mode}{vs:List Value}{dm:List (DV U)}{ls:List (List Nat)},fq E w F w0 ms vs dm ls->fq E' w F w0 ms vs dm ls:=by
 intro ms
 induction ms with
 |nil=>intro vs dm ls h;cases vs<;>cases dm<;>cases ls<;>first|trivial|exact h.elim
 |cons m ms ih=>
  intro vs dm ls h
  cases m with
  |ro=>cases vs with
   |nil=>cases dm<;>cases ls<;>exact h.elim
   |cons v vs=>simp only[fq] at h⊢;exact ih h
  |mv=>cases vs with
   |nil=>cases dm<;>cases ls<;>exact h.elim
   |cons v vs=>simp only[fq] at h⊢;exact ih h
  |wr=>cases vs with
   |nil=>cases dm<;>cases ls<;>exact h.elim
   |cons v vs=>cases dm with
    |nil=>cases ls<;>exact h.elim
    |cons d dm=>cases d with
     |one c=>cases c with
      |lit _=>cases ls<;>exact h.elim
      |sl τ ys=>cases ls with
       |nil=>exact h.elim
       |cons l ls=>exact⟨h.1.env ht,ih h.2⟩
     |agg cs=>cases ls with
       |nil=>exact h.elim
       |cons l ls=>exact⟨h.1.env ht,ih h.2⟩
     |box _=>cases ls<;>exact h.elim
     |ptr _=>cases ls<;>exact h.elim
     |fn _=>cases ls<;>exact h.elim
  |box own=>cases vs with
   |nil=>cases dm<;>cases ls<;>exact h.elim
   |cons v vs=>cases dm with
    |nil=>cases ls<;>exact h.elim
    |cons d dm=>cases d with
     |box cs=>cases ls with
       |nil=>exact h.elim
       |cons l ls=>exact⟨h.1.env ht,ih h.2⟩
     |one _=>cases ls<;>exact h.elim
     |agg _=>cases ls<;>exact h.elim
     |ptr _=>cases ls<;>exact h.elim
     |fn _=>cases ls<;>exact h.elim
end
theorem eQ.env{E E':Env U}(hP:E'.P=E.P)(ht:E'.tid=E.tid)(hT:E'.UT=E.UT){f:FuncId}{k:ka U}(h:eQ E f k):eQ E' f k:=by
 intro x hp w F vs ls h1 hL h2 Nl h3 h4
 have:=h x hp w F vs ls h1 (by unfold QR;rw[<-hT];exact hL) (h2.env hP.symm ht.symm) Nl h3 h4
 rw[hP]
 refine this.mono ?_
 rintro e w' ⟨us,sQ,jh,g1,g2,g3,g4,g5⟩
 exact⟨us,sQ,jh,g1,g2,g3.env ht,g4.env ht,g5⟩
def L1:List (FuncId×ka U)->FuncId->Option (ka U)
 |[],_=>none
 |(g,k)::r,f=>bif Nat.beq g f then some k else L1 r f
def IP:List (FuncId×ka U)->FuncId->Option (ka U)
 |[],_=>none
 |(g,k)::r,f=>bif Nat.beq g f then L1 r f else IP r f
def Env.add(E:Env U)(l:List (FuncId×ka U)):Env U:={E with Qw:=L1 l,Qv:=IP l}
def Holds(E:Env U)(p:FuncId×ka U):Prop:=zW E.P p.1/\eQ E p.1 p.2
theorem Vk{E:Env U}(hE:E.Ok){l:List (FuncId×ka U)}(h:∀p∈l,Holds E p):(E.add l).Good:=by
 have one:∀{f:FuncId}{k:ka U}{l:List (FuncId×ka U)},L1 l f=some k->(f,k)∈l:=by
  intro f k l
  induction l with
  |nil=>intro h;cases h
  |cons p l ih=>
   obtain⟨g,k'⟩:=p
   intro h
   simp only[L1] at h
   cases hb:Nat.beq g f<;>rw[hb] at h<;>simp only[cond_true,cond_false] at h
   ·exact fF _ (ih h)
   ·cases h
    rw[nF hb]
    exact iH
 have two:∀{f:FuncId}{k:ka U}{l:List (FuncId×ka U)},IP l f=some k->(f,k)∈l:=by
  intro f k l
  induction l with
  |nil=>intro h;cases h
  |cons p l ih=>
   obtain⟨g,k'⟩:=p
   intro h
   simp only[IP] at h
   cases hb:Nat.beq g f<;>rw[hb] at h<;>simp only[cond_true,cond_false] at h
   ·exact fF _ (ih h)
   ·exact fF _ (one h)
 have go:∀{f:FuncId}{k:ka U},(f,k)∈l->zW (E.add l).P f/\eQ (E.add l) f k:=fun hm=>⟨(h _ hm).1,eQ.env (E:=E) (E':=E.add l) rfl rfl rfl (h _ hm).2⟩
 exact⟨⟨hE.code,hE.mixed⟩,fun f k hk=>go (one hk),fun f k hk=>go (two hk)⟩
def n8(fn:Func):Code:=match fn.body with|some c=>c|none=> .skip
def SX(rest:List Value)(E:Env U)(l:List (FuncId×ka U))(fn:Func)(k:ka U)(oV:k.α->Nat->Option (sS U))(x:k.α):Prop:=
 AM.wp (E.add l) (oV x) (n8 fn) (entry rest fn.ntmps k.md (k.ds x)) (leave (E.add l) fn.results.toList fn.resultTypes.toList rest fn.params.toList k.md (k.ds x) (k.oe x))
def aeU(E:Env U)(l:List (FuncId×ka U))(fn:Func)(k:ka U)(oV:k.α->Nat->Option (sS U))(x:k.α):Prop:=SX [] E l fn k oV x
def EN(P:Program)(f:FuncId)(fn:Func)(ms:List Mode):Bool:=
 fn.body.isSome&& !(fn.name== "runtime.NumGoroutine")&&Nat.ble ms.length fn.ntmps&&Nat.ble fn.ntmps 1000000
theorem adG{E:Env U}(hE:E.Ok){f:FuncId}{fn:Func}(hf:E.P.funcs[f]? =some fn)(k:ka U)(hc:EN E.P f fn k.md=true)(l:List (FuncId×ka U))(hl:∀p∈l,Holds E p)
  (oV:k.α->Nat->Option (sS U)) (hw:∀x,(∀p∈k.pre x,p)->(∀d∈k.ds x,gN d)->∀rest,(k.md.any lj=true->rest.length=k.KQ)->(k.md.any lj=false->rest=[])->SX rest E l fn k oV x) (uD:rR k.md=true\/k.KQ=0):Holds E (f,k):=by
 unfold EN at hc
 simp only[cN,qK,QT] at hc
 obtain⟨⟨⟨c1,c2⟩,c3⟩,c4⟩:=hc
 refine⟨⟨fn,hf,c1,c2⟩,?_⟩
 have hb:fn.body=some (n8 fn):=by
  unfold n8
  cases h:fn.body with
  |none=>rw[h] at c1;cases c1
  |some c=>rfl
 have:=amt (E:=E.add l) (Vk hE hl) hf hb k oV c3 c4 uD hw
 exact eQ.env (E:=E.add l) (E':=E) rfl rfl rfl this
theorem holds_of{E:Env U}(hE:E.Ok){f:FuncId}{fn:Func}(hf:E.P.funcs[f]? =some fn)(k:ka U)(hc:EN E.P f fn k.md=true)(l:List (FuncId×ka U))(hl:∀p∈l,Holds E p)
  (oV:k.α->Nat->Option (sS U)) (hw:∀x,(∀p∈k.pre x,p)->(∀d∈k.ds x,gN d)->aeU E l fn k oV x) (h0:k.KQ=0:=by rfl):Holds E (f,k):=
 adG hE hf k hc l hl oV (fun x hp hb rest hr hn=>by
  have e:rest=[]:=by
   cases sq:k.md.any lj with
   |false=>exact hn sq
   |true=>exact Gl ((hr sq).trans h0)
  rw[e];exact hw x hp hb) (.inr h0)
theorem vR{E:Env U}(hE:E.Ok){f:FuncId}{fn:Func}(hf:E.P.funcs[f]? =some fn)(k:ka U)(hc:EN E.P f fn k.md=true)(sq:k.md.any lj=true)(l:List (FuncId×ka U))(hl:∀p∈l,Holds E p)
  (oV:k.α->Nat->Option (sS U)) (hw:∀x,(∀p∈k.pre x,p)->(∀d∈k.ds x,gN d)->∀rest:List Value,rest.length=k.KQ->SX rest E l fn k oV x) (uD:rR k.md=true:=by rfl):Holds E (f,k):=
 adG hE hf k hc l hl oV (fun x hp hb rest hr _=>hw x hp hb rest (hr sq)) (.inl uD)
def BD(E:Env U)(l:List (FuncId×ka U))(fn:Func)(k:ka U)(oV:k.α->Nat->Option (sS U))(x:k.α)(τ:U.Ty)(xs:List (U.T τ))(b:Bool):Prop:=
 AM.wp (E.add l) (oV x) (n8 fn) (IK fn.ntmps b τ xs) (leave (E.add l) fn.results.toList fn.resultTypes.toList [] fn.params.toList k.md (k.ds x) (k.oe x))
theorem Ay{E:Env U}(hE:E.Ok){f:FuncId}{fn:Func}(hf:E.P.funcs[f]? =some fn)(k:ka U)(hc:EN E.P f fn k.md=true)(hmd:k.md=[.ro])(τ:U.Ty)(xs:k.α->List (U.T τ))(IA:∀x,k.ds x=[.one (.sl τ (xs x))])
  (l:List (FuncId×ka U)) (hl:∀p∈l,Holds E p)
  (oV:k.α->Nat->Option (sS U)) (hw:∀x,(∀p∈k.pre x,p)->(∀d∈k.ds x,gN d)->BD E l fn k oV x τ (xs x) false/\(xs x=[]->BD E l fn k oV x τ (xs x) true)):Holds E (f,k):=by
 unfold EN at hc
 simp only[cN,qK,QT] at hc
 obtain⟨⟨⟨c1,c2⟩,c3⟩,c4⟩:=hc
 refine⟨⟨fn,hf,c1,c2⟩,?_⟩
 have hb:fn.body=some (n8 fn):=by
  unfold n8
  cases h:fn.body with
  |none=>rw[h] at c1;cases c1
  |some c=>rfl
 have:=ams (E:=E.add l) (Vk hE hl) hf hb k oV c3 c4 (.inl (by rw[hmd];rfl)) hmd τ xs IA (fun x hp hd b hb=>by
  cases b with
  |false=>exact(hw x hp hd).1
  |true=>exact(hw x hp hd).2 (hb rfl))
 exact eQ.env (E:=E.add l) (E':=E) rfl rfl rfl this
def ph(E:Env U)(l:List (FuncId×ka U))(fn:Func)(k:ka U)(oV:k.α->Nat->Option (sS U))(x:k.α)(r:Nat)(A:sS U):Prop:=
 AM.wp (E.add l) (oV x) (abY r (n8 fn)) (entry [] fn.ntmps k.md (k.ds x)) (ae2 A (leave (E.add l) fn.results.toList fn.resultTypes.toList [] fn.params.toList k.md (k.ds x) (k.oe x)))
def kO(E:Env U)(l:List (FuncId×ka U))(fn:Func)(k:ka U)(oV:k.α->Nat->Option (sS U))(x:k.α)(r:Nat)(A:sS U)(y:A.X):Prop:=
 AM.wp (E.add l) (oV x) (abX r (n8 fn)) (mJ A [] ⟨fn.ntmps,[],[],[]⟩ y) (leave (E.add l) fn.results.toList fn.resultTypes.toList [] fn.params.toList k.md (k.ds x) (k.oe x))
theorem sk{E:Env U}(hE:E.Ok){f:FuncId}{fn:Func}(hf:E.P.funcs[f]? =some fn)(k:ka U)(hc:EN E.P f fn k.md=true)(l:List (FuncId×ka U))(hl:∀p∈l,Holds E p)
  (oV:k.α->Nat->Option (sS U)) (r:Nat) (A:k.α->sS U) (hr:(Qs r (n8 fn)).isSome=true)
  (hw:∀x,(∀p∈k.pre x,p)->(∀d∈k.ds x,gN d)->ph E l fn k oV x r (A x)/\∀y,(A x).I y y->kO E l fn k oV x r (A x) y) (h0:k.KQ=0:=by rfl):Holds E (f,k):=by
 unfold EN at hc
 simp only[cN,qK,QT] at hc
 obtain⟨⟨⟨c1,c2⟩,c3⟩,c4⟩:=hc
 refine⟨⟨fn,hf,c1,c2⟩,?_⟩
 have hb:fn.body=some (n8 fn):=by
  unfold n8
  cases h:fn.body with
  |none=>rw[h] at c1;cases c1
  |some c=>rfl
 obtain⟨p,hp⟩:=nA.1 hr
 have eA:abY r (n8 fn)=p.1:=by simp only[abY,hp]
 have eB:abX r (n8 fn)=p.2:=by simp only[abX,hp]
 have:=AI (E:=E.add l) (Vk hE hl) hf hb k c3 c4 (.inr h0) (fun x hx hd rest hrr Xy _ _=>by
  have e:rest=[]:=by
   cases sq:k.md.any lj with
   |false=>exact Xy sq
   |true=>exact Gl ((hrr sq).trans h0)
  subst e
  obtain⟨g1,g2⟩:=hw x hx hd
  unfold ph at g1
  unfold kO at g2
  rw[eA] at g1
  rw[eB] at g2
  exact⟨_,fun h _=>h,amT (Vk hE hl) hp rfl g1 g2⟩)
 exact eQ.env (E:=E.add l) (E':=E) rfl rfl rfl this
def ka.below(k:ka U)(μ:k.α->Nat)(n:Nat):ka U:={k with pre:=fun x=>(μ x<n)::k.pre x}
theorem Ha{E:Env U}{f:FuncId}{fn:Func}(hf:E.P.funcs[f]? =some fn){k:ka U}(hc:EN E.P f fn k.md=true)(μ:k.α->Nat)(h:∀n,Holds E (f,k.below μ n)->Holds E (f,k.below μ (n+1))):Holds E (f,k):=by
 have Uz:zW E.P f:=by
  unfold EN at hc
  simp only[cN,qK] at hc
  exact⟨fn,hf,hc.1.1.1,hc.1.1.2⟩
 have all:∀n,Holds E (f,k.below μ n):=by
  intro n
  induction n with
  |zero=>exact⟨Uz,fun x hp=>absurd (hp _ iH) (Nat.not_lt_zero _)⟩
  |succ n ih=>exact h n ih
 refine⟨Uz,fun x hp=>(all (μ x+1)).2 x fun p hpp=> ?_⟩
 rcases kc.1 hpp with rfl|hpp
 ·exact Nat.lt_succ_self _
 ·exact hp p hpp
theorem all_nil{α:Type 1}{p:α->Prop}:∀x∈([]:List α),p x:=fun x hx=>by cases hx
theorem all_cons{α:Type 1}{p:α->Prop}{a:α}{l:List α}(h:p a)(hl:∀x∈l,p x):∀x∈a::l,p x:=by
 intro x hx
 rcases kc.1 hx with rfl|hx
 ·exact h
 ·exact hl x hx
end AM
