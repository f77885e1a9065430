/- THE ABSTRACT MACHINE: functions: a contract holds where the weakest precondition of the body does. -/
import Derived.Test.YtlachfpabecaeaaQAmCode
namespace AM
set_option linter.unusedVariables false
open Go
variable{U:dh}
def my(i:Nat)(rest:List Value):Mode->DV U->SV U×List (Nat×b9 U)
 | .ro,.one c=>(one (.c c),[])
 | .ro,.agg cs=>(.v ⟨true,cs.map .c⟩,[])
 | .ro,.ptr cs=>(one (.ia cs),[])
 | .ro,.fn p=>(.fn p,[])
 | .wr,.one (.sl τ xs)=>(one (.ref (2000000+i,0) []),[(0,.arr ⟨τ,xs⟩ true)])
 | .wr,.agg cs=>(.v ⟨true,(ai (2000000+i) true 0 cs).1⟩,(ai (2000000+i) true 0 cs).2)
 | .mv,.one c=>(.v ⟨false,(ai (2000000+i) true 4096 [c]).1⟩,(ai (2000000+i) true 4096 [c]).2)
 | .mv,.agg cs=>(.v ⟨true,(ai (2000000+i) true 4096 cs).1⟩,(ai (2000000+i) true 4096 cs).2)
 | .box true,.box cs=>(one (.cR (2000000+i,0) 0),(0,.box ((ai (2000000+i) true 4096 cs).1++rest.map fun v=> .c (.lit v)))::(ai (2000000+i) true 4096 cs).2)
 | .box false,.box cs=>(one (.cR (2000000+i,0) 0),[(0,.box (cs.map .c++rest.map fun v=> .c (.lit v)))])
 |_,_=>(.iV [],[])
def mA(rest:List Value):Nat->List Mode->List (DV U)->List (Nat×Option (SV U))
 |i,m::ms,d::ds=>(i,some (my i rest m d).1)::mA rest (i+1) ms ds
 |_,_,_=>[]
def q_(rest:List Value):Nat->List Mode->List (DV U)->List (Key×Option (b9 U))
 |i,m::ms,d::ds=>fe (2000000+i) (my i rest m d).2++q_ rest (i+1) ms ds
 |_,_,_=>[]
def entry(rest:List Value)(n:Nat)(ms:List Mode)(ds:List (DV U)):aa U:={n,ap:=mA rest 0 ms ds,tab:=q_ rest 0 ms ds,ag:=[]}
def rv(E:Env U)(σ:aa U):ResultVar->Option (AV U)
 | .tmp t=>match σ.get t with
  |some (.v x)=>some x
  |_=>none
 | .cell a t=>match σ.get a with
  |some (.v ⟨false,[.cR k 0]⟩)=>match σ.aq k,E.size t,E.isAgg t with
   |some (.box cs),some n,some g=>bif Nat.beq n cs.length&&(g||Nat.beq n 1) then some ⟨g,cs⟩ else none
   |_,_,_=>none
  |_=>none
def Au(ds:List (DV U)):Bool:=ds.any fun| .box _=>true|_=>false
def tL(fresh:Bool)(σ:aa U):AV U->Option (List U.C×Key)
 |⟨false,[.cR k 0]⟩=>bif fresh then(match σ.aq k with|some (.box bs)=>(match plain bs with|some l=>some (l,k)|none=>none)|_=>none) else none
 |_=>none
def outs(E:Env U)(σ:aa U):List Bool->List ResultVar->List TypeId->Option (List Prop×List (DV U)×List Key)
 |_,[],_=>some ([],[],[])
 |fs,r::rs,ts=>match rv E σ r with
  |some x=>
   match tL (fs.headD true) σ x with
   |some (l,k)=>match outs E σ fs.tail rs ts.tail with
    |some (qs,ds,ks')=>some (qs,.box l::ds,k::ks')
    |none=>none
   |none=>
   let want:=match ts with|t::_=>E.shape 8 t|[]=>[]
   let tb:=restrict σ.aq (SV.v x).keys
   match(bif fs.headD true then(match bh tb want x.cs with|some (ps,cs,ks,true)=>some (ps,cs,ks)|_=>none) else(match cellsOf tb σ.ag want x.cs with|some (ps,cs)=>some (ps,cs,[])|none=>none)) with
   |some (ps,cs,ks)=>match ra x cs,outs E σ fs.tail rs ts.tail with
    |some d,some (qs,ds,ks')=>some (ps++qs,d::ds,ks++ks')
    |_,_=>none
   |none=>none
  |none=>none
def fh(σ:aa U)(i:Nat):Nat->List U.C->Option (List U.C×List Key)
 |_,[]=>some ([],[])
 |j,.lit v::r=>match fh σ i (j+1) r with|some (cs,ks)=>some (.lit v::cs,ks)|none=>none
 |j,.sl _ _::r=>match σ.aq (2000000+i,j),fh σ i (j+1) r with
  |some (.arr a true),some (cs,ks)=>some (.sl a.τ a.xs::cs,(2000000+i,j)::ks)
  |_,_=>none
def tw(bs:List (AC U))(rest:List Value):List Prop:=(bs.length=rest.length)::(match rest with
 |[]=>[]
 |r=>[bs=r.map fun v=> .c (.lit v)])
theorem C_{bs:List (AC U)}{rest:List Value}(h:∀p∈tw bs rest,p):bs=rest.map fun v=> .c (.lit v):=by
 cases rest with
 |nil=>exact pB (h _ e_)
 |cons r rs=>exact h _ (c9 _ e_)
def ox(σ:aa U)(rest:List Value)(i:Nat)(want:List (Option U.Ty)):Mode->DV U->Option (List Prop×List (DV U)×List Key)
 | .ro,_=>some ([],[],[])
 | .mv,_=>some ([],[],[])
 | .wr,.one (.sl _ _)=>match σ.aq (2000000+i,0) with
  |some (.arr a true)=>some ([],[.one (.sl a.τ a.xs)],[(2000000+i,0)])
  |_=>none
 | .wr,.agg cs=>bif Nat.ble cs.length 1024 then(match fh σ i 0 cs with|some (ds,ks)=>some ([],[.agg ds],ks)|none=>none) else none
 | .box true,.box cs=>match σ.aq (2000000+i,0) with
  |some (.box bs)=>match bh (restrict σ.aq (SV.v ⟨true,bs⟩).keys) want (bs.take cs.length) with
   |some (ps,l,ks,true)=>bif Nat.beq l.length cs.length then some (ps++tw (bs.drop cs.length) rest,[.box l],(2000000+i,0)::ks) else none
   |_=>none
  |_=>none
 | .box false,.box cs=>match σ.aq (2000000+i,0) with
  |some (.box bs)=>match plain (bs.take cs.length) with
   |some l=>bif Nat.beq l.length cs.length then some (tw (bs.drop cs.length) rest,[.box l],[(2000000+i,0)]) else none
   |none=>none
  |_=>none
 |_,_=>none
def gH(σ:aa U)(rest:List Value):Nat->List (List (Option U.Ty))->List Mode->List (DV U)->Option (List Prop×List (DV U)×List Key)
 |i,ws,m::ms,d::ds=>match ox σ rest i (ws.headD []) m d,gH σ rest (i+1) ws.tail ms ds with
  |some (ps,xs,ks),some (qs,ys,ks')=>some (ps++qs,xs++ys,ks++ks')
  |_,_=>none
 |_,_,_,_=>some ([],[],[])
def uQ(ms:List Mode):Bool:=ms.any fun m=>match m with| .wr=>true| .mv=>true| .box true=>true|_=>false
def gM(ms:List Mode):Bool:=ms.all fun| .ro=>true|_=>false
def fA(E:Env U)(σ:aa U):List Bool->List ResultVar->List Key
 |_,[]=>[]
 |fs,r::rs=>(bif fs.headD true then[] else match rv E σ r with|some x=>(SV.v x).keys|none=>[])++fA E σ fs.tail rs
def fin(E:Env U)(rs:List ResultVar)(ts:List TypeId)(rest:List Value)(ps:List TypeId)(ms:List Mode)(ds:List (DV U))(r:Od U)(σ:aa U):Prop:=
 match outs E (cB σ) r.fresh rs ts,gH (cB σ) rest 0 (ps.map E.kq) ms ds with
 |some (ps,vs,ks),some (qs,mu,ks')=>bif distinct (ks++ks')&& !(meet (fA E (cB σ) r.fresh rs) (ks++ks'))&&(!(Au r.val)||gM ms) then s5 (ps++qs) (vs=r.val/\mu=r.qH) else False
 |_,_=>False
def leave(E:Env U)(rs:List ResultVar)(ts:List TypeId)(rest:List Value)(ps:List TypeId)(ms:List Mode)(ds:List (DV U))(r:Od U):Out U->Prop
 | .ret σ=>fin E rs ts rest ps ms ds r σ
 | .normal σ=>fin E rs ts rest ps ms ds r σ
 | .exit _ _=>False
section
variable{E:Env U}{w:World}{F:Nat->Prop}
theorem cv.len:∀{ms:List Mode}{ds:List (DV U)}{vs:List Value}{ls:List (List Nat)},cv E w F ms ds vs ls->ds.length=ms.length/\vs.length=ms.length/\ls.length=ms.length
 |[],[],[],[],_=>⟨rfl,rfl,rfl⟩
 |m::ms,d::ds,v::vs,l::ls,h=>by
  obtain⟨h1,h2,h3⟩:=cv.len h.2
  simp[h1,h2,h3]
 |[],_::_,_,_,h=>h.elim
 |[],[],_::_,_,h=>h.elim
 |[],[],[],_::_,h=>h.elim
 |_::_,[],_,_,h=>h.elim
 |_::_,_::_,[],_,h=>h.elim
 |_::_,_::_,_::_,[],h=>h.elim
theorem ig{ls:List (List Nat)}:ls.flatten.Nodup↔(∀l∈ls,l.Nodup)/\ls.Pairwise (fun a b=>∀x∈a,∀y∈b,x≠y):=List.pairwise_flatten
theorem IZ{ls:List (List Nat)}(h:ls.flatten.Nodup){i j:Nat}(wR:i≠j){b:Nat}(hb:b∈ls.getD i []):b∉ls.getD j []:=by
 intro aj
 rw[ig] at h
 have bZ:∀{k:Nat},b∈ls.getD k []->∃hk:k<ls.length,b∈ls[k]:=by
  intro k hk
  rcases eW k ls.length with g|g
  ·exact⟨g,by rwa[cI,cE g] at hk⟩
  ·rw[cI,eD g] at hk;cases hk
 obtain⟨hi,hb⟩:=bZ hb
 obtain⟨hj,aj⟩:=bZ aj
 have hp:=Oi.1 h.2
 rcases Nat.lt_or_gt_of_ne wR with g|g
 ·exact hp i j hi hj g _ hb _ aj rfl
 ·exact hp j i hj hi g _ aj _ hb rfl
theorem Ic{ls:List (List Nat)}{j b:Nat}(hb:b∈ls.getD j []):b∈ls.flatten:=by
 rcases eW j ls.length with g|g
 ·rw[cI,cE g] at hb
  exact yh.2 ⟨_,yi g,hb⟩
 ·rw[cI,eD g] at hb;cases hb
theorem Dr{ls:List (List Nat)}(h:ls.flatten.Nodup)(j:Nat):(ls.getD j []).Nodup:=by
 rcases eW j ls.length with g|g
 ·rw[cI,cE g]
  exact(ig.1 h).1 _ (yi g)
 ·rw[cI,eD g];exact yg
theorem Jg{a b:List Key}(h:distinct (a++b)=true):distinct a=true/\distinct b=true/\∀k∈a,k∉b:=by
 rw[ic,fW] at h
 exact⟨ic.2 h.1,ic.2 h.2.1,fun k hk aG=>h.2.2 k hk k aG rfl⟩
theorem Je{x:AV U}{cs:List U.C}{d:DV U}{v:Value}{vs:List Value}{fl:List (List Nat)}(hd:ra x cs=some d)(hv:if x.agg then v=.agg vs.toArray else vs=[v])(hl:vs.length=cs.length)(hf:fl.length=cs.length)
  (h:∀(i:Nat)(c:U.C),cs[i]? =some c->Rp E w F true c (vs.getD i undef) (fl.getD i [])):cV E w F true d v fl.flatten:=by
 unfold ra at hd
 cases vD:x.agg<;>rw[vD] at hd hv<;>simp only[cond_true,cond_false,lN,if_false,if_true] at hd hv
 ·split at hd
  ·rename_i c
   cases hd
   subst hv
   simp only[xl,vu] at hf
   obtain⟨l,rfl⟩:=List.length_eq_one_iff.1 hf
   simpa[cV] using h 0 c rfl
  ·cases hd
 ·cases hd
  simp only[cV,if_true]
  exact⟨vs,fl,hv,hl,hf,h,rfl⟩
theorem Jd{x:AV U}{cs:List U.C}{d:DV U}{v:Value}{vs:List Value}(hd:ra x cs=some d)(hv:if x.agg then v=.agg vs.toArray else vs=[v])(hl:vs.length=cs.length)
  (h:∀(i:Nat)(c:U.C),cs[i]? =some c->Rp E w F false c (vs.getD i undef) []):cV E w F false d v []:=by
 unfold ra at hd
 cases vD:x.agg<;>rw[vD] at hd hv<;>simp only[cond_true,cond_false,lN,if_false,if_true] at hd hv
 ·split at hd
  ·rename_i c
   cases hd
   subst hv
   simpa[cV] using h 0 c rfl
  ·cases hd
 ·cases hd
  simp only[cV,lN,if_false]
  exact⟨vs,hv,hl,h,trivial⟩
def vj(i:Nat)(m:Mode)(d:DV U)(v:Value)(kv:Key->Value):Prop:=
 match m,d with
 | .wr,.one _=>kv (2000000+i,0)=v
 | .wr,.agg cs=>∃vs:List Value,v=.agg vs.toArray/\vs.length=cs.length/\(∀(j:Nat)(τ:U.Ty)(xs:List (U.T τ)),cs[j]? =some (.sl τ xs)->kv (2000000+i,j)=vs.getD j undef)/\(∀(j:Nat)(u:Value),cs[j]? =some (.lit u)->vs.getD j undef=u/\bI u)
 | .box _,.box _=>kv (2000000+i,0)=v
 |_,_=>True
def kT(kv:Key->Value):Nat->List Mode->List (DV U)->List Value->Prop
 |i,m::ms,d::ds,v::vs=>vj i m d v kv/\kT kv (i+1) ms ds vs
 |_,_,_,_=>True
def cW:Mode->Bool
 | .box _=>true
 |_=>false
def fK(w:World)(rest:List Value):List Mode->List (DV U)->List Value->Prop
 |m::ms,d::ds,v::vs=>(∀cs,cW m=true->d=.box cs->rest=gp w v cs.length)/\fK w rest ms ds vs
 |_,_,_=>True
def h_(w:World):List Mode->List (DV U)->List Value->List Value
 |m::ms,d::ds,v::vs=>bif cW m then(match d with| .box cs=>gp w v cs.length|_=>[]) else h_ w ms ds vs
 |_,_,_=>[]
def fS:List Mode->Bool
 |[]=>true
 |m::r=>bif cW m then !(r.any cW) else fS r
theorem D7{w:World}{rest:List Value}:∀{ms:List Mode}{ds:List (DV U)}{vs:List Value},ms.any cW=false->fK w rest ms ds vs
 |[],_,_,_=>trivial
 |m::ms,[],_,_=>trivial
 |m::ms,d::ds,[],_=>trivial
 |m::ms,d::ds,v::vs,h=>by
  simp only[ye,vr] at h
  exact⟨fun cs hb _=>(by rw[h.1] at hb;cases hb),D7 h.2⟩
theorem D6{w:World}:∀{ms:List Mode}{ds:List (DV U)}{vs:List Value},fS ms=true->fK w (h_ w ms ds vs) ms ds vs
 |[],_,_,_=>trivial
 |m::ms,[],_,_=>trivial
 |m::ms,d::ds,[],_=>trivial
 |m::ms,d::ds,v::vs,h=>by
  unfold fS at h
  unfold h_
  cases hb:cW m<;>rw[hb] at h<;>simp only[cond_true,cond_false] at h⊢
  ·exact⟨fun cs aj _=>(by rw[hb] at aj;cases aj),D6 h⟩
  ·exact⟨fun cs _ hd=>by rw[hd],D7 (by simpa using h)⟩
theorem D5{w:World}:∀{ms:List Mode}{ds:List (DV U)}{vs:List Value},gN w 0 ms ds vs->fK w [] ms ds vs
 |[],_,_,_=>trivial
 |m::ms,[],_,_=>trivial
 |m::ms,d::ds,[],_=>trivial
 |m::ms,d::ds,v::vs,h=>by
  refine⟨fun cs hb hd=> ?_,D5 h.2⟩
  cases m with
  |box own=>exact(pB (h.1 own cs rfl hd)).symm
  |ro=>cases hb
  |wr=>cases hb
  |mv=>cases hb
theorem Da{w:World}:∀{ms:List Mode}{ds:List (DV U)}{vs:List Value},ms.any cW=false->h_ w ms ds vs=[]
 |[],_,_,_=>rfl
 |m::ms,[],_,_=>rfl
 |m::ms,d::ds,[],_=>rfl
 |m::ms,d::ds,v::vs,h=>by
  simp only[ye,vr] at h
  unfold h_
  rw[h.1]
  exact Da h.2
theorem Db{n:Nat}:∀{ms:List Mode}{ds:List (DV U)}{vs:List Value}{ls:List (List Nat)},cv E w F ms ds vs ls->gN w n ms ds vs->fS ms=true->ms.any cW=true->(h_ w ms ds vs).length=n
 |[],[],[],[],_,_,_,hb=>by simp at hb
 |m::ms,d::ds,v::vs,l::ls,h,hr,h1,hb=>by
  unfold fS at h1
  unfold h_
  cases hm:cW m<;>rw[hm] at h1<;>simp only[cond_true,cond_false] at h1⊢
  ·exact Db h.2 hr.2 h1 (by simpa[hm] using hb)
  ·cases m with
   |box own=>
    cases d with
    |box cs=>exact hr.1 own cs rfl rfl
    |one _=>exact h.1.elim
    |agg _=>exact h.1.elim
    |ptr _=>exact h.1.elim
    |fn _=>exact h.1.elim
   |ro=>cases hm
   |wr=>cases hm
   |mv=>cases hm
 |[],_::_,_,_,h,_,_,_=>h.elim
 |[],[],_::_,_,h,_,_,_=>h.elim
 |[],[],[],_::_,h,_,_,_=>h.elim
 |_::_,[],_,_,h,_,_,_=>h.elim
 |_::_,_::_,[],_,h,_,_,_=>h.elim
 |_::_,_::_,_::_,[],h,_,_,_=>h.elim
theorem tB{dst:Nat}:∀{cs:List U.C}{base:Nat},(((ai dst true base cs).2).map (·.1)).Nodup/\∀p∈(ai dst true base cs).2,base<=p.1
 |[],base=>⟨by simp[ai],fun p hp=>by simp[ai] at hp⟩
 | .lit v::r,base=>by
  obtain⟨h1,h2⟩:=tB (dst:=dst) (cs:=r) (base:=base+1)
  exact⟨by simpa[ai] using h1,fun p hp=>by have:=h2 p (by simpa[ai] using hp);omega⟩
 | .sl τ xs::r,base=>by
  obtain⟨h1,h2⟩:=tB (dst:=dst) (cs:=r) (base:=base+1)
  refine⟨?_,fun p hp=> ?_⟩
  ·simp only[ai,cond_true,mR,fU]
   refine⟨fun hm=> ?_,h1⟩
   obtain⟨p,hp,e⟩:=ez.1 hm
   have:=h2 p hp
   omega
  ·simp only[ai,cond_true,dQ] at hp
   rcases hp with rfl|hp
   ·exact nl _
   ·have:=h2 p hp;omega
theorem Dg{dst:Nat}:∀{cs:List U.C}{base j:Nat}{τ:U.Ty}{xs:List (U.T τ)},cs[j]? =some (.sl τ xs)->(ai dst true base cs).1[j]? =some (.ref (dst,base+j) [])
 |[],base,j,τ,xs,h=>by simp at h
 |c::r,base,j,τ,xs,h=>by
  cases j with
  |zero=>
   simp only[iB,bM] at h
   subst h
   rfl
  |succ j=>
   have:=Dg (dst:=dst) (cs:=r) (base:=base+1) (j:=j) (by simpa using h)
   cases c<;>simpa[ai,tf,BG 1 j] using this
theorem Df{dst:Nat}{fresh:Bool}:∀{cs:List U.C}{base:Nat},(ai dst fresh base cs).1.length=cs.length
 |[],base=>rfl
 | .lit v::r,base=>by simp[ai,Df]
 | .sl τ xs::r,base=>by cases fresh<;>simp[ai,Df]
theorem I_{i:Nat}{rest:List Value}{m:Mode}{d:DV U}{v:Value}{l:List Nat}(h:dV E w F m d v l)(jN:∀cs,cW m=true->d=.box cs->rest=gp w v cs.length):
  ∃t:bm U,(my i rest m d).2=t.es/\(t.map (·.1)).Nodup/\t.bl=l/\∀kv fp bad,(∀s∈t,kv (2000000+i,s.1)=s.2.2.1)->
   RS E w F kv fp bad (my i rest m d).1 v/\(∀s∈t,gO E w F kv fp bad s.2.1 s.2.2.1 s.2.2.2)/\vj i m d v kv:=by
 have agg:∀(bs:Nat){cs:List U.C}{v:Value}{l:List Nat},dN E w F cs v l->∃t:bm U,(ai (2000000+i) true bs cs).2=t.es/\(t.map (·.1)).Nodup/\t.bl=l/\∃vs:List Value,v=.agg vs.toArray/\vs.length=cs.length/\(∀(j:Nat)(u:Value),cs[j]? =some (.lit u)->vs.getD j undef=u/\bI u)/\
   ∀kv fp bad,(∀s∈t,kv (2000000+i,s.1)=s.2.2.1)->dC E w F kv fp bad (ai (2000000+i) true bs cs).1 vs/\(∀s∈t,gO E w F kv fp bad s.2.1 s.2.2.1 s.2.2.2):=by
  rintro bs cs v l ⟨vs,fl,h1,h2,h3,h4,h5⟩
  obtain⟨t,t1,t2,t3,t4⟩:=pJ (dst:=2000000+i) (base:=bs) h2 h3 h4
  refine⟨t,t1,?_,by rw[t3,h5],vs,h1,h2,fun j u hj=> ?_,fun kv fp bad hk=>⟨t4 kv fp bad hk,fun s hs=>t2 s hs kv fp bad⟩⟩
  ·have:=(tB (dst:=2000000+i) (cs:=cs) (base:=bs)).1
   rw[t1] at this
   simpa[bm.es,Function.comp_def] using this
  ·obtain⟨_,g2,g3⟩:=(h4 j _ hj).dy
   exact⟨g2,g3⟩
 cases m with
 |ro=>
  cases d with
  |one c=>exact⟨[],rfl,by simp,h.2.symm,fun kv fp bad _=>⟨kS ⟨h.1.bx,.inr h.1⟩,by simp,trivial⟩⟩
  |agg cs=>
   obtain⟨vs,rfl,h2,h3,h4⟩:=h
   exact⟨[],rfl,by simp,h4.symm,fun kv fp bad _=>⟨⟨vs,qD h2 h3,rfl⟩,by simp,trivial⟩⟩
  |ptr cs=>
   obtain⟨⟨b,o,rfl,h2,h3⟩,h4⟩:=h
   exact⟨[],rfl,by simp,h4.symm,fun kv fp bad _=>⟨kS ⟨⟨rfl,trivial⟩,.inr ⟨b,o,rfl,h2,h3⟩⟩,by simp,trivial⟩⟩
  |fn p=>exact⟨[],rfl,by simp,h.2.symm,fun kv fp bad _=>⟨h.1,by simp,trivial⟩⟩
  |box cs=>exact h.elim
 |wr=>
  cases d with
  |one c=>
   cases c with
   |lit _=>exact h.elim
   |sl τ xs=>
    refine⟨[(0,.arr ⟨τ,xs⟩ true,v,l)],rfl,by simp,by simp[bm.bl],fun kv fp bad hk=> ?_⟩
    have mM:kv (2000000+i,0)=v:=hk _ (gj.2 rfl)
    refine⟨kS ⟨?_,.inr (by simp only[RA];rw[mM];rfl)⟩,fun s hs=>by rw[gj.1 hs];exact h,mM⟩
    rcases h with⟨_,⟨ad,rfl⟩,_⟩|⟨b,cap,cur,vs,bT,rfl,_⟩<;>exact⟨rfl,trivial⟩
  |agg cs=>
   obtain⟨t,t1,t2,t3,vs,t4,t5,t6,t7⟩:=agg 0 h
   refine⟨t,t1,t2,t3,fun kv fp bad hk=> ?_⟩
   obtain⟨g1,g2⟩:=t7 kv fp bad hk
   refine⟨⟨vs,g1,t4⟩,g2,vs,t4,t5,fun j τ xs hj=> ?_,t6⟩
   have hr:=Dg (dst:=2000000+i) (base:=0) hj
   have bZ:j<vs.length:=by
    rw[t5]
    rcases eW j cs.length with g|g
    ·exact g
    ·rw[eD g] at hj;cases hj
   have:=ax (g1.2 j _ _ hr (bg (d:=undef) bZ)) rfl
   simp only[RA,ke] at this
   exact this.symm
  |box _=>exact h.elim
  |ptr _=>exact h.elim
  |fn _=>exact h.elim
 |mv=>
  cases d with
  |one c=>
   obtain⟨t,t1,t2,t3,t4⟩:=pJ (E:=E) (w:=w) (F:=F) (dst:=2000000+i) (base:=4096) (cs:=[c]) (vs:=[v]) (fl:=[l]) rfl rfl (fun j c' hc=>by
    cases j with
    |zero=>simp only[iB,bM] at hc;subst hc;exact h
    |succ j=>simp at hc)
   refine⟨t,t1,?_,by simpa using t3,fun kv fp bad hk=>⟨⟨[v],t4 kv fp bad hk,by simp⟩,fun s hs=>t2 s hs kv fp bad,trivial⟩⟩
   have:=(tB (dst:=2000000+i) (cs:=[c]) (base:=4096)).1
   rw[t1] at this
   simpa[bm.es,Function.comp_def] using this
  |agg cs=>
   obtain⟨t,t1,t2,t3,vs,t4,t5,t6,t7⟩:=agg 4096 h
   refine⟨t,t1,t2,t3,fun kv fp bad hk=> ?_⟩
   obtain⟨g1,g2⟩:=t7 kv fp bad hk
   exact⟨⟨vs,g1,t4⟩,g2,trivial⟩
  |box _=>exact h.elim
  |ptr _=>exact h.elim
  |fn _=>exact h.elim
 |box own=>
  cases d with
  |box cs=>
   have zE:=jN cs rfl rfl
   obtain⟨b,cur,e,fl,h1,h2,h3,h4,h5,h6,h7,h8⟩:=h
   rw[<-zE] at h4 h5
   have cp:cur.toList.take cs.length++cur.toList.drop cs.length=cur.toList:=vq _ _
   have gA:∀(j:Nat)(c:U.C),cs[j]? =some c->(cur.toList.take cs.length).getD j undef=cur.toList.getD j undef:=by
    intro j c hc
    have hj:j<cs.length:=by
     rcases eW j cs.length with g|g
     ·exact g
     ·rw[eD g] at hc;cases hc
    simp only[cI,eP,if_pos hj]
   have xO:∀kv fp bad,dC E w F kv fp bad (rest.map fun v=> .c (.lit v)) rest:=by
    intro kv fp bad
    refine⟨by simp,fun j x u hx hu=> ?_⟩
    rw[eC,hu] at hx
    cases hx
    exact jx (h5 u (np hu))
   cases own with
   |true=>
    obtain⟨t,t1,t2,t3,t4⟩:=pJ (E:=E) (w:=w) (F:=F) (dst:=2000000+i) (base:=4096) (cs:=cs) (vs:=cur.toList.take cs.length) (fl:=fl) (by simp;omega) h6 (fun j c hc=>by rw[gA j c hc];exact h7 j c hc)
    have xK:=tB (dst:=2000000+i) (cs:=cs) (base:=4096)
    refine⟨(0,.box ((ai (2000000+i) true 4096 cs).1++rest.map fun v=> .c (.lit v)),v,[b])::t,by simp[my,bm.es,t1],?_,by rw[h8];simp only[bm.bl,ln,List.singleton_append] at t3⊢;rw[t3],fun kv fp bad hk=> ?_⟩
    ·rw[mR,fU]
     have h0:(t.map (·.1))=((ai (2000000+i) true 4096 cs).2).map (·.1):=by rw[t1];simp[bm.es,Function.comp_def]
     rw[h0]
     refine⟨fun hm=> ?_,xK.1⟩
     obtain⟨p,hp,e⟩:=ez.1 hm
     have:=xK.2 p hp
     simp only at e
     omega
    ·have mM:kv (2000000+i,0)=v:=hk _ e_
     have kF:=fun s hs=>hk s (c9 _ hs)
     refine⟨kS ⟨by rw[h1];exact⟨rfl,trivial⟩,.inr ⟨b,by rw[mM,h1],h1⟩⟩,fun s hs=> ?_,mM⟩
     rcases dQ.1 hs with rfl|hs
     ·refine⟨b,cur,e,h1,h2,rfl,?_⟩
      rw[<-cp,h4]
      exact(t4 kv fp bad kF).append (xO kv fp bad)
     ·exact t2 s hs kv fp bad
   |false=>
    have p6:fl.flatten=[]:=by
     rw[G0]
     intro b' aj
     obtain⟨l',p5,nf⟩:=yh.1 aj
     obtain⟨j,hj,rfl⟩:=pA p5
     have gY:j<cs.length:=by omega
     have:=h7 j _ (cE gY)
     rw[cI (l:=fl),cE hj] at this
     exact this.wD (F':=fun _=>False) nf
    rw[p6] at h8
    refine⟨[(0,.box (cs.map .c++rest.map fun v=> .c (.lit v)),v,[b])],rfl,by simp,by simp[bm.bl,h8],fun kv fp bad hk=> ?_⟩
    have mM:kv (2000000+i,0)=v:=hk _ e_
    refine⟨kS ⟨by rw[h1];exact⟨rfl,trivial⟩,.inr ⟨b,by rw[mM,h1],h1⟩⟩,fun s hs=> ?_,mM⟩
    rw[gj.1 hs]
    refine⟨b,cur,e,h1,h2,rfl,?_⟩
    rw[<-cp,h4]
    refine(qD (by simp;omega) (fun j c hc=> ?_)).append (xO kv fp bad)
    rw[gA j c hc]
    have:=h7 j c hc
    exact this.di (fun _ hb=>hb) (fun b' aj=>this.wD aj)
  |one _=>exact h.elim
  |agg _=>exact h.elim
  |ptr _=>exact h.elim
  |fn _=>exact h.elim
theorem Ib{dst:Nat}{t:bm U}{k:Key}{e:b9 U}(h:a9 (fe dst t.es) k=some e):∃s∈t,k=(dst,s.1)/\e=s.2.1:=by
 have:=l4 h
 simp only[fe,bm.es,List.map_map,ez,Function.comp,eX,bM] at this
 obtain⟨s,hs,h1,h2⟩:=this
 exact⟨s,hs,h1.symm,h2.symm⟩
theorem DO{rest:List Value}:∀{ms:List Mode}{ds:List (DV U)}{vs:List Value}{ls:List (List Nat)}{i:Nat},cv E w F ms ds vs ls->fK w rest ms ds vs->
  ∃ts:List (bm U),ts.map bm.bl=ls/\(∀t∈ts,(t.map (·.1)).Nodup)/\
   (∀k e,a9 (q_ rest i ms ds) k=some e->∃j s,s∈ts.getD j []/\k=(2000000+(i+j),s.1)/\e=s.2.1)/\
   ∀kv fp bad,(∀j s,s∈ts.getD j []->kv (2000000+(i+j),s.1)=s.2.2.1)->
    (∀s x,look (mA rest i ms ds) s=some x->∃j,s=i+j/\j<vs.length/\RS E w F kv fp bad x (vs.getD j undef))/\
    (∀j s,s∈ts.getD j []->gO E w F kv fp bad s.2.1 s.2.2.1 s.2.2.2)/\kT kv i ms ds vs
 |[],[],[],[],i,_,_=>⟨[],rfl,by simp,fun k e he=>(by cases he),fun kv fp bad _=>⟨fun s x hs=>(by cases hs),by simp,trivial⟩⟩
 |m::ms,d::ds,v::vs,l::ls,i,h,hr=>by
  obtain⟨ts,i1,i2,i3,i4⟩:=DO (rest:=rest) (i:=i+1) h.2 hr.2
  obtain⟨t,t1,t2,t3,t4⟩:=I_ (i:=i) h.1 hr.1
  refine⟨t::ts,by rw[mR,t3,i1],fun t' ht=> ?_,fun k e he=> ?_,fun kv fp bad hk=> ?_⟩
  ·rcases dQ.1 ht with rfl|ht
   ·exact t2
   ·exact i2 t' ht
  ·have he:=(mT _ _ _).symm.trans he
   split at he
   ·rw[t1] at he
    obtain⟨s,hs,h1,h2⟩:=Ib he
    exact⟨0,s,by simpa using hs,by simpa using h1,h2⟩
   ·obtain⟨j,s,hs,h1,h2⟩:=i3 k e he
    exact⟨j+1,s,by simpa using hs,by rw[h1];simp only[eX,and_true];omega,h2⟩
  ·obtain⟨g1,g2,g3⟩:=t4 kv fp bad (fun s hs=>by have:=hk 0 s (by simpa using hs);simpa using this)
   obtain⟨k1,k2,k3⟩:=i4 kv fp bad (fun j s hs=>by have:=hk (j+1) s (by simpa using hs);simpa[tf,BG 1 j] using this)
   refine⟨fun s x hs=> ?_,fun j s hs=> ?_,g3,k3⟩
   ·have hs:=(qA _ _ _ _).symm.trans hs
    split at hs
    ·rename_i e;cases hs;exact⟨0,by simp[e],by simp,by simpa using g1⟩
    ·obtain⟨j,rfl,h2,h3⟩:=k1 s x hs
     exact⟨j+1,by omega,by simpa using h2,by simpa using h3⟩
   ·cases j with
    |zero=>exact g2 s (by simpa using hs)
    |succ j=>exact k2 j s (by simpa using hs)
 |[],_::_,_,_,_,h,_=>h.elim
 |[],[],_::_,_,_,h,_=>h.elim
 |[],[],[],_::_,_,h,_=>h.elim
 |_::_,[],_,_,_,h,_=>h.elim
 |_::_,_::_,[],_,_,h,_=>h.elim
 |_::_,_::_,_::_,[],_,h,_=>h.elim
def tM(w:World)(F:Nat->Prop)(kv:Key->Value)(ls:List (List Nat)):Pm:=
 ⟨w,fun b=>b∈ls.flatten,F,fun k=>if 2000000<=k.1/\k.2<1024 then some (kv k) else none⟩
theorem IS{ts:List (bm U)}{j:Nat}:(ts.map bm.bl).getD j []=(ts.getD j []).bl:=by
 rw[cI,cI,eC]
 cases ts[j]? <;>rfl
theorem I'{n:Nat}{rest:List Value}{ms:List Mode}{ds:List (DV U)}{vs:List Value}{ls:List (List Nat)}(hF:∀b,F b->b<w.heap.size)(na:vH E w F)(h:cv E w F ms ds vs ls)(hr:fK w rest ms ds vs)(hn:ls.flatten.Nodup)(hl:∀b∈ls.flatten,b<w.heap.size/\¬F b)
  (BW:ms.length<=n) (iG:n<=1000000):
  ∃pT w5,aC E (tM w F pT ls) F pT w5 (entry rest n ms ds) {tmps:=vs.toArray++Array.replicate (n-vs.length) undef,defers:=[]} w/\kT pT 0 ms ds vs:=by
 obtain⟨l1,l2,l3⟩:=h.len
 obtain⟨ts,i1,i2,i3,i4⟩:=DO (rest:=rest) (i:=0) h hr
 have eH:∀{j:Nat},((ts.getD j []).map (·.1)).Nodup:=by
  intro j
  rcases eW j ts.length with g|g
  ·rw[cI,cE g];exact i2 _ (yi g)
  ·rw[cI,eD g];exact yg
 let pT:Key->Value:=fun k=>(ts.getD (k.1-2000000) []).lg k.1 (fun _=>undef) k
 let w5:Key->List Nat:=fun k=>(ts.getD (k.1-2000000) []).kJ k.1 (fun _=>[]) k
 have sP:∀j s,s∈ts.getD j []->pT (2000000+(0+j),s.1)=s.2.2.1:=by
  intro j s hs
  simp only[pT,ke,Nat.add_sub_cancel_left]
  exact bm.jI eH hs
 have gB:∀j s,s∈ts.getD j []->w5 (2000000+(0+j),s.1)=s.2.2.2:=by
  intro j s hs
  simp only[w5,ke,Nat.add_sub_cancel_left]
  exact bm.iI eH hs
 obtain⟨g1,g2,g3⟩:=i4 pT w5 (av (entry rest n ms ds)) sP
 have sV:∀{j:Nat},(ts.getD j []).bl=ls.getD j []:=fun{j}=>by rw[<-i1,IS]
 have Ap:∀{j:Nat}{s:Nat×b9 U×Value×List Nat}{b:Nat},s∈ts.getD j []->b∈s.2.2.2->b∈ls.getD j []:=fun{j s b} hs hb=>by rw[<-sV];exact bm.fj.2 ⟨s,hs,hb⟩
 refine⟨pT,w5,⟨by simp[entry];omega,rfl,fun s x hs=> ?_,fun k e he=> ?_,fun k k' e e' b a_ h1 h2 hb=> ?_,fun k e he=> ?_,fun k e b he hb=> ?_,hF,fun b hb=> .inl hb,bH.refl _ _,fun k v hk=> ?_,na⟩,g3⟩
 ·obtain⟨j,rfl,hj,h3⟩:=g1 s x hs
  have:(vs.toArray++Array.replicate (n-vs.length) undef).getD (0+j) undef=vs.getD j undef:=by
   rw[ke,tm,Array.getElem?_append_left (by simpa using hj)]
   simp[cI]
  show RS E w F _ _ _ x ((vs.toArray++Array.replicate (n-vs.length) undef).getD (0+j) undef)
  rw[this];exact h3
 ·obtain⟨j,s,hs,rfl,rfl⟩:=i3 k e he
  rw[sP j s hs,gB j s hs]
  exact g2 j s hs
 ·obtain⟨j,s,hs,rfl,rfl⟩:=i3 k e h1
  obtain⟨j',s',cO,rfl,rfl⟩:=i3 k' e' h2
  rw[gB j s hs] at hb
  rw[gB j' s' cO]
  by_cases hj:j=j'
  ·subst hj
   have iT:(ts.getD j []).bl.Nodup:=by rw[sV];exact Dr hn j
   exact bm.gg iT hs cO (fun e=>a_ (by rw[e])) hb
  ·exact fun aj=>IZ hn hj (Ap hs hb) (Ap cO aj)
 ·obtain⟨j,s,hs,rfl,rfl⟩:=i3 k e he
  rw[gB j s hs]
  have iT:(ts.getD j []).bl.Nodup:=by rw[sV];exact Dr hn j
  exact bm.j7 iT hs
 ·obtain⟨j,s,hs,rfl,rfl⟩:=i3 k e he
  rw[gB j s hs] at hb
  have:=Ic (Ap hs hb)
  exact⟨(hl b this).2,.inl this,(hl b this).1⟩
 ·simp only[tM] at hk
  split at hk
  ·rename_i hc
   cases hk
   exact⟨hc.1,hc.2,iG,rfl⟩
  ·cases hk
variable{pm:Pm}{kv:Key->Value}{fp:Key->List Nat}{σ:aa U}{a:Act}
def qw(tmps:Array Value):ResultVar->Sem Value
 | .tmp t=>pure (tmps.getD t undef)
 | .cell a t=>do loadVar t (<-asAddr (tmps.getD a undef))
def pi(P:Program)(tmps:Array Value)(w:World):List ResultVar->List Value->Prop
 |[],[]=>True
 |r::rs,u::us=>(qw tmps r).run P w=.ok u w/\pi P tmps w rs us
 |_,_=>False
theorem Du{P:Program}{tmps:Array Value}{w:World}:∀{rs:List ResultVar}{us:List Value},pi P tmps w rs us->(List.mapM (qw tmps) rs).run P w=.ok us w
 |[],[],_=>rfl
 |r::rs,u::us,h=>by
  rw[List.mapM_cons,Sem.run_bind,h.1]
  simp only[Result.andThen,Sem.run_bind,Du h.2]
  rfl
 |[],_::_,h=>h.elim
 |_::_,[],h=>h.elim
theorem HP{P:Program}{fn:Func}{tmps:Array Value}{w:World}{us:List Value}(h:pi P tmps w fn.results.toList us):
  (results fn tmps).run P w=.ok (nQ us) w:=by
 have hg:(fun x=>match x with
   |ResultVar.tmp t=>(pure (tmps.getD t undef):Sem Value)
   |ResultVar.cell a t=>do loadVar t (<-asAddr (tmps.getD a undef)))=qw tmps:=by
  funext x;cases x<;>rfl
 unfold results
 have hr:fn.results=fn.results.toList.toArray:=rfl
 rw[hr,List.mapM_toArray]
 show Sem.run P (do
  let vs←Functor.map List.toArray (List.mapM (fun x=>match x with
   |ResultVar.tmp t=>(pure (tmps.getD t undef):Sem Value)
   |ResultVar.cell a t=>do loadVar t (<-asAddr (tmps.getD a undef))) fn.results.toList)
  pure (if h:vs.size=1 then vs[0] else Value.tuple vs)) w=_
 rw[hg,Sem.run_bind]
 have hm:(Functor.map List.toArray (List.mapM (qw tmps) fn.results.toList)).run P w=.ok us.toArray w:=by
  rw[map_eq_pure_bind,Sem.run_bind,Du h]
  rfl
 rw[hm]
 show Result.ok _ w=_
 congr 1
 match us with
 |[]=>rfl
 |[t]=>rfl
 |t::u::r=>
  rw[dif_neg (by simp)]
  rfl
theorem Dc(h:aC E pm F kv fp σ a w){r:ResultVar}{x:AV U}(hr:rv E σ r=some x):∃u,(qw a.tmps r).run E.P w=.ok u w/\RV E w F kv fp (av σ) x u:=by
 unfold rv at hr
 split at hr
 ·rename_i t
  split at hr
  ·rename_i y hy
   cases hr
   exact⟨_,rfl,h.ap t _ hy⟩
  ·cases hr
 ·rename_i s t
  split at hr
  ·rename_i k hk
   split at hr
   ·rename_i cs n g he hn hg
    rw[bY] at hr
    split at hr
    ·rename_i hc
     cases hr
     simp only[dR] at hc
     obtain⟨b,h1,h2⟩:=ax (nX (h.ap s _ hk)) rfl
     obtain⟨b',cur,e,h3,h4,h5,h6⟩:=h.aJ k _ he
     rw[h1] at h3;cases h3
     have hlen:n=cur.toList.length:=(en hc.1).trans h6.1
     obtain⟨v,zr,zq⟩:=v9 (E:=E) (w:=w) (us:=cur.toList) (off:=0) (b:=b) hn hg hc.2 hlen.symm (fun j v hj=>by
      simp only[World.cell?,h4,ke]
      simpa using hj)
     refine⟨v,?_,cur.toList,h6,zq⟩
     have bf:(qw a.tmps (.cell s t)).run E.P w=(Instr.loadAt t (.pointer (some ⟨b,0,none⟩))).run E.P w:=by
      simp only[qw,h2,asAddr,Instr.loadAt,Instr.sureAddr,pure_bind]
     rw[bf];exact zr
    ·cases hr
   ·cases hr
  ·cases hr
theorem HY(h:aC E pm F kv fp σ a w):∀{rs:List ResultVar}{fs:List Bool}{ts:List TypeId}{ps:List Prop}{ds:List (DV U)}{ks:List Key},outs E σ fs rs ts=some (ps,ds,ks)->(∀p∈ps,p)->ks.Nodup->
  ∃(us:List Value)(dj:List (List Nat)),pi E.P a.tmps w rs us/\(∀F':Nat->Prop,(∀b,F b->F' b)->(∀k e b,k∈fA E σ fs rs->σ.aq k=some e->b∈fp k->F' b)->dw E w F' fs ds us dj)/\dj.flatten.Nodup/\(∀b∈dj.flatten,∃k∈ks,b∈fp k)/\(∀k∈ks,(σ.aq k).isSome=true):=by
 intro rs
 induction rs with
 |nil=>
  intro fs ts ps ds ks ho hp hn
  simp only[outs,bM,eX] at ho
  obtain⟨rfl,rfl,rfl⟩:=ho
  exact⟨[],[],trivial,fun _ _ _=>trivial,by simp,by simp,by simp⟩
 |cons r rs ih=>
  intro fs ts ps ds ks ho hp hn
  have oj:∀k,k∈fA E σ fs.tail rs->k∈fA E σ fs (r::rs):=fun k hk=>by
   simp only[fA,cZ];exact .inr hk
  simp only[outs] at ho
  split at ho
  ·rename_i x hx
   split at ho
   ·rename_i l k jO
    split at ho
    ·rename_i qs B_ Gi pV
     cases ho
     have hh:fs.headD true=true:=by
      cases hh:fs.headD true with
      |true=>rfl
      |false=>
       rw[hh] at jO
       unfold tL at jO
       split at jO<;>cases jO
     rw[hh] at jO
     unfold tL at jO
     split at jO
     ·rename_i k0
      simp only[cond_true] at jO
      split at jO
      ·rename_i bs he
       split at jO
       ·rename_i l' hl
        cases jO
        obtain⟨kW,n2⟩:=fU.1 hn
        obtain⟨us,dj,i1,i2,i3,i4,i5⟩:=ih pV hp n2
        obtain⟨u,hu,vs,r1,r2⟩:=Dc h hx
        simp only[lN,if_false] at r2
        subst r2
        obtain⟨b,sP,rfl⟩:=ax (r1.2 0 _ u rfl rfl) rfl
        obtain⟨b',cur,e',g1,g2,g3,g4⟩:=h.aJ k _ he
        rw[sP] at g1
        simp only[Value.pointer.injEq,bM,Addr.mk.injEq] at g1
        obtain⟨rfl,_,_⟩:=g1
        have gS:=sd hl
        have m_:bs.length=l.length:=by rw[gS];simp
        have wW:cV E w F true (.box l:DV U) (.pointer (some ⟨b,0,none⟩)) [b]:=by
         refine⟨rfl,b,cur,e',rfl,g2,rfl,by rw[<-m_,g4.1];simp,fun i c hc=> ?_⟩
         have KT:bs[i]? =some (.c c):=by rw[gS,eC,hc];rfl
         have bZ:i<cur.toList.length:=by
          rw[<-g4.1]
          rcases eW i bs.length with g|g
          ·exact g
          ·rw[eD g] at KT;cases KT
         have ga:cur.toList[i]? =some (cur.toList[i]):=cE bZ
         rw[cI,ga]
         exact(ax (g4.2 i _ _ KT ga) rfl:Rp E w F false _ _ _)
        refine⟨_::us,[b]::dj,⟨hu,i1⟩,fun F' jr B7=>⟨by rw[hh];exact cV.bG jr wW,i2 F' jr fun k e b hk=>B7 k e b (oj k hk)⟩,?_,fun b' aj=> ?_,fun k' aG=> ?_⟩
        ·rw[qq,fW]
         refine⟨by simp,i3,fun b' aj c hc e=> ?_⟩
         rw[gj.1 aj] at e
         subst e
         obtain⟨k2,ej,gT⟩:=i4 b hc
         obtain⟨e2,g_⟩:=ef.1 (i5 k2 ej)
         exact h.apart k k2 _ e2 b (fun e=>kW (e▸ej)) he g_ (by rw[g3];exact gj.2 rfl) gT
        ·rw[qq,cZ] at aj
         rcases aj with aj|aj
         ·rw[gj.1 aj]
          exact⟨k,e_,by rw[g3];exact gj.2 rfl⟩
         ·obtain⟨k2,ej,gT⟩:=i4 b' aj
          exact⟨k2,c9 _ ej,gT⟩
        ·rcases dQ.1 aG with rfl|aG
         ·rw[he];rfl
         ·exact i5 k' aG
       ·cases jO
      ·cases jO
     ·cases jO
    ·cases ho
   split at ho
   ·rename_i vx cs Gj gy
    split at ho
    ·rename_i d qs B_ Gi hd pV
     simp only[bM,eX] at ho
     obtain⟨rfl,rfl,rfl⟩:=ho
     rw[fW] at hn
     obtain⟨n1,n2,n3⟩:=hn
     obtain⟨us,dj,i1,i2,i3,i4,i5⟩:=ih pV (fun p cT=>hp p (by simp[cT])) n2
     obtain⟨u,hu,vs,r1,r2⟩:=Dc h hx
     cases hh:fs.headD true with
     |true=>
      rw[hh] at gy
      simp only[cond_true] at gy
      split at gy
      ·rename_i pP iP ks' zw
       cases gy
       obtain⟨g1,g2,g3,g4⟩:=qy h zw (fun p cT=>hp p (by simp[cT])) r1 n1
       obtain⟨fl,f1,f2,f3,f4⟩:=g3 rfl
       refine⟨u::us,fl.flatten::dj,⟨hu,i1⟩,fun F' jr B7=>⟨by rw[hh];exact cV.bG jr (Je hd r2 (by rw[g1];exact r1.1.symm) f1 f2),i2 F' jr fun k e b hk=>B7 k e b (oj k hk)⟩,?_,fun b hb=> ?_,fun k hk=> ?_⟩
       ·rw[qq,fW]
        refine⟨f3,i3,fun b hb c hc e=> ?_⟩
        subst e
        obtain⟨k1,kF,gE⟩:=f4 b hb
        obtain⟨k2,ej,gT⟩:=i4 b hc
        obtain⟨e1,Al⟩:=ef.1 (g2 k1 kF)
        obtain⟨e2,g_⟩:=ef.1 (i5 k2 ej)
        exact h.apart k1 k2 e1 e2 b (n3 k1 kF k2 ej) Al g_ gE gT
       ·rw[qq,cZ] at hb
        rcases hb with hb|hb
        ·obtain⟨k,hk,hb⟩:=f4 b hb;exact⟨k,fy _ hk,hb⟩
        ·obtain⟨k,hk,hb⟩:=i4 b hb;exact⟨k,eZ _ hk,hb⟩
       ·rcases cZ.1 hk with hk|hk
        ·exact g2 k hk
        ·exact i5 k hk
      ·cases gy
     |false=>
      rw[hh] at gy
      simp only[cond_false] at gy
      split at gy
      ·rename_i pP iP zw
       cases gy
       obtain⟨g1,g2⟩:=DW h zw (fun p cT=>hp p (by simp[cT])) r1
       refine⟨u::us,[]::dj,⟨hu,i1⟩,fun F' jr B7=>⟨by
        rw[hh]
        refine Jd hd r2 (by rw[g1];exact r1.1.symm) (fun i c hc=>(g2 i c hc).bG (fun b hb=> ?_))
        rcases hb with hb|⟨k,hk,hb⟩
        ·exact jr b hb
        ·rw[po] at hk
         obtain⟨e,he⟩:=ef.1 hk.2
         exact B7 k e b (by simp only[fA,hh,cond_false,cZ,hx];exact .inl hk.1) he hb,i2 F' jr fun k e b hk=>B7 k e b (oj k hk)⟩,by simpa using i3,by simpa using i4,by simpa using i5⟩
      ·cases gy
    ·cases ho
   ·cases ho
  ·cases ho
theorem y3(h:aC E pm F kv fp σ a w){i:Nat}:∀{cs:List U.C}{j:Nat}{vs:List Value}{ds:List U.C}{ks:List Key},fh σ i j cs=some (ds,ks)->vs.length=cs.length->
  (∀(n:Nat)(τ:U.Ty)(xs:List (U.T τ)),cs[n]? =some (.sl τ xs)->kv (2000000+i,j+n)=vs.getD n undef)->(∀(n:Nat)(u:Value),cs[n]? =some (.lit u)->vs.getD n undef=u/\bI u)->
  ds.length=cs.length/\∃fl:List (List Nat),fl.length=ds.length/\(∀(n:Nat)(c:U.C),ds[n]? =some c->Rp E w F true c (vs.getD n undef) (fl.getD n []))/\fl.flatten=ks.flatMap fp/\(∀k∈ks,(σ.aq k).isSome=true/\j<=k.2)/\ks.Nodup
 |[],j,vs,ds,ks,hf,hl,h1,h2=>by
  simp only[fh,bM,eX] at hf
  obtain⟨rfl,rfl⟩:=hf
  exact⟨rfl,[],rfl,fun n c hc=>by simp at hc,rfl,by simp,by simp⟩
 |c::cs,j,[],ds,ks,hf,hl,h1,h2=>by simp at hl
 |c::cs,j,v::vs,ds,ks,hf,hl,h1,h2=>by
  have qn:∀(n:Nat)(τ:U.Ty)(xs:List (U.T τ)),cs[n]? =some (.sl τ xs)->kv (2000000+i,j+1+n)=vs.getD n undef:=fun n τ xs hn=>by
   have:=h1 (n+1) τ xs (by simpa using hn)
   simpa[tf,BG 1 n] using this
  have w4:∀(n:Nat)(u:Value),cs[n]? =some (.lit u)->vs.getD n undef=u/\bI u:=fun n u hn=>by simpa using h2 (n+1) u (by simpa using hn)
  cases c with
  |lit u=>
   simp only[fh] at hf
   split at hf
   ·rename_i OX ks' B3
    cases hf
    obtain⟨i1,fl,i2,i3,i4,i5,i6⟩:=y3 h B3 (by simpa using hl) qn w4
    obtain⟨g1,g2⟩:=h2 0 u rfl
    have JW:v=u:=by simpa using g1
    subst JW
    refine⟨by simp[i1],[]::fl,by simp[i2],fun n c hc=> ?_,by simpa using i4,fun k hk=>⟨(i5 k hk).1,by have:=(i5 k hk).2;omega⟩,i6⟩
    cases n with
    |zero=>simp only[iB,bM] at hc;subst hc;exact .lit _ _ g2
    |succ n=>simpa using i3 n c (by simpa using hc)
   ·cases hf
  |sl τ xs=>
   simp only[fh] at hf
   split at hf
   ·rename_i y OX ks' he B3
    cases hf
    obtain⟨i1,fl,i2,i3,i4,i5,i6⟩:=y3 h B3 (by simpa using hl) qn w4
    have hv:kv (2000000+i,j)=v:=by simpa using h1 0 τ xs rfl
    have ho:ba E w F true y (kv (2000000+i,j)) (fp (2000000+i,j)):=h.aJ _ _ he
    refine⟨by simp[i1],fp (2000000+i,j)::fl,by simp[i2],fun n c hc=> ?_,by simp[i4],fun k hk=> ?_,?_⟩
    ·cases n with
     |zero=>simp only[iB,bM] at hc;subst hc;rw[hv] at ho;exact ho.rp
     |succ n=>simpa using i3 n c (by simpa using hc)
    ·rcases dQ.1 hk with rfl|hk
     ·exact⟨by rw[he];rfl,nl _⟩
     ·exact⟨(i5 k hk).1,by have:=(i5 k hk).2;omega⟩
    ·rw[fU]
     exact⟨fun hm=>by have:=(i5 _ hm).2;simp only at this;omega,i6⟩
   ·cases hf
theorem I1(h:aC E pm F kv fp σ a w){w0:World}{F0:Nat->Prop}{rest:List Value}{i:Nat}{want:List (Option U.Ty)}{m:Mode}{d:DV U}{v:Value}{l:List Nat}{ps:List Prop}{mu:List (DV U)}{ks:List Key}
  (hf:ox σ rest i want m d=some (ps,mu,ks)) (hp:∀p∈ps,p) (eh:dV E w0 F0 m d v l) (jN:∀cs,cW m=true->d=.box cs->rest=gp w0 v cs.length) (m9:vj i m d v kv) (hn:ks.Nodup):
  ∃bQ,bk E w F w0 [m] [v] mu bQ/\bQ.flatten.Nodup/\(∀b∈bQ.flatten,∃k∈ks,b∈fp k)/\(∀k∈ks,(σ.aq k).isSome=true)/\(m=.box false->∀b∈l,∃k∈ks,b∈fp k):=by
 cases m with
 |ro=>
  simp only[ox,bM,eX] at hf
  obtain⟨_,rfl,rfl⟩:=hf
  exact⟨[],trivial,by simp,by simp,by simp,fun e=>by cases e⟩
 |mv=>
  simp only[ox,bM,eX] at hf
  obtain⟨_,rfl,rfl⟩:=hf
  exact⟨[],trivial,by simp,by simp,by simp,fun e=>by cases e⟩
 |wr=>
  cases d with
  |one c=>
   cases c with
   |lit _=>exact eh.elim
   |sl τ xs=>
    simp only[ox] at hf
    split at hf
    ·rename_i y he
     cases hf
     have hv:kv (2000000+i,0)=v:=m9
     have ho:ba E w F true y (kv (2000000+i,0)) (fp (2000000+i,0)):=h.aJ _ _ he
     rw[hv] at ho
     exact⟨[fp (2000000+i,0)],⟨ho,trivial⟩,by simpa using h.nodup _ _ he,by simp,by simp[he],fun e=>by cases e⟩
    ·cases hf
  |agg cs=>
   simp only[ox] at hf
   rw[bY] at hf
   split at hf
   ·split at hf
    ·rename_i ds ks' PZ
     cases hf
     obtain⟨vs,p1,p2,p3,p4⟩:=m9
     obtain⟨i1,fl,i2,i3,i4,i5,i6⟩:=y3 h PZ p2 (by simpa using p3) p4
     refine⟨[fl.flatten],⟨⟨vs,fl,p1,by rw[p2,i1],i2,i3,rfl⟩,trivial⟩,?_,fun b hb=> ?_,fun k hk=>(i5 k hk).1,fun e=>by cases e⟩
     ·simp only[qq,Ce,nk]
      rw[i4]
      exact yZ h i6 (fun k hk=>(i5 k hk).1)
     ·simp only[qq,Ce,nk] at hb
      rw[i4] at hb
      exact eY.1 hb
    ·cases hf
   ·cases hf
  |box _=>exact eh.elim
  |ptr _=>exact eh.elim
  |fn _=>exact eh.elim
 |box own=>
  cases d with
  |one _=>exact eh.elim
  |agg _=>exact eh.elim
  |ptr _=>exact eh.elim
  |fn _=>exact eh.elim
  |box cs=>
   have zE:=jN cs rfl rfl
   have hv:kv (2000000+i,0)=v:=m9
   obtain⟨b0,Ll,e0,Qv,z1,z2,z3,z4,z5,z6,z7,z8⟩:=eh
   have qN:∀{bs:List (AC U)}{cur:Array Value}{n:Nat},dC E w F kv fp (av σ) bs cur.toList->bs.drop n=rest.map (fun v=> .c (.lit v))->cur.toList.drop n=rest:=by
    intro bs cur n hd he
    have h1:=hd.drop n
    rw[he] at h1
    refine vp fun j=> ?_
    cases hj:rest[j]? with
    |none=>
     rw[List.getElem?_eq_none_iff] at hj⊢
     rw[<-h1.1];simpa using hj
    |some u=>
     have bZ:j<(cur.toList.drop n).length:=by
      rw[<-h1.1,tj]
      rcases eW j rest.length with g|g
      ·exact g
      ·rw[eD g] at hj;cases hj
     rw[cE bZ]
     have:=ze (h1.2 j (.c (.lit u)) _ (by rw[eC,hj];rfl) (cE bZ))
     rw[this]
   cases own with
   |true=>
    simp only[ox] at hf
    split at hf
    ·rename_i bs he
     split at hf
     ·rename_i pP l0 ks' ht
      rw[bY] at hf
      split at hf
      ·rename_i pZ
       cases hf
       have pZ:=en pZ
       obtain⟨b,cur,e,h3,h4,h5,h6⟩:=h.aJ _ _ he
       rw[hv] at h3
       obtain⟨g1,g2,g3,_⟩:=qy h ht (fun p cT=>hp p (by simp[cT])) (h6.take cs.length) (fU.1 hn).2
       obtain⟨fl,f1,f2,f3,f4⟩:=g3 rfl
       have zJ:bs.drop cs.length=rest.map fun v=> .c (.lit v):=C_ fun p cT=>hp p (eZ _ cT)
       have uJ:=qN h6 zJ
       have sV:cs.length<=cur.size:=by
        have h8:bs.length=cur.size:=by have:=h6.1;simpa using this
        rw[g1,kg] at pZ
        omega
       have Ar:b∉fl.flatten:=by
        intro hb
        obtain⟨k',aG,aj⟩:=f4 b hb
        obtain⟨e2,g_⟩:=ef.1 (g2 k' aG)
        exact h.apart _ k' _ e2 b (fun e=>(fU.1 hn).1 (by rw[e];exact aG)) he g_ (by rw[h5];simp) aj
       refine⟨[b::fl.flatten],⟨⟨b,cur,e,fl,h3,h4,by omega,by rw[pZ,uJ,zE],by rw[pZ];exact z5,f1,fun j c hc=> ?_,rfl⟩,trivial⟩,(by rw[qq,Ce,nk,fU];exact⟨Ar,f3⟩),fun c hc=> ?_,fun k hk=> ?_,fun e=>by cases e⟩
       ·have hj:j<cs.length:=by
         rw[<-pZ]
         rcases eW j l0.length with g|g
         ·exact g
         ·rw[eD g] at hc;cases hc
        have:=f2 j c hc
        rw[cI,eP,if_pos hj,<-cI] at this
        exact this
       ·simp only[qq,Ce,nk,dQ] at hc
        rcases hc with rfl|hc
        ·exact⟨_,e_,by rw[h5];simp⟩
        ·obtain⟨k',aG,hc⟩:=f4 c hc;exact⟨k',c9 _ aG,hc⟩
       ·rcases dQ.1 hk with rfl|hk
        ·rw[he];rfl
        ·exact g2 k hk
      ·cases hf
     ·cases hf
    ·cases hf
   |false=>
    simp only[ox] at hf
    split at hf
    ·rename_i bs he
     split at hf
     ·rename_i l0 oe
      rw[bY] at hf
      split at hf
      ·rename_i pZ
       cases hf
       have pZ:=en pZ
       have gS:=sd oe
       obtain⟨b,cur,e,h3,h4,h5,h6⟩:=h.aJ _ _ he
       rw[hv] at h3
       have zJ:bs.drop cs.length=rest.map fun v=> .c (.lit v):=C_ fun p cT=>hp p cT
       have uJ:=qN h6 zJ
       have h8:bs.length=cur.size:=by have:=h6.1;simpa using this
       have sV:cs.length<=cur.size:=by
        have:=congrArg List.length gS
        rw[kg,tj,pZ] at this
        omega
       refine⟨[[b]],⟨⟨b,cur,e,List.replicate l0.length [],h3,h4,by omega,by rw[pZ,uJ,zE],by rw[pZ];exact z5,by simp,fun j c hc=> ?_,by rw[kt]⟩,trivial⟩,by simp,fun c hc=>⟨_,e_,by rw[h5];simpa using hc⟩,by simp[he],fun _ c hc=> ?_⟩
       ·have hj:j<cs.length:=by
         rw[<-pZ]
         rcases eW j l0.length with g|g
         ·exact g
         ·rw[eD g] at hc;cases hc
        have Gu:bs[j]? =some (.c c):=by
         have:(bs.take cs.length)[j]? =some (.c c):=by rw[gS,eC,hc];rfl
         rwa[eP,if_pos hj] at this
        have h7:=ax (h6.2 j (.c c) (cur.toList.getD j undef) Gu (bg (by simp;omega))) rfl
        rw[nT]
        exact h7
       ·refine⟨_,e_,?_⟩
        rw[h5]
        rw[z1] at h3
        cases h3
        rw[z8,dQ] at hc
        rcases hc with rfl|hc
        ·simp
        ·exfalso
         obtain⟨l',p5,nf⟩:=yh.1 hc
         obtain⟨j,hj,rfl⟩:=pA p5
         have gY:j<cs.length:=by omega
         have:=z7 j _ (cE gY)
         rw[cI (l:=Qv),cE hj] at this
         exact this.wD (F':=fun _=>False) nf
      ·cases hf
     ·cases hf
    ·cases hf
theorem bk.cons{w0:World}{m:Mode}{v:Value}{tV:List (DV U)}{nu:List (List Nat)}{ms:List Mode}{vs:List Value}{Oq:List (DV U)}{wE:List (List Nat)}(h:bk E w F w0 [m] [v] tV nu)(h':bk E w F w0 ms vs Oq wE):
  bk E w F w0 (m::ms) (v::vs) (tV++Oq) (nu++wE):=by
 cases m with
 |ro=>cases tV<;>cases nu<;>first|exact h.elim|exact h'
 |mv=>cases tV<;>cases nu<;>first|exact h.elim|exact h'
 |wr=>
  cases tV with
  |nil=>cases nu<;>exact h.elim
  |cons d tV=>
   cases nu with
   |nil=>cases d<;>first|exact h.elim|(rename_i c;cases c<;>exact h.elim)
   |cons l nu=>
    cases d with
    |one c=>cases c with
     |lit _=>exact h.elim
     |sl τ ys=>
      obtain⟨h1,h2⟩:=h
      cases tV<;>cases nu<;>first|exact h2.elim|exact⟨h1,h'⟩
    |agg cs=>
     obtain⟨h1,h2⟩:=h
     cases tV<;>cases nu<;>first|exact h2.elim|exact⟨h1,h'⟩
    |box _=>exact h.elim
    |ptr _=>exact h.elim
    |fn _=>exact h.elim
 |box own=>
  cases tV with
  |nil=>cases nu<;>exact h.elim
  |cons d tV=>
   cases nu with
   |nil=>cases d<;>exact h.elim
   |cons l nu=>
    cases d with
    |box cs=>
     obtain⟨h1,h2⟩:=h
     cases tV<;>cases nu<;>first|exact h2.elim|exact⟨h1,h'⟩
    |one _=>exact h.elim
    |agg _=>exact h.elim
    |ptr _=>exact h.elim
    |fn _=>exact h.elim
theorem DM(h:aC E pm F kv fp σ a w){w0:World}{F0:Nat->Prop}{rest:List Value}:∀{ms:List Mode}{i:Nat}{ws:List (List (Option U.Ty))}{ds:List (DV U)}{vs:List Value}{ls:List (List Nat)}{ps:List Prop}{mu:List (DV U)}{ks:List Key},
  gH σ rest i ws ms ds=some (ps,mu,ks)->(∀p∈ps,p)->cv E w0 F0 ms ds vs ls->fK w0 rest ms ds vs->kT kv i ms ds vs->ks.Nodup->
  ∃bQ,bk E w F w0 ms vs mu bQ/\bQ.flatten.Nodup/\(∀b∈bQ.flatten,∃k∈ks,b∈fp k)/\(∀k∈ks,(σ.aq k).isSome=true)/\(uQ ms=false->∀b∈ls.flatten,∃k∈ks,b∈fp k)
 |[],i,ws,[],[],[],ps,mu,ks,hf,hp,eh,hr,m9,hn=>by
  simp only[gH,bM,eX] at hf
  obtain⟨_,rfl,rfl⟩:=hf
  exact⟨[],trivial,by simp,by simp,by simp,by simp⟩
 |m::ms,i,ws,d::ds,v::vs,l::ls,ps,mu,ks,hf,hp,eh,hr,m9,hn=>by
  simp only[gH] at hf
  split at hf
  ·rename_i vx xs Gj qs ys Gi h1 h2
   cases hf
   rw[fW] at hn
   obtain⟨n1,n2,n3⟩:=hn
   obtain⟨nu,i1,i2,i3,i4,i5⟩:=I1 h h1 (fun p cT=>hp p (by simp[cT])) eh.1 hr.1 m9.1 n1
   obtain⟨wE,j1,j2,j3,j4,j5⟩:=DM h h2 (fun p cT=>hp p (by simp[cT])) eh.2 hr.2 m9.2 n2
   refine⟨nu++wE,i1.cons j1,?_,fun b hb=> ?_,fun k hk=>(cZ.1 hk).elim (i4 k) (j4 k),fun ho b hb=> ?_⟩
   ·rw[pq,fW]
    refine⟨i2,j2,fun b hb c hc e=> ?_⟩
    subst e
    obtain⟨k1,kF,gE⟩:=i3 b hb
    obtain⟨k2,ej,gT⟩:=j3 b hc
    obtain⟨e1,Al⟩:=ef.1 (i4 k1 kF)
    obtain⟨e2,g_⟩:=ef.1 (j4 k2 ej)
    exact h.apart k1 k2 e1 e2 b (n3 k1 kF k2 ej) Al g_ gE gT
   ·rw[pq,cZ] at hb
    rcases hb with hb|hb
    ·obtain⟨k,hk,hb⟩:=i3 b hb;exact⟨k,fy _ hk,hb⟩
    ·obtain⟨k,hk,hb⟩:=j3 b hb;exact⟨k,eZ _ hk,hb⟩
   ·simp only[uQ,ye,vr] at ho
    rw[qq,cZ] at hb
    rcases hb with hb|hb
    ·have:m=.ro\/m=.box false:=by
      cases m with
      |ro=>exact .inl rfl
      |wr=>simp at ho
      |mv=>simp at ho
      |box own=>cases own with
       |true=>simp at ho
       |false=>exact .inr rfl
     rcases this with rfl|rfl
     ·have:l=[]:=by cases d<;>first|exact eh.1.2|(obtain⟨_,_,_,_,h⟩:=eh.1;exact h)|exact eh.1.elim
      rw[this] at hb;cases hb
     ·obtain⟨k,hk,hb⟩:=i5 rfl b hb;exact⟨k,fy _ hk,hb⟩
    ·obtain⟨k,hk,hb⟩:=j5 ho.2 b hb;exact⟨k,eZ _ hk,hb⟩
  ·cases hf
 |[],_,_,_::_,_,_,_,_,_,_,_,eh,_,_,_=>eh.elim
 |[],_,_,[],_::_,_,_,_,_,_,_,eh,_,_,_=>eh.elim
 |[],_,_,[],[],_::_,_,_,_,_,_,eh,_,_,_=>eh.elim
 |_::_,_,_,[],_,_,_,_,_,_,_,eh,_,_,_=>eh.elim
 |_::_,_,_,_::_,[],_,_,_,_,_,_,eh,_,_,_=>eh.elim
 |_::_,_,_,_::_,_::_,[],_,_,_,_,_,eh,_,_,_=>eh.elim
theorem bk.mono{w0:World}{F':Nat->Prop}(hF:∀b,F b->F' b):∀{ms:List Mode}{vs:List Value}{dm:List (DV U)}{ls:List (List Nat)},bk E w F w0 ms vs dm ls->bk E w F' w0 ms vs dm ls:=by
 intro ms
 induction ms with
 |nil=>intro vs dm ls h;cases vs<;>cases dm<;>cases ls<;>first|trivial|exact h.elim
 |cons m ms ih=>
  intro vs dm ls h
  cases m with
  |ro=>cases vs with
   |nil=>cases dm<;>cases ls<;>exact h.elim
   |cons v vs=>simp only[bk] at h⊢;exact ih h
  |mv=>cases vs with
   |nil=>cases dm<;>cases ls<;>exact h.elim
   |cons v vs=>simp only[bk] at h⊢;exact ih h
  |wr=>cases vs with
   |nil=>cases dm<;>cases ls<;>exact h.elim
   |cons v vs=>cases dm with
    |nil=>cases ls<;>exact h.elim
    |cons d dm=>cases d with
     |one c=>cases c with
      |lit _=>cases ls<;>exact h.elim
      |sl τ ys=>cases ls with
       |nil=>exact h.elim
       |cons l ls=>exact⟨ba.any h.1,ih h.2⟩
     |agg cs=>cases ls with
       |nil=>exact h.elim
       |cons l ls=>exact⟨h.1.any,ih h.2⟩
     |box _=>cases ls<;>exact h.elim
     |ptr _=>cases ls<;>exact h.elim
     |fn _=>cases ls<;>exact h.elim
  |box own=>cases vs with
   |nil=>cases dm<;>cases ls<;>exact h.elim
   |cons v vs=>cases dm with
    |nil=>cases ls<;>exact h.elim
    |cons d dm=>cases d with
     |box cs=>cases ls with
       |nil=>exact h.elim
       |cons l ls=>exact⟨h.1.bG hF,ih h.2⟩
     |one _=>cases ls<;>exact h.elim
     |agg _=>cases ls<;>exact h.elim
     |ptr _=>cases ls<;>exact h.elim
     |fn _=>cases ls<;>exact h.elim
theorem ru:∀{ms:List Mode}{ds:List (DV U)}{vs:List Value}{ls:List (List Nat)},cv E w F ms ds vs ls->gM ms=true->ls.flatten=[]
 |[],[],[],[],_,_=>rfl
 |m::ms,d::ds,v::vs,l::ls,h,hr=>by
  simp only[gM,F7,dR] at hr
  have h2:=ru h.2 hr.2
  have h1:l=[]:=by
   cases m with
   |ro=>cases d<;>first|exact h.1.2|(obtain⟨_,_,_,_,h⟩:=h.1;exact h)|exact h.1.elim
   |wr=>simp at hr
   |mv=>simp at hr
   |box _=>simp at hr
  simp[h1,h2]
 |[],_::_,_,_,h,_=>h.elim
 |[],[],_::_,_,h,_=>h.elim
 |[],[],[],_::_,h,_=>h.elim
 |_::_,[],_,_,h,_=>h.elim
 |_::_,_::_,[],_,h,_=>h.elim
 |_::_,_::_,_::_,[],h,_=>h.elim
inductive Bd:U.C->Prop
 |lit (v:Value) (h:bI v):Bd (.lit v)
 |sl (τ:U.Ty) (xs:List (U.T τ)) (hl:xs.length<=maxLen) (h:∀(i:Nat)(x:U.T τ)(j:Nat)(c:U.C),xs[i]? =some x->(U.enc τ x)[j]? =some c->Bd c):Bd (.sl τ xs)
theorem Rp.bd{m:Bool}{c:U.C}{v:Value}{l:List Nat}(h:Rp E w F m c v l):Bd c:=by
 induction h with
 |lit m v h=>exact .lit v h
 |nil m τ a c h=>exact .sl τ [] (by simp) (fun i x j c hx=>by simp at hx)
 |shr τ xs b off cap vs sX hc hm hv hr ih=>exact .sl τ xs hm ih
 |own τ xs b cap cur vs bT hb hc hm hs hv hr ih=>exact .sl τ xs (tg hc hm) ih
def gP:DV U->Prop
 | .one c=>Bd c
 | .agg cs=>∀c∈cs,Bd c
 | .box cs=>∀c∈cs,Bd c
 | .ptr cs=>∀c∈cs,Bd c
 | .fn _=>True
theorem oG{cs:List U.C}(hh:∀(i:Nat)(c:U.C),cs[i]? =some c->Bd c):∀c∈cs,Bd c:=by
 intro c hc
 obtain⟨i,hi,rfl⟩:=pA hc
 exact hh i _ (cE hi)
theorem dN.bd{cs:List U.C}{v:Value}{l:List Nat}(h:dN E w F cs v l):∀c∈cs,Bd c:=by
 obtain⟨vs,fl,_,_,_,h4,_⟩:=h
 exact oG fun i c hc=>(h4 i c hc).bd
theorem dV.bd{m:Mode}{d:DV U}{v:Value}{l:List Nat}(h:dV E w F m d v l):gP d:=by
 cases m with
 |ro=>
  cases d with
  |one c=>exact h.1.bd
  |agg cs=>obtain⟨vs,_,_,h3,_⟩:=h;exact oG fun i c hc=>(h3 i c hc).bd
  |ptr cs=>
   obtain⟨⟨b,o,_,_,h3⟩,_⟩:=h
   exact oG fun i c hc=>by obtain⟨u,_,h5⟩:=h3 i c hc;exact h5.bd
  |fn _=>trivial
  |box _=>exact h.elim
 |wr=>
  cases d with
  |one c=>
   cases c with
   |lit _=>exact h.elim
   |sl τ xs=>exact(h.di (F':=fun _=>True) (fun _ _=>trivial) (fun _ _=>trivial)).bd
  |agg _=>exact dN.bd h
  |box _=>exact h.elim
  |ptr _=>exact h.elim
  |fn _=>exact h.elim
 |mv=>
  cases d with
  |one c=>exact Rp.bd h
  |agg _=>exact dN.bd h
  |box _=>exact h.elim
  |ptr _=>exact h.elim
  |fn _=>exact h.elim
 |box own=>
  cases d with
  |box cs=>obtain⟨b,cur,e,fl,_,_,_,_,_,_,h7,_⟩:=h;exact oG fun i c hc=>(h7 i c hc).bd
  |one _=>exact h.elim
  |agg _=>exact h.elim
  |ptr _=>exact h.elim
  |fn _=>exact h.elim
theorem cv.bd:∀{ms:List Mode}{ds:List (DV U)}{vs:List Value}{ls:List (List Nat)},cv E w F ms ds vs ls->∀d∈ds,gP d
 |[],[],[],[],_,d,hd=>by simp at hd
 |m::ms,d0::ds,v::vs,l::ls,h,d,hd=>by
  rcases dQ.1 hd with rfl|hd
  ·exact h.1.bd
  ·exact cv.bd h.2 d hd
 |[],_::_,_,_,h,_,_=>h.elim
 |[],[],_::_,_,h,_,_=>h.elim
 |[],[],[],_::_,h,_,_=>h.elim
 |_::_,[],_,_,h,_,_=>h.elim
 |_::_,_::_,[],_,h,_,_=>h.elim
 |_::_,_::_,_::_,[],h,_,_=>h.elim
theorem kK(hE:E.Good){f:FuncId}{fn:Func}{c:Code}(hf:E.P.funcs[f]? =some fn)(hb:fn.body=some c)(k:bB U)(BW:k.md.length<=fn.ntmps)(iG:fn.ntmps<=1000000)(gE:fS k.md=true\/k.qv=0)
  (hw:∀x,(∀p∈k.pre x,p)->(∀d∈k.ds x,gP d)->∀rest,(k.md.any cW=true->rest.length=k.qv)->(k.md.any cW=false->rest=[])->
   ∀vs:List Value,vs.length=k.md.length->∃τ,(∀{pm:Pm}{F:Nat->Prop}{kv:Key->Value}{fp:Key->List Nat}{a:Act}{w:World},aC E pm F kv fp (entry rest fn.ntmps k.md (k.ds x)) a w->(∀i,i<vs.length->a.tmps.getD i undef=vs.getD i undef)->aC E pm F kv fp τ a w)/\
    Oc E c τ (leave E fn.results.toList fn.resultTypes.toList rest fn.params.toList k.md (k.ds x) (k.cf x))):aZ E f k:=by
 intro x qO w F vs ls hF na eh zI eH uw
 obtain⟨l1,l2,l3⟩:=eh.len
 refine calls_of_wp hf hb ?_
 obtain⟨rest,J_,OO,Oz⟩:∃rest:List Value,(k.md.any cW=true->rest.length=k.qv)/\fK w rest k.md (k.ds x) vs/\(k.md.any cW=false->rest=[]):=by
  rcases gE with gE|gE
  ·exact⟨h_ w k.md (k.ds x) vs,fun h=>Db eh zI gE h,D6 gE,fun h=>Da h⟩
  ·rw[gE] at zI
   exact⟨[],fun _=>gE.symm,D5 zI,fun _=>rfl⟩
 obtain⟨pT,w5,h0,zL⟩:=I' (n:=fn.ntmps) (rest:=rest) hF na eh OO eH uw BW iG
 have ci:(vs.toArray).size=vs.length:=by simp
 rw[ci]
 have EF:∀{kv:Key->Value},(∀i j,j<1024->kv (2000000+i,j)=pT (2000000+i,j))->∀{i:Nat}{ms:List Mode}{ds:List (DV U)}{vs:List Value}{ls:List (List Nat)}{mu:List Prop×List (DV U)×List Key}{σ:aa U}{ws:List (List (Option U.Ty))},kT pT i ms ds vs->gH σ rest i ws ms ds=some mu->kT kv i ms ds vs:=by
  intro kv hk i ms
  induction ms generalizing i with
  |nil=>intro ds vs ls mu σ ws _ _;cases ds<;>trivial
  |cons m ms ih=>
   intro ds vs ls mu σ ws hp KB
   cases ds with
   |nil=>trivial
   |cons d ds=>
    cases vs with
    |nil=>trivial
    |cons v vs=>
     simp only[gH] at KB
     split at KB
     ·rename_i h1 h2
      refine⟨?_,ih (ls:=[]) hp.2 h2⟩
      have mK:=hp.1
      cases m with
      |ro=>trivial
      |mv=>trivial
      |box own=>
       cases d with
       |box cs=>exact(hk i 0 (by decide)).trans mK
       |one _=>trivial
       |agg _=>trivial
       |ptr _=>trivial
       |fn _=>trivial
      |wr=>
       cases d with
       |one c=>exact(hk i 0 (by decide)).trans mK
       |agg cs=>
        simp only[ox] at h1
        rw[bY] at h1
        split at h1
        ·rename_i hlen
         rw[vo] at hlen
         obtain⟨us,q1,q2,q3,q4⟩:=mK
         refine⟨us,q1,q2,fun j τ xs hj=> ?_,q4⟩
         have Gq:j<cs.length:=by
          rcases eW j cs.length with g|g
          ·exact g
          ·rw[eD g] at hj;cases hj
         exact(hk i j (by omega)).trans (q3 j τ xs hj)
        ·cases h1
       |box _=>trivial
       |ptr _=>trivial
       |fn _=>trivial
     ·cases KB
 have key:∀(σ:aa U),fin E fn.results.toList fn.resultTypes.toList rest fn.params.toList k.md (k.ds x) (k.cf x) σ->∀F1 kv fp a' w',aC E (tM w F pT ls) F1 kv fp σ a' w'->a'.defers=[]/\∃v,(results fn a'.tmps).run E.P w'=.ok v w'/\∃(us:List Value)(dj bQ:List (List Nat)),Ending.returned v=.returned (nQ us)/\bH (·∈ls.flatten) w w'/\
   dw E w' (fg F w w' (dj.flatten++bQ.flatten) ls.flatten) (k.cf x).fresh (k.cf x).val us dj/\
   bk E w' (fg F w w' (dj.flatten++bQ.flatten) ls.flatten) w k.md vs (k.cf x).qH bQ/\
   (dj.flatten++bQ.flatten).Nodup/\(∀b∈dj.flatten,(b∈ls.flatten\/w.heap.size<=b)/\b<w'.heap.size)/\(∀b∈bQ.flatten,b∈ls.flatten\/(w.heap.size<=b/\b<w'.heap.size)):=by
  intro σ gZ F1 kv fp a' w' lh
  refine⟨lh.defers,?_⟩
  have hs:aC E (tM w F pT ls) F1 kv fp (cB σ) a' w':=nR lh _
  unfold fin at gZ
  split at gZ
  ·rename_i ps ds ks qs mu ks' ho hm
   rw[bY] at gZ
   split at gZ
   ·rename_i hc
    simp only[dR,qo,k_] at hc
    obtain⟨⟨c1,c3⟩,c5⟩:=hc
    obtain⟨hp,rfl,rfl⟩:=D2.1 gZ
    obtain⟨d1,d2,d3⟩:=Jg c1
    have Kt:∀i j,j<1024->kv (2000000+i,j)=pT (2000000+i,j):=fun i j hj=>(hs.rA (2000000+i,j) (pT (2000000+i,j)) (by simp[tM,hj])).2.2.2
    obtain⟨bQ,m1,m2,m3,m4,_⟩:=DM hs hm (fun p cT=>hp p (by simp[cT])) eh OO (EF Kt (ls:=[]) zL hm) (ic.1 d2)
    have jP:∀{k':Key}{b:Nat},((cB σ).aq k').isSome=true->b∈fp k'->¬F1 b/\(b∈ls.flatten\/w.heap.size<=b)/\b<w'.heap.size:=by
     intro k' b aG hb
     obtain⟨e,he⟩:=ef.1 aG
     exact hs.bC k' e b he hb
    have xN:∀b∈bQ.flatten,b∈ls.flatten\/(w.heap.size<=b/\b<w'.heap.size):=by
     intro b hb
     obtain⟨k',aG,hb⟩:=m3 b hb
     have:=jP (m4 k' aG) hb
     rcases this.2.1 with g|g
     ·exact .inl g
     ·exact .inr ⟨g,this.2.2⟩
    have hG:∀own:List Nat,(∀b∈own,¬F1 b)->∀b,F1 b->fg F w w' own ls.flatten b:=fun own ho b hb=>by
     rcases hs.hH b hb with g|g|g
     ·exact .inl g
     ·exact .inr ⟨.inr g,hs.hJ b hb,fun B5=>ho b B5 hb⟩
     ·exact .inr ⟨.inl g,hs.hJ b hb,fun B5=>ho b B5 hb⟩
    obtain⟨us,dj,o1,o2,o3,o4,o5⟩:=HY hs ho (fun p cT=>hp p (by simp[cT])) (ic.1 d1)
    have OQ:=hG (dj.flatten++bQ.flatten) fun b B5=>by
     rcases cZ.1 B5 with g|g
     ·obtain⟨k',aG,g⟩:=o4 b g;exact(jP (o5 k' aG) g).1
     ·obtain⟨k',aG,g⟩:=m3 b g;exact(jP (m4 k' aG) g).1
    refine⟨_,HP o1,_,dj,bQ,rfl,hs.upto,o2 _ OQ (fun k' e b PR he hb=> ?_),m1.mono OQ,?_,fun b hb=> ?_,xN⟩
    ·have:=jP (by rw[he];rfl) hb
     refine .inr ⟨this.2.1.symm,this.2.2,fun B6=> ?_⟩
     have s_:∀k2 e2,k2∈ks++ks'->(cB σ).aq k2=some e2->b∉fp k2:=fun k2 e2 ej g_ gT=>by
      refine hs.apart k' k2 e e2 b (fun e=> ?_) he g_ hb gT
      have:meet (fA E (cB σ) (k.cf x).fresh fn.results.toList) (ks++ks')=true:=jg.2 ⟨k',PR,gr.2 (by rw[e];exact ej)⟩
      rw[c3] at this;cases this
     rcases cZ.1 B6 with g|g
     ·obtain⟨k2,ej,gT⟩:=o4 b g
      obtain⟨e2,g_⟩:=ef.1 (o5 k2 ej)
      exact s_ k2 e2 (fy _ ej) g_ gT
     ·obtain⟨k2,ej,gT⟩:=m3 b g
      obtain⟨e2,g_⟩:=ef.1 (m4 k2 ej)
      exact s_ k2 e2 (eZ _ ej) g_ gT
    ·rw[fW]
     refine⟨o3,m2,fun b hb c hc e=> ?_⟩
     subst e
     obtain⟨k1,kF,gE⟩:=o4 b hb
     obtain⟨k2,ej,gT⟩:=m3 b hc
     obtain⟨e1,Al⟩:=ef.1 (o5 k1 kF)
     obtain⟨e2,g_⟩:=ef.1 (m4 k2 ej)
     exact hs.apart k1 k2 e1 e2 b (fun e=>d3 k1 kF (by rw[e];exact ej)) Al g_ gE gT
    ·obtain⟨k',aG,hb⟩:=o4 b hb
     exact(jP (o5 k' aG) hb).2
   ·exact gZ.elim
  ·exact gZ.elim
 obtain⟨τ,qh,Gl⟩:=hw x qO eh.bd rest J_ Oz vs (by omega)
 refine Gl (qh h0 (fun i hi=>by simp[Array.getD,cI,hi,BI hi (Nat.le_add_right _ _)])) (fun o ho F1 kv fp a' w' hs=> ?_)
 cases o with
 |normal σ=>exact key σ ho F1 kv fp a' w' hs
 |ret σ=>exact key σ ho F1 kv fp a' w' hs
 |exit id σ=>exact ho.elim
theorem IX(hE:E.Good){f:FuncId}{fn:Func}{c:Code}(hf:E.P.funcs[f]? =some fn)(hb:fn.body=some c)(k:bB U)(eO:k.α->Nat->Option (cw U))(BW:k.md.length<=fn.ntmps)(iG:fn.ntmps<=1000000)(gE:fS k.md=true\/k.qv=0)
  (hw:∀x,(∀p∈k.pre x,p)->(∀d∈k.ds x,gP d)->∀rest,(k.md.any cW=true->rest.length=k.qv)->(k.md.any cW=false->rest=[])->
   AM.wp E (eO x) c (entry rest fn.ntmps k.md (k.ds x)) (leave E fn.results.toList fn.resultTypes.toList rest fn.params.toList k.md (k.ds x) (k.cf x))):aZ E f k:=
 kK hE hf hb k BW iG gE fun x hp hd rest hr hn _ _=>⟨_,fun h _=>h,qu hE (hw x hp hd rest hr hn)⟩
theorem aC.over{F:Nat->Prop}{kv:Key->Value}{fp:Key->List Nat}{σ:aa U}{a:Act}{w:World}{pm:Pm}(h:aC E pm F kv fp σ a w)(s:Nat)(x:SV U)(hx:RS E w F kv fp (av σ) x (a.tmps.getD s undef)):
  aC E pm F kv fp {σ with ap:=(s,some x)::σ.ap} a w:=by
 refine{h with ap:=fun t y hy=> ?_}
 unfold aa.get at hy
 simp only[look] at hy
 cases hb:Nat.beq s t<;>rw[hb] at hy<;>simp only[cond_true,cond_false] at hy
 ·exact h.ap t y hy
 ·cases hy
  rw[<-en hb]
  exact hx
def oy(n:Nat)(b:Bool)(τ:U.Ty)(xs:List (U.T τ)):aa U:={entry [] n [.ro] [.one (.sl τ xs)] with ap:=(0,some (one (.kn b τ xs)))::(entry [] n [.ro] [.one (.sl τ xs)]).ap}
theorem IW(hE:E.Good){f:FuncId}{fn:Func}{c:Code}(hf:E.P.funcs[f]? =some fn)(hb:fn.body=some c)(k:bB U)(eO:k.α->Nat->Option (cw U))(BW:k.md.length<=fn.ntmps)(iG:fn.ntmps<=1000000)(gE:fS k.md=true\/k.qv=0)
  (zS:k.md=[.ro]) (τ:U.Ty) (xs:k.α->List (U.T τ)) (oq:∀x,k.ds x=[.one (.sl τ (xs x))])
  (hw:∀x,(∀p∈k.pre x,p)->(∀d∈k.ds x,gP d)->∀b:Bool,(b=true->xs x=[])->
   AM.wp E (eO x) c (oy fn.ntmps b τ (xs x)) (leave E fn.results.toList fn.resultTypes.toList [] fn.params.toList k.md (k.ds x) (k.cf x))):aZ E f k:=by
 refine kK hE hf hb k BW iG gE fun x hp hd rest hr hn vs nv=> ?_
 have jN:rest=[]:=hn (by rw[zS];rfl)
 subst jN
 have nv:0<vs.length:=by rw[nv,zS];decide
 by_cases hv:ij (vs.getD 0 undef)=true->xs x=[]
 ·refine⟨oy fn.ntmps (ij (vs.getD 0 undef)) τ (xs x),fun{pm F kv fp a w} h ha=> ?_,qu hE (hw x hp hd _ hv)⟩
  rw[zS,oq] at h
  have h0:=h.ap 0 (one (.c (.sl τ (xs x)))) rfl
  have h1:Rp E w F false (.sl τ (xs x)) (a.tmps.getD 0 undef) []:=ax (de h0 rfl) rfl
  rw[ha 0 nv] at h1
  have h2:=h.over 0 (one (.kn (ij (vs.getD 0 undef)) τ (xs x))) (b8 (x:=.kn (ij (vs.getD 0 undef)) τ (xs x)) (by rw[ha 0 nv];exact⟨by rw[<-ha 0 nv];exact(de (h.ap 0 (one (.c (.sl τ (xs x)))) rfl) rfl).1,.inr ⟨h1,rfl⟩⟩))
  exact h2
 ·refine⟨oy fn.ntmps false τ (xs x),fun{pm F kv fp a w} h ha=> ?_,qu hE (hw x hp hd _ (by simp))⟩
  rw[zS,oq] at h
  have h0:=h.ap 0 (one (.c (.sl τ (xs x)))) rfl
  have h1:Rp E w F false (.sl τ (xs x)) (a.tmps.getD 0 undef) []:=ax (de h0 rfl) rfl
  rw[ha 0 nv] at h1
  refine absurd (fun hn=> ?_) hv
  rcases h1.inv with⟨h3,_⟩|⟨b,off,cap,jh,h3,_⟩
  ·exact h3
  ·rw[h3] at hn;simp[ij] at hn
end
theorem Rp.env{E E':Env U}(ht:E'.tid=E.tid){w:World}{F:Nat->Prop}{m:Bool}{c:U.C}{v:Value}{l:List Nat}(h:Rp E w F m c v l):Rp E' w F m c v l:=by
 induction h with
 |lit m v h=>exact .lit m v h
 |nil m τ a c h=>exact .nil m τ a c h
 |shr τ xs b off cap vs sX hc hm hv hr ih=>exact .shr τ xs b off cap vs sX hc hm hv ih
 |own τ xs b cap cur vs bT hb hc hm hs hv hr ih=>exact .own τ xs b cap cur vs bT (by rw[ht];exact hb) hc hm hs hv ih
section
variable{E E':Env U}{w:World}{F:Nat->Prop}
theorem ba.env(ht:E'.tid=E.tid){d:Bool}{a:eT U}{v:Value}{l:List Nat}(h:ba E w F d a v l):ba E' w F d a v l:=by
 rcases h with h|⟨b,cap,cur,vs,bT,h1,h2,h3,h4,h5,h6,h7,h8⟩
 ·exact .inl h
 ·exact .inr ⟨b,cap,cur,vs,bT,h1,by rw[ht];exact h2,h3,h4,h5,h6,fun i x j c hx hj=>(h7 i x j c hx hj).env ht,h8⟩
theorem gh.env(ht:E'.tid=E.tid){own:Bool}{cs:List U.C}{rest:List Value}{v:Value}{l:List Nat}(h:gh E w F own cs rest v l):gh E' w F own cs rest v l:=by
 obtain⟨b,cur,e,fl,h1,h2,h3,h4,h5,h6,h7,h8⟩:=h
 exact⟨b,cur,e,fl,h1,h2,h3,h4,h5,h6,fun i c hc=>(h7 i c hc).env ht,h8⟩
theorem dN.env(ht:E'.tid=E.tid){cs:List U.C}{v:Value}{l:List Nat}(h:dN E w F cs v l):dN E' w F cs v l:=by
 obtain⟨vs,fl,h1,h2,h3,h4,h5⟩:=h
 exact⟨vs,fl,h1,h2,h3,fun i c hc=>(h4 i c hc).env ht,h5⟩
theorem Cb.env(ht:E'.tid=E.tid){d:DA U}{v:Value}(h:Cb E w F d v):Cb E' w F d v:=by
 obtain⟨vs,h1,h2,h3⟩:=h
 exact⟨vs,h1,fun i c hc=>(h2 i c hc).env ht,h3⟩
theorem ey.env(hP:E'.P=E.P)(ht:E'.tid=E.tid){p:List (DA U)->Option Value}{v:Value}(h:ey E w F p v):ey E' w F p v:=by
 obtain⟨g,gL,h1,h2,h3⟩:=h
 refine⟨g,gL,h1,by rw[hP];exact h2,fun ds r hr w' F' h4 h5 vs h6=> ?_⟩
 rw[hP]
 exact h3 ds r hr w' F' h4 h5 vs ⟨h6.1,fun i d v hd hv=>(h6.2 i d v hd hv).env ht.symm⟩
theorem dV.env(hP:E'.P=E.P)(ht:E'.tid=E.tid){m:Mode}{d:DV U}{v:Value}{l:List Nat}(h:dV E w F m d v l):dV E' w F m d v l:=by
 cases m with
 |ro=>
  cases d with
  |one c=>exact⟨h.1.env ht,h.2⟩
  |agg cs=>obtain⟨vs,h1,h2,h3,h4⟩:=h;exact⟨vs,h1,h2,fun i c hc=>(h3 i c hc).env ht,h4⟩
  |ptr cs=>
   obtain⟨⟨b,o,h1,h2,h3⟩,h4⟩:=h
   exact⟨⟨b,o,h1,h2,fun i c hc=>by obtain⟨u,g1,g2⟩:=h3 i c hc;exact⟨u,g1,g2.env ht⟩⟩,h4⟩
  |fn _=>exact⟨h.1.env hP ht,h.2⟩
  |box _=>exact h.elim
 |wr=>
  cases d with
  |one c=>cases c with
   |lit _=>exact h.elim
   |sl τ xs=>exact ba.env ht h
  |agg _=>exact dN.env ht h
  |box _=>exact h.elim
  |ptr _=>exact h.elim
  |fn _=>exact h.elim
 |mv=>
  cases d with
  |one c=>exact Rp.env ht h
  |agg _=>exact dN.env ht h
  |box _=>exact h.elim
  |ptr _=>exact h.elim
  |fn _=>exact h.elim
 |box own=>
  cases d with
  |box cs=>exact gh.env ht h
  |one _=>exact h.elim
  |agg _=>exact h.elim
  |ptr _=>exact h.elim
  |fn _=>exact h.elim
theorem cv.env(hP:E'.P=E.P)(ht:E'.tid=E.tid):∀{ms:List Mode}{ds:List (DV U)}{vs:List Value}{ls:List (List Nat)},cv E w F ms ds vs ls->cv E' w F ms ds vs ls
 |[],[],[],[],_=>trivial
 |m::ms,d0::ds,v::vs,l::ls,h=>⟨h.1.env hP ht,cv.env hP ht h.2⟩
 |[],_::_,_,_,h=>h.elim
 |[],[],_::_,_,h=>h.elim
 |[],[],[],_::_,h=>h.elim
 |_::_,[],_,_,h=>h.elim
 |_::_,_::_,[],_,h=>h.elim
 |_::_,_::_,_::_,[],h=>h.elim
theorem cV.env(ht:E'.tid=E.tid){fresh:Bool}{d:DV U}{v:Value}{l:List Nat}(h:cV E w F fresh d v l):cV E' w F fresh d v l:=by
 cases d with
 |ptr _=>exact h
 |fn _=>exact h
 |one c=>cases fresh with
  |true=>exact Rp.env ht h
  |false=>exact⟨h.1.env ht,h.2⟩
 |agg cs=>cases fresh with
  |true=>exact dN.env ht h
  |false=>obtain⟨vs,h1,h2,h3,h4⟩:=h;exact⟨vs,h1,h2,fun i c hc=>(h3 i c hc).env ht,h4⟩
 |box cs=>obtain⟨g,b,cur,e,h1,h2,h3,h4,h5⟩:=h;exact⟨g,b,cur,e,h1,h2,h3,h4,fun i c hc=>(h5 i c hc).env ht⟩
theorem dw.env(ht:E'.tid=E.tid):∀{fs:List Bool}{ds:List (DV U)}{us:List Value}{ls:List (List Nat)},dw E w F fs ds us ls->dw E' w F fs ds us ls
 |_,[],[],[],_=>trivial
 |_,d::ds,u::us,l::ls,h=>⟨h.1.env ht,dw.env ht h.2⟩
 |_,[],_::_,_,h=>h.elim
 |_,[],[],_::_,h=>h.elim
 |_,_::_,[],_,h=>h.elim
 |_,_::_,_::_,[],h=>h.elim
theorem bk.env(ht:E'.tid=E.tid){w0:World}:∀{ms:List Mode}{vs:List Value}{dm:List (DV U)}{ls:List (List Nat)},bk E w F w0 ms vs dm ls->bk E' w F w0 ms vs dm ls:=by
 intro ms
 induction ms with
 |nil=>intro vs dm ls h;cases vs<;>cases dm<;>cases ls<;>first|trivial|exact h.elim
 |cons m ms ih=>
  intro vs dm ls h
  cases m with
  |ro=>cases vs with
   |nil=>cases dm<;>cases ls<;>exact h.elim
   |cons v vs=>simp only[bk] at h⊢;exact ih h
  |mv=>cases vs with
   |nil=>cases dm<;>cases ls<;>exact h.elim
   |cons v vs=>simp only[bk] at h⊢;exact ih h
  |wr=>cases vs with
   |nil=>cases dm<;>cases ls<;>exact h.elim
   |cons v vs=>cases dm with
    |nil=>cases ls<;>exact h.elim
    |cons d dm=>cases d with
     |one c=>cases c with
      |lit _=>cases ls<;>exact h.elim
      |sl τ ys=>cases ls with
       |nil=>exact h.elim
       |cons l ls=>exact⟨h.1.env ht,ih h.2⟩
     |agg cs=>cases ls with
       |nil=>exact h.elim
       |cons l ls=>exact⟨h.1.env ht,ih h.2⟩
     |box _=>cases ls<;>exact h.elim
     |ptr _=>cases ls<;>exact h.elim
     |fn _=>cases ls<;>exact h.elim
  |box own=>cases vs with
   |nil=>cases dm<;>cases ls<;>exact h.elim
   |cons v vs=>cases dm with
    |nil=>cases ls<;>exact h.elim
    |cons d dm=>cases d with
     |box cs=>cases ls with
       |nil=>exact h.elim
       |cons l ls=>exact⟨h.1.env ht,ih h.2⟩
     |one _=>cases ls<;>exact h.elim
     |agg _=>cases ls<;>exact h.elim
     |ptr _=>cases ls<;>exact h.elim
     |fn _=>cases ls<;>exact h.elim
end
theorem aZ.env{E E':Env U}(hP:E'.P=E.P)(ht:E'.tid=E.tid)(hT:E'.yo=E.yo){f:FuncId}{k:bB U}(h:aZ E f k):aZ E' f k:=by
 intro x hp w F vs ls h1 hL h2 qN h3 h4
 have:=h x hp w F vs ls h1 (by unfold vH;rw[<-hT];exact hL) (h2.env hP.symm ht.symm) qN h3 h4
 rw[hP]
 refine this.mono ?_
 rintro e w' ⟨us,dj,bQ,g1,g2,g3,g4,g5⟩
 exact⟨us,dj,bQ,g1,g2,g3.env ht,g4.env ht,g5⟩
def qa:List (FuncId×bB U)->FuncId->Option (bB U)
 |[],_=>none
 |(g,k)::r,f=>bif Nat.beq g f then some k else qa r f
def oB:List (FuncId×bB U)->FuncId->Option (bB U)
 |[],_=>none
 |(g,k)::r,f=>bif Nat.beq g f then qa r f else oB r f
def Env.add(E:Env U)(l:List (FuncId×bB U)):Env U:={E with s3:=qa l,s0:=oB l}
def aA(E:Env U)(p:FuncId×bB U):Prop:=j_ E.P p.1/\aZ E p.1 p.2
theorem wc{E:Env U}(hE:E.Ok){l:List (FuncId×bB U)}(h:∀p∈l,aA E p):(E.add l).Good:=by
 have one:∀{f:FuncId}{k:bB U}{l:List (FuncId×bB U)},qa l f=some k->(f,k)∈l:=by
  intro f k l
  induction l with
  |nil=>intro h;cases h
  |cons p l ih=>
   obtain⟨g,k'⟩:=p
   intro h
   simp only[qa] at h
   cases hb:Nat.beq g f<;>rw[hb] at h<;>simp only[cond_true,cond_false] at h
   ·exact c9 _ (ih h)
   ·cases h
    rw[en hb]
    exact e_
 have two:∀{f:FuncId}{k:bB U}{l:List (FuncId×bB U)},oB l f=some k->(f,k)∈l:=by
  intro f k l
  induction l with
  |nil=>intro h;cases h
  |cons p l ih=>
   obtain⟨g,k'⟩:=p
   intro h
   simp only[oB] at h
   cases hb:Nat.beq g f<;>rw[hb] at h<;>simp only[cond_true,cond_false] at h
   ·exact c9 _ (ih h)
   ·exact c9 _ (one h)
 have go:∀{f:FuncId}{k:bB U},(f,k)∈l->j_ (E.add l).P f/\aZ (E.add l) f k:=fun hm=>⟨(h _ hm).1,aZ.env (E:=E) (E':=E.add l) rfl rfl rfl (h _ hm).2⟩
 exact⟨⟨hE.code,hE.mixed⟩,fun f k hk=>go (one hk),fun f k hk=>go (two hk)⟩
def eu(fn:Func):Code:=match fn.body with|some c=>c|none=> .skip
def uT(rest:List Value)(E:Env U)(l:List (FuncId×bB U))(fn:Func)(k:bB U)(eO:k.α->Nat->Option (cw U))(x:k.α):Prop:=
 AM.wp (E.add l) (eO x) (eu fn) (entry rest fn.ntmps k.md (k.ds x)) (leave (E.add l) fn.results.toList fn.resultTypes.toList rest fn.params.toList k.md (k.ds x) (k.cf x))
def Lc(E:Env U)(l:List (FuncId×bB U))(fn:Func)(k:bB U)(eO:k.α->Nat->Option (cw U))(x:k.α):Prop:=uT [] E l fn k eO x
def mV(P:Program)(f:FuncId)(fn:Func)(ms:List Mode):Bool:=
 fn.body.isSome&& !(fn.name== "runtime.NumGoroutine")&&Nat.ble ms.length fn.ntmps&&Nat.ble fn.ntmps 1000000
theorem DB{E:Env U}(hE:E.Ok){f:FuncId}{fn:Func}(hf:E.P.funcs[f]? =some fn)(k:bB U)(hc:mV E.P f fn k.md=true)(l:List (FuncId×bB U))(hl:∀p∈l,aA E p)
  (eO:k.α->Nat->Option (cw U)) (hw:∀x,(∀p∈k.pre x,p)->(∀d∈k.ds x,gP d)->∀rest,(k.md.any cW=true->rest.length=k.qv)->(k.md.any cW=false->rest=[])->uT rest E l fn k eO x) (gE:fS k.md=true\/k.qv=0):aA E (f,k):=by
 unfold mV at hc
 simp only[dR,k_,vo] at hc
 obtain⟨⟨⟨c1,c2⟩,c3⟩,c4⟩:=hc
 refine⟨⟨fn,hf,c1,c2⟩,?_⟩
 have hb:fn.body=some (eu fn):=by
  unfold eu
  cases h:fn.body with
  |none=>rw[h] at c1;cases c1
  |some c=>rfl
 have:=IX (E:=E.add l) (wc hE hl) hf hb k eO c3 c4 gE hw
 exact aZ.env (E:=E.add l) (E':=E) rfl rfl rfl this
theorem holds_of{E:Env U}(hE:E.Ok){f:FuncId}{fn:Func}(hf:E.P.funcs[f]? =some fn)(k:bB U)(hc:mV E.P f fn k.md=true)(l:List (FuncId×bB U))(hl:∀p∈l,aA E p)
  (eO:k.α->Nat->Option (cw U)) (hw:∀x,(∀p∈k.pre x,p)->(∀d∈k.ds x,gP d)->Lc E l fn k eO x) (h0:k.qv=0:=by rfl):aA E (f,k):=
 DB hE hf k hc l hl eO (fun x hp hb rest hr hn=>by
  have e:rest=[]:=by
   cases wW:k.md.any cW with
   |false=>exact hn wW
   |true=>exact pB ((hr wW).trans h0)
  rw[e];exact hw x hp hb) (.inr h0)
theorem BR{E:Env U}(hE:E.Ok){f:FuncId}{fn:Func}(hf:E.P.funcs[f]? =some fn)(k:bB U)(hc:mV E.P f fn k.md=true)(wW:k.md.any cW=true)(l:List (FuncId×bB U))(hl:∀p∈l,aA E p)
  (eO:k.α->Nat->Option (cw U)) (hw:∀x,(∀p∈k.pre x,p)->(∀d∈k.ds x,gP d)->∀rest:List Value,rest.length=k.qv->uT rest E l fn k eO x) (gE:fS k.md=true:=by rfl):aA E (f,k):=
 DB hE hf k hc l hl eO (fun x hp hb rest hr _=>hw x hp hb rest (hr wW)) (.inl gE)
def rM(E:Env U)(l:List (FuncId×bB U))(fn:Func)(k:bB U)(eO:k.α->Nat->Option (cw U))(x:k.α)(τ:U.Ty)(xs:List (U.T τ))(b:Bool):Prop:=
 AM.wp (E.add l) (eO x) (eu fn) (oy fn.ntmps b τ xs) (leave (E.add l) fn.results.toList fn.resultTypes.toList [] fn.params.toList k.md (k.ds x) (k.cf x))
theorem sJ{E:Env U}(hE:E.Ok){f:FuncId}{fn:Func}(hf:E.P.funcs[f]? =some fn)(k:bB U)(hc:mV E.P f fn k.md=true)(zS:k.md=[.ro])(τ:U.Ty)(xs:k.α->List (U.T τ))(oq:∀x,k.ds x=[.one (.sl τ (xs x))])
  (l:List (FuncId×bB U)) (hl:∀p∈l,aA E p)
  (eO:k.α->Nat->Option (cw U)) (hw:∀x,(∀p∈k.pre x,p)->(∀d∈k.ds x,gP d)->rM E l fn k eO x τ (xs x) false/\(xs x=[]->rM E l fn k eO x τ (xs x) true)):aA E (f,k):=by
 unfold mV at hc
 simp only[dR,k_,vo] at hc
 obtain⟨⟨⟨c1,c2⟩,c3⟩,c4⟩:=hc
 refine⟨⟨fn,hf,c1,c2⟩,?_⟩
 have hb:fn.body=some (eu fn):=by
  unfold eu
  cases h:fn.body with
  |none=>rw[h] at c1;cases c1
  |some c=>rfl
 have:=IW (E:=E.add l) (wc hE hl) hf hb k eO c3 c4 (.inl (by rw[zS];rfl)) zS τ xs oq (fun x hp hd b hb=>by
  cases b with
  |false=>exact(hw x hp hd).1
  |true=>exact(hw x hp hd).2 (hb rfl))
 exact aZ.env (E:=E.add l) (E':=E) rfl rfl rfl this
def uV(E:Env U)(l:List (FuncId×bB U))(fn:Func)(k:bB U)(eO:k.α->Nat->Option (cw U))(x:k.α)(r:Nat)(A:cw U):Prop:=
 AM.wp (E.add l) (eO x) (AH r (eu fn)) (entry [] fn.ntmps k.md (k.ds x)) (Fq A (leave (E.add l) fn.results.toList fn.resultTypes.toList [] fn.params.toList k.md (k.ds x) (k.cf x)))
def uU(E:Env U)(l:List (FuncId×bB U))(fn:Func)(k:bB U)(eO:k.α->Nat->Option (cw U))(x:k.α)(r:Nat)(A:cw U)(y:A.X):Prop:=
 AM.wp (E.add l) (eO x) (AG r (eu fn)) (dH A [] ⟨fn.ntmps,[],[],[]⟩ y) (leave (E.add l) fn.results.toList fn.resultTypes.toList [] fn.params.toList k.md (k.ds x) (k.cf x))
theorem BS{E:Env U}(hE:E.Ok){f:FuncId}{fn:Func}(hf:E.P.funcs[f]? =some fn)(k:bB U)(hc:mV E.P f fn k.md=true)(l:List (FuncId×bB U))(hl:∀p∈l,aA E p)
  (eO:k.α->Nat->Option (cw U)) (r:Nat) (A:k.α->cw U) (hr:(sZ r (eu fn)).isSome=true)
  (hw:∀x,(∀p∈k.pre x,p)->(∀d∈k.ds x,gP d)->uV E l fn k eO x r (A x)/\∀y,(A x).I y y->uU E l fn k eO x r (A x) y) (h0:k.qv=0:=by rfl):aA E (f,k):=by
 unfold mV at hc
 simp only[dR,k_,vo] at hc
 obtain⟨⟨⟨c1,c2⟩,c3⟩,c4⟩:=hc
 refine⟨⟨fn,hf,c1,c2⟩,?_⟩
 have hb:fn.body=some (eu fn):=by
  unfold eu
  cases h:fn.body with
  |none=>rw[h] at c1;cases c1
  |some c=>rfl
 obtain⟨p,hp⟩:=ef.1 hr
 have eA:AH r (eu fn)=p.1:=by simp only[AH,hp]
 have eB:AG r (eu fn)=p.2:=by simp only[AG,hp]
 have:=kK (E:=E.add l) (wc hE hl) hf hb k c3 c4 (.inr h0) (fun x hx hd rest zF wL _ _=>by
  have e:rest=[]:=by
   cases wW:k.md.any cW with
   |false=>exact wL wW
   |true=>exact pB ((zF wW).trans h0)
  subst e
  obtain⟨g1,g2⟩:=hw x hx hd
  unfold uV at g1
  unfold uU at g2
  rw[eA] at g1
  rw[eB] at g2
  exact⟨_,fun h _=>h,Jl (wc hE hl) hp rfl g1 g2⟩)
 exact aZ.env (E:=E.add l) (E':=E) rfl rfl rfl this
def bB.below(k:bB U)(μ:k.α->Nat)(n:Nat):bB U:={k with pre:=fun x=>(μ x<n)::k.pre x}
theorem BQ{E:Env U}{f:FuncId}{fn:Func}(hf:E.P.funcs[f]? =some fn){k:bB U}(hc:mV E.P f fn k.md=true)(μ:k.α->Nat)(h:∀n,aA E (f,k.below μ n)->aA E (f,k.below μ (n+1))):aA E (f,k):=by
 have BT:j_ E.P f:=by
  unfold mV at hc
  simp only[dR,k_] at hc
  exact⟨fn,hf,hc.1.1.1,hc.1.1.2⟩
 have all:∀n,aA E (f,k.below μ n):=by
  intro n
  induction n with
  |zero=>exact⟨BT,fun x hp=>absurd (hp _ e_) (Nat.not_lt_zero _)⟩
  |succ n ih=>exact h n ih
 refine⟨BT,fun x hp=>(all (μ x+1)).2 x fun p ED=> ?_⟩
 rcases dQ.1 ED with rfl|ED
 ·exact Nat.lt_succ_self _
 ·exact hp p ED
theorem all_nil{α:Type 1}{p:α->Prop}:∀x∈([]:List α),p x:=fun x hx=>by cases hx
theorem all_cons{α:Type 1}{p:α->Prop}{a:α}{l:List α}(h:p a)(hl:∀x∈l,p x):∀x∈a::l,p x:=by
 intro x hx
 rcases dQ.1 hx with rfl|hx
 ·exact h
 ·exact hl x hx
end AM
