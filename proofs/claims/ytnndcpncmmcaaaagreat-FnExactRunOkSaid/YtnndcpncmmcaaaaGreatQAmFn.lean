import Derived.Test.YtnndcpncmmcaaaaGreatQAmCode
namespace AM
set_option linter.unusedVariables false
open Go
variable{U:jO}
def vP(i:Nat)(rest:List Value):Mode->DV U->SV U×List (Nat×eX U)
 | .ro,.one c=>(one (.c c),[])
 | .ro,.agg cs=>(.v ⟨true,cs.map .c⟩,[])
 | .ro,.ptr cs=>(one (.ia cs),[])
 | .ro,.fn p=>(.fn p,[])
 | .wr,.one (.sl τ xs)=>(one (.ref (2000000+i,0) []),[(0,.arr ⟨τ,xs⟩ true)])
 | .wr,.agg cs=>(.v ⟨true,(putCells (2000000+i) true 0 cs).1⟩,(putCells (2000000+i) true 0 cs).2)
 | .mv,.one c=>(.v ⟨false,(putCells (2000000+i) true 4096 [c]).1⟩,(putCells (2000000+i) true 4096 [c]).2)
 | .mv,.agg cs=>(.v ⟨true,(putCells (2000000+i) true 4096 cs).1⟩,(putCells (2000000+i) true 4096 cs).2)
 | .box true,.box cs=>(one (.ji (2000000+i,0) 0),(0,.box ((putCells (2000000+i) true 4096 cs).1++rest.map fun v=> .c (.lit v)))::(putCells (2000000+i) true 4096 cs).2)
 | .box false,.box cs=>(one (.ji (2000000+i,0) 0),[(0,.box (cs.map .c++rest.map fun v=> .c (.lit v)))])
 |_,_=>(.tX [],[])
def DD(rest:List Value):Nat->List Mode->List (DV U)->List (Nat×Option (SV U))
 |i,m::ms,d::ds=>(i,some (vP i rest m d).1)::DD rest (i+1) ms ds
 |_,_,_=>[]
def vQ(rest:List Value):Nat->List Mode->List (DV U)->List (Key×Option (eX U))
 |i,m::ms,d::ds=>kX (2000000+i) (vP i rest m d).2++vQ rest (i+1) ms ds
 |_,_,_=>[]
def entry(rest:List Value)(n:Nat)(ms:List Mode)(ds:List (DV U)):ah U:={n,bw:=DD rest 0 ms ds,iZ:=vQ rest 0 ms ds,ay:=[]}
def LC(E:Env U)(σ:ah U):ResultVar->Option (AV U)
 | .tmp t=>match σ.get t with
  |some (.v x)=>some x
  |_=>none
 | .cell a t=>match σ.get a with
  |some (.v ⟨false,[.ji k 0]⟩)=>match σ.aU k,E.size t,E.isAgg t with
   |some (.box cs),some n,some g=>bif Nat.beq n cs.length&&(g||Nat.beq n 1) then some ⟨g,cs⟩ else none
   |_,_,_=>none
  |_=>none
def aa'(ds:List (DV U)):Bool:=ds.any fun| .box _=>true|_=>false
def OY(fresh:Bool)(σ:ah U):AV U->Option (List U.C×Key)
 |⟨false,[.ji k 0]⟩=>bif fresh then(match σ.aU k with|some (.box bs)=>(match plain bs with|some l=>some (l,k)|none=>none)|_=>none) else none
 |_=>none
def outs(E:Env U)(σ:ah U):List Bool->List ResultVar->List TypeId->Option (List Prop×List (DV U)×List Key)
 |_,[],_=>some ([],[],[])
 |fs,r::rs,ts=>match LC E σ r with
  |some x=>
   match OY (fs.headD true) σ x with
   |some (l,k)=>match outs E σ fs.tail rs ts.tail with
    |some (qs,ds,ks')=>some (qs,.box l::ds,k::ks')
    |none=>none
   |none=>
   let want:=match ts with|t::_=>E.shape 8 t|[]=>[]
   let tb:=restrict σ.aU (SV.v x).keys
   match(bif fs.headD true then(match dy tb want x.cs with|some (ps,cs,ks,true)=>some (ps,cs,ks)|_=>none) else(match cellsOf tb σ.ay want x.cs with|some (ps,cs)=>some (ps,cs,[])|none=>none)) with
   |some (ps,cs,ks)=>match K7 x cs,outs E σ fs.tail rs ts.tail with
    |some d,some (qs,ds,ks')=>some (ps++qs,d::ds,ks++ks')
    |_,_=>none
   |none=>none
  |none=>none
def po(σ:ah U)(i:Nat):Nat->List U.C->Option (List U.C×List Key)
 |_,[]=>some ([],[])
 |j,.lit v::r=>match po σ i (j+1) r with|some (cs,ks)=>some (.lit v::cs,ks)|none=>none
 |j,.sl _ _::r=>match σ.aU (2000000+i,j),po σ i (j+1) r with
  |some (.arr a true),some (cs,ks)=>some (.sl a.τ a.xs::cs,(2000000+i,j)::ks)
  |_,_=>none
def ON(bs:List (AC U))(rest:List Value):List Prop:=(bs.length=rest.length)::(match rest with
 |[]=>[]
 |r=>[bs=r.map fun v=> .c (.lit v)])
theorem adg{bs:List (AC U)}{rest:List Value}(h:∀p∈ON bs rest,p):bs=rest.map fun v=> .c (.lit v):=by
 cases rest with
 |nil=>exact yG (h _ cH)
 |cons r rs=>exact h _ (aJ _ cH)
def GN(σ:ah U)(rest:List Value)(i:Nat)(want:List (Option U.Ty)):Mode->DV U->Option (List Prop×List (DV U)×List Key)
 | .ro,_=>some ([],[],[])
 | .mv,_=>some ([],[],[])
 | .wr,.one (.sl _ _)=>match σ.aU (2000000+i,0) with
  |some (.arr a true)=>some ([],[.one (.sl a.τ a.xs)],[(2000000+i,0)])
  |_=>none
 | .wr,.agg cs=>bif Nat.ble cs.length 1024 then(match po σ i 0 cs with|some (ds,ks)=>some ([],[.agg ds],ks)|none=>none) else none
 | .box true,.box cs=>match σ.aU (2000000+i,0) with
  |some (.box bs)=>match dy (restrict σ.aU (SV.v ⟨true,bs⟩).keys) want (bs.take cs.length) with
   |some (ps,l,ks,true)=>bif Nat.beq l.length cs.length then some (ps++ON (bs.drop cs.length) rest,[.box l],(2000000+i,0)::ks) else none
   |_=>none
  |_=>none
 | .box false,.box cs=>match σ.aU (2000000+i,0) with
  |some (.box bs)=>match plain (bs.take cs.length) with
   |some l=>bif Nat.beq l.length cs.length then some (ON (bs.drop cs.length) rest,[.box l],[(2000000+i,0)]) else none
   |none=>none
  |_=>none
 |_,_=>none
def rN(σ:ah U)(rest:List Value):Nat->List (List (Option U.Ty))->List Mode->List (DV U)->Option (List Prop×List (DV U)×List Key)
 |i,ws,m::ms,d::ds=>match GN σ rest i (ws.headD []) m d,rN σ rest (i+1) ws.tail ms ds with
  |some (ps,xs,ks),some (qs,ys,ks')=>some (ps++qs,xs++ys,ks++ks')
  |_,_=>none
 |_,_,_,_=>some ([],[],[])
def Qp(ms:List Mode):Bool:=ms.any fun m=>match m with| .wr=>true| .mv=>true| .box true=>true|_=>false
def tO(ms:List Mode):Bool:=ms.all fun| .ro=>true|_=>false
def pO(E:Env U)(σ:ah U):List Bool->List ResultVar->List Key
 |_,[]=>[]
 |fs,r::rs=>(bif fs.headD true then[] else match LC E σ r with|some x=>(SV.v x).keys|none=>[])++pO E σ fs.tail rs
def fin(E:Env U)(rs:List ResultVar)(ts:List TypeId)(rest:List Value)(ps:List TypeId)(ms:List Mode)(ds:List (DV U))(r:Res U)(σ:ah U):Prop:=
 match outs E (I2 rs σ) r.fresh rs ts,rN (I2 rs σ) rest 0 (ps.map E.yU) ms ds with
 |some (ps,vs,ks),some (qs,mu,ks')=>bif distinct (ks++ks')&& !(meet (pO E (I2 rs σ) r.fresh rs) (ks++ks'))&&(!(aa' r.val)||tO ms) then N0 (ps++qs) (vs=r.val/\mu=r.Kz) else False
 |_,_=>False
def leave(E:Env U)(rs:List ResultVar)(ts:List TypeId)(rest:List Value)(ps:List TypeId)(ms:List Mode)(ds:List (DV U))(r:Res U):Out U->Prop
 | .ret σ=>fin E rs ts rest ps ms ds r σ
 | .normal σ=>fin E rs ts rest ps ms ds r σ
 | .exit _ _=>False
section
variable{E:Env U}{w:World}{F:Nat->Prop}
theorem iN.len:∀{ms:List Mode}{ds:List (DV U)}{vs:List Value}{ls:List (List Nat)},iN E w F ms ds vs ls->ds.length=ms.length/\vs.length=ms.length/\ls.length=ms.length
 |[],[],[],[],_=>⟨rfl,rfl,rfl⟩
 |m::ms,d::ds,v::vs,l::ls,h=>by
  obtain⟨h1,h2,h3⟩:=iN.len h.2
  simp[h1,h2,h3]
 |[],_::_,_,_,h=>h.elim
 |[],[],_::_,_,h=>h.elim
 |[],[],[],_::_,h=>h.elim
 |_::_,[],_,_,h=>h.elim
 |_::_,_::_,[],_,h=>h.elim
 |_::_,_::_,_::_,[],h=>h.elim
theorem tp{ls:List (List Nat)}:ls.flatten.Nodup↔(∀l∈ls,l.Nodup)/\ls.Pairwise (fun a b=>∀x∈a,∀y∈b,x≠y):=List.pairwise_flatten
theorem an9{ls:List (List Nat)}(h:ls.flatten.Nodup){i j:Nat}(H2:i≠j){b:Nat}(hb:b∈ls.getD i []):b∉ls.getD j []:=by
 intro aI
 rw[tp] at h
 have fx:∀{k:Nat},b∈ls.getD k []->∃hk:k<ls.length,b∈ls[k]:=by
  intro k hk
  rcases lR k ls.length with g|g
  ·exact⟨g,by rwa[gh,gr g] at hk⟩
  ·rw[gh,lU g] at hk;cases hk
 obtain⟨hi,hb⟩:=fx hb
 obtain⟨hj,aI⟩:=fx aI
 have hp:=zdv.1 h.2
 rcases Nat.lt_or_gt_of_ne H2 with g|g
 ·exact hp i j hi hj g _ hb _ aI rfl
 ·exact hp j i hj hi g _ aI _ hb rfl
theorem anh{ls:List (List Nat)}{j b:Nat}(hb:b∈ls.getD j []):b∈ls.flatten:=by
 rcases lR j ls.length with g|g
 ·rw[gh,gr g] at hb
  exact X3.2 ⟨_,N6 g,hb⟩
 ·rw[gh,lU g] at hb;cases hb
theorem adz{ls:List (List Nat)}(h:ls.flatten.Nodup)(j:Nat):(ls.getD j []).Nodup:=by
 rcases lR j ls.length with g|g
 ·rw[gh,gr g]
  exact(tp.1 h).1 _ (N6 g)
 ·rw[gh,lU g];exact MH
theorem aos{a b:List Key}(h:distinct (a++b)=true):distinct a=true/\distinct b=true/\∀k∈a,k∉b:=by
 rw[sV,nH] at h
 exact⟨sV.2 h.1,sV.2 h.2.1,fun k hk bp=>h.2.2 k hk k bp rfl⟩
theorem aoq{x:AV U}{cs:List U.C}{d:DV U}{v:Value}{vs:List Value}{fl:List (List Nat)}(hd:K7 x cs=some d)(hv:if x.agg then v=.agg vs.toArray else vs=[v])(hl:vs.length=cs.length)(hf:fl.length=cs.length)
  (h:∀(i:Nat)(c:U.C),cs[i]? =some c->Rp E w F true c (vs.getD i undef) (fl.getD i [])):kp E w F true d v fl.flatten:=by
 unfold K7 at hd
 cases J7:x.agg<;>rw[J7] at hd hv<;>simp only[cond_true,cond_false,yN,if_false,if_true] at hd hv
 ·split at hd
  ·rename_i c
   cases hd
   subst hv
   simp only[iD,ii] at hf
   obtain⟨l,rfl⟩:=List.length_eq_one_iff.1 hf
   simpa[kp] using h 0 c rfl
  ·cases hd
 ·cases hd
  simp only[kp,if_true]
  exact⟨vs,fl,hv,hl,hf,h,rfl⟩
theorem aop{x:AV U}{cs:List U.C}{d:DV U}{v:Value}{vs:List Value}(hd:K7 x cs=some d)(hv:if x.agg then v=.agg vs.toArray else vs=[v])(hl:vs.length=cs.length)
  (h:∀(i:Nat)(c:U.C),cs[i]? =some c->Rp E w F false c (vs.getD i undef) []):kp E w F false d v []:=by
 unfold K7 at hd
 cases J7:x.agg<;>rw[J7] at hd hv<;>simp only[cond_true,cond_false,yN,if_false,if_true] at hd hv
 ·split at hd
  ·rename_i c
   cases hd
   subst hv
   simpa[kp] using h 0 c rfl
  ·cases hd
 ·cases hd
  simp only[kp,yN,if_false]
  exact⟨vs,hv,hl,h,trivial⟩
def Rl(i:Nat)(m:Mode)(d:DV U)(v:Value)(kv:Key->Value):Prop:=
 match m,d with
 | .wr,.one _=>kv (2000000+i,0)=v
 | .wr,.agg cs=>∃vs:List Value,v=.agg vs.toArray/\vs.length=cs.length/\(∀(j:Nat)(τ:U.Ty)(xs:List (U.T τ)),cs[j]? =some (.sl τ xs)->kv (2000000+i,j)=vs.getD j undef)/\(∀(j:Nat)(u:Value),cs[j]? =some (.lit u)->vs.getD j undef=u/\fu u)
 | .box _,.box _=>kv (2000000+i,0)=v
 |_,_=>True
def zE(kv:Key->Value):Nat->List Mode->List (DV U)->List Value->Prop
 |i,m::ms,d::ds,v::vs=>Rl i m d v kv/\zE kv (i+1) ms ds vs
 |_,_,_,_=>True
def ly:Mode->Bool
 | .box _=>true
 |_=>false
def qb(w:World)(rest:List Value):List Mode->List (DV U)->List Value->Prop
 |m::ms,d::ds,v::vs=>(∀cs,ly m=true->d=.box cs->rest=rA w v cs.length)/\qb w rest ms ds vs
 |_,_,_=>True
def tf(w:World):List Mode->List (DV U)->List Value->List Value
 |m::ms,d::ds,v::vs=>bif ly m then(match d with| .box cs=>rA w v cs.length|_=>[]) else tf w ms ds vs
 |_,_,_=>[]
def r_:List Mode->Bool
 |[]=>true
 |m::r=>bif ly m then !(r.any ly) else r_ r
theorem aeh{w:World}{rest:List Value}:∀{ms:List Mode}{ds:List (DV U)}{vs:List Value},ms.any ly=false->qb w rest ms ds vs
 |[],_,_,_=>trivial
 |m::ms,[],_,_=>trivial
 |m::ms,d::ds,[],_=>trivial
 |m::ms,d::ds,v::vs,h=>by
  simp only[Rs,Ox] at h
  exact⟨fun cs hb _=>(by rw[h.1] at hb;cases hb),aeh h.2⟩
theorem aeg{w:World}:∀{ms:List Mode}{ds:List (DV U)}{vs:List Value},r_ ms=true->qb w (tf w ms ds vs) ms ds vs
 |[],_,_,_=>trivial
 |m::ms,[],_,_=>trivial
 |m::ms,d::ds,[],_=>trivial
 |m::ms,d::ds,v::vs,h=>by
  unfold r_ at h
  unfold tf
  cases hb:ly m<;>rw[hb] at h<;>simp only[cond_true,cond_false] at h⊢
  ·exact⟨fun cs aI _=>(by rw[hb] at aI;cases aI),aeg h⟩
  ·exact⟨fun cs _ hd=>by rw[hd],aeh (by simpa using h)⟩
theorem aef{w:World}:∀{ms:List Mode}{ds:List (DV U)}{vs:List Value},sH w 0 ms ds vs->qb w [] ms ds vs
 |[],_,_,_=>trivial
 |m::ms,[],_,_=>trivial
 |m::ms,d::ds,[],_=>trivial
 |m::ms,d::ds,v::vs,h=>by
  refine⟨fun cs hb hd=> ?_,aef h.2⟩
  cases m with
  |box own=>exact(yG (h.1 own cs rfl hd)).symm
  |ro=>cases hb
  |wr=>cases hb
  |mv=>cases hb
theorem adh{w:World}:∀{ms:List Mode}{ds:List (DV U)}{vs:List Value},ms.any ly=false->tf w ms ds vs=[]
 |[],_,_,_=>rfl
 |m::ms,[],_,_=>rfl
 |m::ms,d::ds,[],_=>rfl
 |m::ms,d::ds,v::vs,h=>by
  simp only[Rs,Ox] at h
  unfold tf
  rw[h.1]
  exact adh h.2
theorem adi{n:Nat}:∀{ms:List Mode}{ds:List (DV U)}{vs:List Value}{ls:List (List Nat)},iN E w F ms ds vs ls->sH w n ms ds vs->r_ ms=true->ms.any ly=true->(tf w ms ds vs).length=n
 |[],[],[],[],_,_,_,hb=>by simp at hb
 |m::ms,d::ds,v::vs,l::ls,h,hr,h1,hb=>by
  unfold r_ at h1
  unfold tf
  cases hm:ly m<;>rw[hm] at h1<;>simp only[cond_true,cond_false] at h1⊢
  ·exact adi h.2 hr.2 h1 (by simpa[hm] using hb)
  ·cases m with
   |box own=>
    cases d with
    |box cs=>exact hr.1 own cs rfl rfl
    |one _=>exact h.1.elim
    |agg _=>exact h.1.elim
    |ptr _=>exact h.1.elim
    |fn _=>exact h.1.elim
   |ro=>cases hm
   |wr=>cases hm
   |mv=>cases hm
 |[],_::_,_,_,h,_,_,_=>h.elim
 |[],[],_::_,_,h,_,_,_=>h.elim
 |[],[],[],_::_,h,_,_,_=>h.elim
 |_::_,[],_,_,h,_,_,_=>h.elim
 |_::_,_::_,[],_,h,_,_,_=>h.elim
 |_::_,_::_,_::_,[],h,_,_,_=>h.elim
theorem OQ{dst:Nat}:∀{cs:List U.C}{base:Nat},(((putCells dst true base cs).2).map (·.1)).Nodup/\∀p∈(putCells dst true base cs).2,base<=p.1
 |[],base=>⟨by simp[putCells],fun p hp=>by simp[putCells] at hp⟩
 | .lit v::r,base=>by
  obtain⟨h1,h2⟩:=OQ (dst:=dst) (cs:=r) (base:=base+1)
  exact⟨by simpa[putCells] using h1,fun p hp=>by have:=h2 p (by simpa[putCells] using hp);omega⟩
 | .sl τ xs::r,base=>by
  obtain⟨h1,h2⟩:=OQ (dst:=dst) (cs:=r) (base:=base+1)
  refine⟨?_,fun p hp=> ?_⟩
  ·simp only[putCells,cond_true,rl,pH]
   refine⟨fun hm=> ?_,h1⟩
   obtain⟨p,hp,e⟩:=jX.1 hm
   have:=h2 p hp
   omega
  ·simp only[putCells,cond_true,h_] at hp
   rcases hp with rfl|hp
   ·exact og _
   ·have:=h2 p hp;omega
theorem ado{dst:Nat}:∀{cs:List U.C}{base j:Nat}{τ:U.Ty}{xs:List (U.T τ)},cs[j]? =some (.sl τ xs)->(putCells dst true base cs).1[j]? =some (.ref (dst,base+j) [])
 |[],base,j,τ,xs,h=>by simp at h
 |c::r,base,j,τ,xs,h=>by
  cases j with
  |zero=>
   simp only[sT,eZ] at h
   subst h
   rfl
  |succ j=>
   have:=ado (dst:=dst) (cs:=r) (base:=base+1) (j:=j) (by simpa using h)
   cases c<;>simpa[putCells,Ot,zew 1 j] using this
theorem aok{i:Nat}{rest:List Value}{m:Mode}{d:DV U}{v:Value}{l:List Nat}(h:mN E w F m d v l)(wK:∀cs,ly m=true->d=.box cs->rest=rA w v cs.length):
  ∃t:eV U,(vP i rest m d).2=t.es/\(t.map (·.1)).Nodup/\t.bl=l/\∀kv fp bad,(∀s∈t,kv (2000000+i,s.1)=s.2.2.1)->
   RS E w F kv fp bad (vP i rest m d).1 v/\(∀s∈t,lm E w F kv fp bad s.2.1 s.2.2.1 s.2.2.2)/\Rl i m d v kv:=by
 have agg:∀(bs:Nat){cs:List U.C}{v:Value}{l:List Nat},lH E w F cs v l->∃t:eV U,(putCells (2000000+i) true bs cs).2=t.es/\(t.map (·.1)).Nodup/\t.bl=l/\∃vs:List Value,v=.agg vs.toArray/\vs.length=cs.length/\(∀(j:Nat)(u:Value),cs[j]? =some (.lit u)->vs.getD j undef=u/\fu u)/\
   ∀kv fp bad,(∀s∈t,kv (2000000+i,s.1)=s.2.2.1)->kS E w F kv fp bad (putCells (2000000+i) true bs cs).1 vs/\(∀s∈t,lm E w F kv fp bad s.2.1 s.2.2.1 s.2.2.2):=by
  rintro bs cs v l ⟨vs,fl,h1,h2,h3,h4,h5⟩
  obtain⟨t,t1,t2,t3,t4⟩:=Ik (dst:=2000000+i) (base:=bs) h2 h3 h4
  refine⟨t,t1,?_,by rw[t3,h5],vs,h1,h2,fun j u hj=> ?_,fun kv fp bad hk=>⟨t4 kv fp bad hk,fun s hs=>t2 s hs kv fp bad⟩⟩
  ·have:=(OQ (dst:=2000000+i) (cs:=cs) (base:=bs)).1
   rw[t1] at this
   simpa[eV.es,Function.comp_def] using this
  ·obtain⟨_,g2,g3⟩:=(h4 j _ hj).kL
   exact⟨g2,g3⟩
 cases m with
 |ro=>
  cases d with
  |one c=>exact⟨[],rfl,by simp,h.2.symm,fun kv fp bad _=>⟨zD ⟨h.1.dQ,.inr h.1⟩,by simp,trivial⟩⟩
  |agg cs=>
   obtain⟨vs,rfl,h2,h3,h4⟩:=h
   exact⟨[],rfl,by simp,h4.symm,fun kv fp bad _=>⟨⟨vs,Kp h2 h3,rfl⟩,by simp,trivial⟩⟩
  |ptr cs=>
   obtain⟨⟨b,o,rfl,h2,h3⟩,h4⟩:=h
   exact⟨[],rfl,by simp,h4.symm,fun kv fp bad _=>⟨zD ⟨⟨rfl,trivial⟩,.inr ⟨b,o,rfl,h2,h3⟩⟩,by simp,trivial⟩⟩
  |fn p=>exact⟨[],rfl,by simp,h.2.symm,fun kv fp bad _=>⟨h.1,by simp,trivial⟩⟩
  |box cs=>exact h.elim
 |wr=>
  cases d with
  |one c=>
   cases c with
   |lit _=>exact h.elim
   |sl τ xs=>
    refine⟨[(0,.arr ⟨τ,xs⟩ true,v,l)],rfl,by simp,by simp[eV.bl],fun kv fp bad hk=> ?_⟩
    have qu:kv (2000000+i,0)=v:=hk _ (g_.2 rfl)
    refine⟨zD ⟨?_,.inr (by simp only[RA];rw[qu];rfl)⟩,fun s hs=>by rw[g_.1 hs];exact h,qu⟩
    rcases h with⟨_,⟨ad,rfl⟩,_⟩|⟨b,cap,cur,vs,dH,rfl,_⟩<;>exact⟨rfl,trivial⟩
  |agg cs=>
   obtain⟨t,t1,t2,t3,vs,t4,t5,t6,t7⟩:=agg 0 h
   refine⟨t,t1,t2,t3,fun kv fp bad hk=> ?_⟩
   obtain⟨g1,g2⟩:=t7 kv fp bad hk
   refine⟨⟨vs,g1,t4⟩,g2,vs,t4,t5,fun j τ xs hj=> ?_,t6⟩
   have hr:=ado (dst:=2000000+i) (base:=0) hj
   have fx:j<vs.length:=by
    rw[t5]
    rcases lR j cs.length with g|g
    ·exact g
    ·rw[lU g] at hj;cases hj
   have:=bG (g1.2 j _ _ hr (dz (d:=undef) fx)) rfl
   simp only[RA,oz] at this
   exact this.symm
  |box _=>exact h.elim
  |ptr _=>exact h.elim
  |fn _=>exact h.elim
 |mv=>
  cases d with
  |one c=>
   obtain⟨t,t1,t2,t3,t4⟩:=Ik (E:=E) (w:=w) (F:=F) (dst:=2000000+i) (base:=4096) (cs:=[c]) (vs:=[v]) (fl:=[l]) rfl rfl (fun j c' hc=>by
    cases j with
    |zero=>simp only[sT,eZ] at hc;subst hc;exact h
    |succ j=>simp at hc)
   refine⟨t,t1,?_,by simpa using t3,fun kv fp bad hk=>⟨⟨[v],t4 kv fp bad hk,by simp⟩,fun s hs=>t2 s hs kv fp bad,trivial⟩⟩
   have:=(OQ (dst:=2000000+i) (cs:=[c]) (base:=4096)).1
   rw[t1] at this
   simpa[eV.es,Function.comp_def] using this
  |agg cs=>
   obtain⟨t,t1,t2,t3,vs,t4,t5,t6,t7⟩:=agg 4096 h
   refine⟨t,t1,t2,t3,fun kv fp bad hk=> ?_⟩
   obtain⟨g1,g2⟩:=t7 kv fp bad hk
   exact⟨⟨vs,g1,t4⟩,g2,trivial⟩
  |box _=>exact h.elim
  |ptr _=>exact h.elim
  |fn _=>exact h.elim
 |box own=>
  cases d with
  |box cs=>
   have LW:=wK cs rfl rfl
   obtain⟨b,cur,e,fl,h1,h2,h3,h4,h5,h6,h7,h8⟩:=h
   rw[<-LW] at h4 h5
   have fa:cur.toList.take cs.length++cur.toList.drop cs.length=cur.toList:=HS _ _
   have qk:∀(j:Nat)(c:U.C),cs[j]? =some c->(cur.toList.take cs.length).getD j undef=cur.toList.getD j undef:=by
    intro j c hc
    have hj:j<cs.length:=by
     rcases lR j cs.length with g|g
     ·exact g
     ·rw[lU g] at hc;cases hc
    simp only[gh,mP,if_pos hj]
   have VR:∀kv fp bad,kS E w F kv fp bad (rest.map fun v=> .c (.lit v)) rest:=by
    intro kv fp bad
    refine⟨by simp,fun j x u hx hu=> ?_⟩
    rw[mE,hu] at hx
    cases hx
    exact wh (h5 u (Ep hu))
   cases own with
   |true=>
    obtain⟨t,t1,t2,t3,t4⟩:=Ik (E:=E) (w:=w) (F:=F) (dst:=2000000+i) (base:=4096) (cs:=cs) (vs:=cur.toList.take cs.length) (fl:=fl) (by simp;omega) h6 (fun j c hc=>by rw[qk j c hc];exact h7 j c hc)
    have VM:=OQ (dst:=2000000+i) (cs:=cs) (base:=4096)
    refine⟨(0,.box ((putCells (2000000+i) true 4096 cs).1++rest.map fun v=> .c (.lit v)),v,[b])::t,by simp[vP,eV.es,t1],?_,by rw[h8];simp only[eV.bl,tV,List.singleton_append] at t3⊢;rw[t3],fun kv fp bad hk=> ?_⟩
    ·rw[rl,pH]
     have h0:(t.map (·.1))=((putCells (2000000+i) true 4096 cs).2).map (·.1):=by rw[t1];simp[eV.es,Function.comp_def]
     rw[h0]
     refine⟨fun hm=> ?_,VM.1⟩
     obtain⟨p,hp,e⟩:=jX.1 hm
     have:=VM.2 p hp
     simp only at e
     omega
    ·have qu:kv (2000000+i,0)=v:=hk _ cH
     have lg:=fun s hs=>hk s (aJ _ hs)
     refine⟨zD ⟨by rw[h1];exact⟨rfl,trivial⟩,.inr ⟨b,by rw[qu,h1],h1⟩⟩,fun s hs=> ?_,qu⟩
     rcases h_.1 hs with rfl|hs
     ·refine⟨b,cur,e,h1,h2,rfl,?_⟩
      rw[<-fa,h4]
      exact(t4 kv fp bad lg).append (VR kv fp bad)
     ·exact t2 s hs kv fp bad
   |false=>
    have Ek:fl.flatten=[]:=by
     rw[zdm]
     intro b' aI
     obtain⟨l',zh,EF⟩:=X3.1 aI
     obtain⟨j,hj,rfl⟩:=zG zh
     have pg:j<cs.length:=by omega
     have:=h7 j _ (gr pg)
     rw[gh (l:=fl),gr hj] at this
     exact this.SY (F':=fun _=>False) EF
    rw[Ek] at h8
    refine⟨[(0,.box (cs.map .c++rest.map fun v=> .c (.lit v)),v,[b])],rfl,by simp,by simp[eV.bl,h8],fun kv fp bad hk=> ?_⟩
    have qu:kv (2000000+i,0)=v:=hk _ cH
    refine⟨zD ⟨by rw[h1];exact⟨rfl,trivial⟩,.inr ⟨b,by rw[qu,h1],h1⟩⟩,fun s hs=> ?_,qu⟩
    rw[g_.1 hs]
    refine⟨b,cur,e,h1,h2,rfl,?_⟩
    rw[<-fa,h4]
    refine(Kp (by simp;omega) (fun j c hc=> ?_)).append (VR kv fp bad)
    rw[qk j c hc]
    have:=h7 j c hc
    exact this.i_ (fun _ hb=>hb) (fun b' aI=>this.SY aI)
  |one _=>exact h.elim
  |agg _=>exact h.elim
  |ptr _=>exact h.elim
  |fn _=>exact h.elim
theorem ang{dst:Nat}{t:eV U}{k:Key}{e:eX U}(h:cm (kX dst t.es) k=some e):∃s∈t,k=(dst,s.1)/\e=s.2.1:=by
 have:=yV h
 simp only[kX,eV.es,List.map_map,jX,Function.comp,kG,eZ] at this
 obtain⟨s,hs,h1,h2⟩:=this
 exact⟨s,hs,h1.symm,h2.symm⟩
theorem adW{rest:List Value}:∀{ms:List Mode}{ds:List (DV U)}{vs:List Value}{ls:List (List Nat)}{i:Nat},iN E w F ms ds vs ls->qb w rest ms ds vs->
  ∃ts:List (eV U),ts.map eV.bl=ls/\(∀t∈ts,(t.map (·.1)).Nodup)/\
   (∀k e,cm (vQ rest i ms ds) k=some e->∃j s,s∈ts.getD j []/\k=(2000000+(i+j),s.1)/\e=s.2.1)/\
   ∀kv fp bad,(∀j s,s∈ts.getD j []->kv (2000000+(i+j),s.1)=s.2.2.1)->
    (∀s x,look (DD rest i ms ds) s=some x->∃j,s=i+j/\j<vs.length/\RS E w F kv fp bad x (vs.getD j undef))/\
    (∀j s,s∈ts.getD j []->lm E w F kv fp bad s.2.1 s.2.2.1 s.2.2.2)/\zE kv i ms ds vs
 |[],[],[],[],i,_,_=>⟨[],rfl,by simp,fun k e he=>(by cases he),fun kv fp bad _=>⟨fun s x hs=>(by cases hs),by simp,trivial⟩⟩
 |m::ms,d::ds,v::vs,l::ls,i,h,hr=>by
  obtain⟨ts,i1,i2,i3,i4⟩:=adW (rest:=rest) (i:=i+1) h.2 hr.2
  obtain⟨t,t1,t2,t3,t4⟩:=aok (i:=i) h.1 hr.1
  refine⟨t::ts,by rw[rl,t3,i1],fun t' ht=> ?_,fun k e he=> ?_,fun kv fp bad hk=> ?_⟩
  ·rcases h_.1 ht with rfl|ht
   ·exact t2
   ·exact i2 t' ht
  ·have he:=(CV _ _ _).symm.trans he
   split at he
   ·rw[t1] at he
    obtain⟨s,hs,h1,h2⟩:=ang he
    exact⟨0,s,by simpa using hs,by simpa using h1,h2⟩
   ·obtain⟨j,s,hs,h1,h2⟩:=i3 k e he
    exact⟨j+1,s,by simpa using hs,by rw[h1];simp only[kG,and_true];omega,h2⟩
  ·obtain⟨g1,g2,g3⟩:=t4 kv fp bad (fun s hs=>by have:=hk 0 s (by simpa using hs);simpa using this)
   obtain⟨k1,k2,k3⟩:=i4 kv fp bad (fun j s hs=>by have:=hk (j+1) s (by simpa using hs);simpa[Ot,zew 1 j] using this)
   refine⟨fun s x hs=> ?_,fun j s hs=> ?_,g3,k3⟩
   ·have hs:=(Kl _ _ _ _).symm.trans hs
    split at hs
    ·rename_i e;cases hs;exact⟨0,by simp[e],by simp,by simpa using g1⟩
    ·obtain⟨j,rfl,h2,h3⟩:=k1 s x hs
     exact⟨j+1,by omega,by simpa using h2,by simpa using h3⟩
   ·cases j with
    |zero=>exact g2 s (by simpa using hs)
    |succ j=>exact k2 j s (by simpa using hs)
 |[],_::_,_,_,_,h,_=>h.elim
 |[],[],_::_,_,_,h,_=>h.elim
 |[],[],[],_::_,_,h,_=>h.elim
 |_::_,[],_,_,_,h,_=>h.elim
 |_::_,_::_,[],_,_,h,_=>h.elim
 |_::_,_::_,_::_,[],_,h,_=>h.elim
def Sr(w:World)(F:Nat->Prop)(kv:Key->Value)(ls:List (List Nat)):Pm:=
 ⟨w,fun b=>b∈ls.flatten,F,fun k=>if 2000000<=k.1/\k.2<1024 then some (kv k) else none⟩
theorem an1{ts:List (eV U)}{j:Nat}:(ts.map eV.bl).getD j []=(ts.getD j []).bl:=by
 rw[gh,gh,mE]
 cases ts[j]? <;>rfl
theorem aol{i:Nat}{rest:List Value}{m:Mode}{d:DV U}{p:Nat×eX U}(h:p∈(vP i rest m d).2):p.2.wk=false:=by
 unfold vP at h
 split at h
 all_goals first
  |exact F8 h
  |(simp only[rh] at h;done)
  |(rw[g_.1 h];rfl)
  |(rcases h_.1 h with rfl|h
    ·rfl
    ·exact F8 h)
theorem adY{rest:List Value}{k:Key}{e:eX U}:∀{ms:List Mode}{ds:List (DV U)}{i:Nat},cm (vQ rest i ms ds) k=some e->e.wk=false
 |[],_,_,h=>by simp[vQ,cm] at h
 |_::_,[],_,h=>by simp[vQ,cm] at h
 |m::ms,d::ds,i,h=>by
  simp only[vQ] at h
  rw[CV] at h
  split at h
  ·have:=yV h
   simp only[kX,jX,kG,eZ] at this
   obtain⟨⟨j,e'⟩,hm,_,rfl⟩:=this
   exact aol hm
  ·exact adY (ms:=ms) (ds:=ds) h
theorem aoj{n:Nat}{rest:List Value}{ms:List Mode}{ds:List (DV U)}{vs:List Value}{ls:List (List Nat)}(hF:∀b,F b->b<w.heap.size)(tw:Lj E w F)(h:iN E w F ms ds vs ls)(hr:qb w rest ms ds vs)(hn:ls.flatten.Nodup)(hl:∀b∈ls.flatten,b<w.heap.size/\¬F b)
  (hms:ms.length<=n) (mS:n<=1000000):
  ∃J1 Uf,cd E (Sr w F J1 ls) F J1 Uf (entry rest n ms ds) {tmps:=vs.toArray++Array.replicate (n-vs.length) undef,defers:=[]} w/\zE J1 0 ms ds vs:=by
 obtain⟨l1,l2,l3⟩:=h.len
 obtain⟨ts,i1,i2,i3,i4⟩:=adW (rest:=rest) (i:=0) h hr
 have oB:∀{j:Nat},((ts.getD j []).map (·.1)).Nodup:=by
  intro j
  rcases lR j ts.length with g|g
  ·rw[gh,gr g];exact i2 _ (N6 g)
  ·rw[gh,lU g];exact MH
 let J1:Key->Value:=fun k=>(ts.getD (k.1-2000000) []).An k.1 (fun _=>undef) k
 let Uf:Key->List Nat:=fun k=>(ts.getD (k.1-2000000) []).zm k.1 (fun _=>[]) k
 have IV:∀j s,s∈ts.getD j []->J1 (2000000+(0+j),s.1)=s.2.2.1:=by
  intro j s hs
  simp only[J1,oz,Nat.add_sub_cancel_left]
  exact eV.wH oB hs
 have lN:∀j s,s∈ts.getD j []->Uf (2000000+(0+j),s.1)=s.2.2.2:=by
  intro j s hs
  simp only[Uf,oz,Nat.add_sub_cancel_left]
  exact eV.uf oB hs
 obtain⟨g1,g2,g3⟩:=i4 J1 Uf (aZ (entry rest n ms ds)) IV
 have rj:∀{j:Nat},(ts.getD j []).bl=ls.getD j []:=fun{j}=>by rw[<-i1,an1]
 have aa7:∀{j:Nat}{s:Nat×eX U×Value×List Nat}{b:Nat},s∈ts.getD j []->b∈s.2.2.2->b∈ls.getD j []:=fun{j s b} hs hb=>by rw[<-rj];exact eV.pw.2 ⟨s,hs,hb⟩
 refine⟨J1,Uf,⟨by simp[entry];omega,rfl,fun s x hs=> ?_,fun k e he=> ?_,fun k k' e e' b cO h1 h2 hb=> ?_,fun k e he=> ?_,fun k e b he hb=> ?_,hF,fun b hb=> .inl hb,fm.refl _ _,fun k v hk=> ?_,tw,fun _=>[],⟨(fun k e he hl=>by rw[adY he] at hl;contradiction),fun _ _ _ _=>MH,fun _ _ _ _ _ _ _ _ _ _ hb=>absurd hb rh,fun _ _ _ _ _ hb=>absurd hb rh⟩⟩,g3⟩
 ·obtain⟨j,rfl,hj,h3⟩:=g1 s x hs
  have:(vs.toArray++Array.replicate (n-vs.length) undef).getD (0+j) undef=vs.getD j undef:=by
   rw[oz,Oy,Array.getElem?_append_left (by simpa using hj)]
   simp[gh]
  show RS E w F _ _ _ x ((vs.toArray++Array.replicate (n-vs.length) undef).getD (0+j) undef)
  rw[this];exact h3
 ·obtain⟨j,s,hs,rfl,rfl⟩:=i3 k e he
  rw[IV j s hs,lN j s hs]
  exact g2 j s hs
 ·obtain⟨j,s,hs,rfl,rfl⟩:=i3 k e h1
  obtain⟨j',s',ky,rfl,rfl⟩:=i3 k' e' h2
  rw[lN j s hs] at hb
  rw[lN j' s' ky]
  by_cases hj:j=j'
  ·subst hj
   have qi:(ts.getD j []).bl.Nodup:=by rw[rj];exact adz hn j
   exact eV.rc qi hs ky (fun e=>cO (by rw[e])) hb
  ·exact fun aI=>an9 hn hj (aa7 hs hb) (aa7 ky aI)
 ·obtain⟨j,s,hs,rfl,rfl⟩:=i3 k e he
  rw[lN j s hs]
  have qi:(ts.getD j []).bl.Nodup:=by rw[rj];exact adz hn j
  exact eV.xz qi hs
 ·obtain⟨j,s,hs,rfl,rfl⟩:=i3 k e he
  rw[lN j s hs] at hb
  have:=anh (aa7 hs hb)
  exact⟨(hl b this).2,.inl this,(hl b this).1⟩
 ·simp only[Sr] at hk
  split at hk
  ·rename_i hc
   cases hk
   exact⟨hc.1,hc.2,mS,rfl⟩
  ·cases hk
variable{pm:Pm}{kv:Key->Value}{fp:Key->List Nat}{σ:ah U}{a:Act}
def Kg(tmps:Array Value):ResultVar->Sem Value
 | .tmp t=>pure (tmps.getD t undef)
 | .cell a t=>do loadVar t (<-asAddr (tmps.getD a undef))
def HP(P:Program)(tmps:Array Value)(w:World):List ResultVar->List Value->Prop
 |[],[]=>True
 |r::rs,u::us=>(Kg tmps r).run P w=.ok u w/\HP P tmps w rs us
 |_,_=>False
theorem adD{P:Program}{tmps:Array Value}{w:World}:∀{rs:List ResultVar}{us:List Value},HP P tmps w rs us->(List.mapM (Kg tmps) rs).run P w=.ok us w
 |[],[],_=>rfl
 |r::rs,u::us,h=>by
  rw[List.mapM_cons,Sem.run_bind,h.1]
  simp only[Result.andThen,Sem.run_bind,adD h.2]
  rfl
 |[],_::_,h=>h.elim
 |_::_,[],h=>h.elim
theorem amJ{P:Program}{fn:Func}{tmps:Array Value}{w:World}{us:List Value}(h:HP P tmps w fn.results.toList us):
  (results fn tmps).run P w=.ok (MO us) w:=by
 have hg:(fun x=>match x with
   |ResultVar.tmp t=>(pure (tmps.getD t undef):Sem Value)
   |ResultVar.cell a t=>do loadVar t (<-asAddr (tmps.getD a undef)))=Kg tmps:=by
  funext x;cases x<;>rfl
 unfold results
 have hr:fn.results=fn.results.toList.toArray:=rfl
 rw[hr,List.mapM_toArray]
 show Sem.run P (do
  let vs←Functor.map List.toArray (List.mapM (fun x=>match x with
   |ResultVar.tmp t=>(pure (tmps.getD t undef):Sem Value)
   |ResultVar.cell a t=>do loadVar t (<-asAddr (tmps.getD a undef))) fn.results.toList)
  pure (if h:vs.size=1 then vs[0] else Value.tuple vs)) w=_
 rw[hg,Sem.run_bind]
 have hm:(Functor.map List.toArray (List.mapM (Kg tmps) fn.results.toList)).run P w=.ok us.toArray w:=by
  rw[map_eq_pure_bind,Sem.run_bind,adD h]
  rfl
 rw[hm]
 show Result.ok _ w=_
 congr 1
 match us with
 |[]=>rfl
 |[t]=>rfl
 |t::u::r=>
  rw[dif_neg (by simp)]
  rfl
theorem adj(h:cd E pm F kv fp σ a w){r:ResultVar}{x:AV U}(hr:LC E σ r=some x):∃u,(Kg a.tmps r).run E.P w=.ok u w/\RV E w F kv fp (aZ σ) x u:=by
 unfold LC at hr
 split at hr
 ·rename_i t
  split at hr
  ·rename_i y hy
   cases hr
   exact⟨_,rfl,h.bw t _ hy⟩
  ·cases hr
 ·rename_i s t
  split at hr
  ·rename_i k hk
   split at hr
   ·rename_i cs n g he hn hg
    rw[fc] at hr
    split at hr
    ·rename_i hc
     cases hr
     simp only[fY] at hc
     obtain⟨b,h1,h2⟩:=bG (F_ (h.bw s _ hk)) rfl
     obtain⟨b',cur,e,h3,h4,h5,h6⟩:=h.cT k _ he
     rw[h1] at h3;cases h3
     have hlen:n=cur.toList.length:=(jp hc.1).trans h6.1
     obtain⟨v,NA,Nz⟩:=MW (E:=E) (w:=w) (us:=cur.toList) (off:=0) (b:=b) hn hg hc.2 hlen.symm (fun j v hj=>by
      simp only[World.cell?,h4,oz]
      simpa using hj)
     refine⟨v,?_,cur.toList,h6,Nz⟩
     have dr:(Kg a.tmps (.cell s t)).run E.P w=(Instr.loadAt t (.pointer (some ⟨b,0,none⟩))).run E.P w:=by
      simp only[Kg,h2,asAddr,Instr.loadAt,Instr.sureAddr,pure_bind]
     rw[dr];exact NA
    ·cases hr
   ·cases hr
  ·cases hr
theorem am3(h:cd E pm F kv fp σ a w):∀{rs:List ResultVar}{fs:List Bool}{ts:List TypeId}{ps:List Prop}{ds:List (DV U)}{ks:List Key},outs E σ fs rs ts=some (ps,ds,ks)->(∀p∈ps,p)->ks.Nodup->
  ∃(us:List Value)(oi:List (List Nat)),HP E.P a.tmps w rs us/\(∀F':Nat->Prop,(∀b,F b->F' b)->(∀k e b,k∈pO E σ fs rs->σ.aU k=some e->b∈fp k->F' b)->lG E w F' fs ds us oi)/\oi.flatten.Nodup/\(∀b∈oi.flatten,∃k∈ks,b∈fp k)/\(∀k∈ks,(σ.aU k).isSome=true):=by
 intro rs
 induction rs with
 |nil=>
  intro fs ts ps ds ks ho hp hn
  simp only[outs,eZ,kG] at ho
  obtain⟨rfl,rfl,rfl⟩:=ho
  exact⟨[],[],trivial,fun _ _ _=>trivial,by simp,by simp,by simp⟩
 |cons r rs ih=>
  intro fs ts ps ds ks ho hp hn
  have Ej:∀k,k∈pO E σ fs.tail rs->k∈pO E σ fs (r::rs):=fun k hk=>by
   simp only[pO,gA];exact .inr hk
  simp only[outs] at ho
  split at ho
  ·rename_i x hx
   split at ho
   ·rename_i l k wL
    split at ho
    ·rename_i qs ds2 ks2 IK
     cases ho
     have hh:fs.headD true=true:=by
      cases hh:fs.headD true with
      |true=>rfl
      |false=>
       rw[hh] at wL
       unfold OY at wL
       split at wL<;>cases wL
     rw[hh] at wL
     unfold OY at wL
     split at wL
     ·rename_i k0
      simp only[cond_true] at wL
      split at wL
      ·rename_i bs he
       split at wL
       ·rename_i l' hl
        cases wL
        obtain⟨tG,n2⟩:=pH.1 hn
        obtain⟨us,oi,i1,i2,i3,i4,i5⟩:=ih IK hp n2
        obtain⟨u,hu,vs,r1,r2⟩:=adj h hx
        simp only[yN,if_false] at r2
        subst r2
        obtain⟨b,IV,rfl⟩:=bG (r1.2 0 _ u rfl rfl) rfl
        obtain⟨b',cur,e',g1,g2,g3,g4⟩:=h.cT k _ he
        rw[IV] at g1
        simp only[Value.pointer.injEq,eZ,Addr.mk.injEq] at g1
        obtain⟨rfl,_,_⟩:=g1
        have lh:=MU hl
        have wm:bs.length=l.length:=by rw[lh];simp
        have s6:kp E w F true (.box l:DV U) (.pointer (some ⟨b,0,none⟩)) [b]:=by
         refine⟨rfl,b,cur,e',rfl,g2,rfl,by rw[<-wm,g4.1];simp,fun i c hc=> ?_⟩
         have hbc:bs[i]? =some (.c c):=by rw[lh,mE,hc];rfl
         have fx:i<cur.toList.length:=by
          rw[<-g4.1]
          rcases lR i bs.length with g|g
          ·exact g
          ·rw[lU g] at hbc;cases hbc
         have kM:cur.toList[i]? =some (cur.toList[i]):=gr fx
         rw[gh,kM]
         exact(bG (g4.2 i _ _ hbc kM) rfl:Rp E w F false _ _ _)
        refine⟨_::us,[b]::oi,⟨hu,i1⟩,fun F' vO hK'=>⟨by rw[hh];exact kp.fe vO s6,i2 F' vO fun k e b hk=>hK' k e b (Ej k hk)⟩,?_,fun b' aI=> ?_,fun k' bp=> ?_⟩
        ·rw[Lq,nH]
         refine⟨by simp,i3,fun b' aI c hc e=> ?_⟩
         rw[g_.1 aI] at e
         subst e
         obtain⟨k2,eS,iY⟩:=i4 b hc
         obtain⟨e2,nX⟩:=kH.1 (i5 k2 eS)
         exact h.apart k k2 _ e2 b (fun e=>tG (e▸eS)) he nX (by rw[g3];exact g_.2 rfl) iY
        ·rw[Lq,gA] at aI
         rcases aI with aI|aI
         ·rw[g_.1 aI]
          exact⟨k,cH,by rw[g3];exact g_.2 rfl⟩
         ·obtain⟨k2,eS,iY⟩:=i4 b' aI
          exact⟨k2,aJ _ eS,iY⟩
        ·rcases h_.1 bp with rfl|bp
         ·rw[he];rfl
         ·exact i5 k' bp
       ·cases wL
      ·cases wL
     ·cases wL
    ·cases ho
   split at ho
   ·rename_i Rv cs ks1 vj
    split at ho
    ·rename_i d qs ds2 ks2 hd IK
     simp only[eZ,kG] at ho
     obtain⟨rfl,rfl,rfl⟩:=ho
     rw[nH] at hn
     obtain⟨n1,n2,n3⟩:=hn
     obtain⟨us,oi,i1,i2,i3,i4,i5⟩:=ih IK (fun p jf=>hp p (by simp[jf])) n2
     obtain⟨u,hu,vs,r1,r2⟩:=adj h hx
     cases hh:fs.headD true with
     |true=>
      rw[hh] at vj
      simp only[cond_true] at vj
      split at vj
      ·rename_i HV uJ ks' aas
       cases vj
       obtain⟨g1,g2,g3,g4⟩:=Kj h aas (fun p jf=>hp p (by simp[jf])) r1 n1
       obtain⟨fl,f1,f2,f3,f4⟩:=g3 rfl
       refine⟨u::us,fl.flatten::oi,⟨hu,i1⟩,fun F' vO hK'=>⟨by rw[hh];exact kp.fe vO (aoq hd r2 (by rw[g1];exact r1.1.symm) f1 f2),i2 F' vO fun k e b hk=>hK' k e b (Ej k hk)⟩,?_,fun b hb=> ?_,fun k hk=> ?_⟩
       ·rw[Lq,nH]
        refine⟨f3,i3,fun b hb c hc e=> ?_⟩
        subst e
        obtain⟨k1,lg,js⟩:=f4 b hb
        obtain⟨k2,eS,iY⟩:=i4 b hc
        obtain⟨e1,L5⟩:=kH.1 (g2 k1 lg)
        obtain⟨e2,nX⟩:=kH.1 (i5 k2 eS)
        exact h.apart k1 k2 e1 e2 b (n3 k1 lg k2 eS) L5 nX js iY
       ·rw[Lq,gA] at hb
        rcases hb with hb|hb
        ·obtain⟨k,hk,hb⟩:=f4 b hb;exact⟨k,oE _ hk,hb⟩
        ·obtain⟨k,hk,hb⟩:=i4 b hb;exact⟨k,pA _ hk,hb⟩
       ·rcases gA.1 hk with hk|hk
        ·exact g2 k hk
        ·exact i5 k hk
      ·cases vj
     |false=>
      rw[hh] at vj
      simp only[cond_false] at vj
      split at vj
      ·rename_i HV uJ aas
       cases vj
       obtain⟨g1,g2⟩:=ad5 h aas (fun p jf=>hp p (by simp[jf])) r1
       refine⟨u::us,[]::oi,⟨hu,i1⟩,fun F' vO hK'=>⟨by
        rw[hh]
        refine aop hd r2 (by rw[g1];exact r1.1.symm) (fun i c hc=>(g2 i c hc).fe (fun b hb=> ?_))
        rcases hb with hb|⟨k,hk,hb⟩
        ·exact vO b hb
        ·rw[CD] at hk
         obtain⟨e,he⟩:=kH.1 hk.2
         exact hK' k e b (by simp only[pO,hh,cond_false,gA,hx];exact .inl hk.1) he hb,i2 F' vO fun k e b hk=>hK' k e b (Ej k hk)⟩,by simpa using i3,by simpa using i4,by simpa using i5⟩
      ·cases vj
    ·cases ho
   ·cases ho
  ·cases ho
theorem Z8(h:cd E pm F kv fp σ a w){i:Nat}:∀{cs:List U.C}{j:Nat}{vs:List Value}{ds:List U.C}{ks:List Key},po σ i j cs=some (ds,ks)->vs.length=cs.length->
  (∀(n:Nat)(τ:U.Ty)(xs:List (U.T τ)),cs[n]? =some (.sl τ xs)->kv (2000000+i,j+n)=vs.getD n undef)->(∀(n:Nat)(u:Value),cs[n]? =some (.lit u)->vs.getD n undef=u/\fu u)->
  ds.length=cs.length/\∃fl:List (List Nat),fl.length=ds.length/\(∀(n:Nat)(c:U.C),ds[n]? =some c->Rp E w F true c (vs.getD n undef) (fl.getD n []))/\fl.flatten=ks.flatMap fp/\(∀k∈ks,(σ.aU k).isSome=true/\j<=k.2)/\ks.Nodup
 |[],j,vs,ds,ks,hf,hl,h1,h2=>by
  simp only[po,eZ,kG] at hf
  obtain⟨rfl,rfl⟩:=hf
  exact⟨rfl,[],rfl,fun n c hc=>by simp at hc,rfl,by simp,by simp⟩
 |c::cs,j,[],ds,ks,hf,hl,h1,h2=>by simp at hl
 |c::cs,j,v::vs,ds,ks,hf,hl,h1,h2=>by
  have H5:∀(n:Nat)(τ:U.Ty)(xs:List (U.T τ)),cs[n]? =some (.sl τ xs)->kv (2000000+i,j+1+n)=vs.getD n undef:=fun n τ xs hn=>by
   have:=h1 (n+1) τ xs (by simpa using hn)
   simpa[Ot,zew 1 n] using this
  have Uc:∀(n:Nat)(u:Value),cs[n]? =some (.lit u)->vs.getD n undef=u/\fu u:=fun n u hn=>by simpa using h2 (n+1) u (by simpa using hn)
  cases c with
  |lit u=>
   simp only[po] at hf
   split at hf
   ·rename_i ds' ks' hf'
    cases hf
    obtain⟨i1,fl,i2,i3,i4,i5,i6⟩:=Z8 h hf' (by simpa using hl) H5 Uc
    obtain⟨g1,g2⟩:=h2 0 u rfl
    have hvu:v=u:=by simpa using g1
    subst hvu
    refine⟨by simp[i1],[]::fl,by simp[i2],fun n c hc=> ?_,by simpa using i4,fun k hk=>⟨(i5 k hk).1,by have:=(i5 k hk).2;omega⟩,i6⟩
    cases n with
    |zero=>simp only[sT,eZ] at hc;subst hc;exact .lit _ _ g2
    |succ n=>simpa using i3 n c (by simpa using hc)
   ·cases hf
  |sl τ xs=>
   simp only[po] at hf
   split at hf
   ·rename_i y ds' ks' he hf'
    cases hf
    obtain⟨i1,fl,i2,i3,i4,i5,i6⟩:=Z8 h hf' (by simpa using hl) H5 Uc
    have hv:kv (2000000+i,j)=v:=by simpa using h1 0 τ xs rfl
    have ho:cF E w F true y (kv (2000000+i,j)) (fp (2000000+i,j)):=h.cT _ _ he
    refine⟨by simp[i1],fp (2000000+i,j)::fl,by simp[i2],fun n c hc=> ?_,by simp[i4],fun k hk=> ?_,?_⟩
    ·cases n with
     |zero=>simp only[sT,eZ] at hc;subst hc;rw[hv] at ho;exact ho.rp
     |succ n=>simpa using i3 n c (by simpa using hc)
    ·rcases h_.1 hk with rfl|hk
     ·exact⟨by rw[he];rfl,og _⟩
     ·exact⟨(i5 k hk).1,by have:=(i5 k hk).2;omega⟩
    ·rw[pH]
     exact⟨fun hm=>by have:=(i5 _ hm).2;simp only at this;omega,i6⟩
   ·cases hf
theorem aoa(h:cd E pm F kv fp σ a w){w0:World}{F0:Nat->Prop}{rest:List Value}{i:Nat}{want:List (Option U.Ty)}{m:Mode}{d:DV U}{v:Value}{l:List Nat}{ps:List Prop}{mu:List (DV U)}{ks:List Key}
  (hf:GN σ rest i want m d=some (ps,mu,ks)) (hp:∀p∈ps,p) (oZ:mN E w0 F0 m d v l) (wK:∀cs,ly m=true->d=.box cs->rest=rA w0 v cs.length) (Ey:Rl i m d v kv) (hn:ks.Nodup):
  ∃gS,e_ E w F w0 [m] [v] mu gS/\gS.flatten.Nodup/\(∀b∈gS.flatten,∃k∈ks,b∈fp k)/\(∀k∈ks,(σ.aU k).isSome=true)/\(m=.box false->∀b∈l,∃k∈ks,b∈fp k):=by
 cases m with
 |ro=>
  simp only[GN,eZ,kG] at hf
  obtain⟨_,rfl,rfl⟩:=hf
  exact⟨[],trivial,by simp,by simp,by simp,fun e=>by cases e⟩
 |mv=>
  simp only[GN,eZ,kG] at hf
  obtain⟨_,rfl,rfl⟩:=hf
  exact⟨[],trivial,by simp,by simp,by simp,fun e=>by cases e⟩
 |wr=>
  cases d with
  |one c=>
   cases c with
   |lit _=>exact oZ.elim
   |sl τ xs=>
    simp only[GN] at hf
    split at hf
    ·rename_i y he
     cases hf
     have hv:kv (2000000+i,0)=v:=Ey
     have ho:cF E w F true y (kv (2000000+i,0)) (fp (2000000+i,0)):=h.cT _ _ he
     rw[hv] at ho
     exact⟨[fp (2000000+i,0)],⟨ho,trivial⟩,by simpa using h.nodup _ _ he,by simp,by simp[he],fun e=>by cases e⟩
    ·cases hf
  |agg cs=>
   simp only[GN] at hf
   rw[fc] at hf
   split at hf
   ·split at hf
    ·rename_i ds ks' hfc
     cases hf
     obtain⟨vs,p1,p2,p3,p4⟩:=Ey
     obtain⟨i1,fl,i2,i3,i4,i5,i6⟩:=Z8 h hfc p2 (by simpa using p3) p4
     refine⟨[fl.flatten],⟨⟨vs,fl,p1,by rw[p2,i1],i2,i3,rfl⟩,trivial⟩,?_,fun b hb=> ?_,fun k hk=>(i5 k hk).1,fun e=>by cases e⟩
     ·simp only[Lq,zey,sI]
      rw[i4]
      exact Z7 h i6 (fun k hk=>(i5 k hk).1)
     ·simp only[Lq,zey,sI] at hb
      rw[i4] at hb
      exact ln.1 hb
    ·cases hf
   ·cases hf
  |box _=>exact oZ.elim
  |ptr _=>exact oZ.elim
  |fn _=>exact oZ.elim
 |box own=>
  cases d with
  |one _=>exact oZ.elim
  |agg _=>exact oZ.elim
  |ptr _=>exact oZ.elim
  |fn _=>exact oZ.elim
  |box cs=>
   have LW:=wK cs rfl rfl
   have hv:kv (2000000+i,0)=v:=Ey
   obtain⟨b0,apO,e0,fl0,z1,z2,z3,z4,z5,z6,z7,z8⟩:=oZ
   have KJ:∀{bs:List (AC U)}{cur:Array Value}{n:Nat},kS E w F kv fp (aZ σ) bs cur.toList->bs.drop n=rest.map (fun v=> .c (.lit v))->cur.toList.drop n=rest:=by
    intro bs cur n hd he
    have h1:=hd.drop n
    rw[he] at h1
    refine Ow fun j=> ?_
    cases hj:rest[j]? with
    |none=>
     rw[List.getElem?_eq_none_iff] at hj⊢
     rw[<-h1.1];simpa using hj
    |some u=>
     have fx:j<(cur.toList.drop n).length:=by
      rw[<-h1.1,wj]
      rcases lR j rest.length with g|g
      ·exact g
      ·rw[lU g] at hj;cases hj
     rw[gr fx]
     have:=aae (h1.2 j (.c (.lit u)) _ (by rw[mE,hj];rfl) (gr fx))
     rw[this]
   cases own with
   |true=>
    simp only[GN] at hf
    split at hf
    ·rename_i bs he
     split at hf
     ·rename_i HV l0 ks' ht
      rw[fc] at hf
      split at hf
      ·rename_i IP
       cases hf
       have IP:=jp IP
       obtain⟨b,cur,e,h3,h4,h5,h6⟩:=h.cT _ _ he
       rw[hv] at h3
       obtain⟨g1,g2,g3,_⟩:=Kj h ht (fun p jf=>hp p (by simp[jf])) (h6.take cs.length) (pH.1 hn).2
       obtain⟨fl,f1,f2,f3,f4⟩:=g3 rfl
       have aaD:bs.drop cs.length=rest.map fun v=> .c (.lit v):=adg fun p jf=>hp p (pA _ jf)
       have Qg:=KJ h6 aaD
       have rj:cs.length<=cur.size:=by
        have h8:bs.length=cur.size:=by have:=h6.1;simpa using this
        rw[g1,mO] at IP
        omega
       have aa9:b∉fl.flatten:=by
        intro hb
        obtain⟨k',bp,aI⟩:=f4 b hb
        obtain⟨e2,nX⟩:=kH.1 (g2 k' bp)
        exact h.apart _ k' _ e2 b (fun e=>(pH.1 hn).1 (by rw[e];exact bp)) he nX (by rw[h5];simp) aI
       refine⟨[b::fl.flatten],⟨⟨b,cur,e,fl,h3,h4,by omega,by rw[IP,Qg,LW],by rw[IP];exact z5,f1,fun j c hc=> ?_,rfl⟩,trivial⟩,(by rw[Lq,zey,sI,pH];exact⟨aa9,f3⟩),fun c hc=> ?_,fun k hk=> ?_,fun e=>by cases e⟩
       ·have hj:j<cs.length:=by
         rw[<-IP]
         rcases lR j l0.length with g|g
         ·exact g
         ·rw[lU g] at hc;cases hc
        have:=f2 j c hc
        rw[gh,mP,if_pos hj,<-gh] at this
        exact this
       ·simp only[Lq,zey,sI,h_] at hc
        rcases hc with rfl|hc
        ·exact⟨_,cH,by rw[h5];simp⟩
        ·obtain⟨k',bp,hc⟩:=f4 c hc;exact⟨k',aJ _ bp,hc⟩
       ·rcases h_.1 hk with rfl|hk
        ·rw[he];rfl
        ·exact g2 k hk
      ·cases hf
     ·cases hf
    ·cases hf
   |false=>
    simp only[GN] at hf
    split at hf
    ·rename_i bs he
     split at hf
     ·rename_i l0 wl
      rw[fc] at hf
      split at hf
      ·rename_i IP
       cases hf
       have IP:=jp IP
       have lh:=MU wl
       obtain⟨b,cur,e,h3,h4,h5,h6⟩:=h.cT _ _ he
       rw[hv] at h3
       have aaD:bs.drop cs.length=rest.map fun v=> .c (.lit v):=adg fun p jf=>hp p jf
       have Qg:=KJ h6 aaD
       have h8:bs.length=cur.size:=by have:=h6.1;simpa using this
       have rj:cs.length<=cur.size:=by
        have:=congrArg List.length lh
        rw[mO,wj,IP] at this
        omega
       refine⟨[[b]],⟨⟨b,cur,e,List.replicate l0.length [],h3,h4,by omega,by rw[IP,Qg,LW],by rw[IP];exact z5,by simp,fun j c hc=> ?_,by rw[yY]⟩,trivial⟩,by simp,fun c hc=>⟨_,cH,by rw[h5];simpa using hc⟩,by simp[he],fun _ c hc=> ?_⟩
       ·have hj:j<cs.length:=by
         rw[<-IP]
         rcases lR j l0.length with g|g
         ·exact g
         ·rw[lU g] at hc;cases hc
        have hci:bs[j]? =some (.c c):=by
         have:(bs.take cs.length)[j]? =some (.c c):=by rw[lh,mE,hc];rfl
         rwa[mP,if_pos hj] at this
        have h7:=bG (h6.2 j (.c c) (cur.toList.getD j undef) hci (dz (by simp;omega))) rfl
        rw[kA]
        exact h7
       ·refine⟨_,cH,?_⟩
        rw[h5]
        rw[z1] at h3
        cases h3
        rw[z8,h_] at hc
        rcases hc with rfl|hc
        ·simp
        ·exfalso
         obtain⟨l',zh,EF⟩:=X3.1 hc
         obtain⟨j,hj,rfl⟩:=zG zh
         have pg:j<cs.length:=by omega
         have:=z7 j _ (gr pg)
         rw[gh (l:=fl0),gr hj] at this
         exact this.SY (F':=fun _=>False) EF
      ·cases hf
     ·cases hf
    ·cases hf
theorem e_.cons{w0:World}{m:Mode}{v:Value}{Pj:List (DV U)}{E2:List (List Nat)}{ms:List Mode}{vs:List Value}{mu2:List (DV U)}{S1:List (List Nat)}(h:e_ E w F w0 [m] [v] Pj E2)(h':e_ E w F w0 ms vs mu2 S1):
  e_ E w F w0 (m::ms) (v::vs) (Pj++mu2) (E2++S1):=by
 cases m with
 |ro=>cases Pj<;>cases E2<;>first|exact h.elim|exact h'
 |mv=>cases Pj<;>cases E2<;>first|exact h.elim|exact h'
 |wr=>
  cases Pj with
  |nil=>cases E2<;>exact h.elim
  |cons d Pj=>
   cases E2 with
   |nil=>cases d<;>first|exact h.elim|(rename_i c;cases c<;>exact h.elim)
   |cons l E2=>
    cases d with
    |one c=>cases c with
     |lit _=>exact h.elim
     |sl τ ys=>
      obtain⟨h1,h2⟩:=h
      cases Pj<;>cases E2<;>first|exact h2.elim|exact⟨h1,h'⟩
    |agg cs=>
     obtain⟨h1,h2⟩:=h
     cases Pj<;>cases E2<;>first|exact h2.elim|exact⟨h1,h'⟩
    |box _=>exact h.elim
    |ptr _=>exact h.elim
    |fn _=>exact h.elim
 |box own=>
  cases Pj with
  |nil=>cases E2<;>exact h.elim
  |cons d Pj=>
   cases E2 with
   |nil=>cases d<;>exact h.elim
   |cons l E2=>
    cases d with
    |box cs=>
     obtain⟨h1,h2⟩:=h
     cases Pj<;>cases E2<;>first|exact h2.elim|exact⟨h1,h'⟩
    |one _=>exact h.elim
    |agg _=>exact h.elim
    |ptr _=>exact h.elim
    |fn _=>exact h.elim
theorem adU(h:cd E pm F kv fp σ a w){w0:World}{F0:Nat->Prop}{rest:List Value}:∀{ms:List Mode}{i:Nat}{ws:List (List (Option U.Ty))}{ds:List (DV U)}{vs:List Value}{ls:List (List Nat)}{ps:List Prop}{mu:List (DV U)}{ks:List Key},
  rN σ rest i ws ms ds=some (ps,mu,ks)->(∀p∈ps,p)->iN E w0 F0 ms ds vs ls->qb w0 rest ms ds vs->zE kv i ms ds vs->ks.Nodup->
  ∃gS,e_ E w F w0 ms vs mu gS/\gS.flatten.Nodup/\(∀b∈gS.flatten,∃k∈ks,b∈fp k)/\(∀k∈ks,(σ.aU k).isSome=true)/\(Qp ms=false->∀b∈ls.flatten,∃k∈ks,b∈fp k)
 |[],i,ws,[],[],[],ps,mu,ks,hf,hp,oZ,hr,Ey,hn=>by
  simp only[rN,eZ,kG] at hf
  obtain⟨_,rfl,rfl⟩:=hf
  exact⟨[],trivial,by simp,by simp,by simp,by simp⟩
 |m::ms,i,ws,d::ds,v::vs,l::ls,ps,mu,ks,hf,hp,oZ,hr,Ey,hn=>by
  simp only[rN] at hf
  split at hf
  ·rename_i Rv xs ks1 qs ys ks2 h1 h2
   cases hf
   rw[nH] at hn
   obtain⟨n1,n2,n3⟩:=hn
   obtain⟨E2,i1,i2,i3,i4,i5⟩:=aoa h h1 (fun p jf=>hp p (by simp[jf])) oZ.1 hr.1 Ey.1 n1
   obtain⟨S1,j1,j2,j3,j4,j5⟩:=adU h h2 (fun p jf=>hp p (by simp[jf])) oZ.2 hr.2 Ey.2 n2
   refine⟨E2++S1,i1.cons j1,?_,fun b hb=> ?_,fun k hk=>(gA.1 hk).elim (i4 k) (j4 k),fun ho b hb=> ?_⟩
   ·rw[Ak,nH]
    refine⟨i2,j2,fun b hb c hc e=> ?_⟩
    subst e
    obtain⟨k1,lg,js⟩:=i3 b hb
    obtain⟨k2,eS,iY⟩:=j3 b hc
    obtain⟨e1,L5⟩:=kH.1 (i4 k1 lg)
    obtain⟨e2,nX⟩:=kH.1 (j4 k2 eS)
    exact h.apart k1 k2 e1 e2 b (n3 k1 lg k2 eS) L5 nX js iY
   ·rw[Ak,gA] at hb
    rcases hb with hb|hb
    ·obtain⟨k,hk,hb⟩:=i3 b hb;exact⟨k,oE _ hk,hb⟩
    ·obtain⟨k,hk,hb⟩:=j3 b hb;exact⟨k,pA _ hk,hb⟩
   ·simp only[Qp,Rs,Ox] at ho
    rw[Lq,gA] at hb
    rcases hb with hb|hb
    ·have:m=.ro\/m=.box false:=by
      cases m with
      |ro=>exact .inl rfl
      |wr=>simp at ho
      |mv=>simp at ho
      |box own=>cases own with
       |true=>simp at ho
       |false=>exact .inr rfl
     rcases this with rfl|rfl
     ·have:l=[]:=by cases d<;>first|exact oZ.1.2|(obtain⟨_,_,_,_,h⟩:=oZ.1;exact h)|exact oZ.1.elim
      rw[this] at hb;cases hb
     ·obtain⟨k,hk,hb⟩:=i5 rfl b hb;exact⟨k,oE _ hk,hb⟩
    ·obtain⟨k,hk,hb⟩:=j5 ho.2 b hb;exact⟨k,pA _ hk,hb⟩
  ·cases hf
 |[],_,_,_::_,_,_,_,_,_,_,_,oZ,_,_,_=>oZ.elim
 |[],_,_,[],_::_,_,_,_,_,_,_,oZ,_,_,_=>oZ.elim
 |[],_,_,[],[],_::_,_,_,_,_,_,oZ,_,_,_=>oZ.elim
 |_::_,_,_,[],_,_,_,_,_,_,_,oZ,_,_,_=>oZ.elim
 |_::_,_,_,_::_,[],_,_,_,_,_,_,oZ,_,_,_=>oZ.elim
 |_::_,_,_,_::_,_::_,[],_,_,_,_,_,oZ,_,_,_=>oZ.elim
theorem e_.mono{w0:World}{F':Nat->Prop}(hF:∀b,F b->F' b):∀{ms:List Mode}{vs:List Value}{dm:List (DV U)}{ls:List (List Nat)},e_ E w F w0 ms vs dm ls->e_ E w F' w0 ms vs dm ls:=by
 intro ms
 induction ms with
 |nil=>intro vs dm ls h;cases vs<;>cases dm<;>cases ls<;>first|trivial|exact h.elim
 |cons m ms ih=>
  intro vs dm ls h
  cases m with
  |ro=>cases vs with
   |nil=>cases dm<;>cases ls<;>exact h.elim
   |cons v vs=>simp only[e_] at h⊢;exact ih h
  |mv=>cases vs with
   |nil=>cases dm<;>cases ls<;>exact h.elim
   |cons v vs=>simp only[e_] at h⊢;exact ih h
  |wr=>cases vs with
   |nil=>cases dm<;>cases ls<;>exact h.elim
   |cons v vs=>cases dm with
    |nil=>cases ls<;>exact h.elim
    |cons d dm=>cases d with
     |one c=>cases c with
      |lit _=>cases ls<;>exact h.elim
      |sl τ ys=>cases ls with
       |nil=>exact h.elim
       |cons l ls=>exact⟨cF.any h.1,ih h.2⟩
     |agg cs=>cases ls with
       |nil=>exact h.elim
       |cons l ls=>exact⟨h.1.any,ih h.2⟩
     |box _=>cases ls<;>exact h.elim
     |ptr _=>cases ls<;>exact h.elim
     |fn _=>cases ls<;>exact h.elim
  |box own=>cases vs with
   |nil=>cases dm<;>cases ls<;>exact h.elim
   |cons v vs=>cases dm with
    |nil=>cases ls<;>exact h.elim
    |cons d dm=>cases d with
     |box cs=>cases ls with
       |nil=>exact h.elim
       |cons l ls=>exact⟨h.1.fe hF,ih h.2⟩
     |one _=>cases ls<;>exact h.elim
     |agg _=>cases ls<;>exact h.elim
     |ptr _=>cases ls<;>exact h.elim
     |fn _=>cases ls<;>exact h.elim
theorem LB:∀{ms:List Mode}{ds:List (DV U)}{vs:List Value}{ls:List (List Nat)},iN E w F ms ds vs ls->tO ms=true->ls.flatten=[]
 |[],[],[],[],_,_=>rfl
 |m::ms,d::ds,v::vs,l::ls,h,hr=>by
  simp only[tO,zdr,fY] at hr
  have h2:=LB h.2 hr.2
  have h1:l=[]:=by
   cases m with
   |ro=>cases d<;>first|exact h.1.2|(obtain⟨_,_,_,_,h⟩:=h.1;exact h)|exact h.1.elim
   |wr=>simp at hr
   |mv=>simp at hr
   |box _=>simp at hr
  simp[h1,h2]
 |[],_::_,_,_,h,_=>h.elim
 |[],[],_::_,_,h,_=>h.elim
 |[],[],[],_::_,h,_=>h.elim
 |_::_,[],_,_,h,_=>h.elim
 |_::_,_::_,[],_,h,_=>h.elim
 |_::_,_::_,_::_,[],h,_=>h.elim
inductive Bd:U.C->Prop
 |lit (v:Value) (h:fu v):Bd (.lit v)
 |sl (τ:U.Ty) (xs:List (U.T τ)) (hl:xs.length<=maxLen) (h:∀(i:Nat)(x:U.T τ)(j:Nat)(c:U.C),xs[i]? =some x->(U.enc τ x)[j]? =some c->Bd c):Bd (.sl τ xs)
theorem Rp.bd{m:Bool}{c:U.C}{v:Value}{l:List Nat}(h:Rp E w F m c v l):Bd c:=by
 induction h with
 |lit m v h=>exact .lit v h
 |nil m τ a c h=>exact .sl τ [] (by simp) (fun i x j c hx=>by simp at hx)
 |shr τ xs b off cap vs NS hc hm hv hr ih=>exact .sl τ xs hm ih
 |own τ xs b cap cur vs dH hb hc hm hs hv hr ih=>exact .sl τ xs (En hc hm) ih
def dT:DV U->Prop
 | .one c=>Bd c
 | .agg cs=>∀c∈cs,Bd c
 | .box cs=>∀c∈cs,Bd c
 | .ptr cs=>∀c∈cs,Bd c
 | .fn _=>True
theorem GX{cs:List U.C}(hh:∀(i:Nat)(c:U.C),cs[i]? =some c->Bd c):∀c∈cs,Bd c:=by
 intro c hc
 obtain⟨i,hi,rfl⟩:=zG hc
 exact hh i _ (gr hi)
theorem lH.bd{cs:List U.C}{v:Value}{l:List Nat}(h:lH E w F cs v l):∀c∈cs,Bd c:=by
 obtain⟨vs,fl,_,_,_,h4,_⟩:=h
 exact GX fun i c hc=>(h4 i c hc).bd
theorem mN.bd{m:Mode}{d:DV U}{v:Value}{l:List Nat}(h:mN E w F m d v l):dT d:=by
 cases m with
 |ro=>
  cases d with
  |one c=>exact h.1.bd
  |agg cs=>obtain⟨vs,_,_,h3,_⟩:=h;exact GX fun i c hc=>(h3 i c hc).bd
  |ptr cs=>
   obtain⟨⟨b,o,_,_,h3⟩,_⟩:=h
   exact GX fun i c hc=>by obtain⟨u,_,h5⟩:=h3 i c hc;exact h5.bd
  |fn _=>trivial
  |box _=>exact h.elim
 |wr=>
  cases d with
  |one c=>
   cases c with
   |lit _=>exact h.elim
   |sl τ xs=>exact(h.i_ (F':=fun _=>True) (fun _ _=>trivial) (fun _ _=>trivial)).bd
  |agg _=>exact lH.bd h
  |box _=>exact h.elim
  |ptr _=>exact h.elim
  |fn _=>exact h.elim
 |mv=>
  cases d with
  |one c=>exact Rp.bd h
  |agg _=>exact lH.bd h
  |box _=>exact h.elim
  |ptr _=>exact h.elim
  |fn _=>exact h.elim
 |box own=>
  cases d with
  |box cs=>obtain⟨b,cur,e,fl,_,_,_,_,_,_,h7,_⟩:=h;exact GX fun i c hc=>(h7 i c hc).bd
  |one _=>exact h.elim
  |agg _=>exact h.elim
  |ptr _=>exact h.elim
  |fn _=>exact h.elim
theorem iN.bd:∀{ms:List Mode}{ds:List (DV U)}{vs:List Value}{ls:List (List Nat)},iN E w F ms ds vs ls->∀d∈ds,dT d
 |[],[],[],[],_,d,hd=>by simp at hd
 |m::ms,d0::ds,v::vs,l::ls,h,d,hd=>by
  rcases h_.1 hd with rfl|hd
  ·exact h.1.bd
  ·exact iN.bd h.2 d hd
 |[],_::_,_,_,h,_,_=>h.elim
 |[],[],_::_,_,h,_,_=>h.elim
 |[],[],[],_::_,h,_,_=>h.elim
 |_::_,[],_,_,h,_,_=>h.elim
 |_::_,_::_,[],_,h,_,_=>h.elim
 |_::_,_::_,_::_,[],h,_,_=>h.elim
theorem Fi(hE:E.Good){f:FuncId}{fn:Func}{c:Code}(hf:E.P.funcs[f]? =some fn)(hb:fn.body=some c)(k:kq U)(hms:k.md.length<=fn.ntmps)(mS:fn.ntmps<=1000000)(js:r_ k.md=true\/k.LA=0)
  (hw:∀x,(∀p∈k.pre x,p)->(∀d∈k.ds x,dT d)->∀rest,(k.md.any ly=true->rest.length=k.LA)->(k.md.any ly=false->rest=[])->
   ∀vs:List Value,vs.length=k.md.length->∃τ,(∀{pm:Pm}{F:Nat->Prop}{kv:Key->Value}{fp:Key->List Nat}{a:Act}{w:World},cd E pm F kv fp (entry rest fn.ntmps k.md (k.ds x)) a w->(∀i,i<vs.length->a.tmps.getD i undef=vs.getD i undef)->cd E pm F kv fp τ a w)/\
    WpS E c τ (leave E fn.results.toList fn.resultTypes.toList rest fn.params.toList k.md (k.ds x) (k.ot x))):eL E f k:=by
 intro x KK w F vs ls hF tw oZ aaC oB hld
 obtain⟨l1,l2,l3⟩:=oZ.len
 refine calls_of_wp hf hb ?_
 obtain⟨rest,aph,har,hrn⟩:∃rest:List Value,(k.md.any ly=true->rest.length=k.LA)/\qb w rest k.md (k.ds x) vs/\(k.md.any ly=false->rest=[]):=by
  rcases js with js|js
  ·exact⟨tf w k.md (k.ds x) vs,fun h=>adi oZ aaC js h,aeg js,fun h=>adh h⟩
  ·rw[js] at aaC
   exact⟨[],fun _=>js.symm,aef aaC,fun _=>rfl⟩
 obtain⟨J1,Uf,h0,aaE⟩:=aoj (n:=fn.ntmps) (rest:=rest) hF tw oZ har oB hld hms mS
 have fZ:(vs.toArray).size=vs.length:=by simp
 rw[fZ]
 have aeA:∀{kv:Key->Value},(∀i j,j<1024->kv (2000000+i,j)=J1 (2000000+i,j))->∀{i:Nat}{ms:List Mode}{ds:List (DV U)}{vs:List Value}{ls:List (List Nat)}{mu:List Prop×List (DV U)×List Key}{σ:ah U}{ws:List (List (Option U.Ty))},zE J1 i ms ds vs->rN σ rest i ws ms ds=some mu->zE kv i ms ds vs:=by
  intro kv hk i ms
  induction ms generalizing i with
  |nil=>intro ds vs ls mu σ ws _ _;cases ds<;>trivial
  |cons m ms ih=>
   intro ds vs ls mu σ ws hp hfm
   cases ds with
   |nil=>trivial
   |cons d ds=>
    cases vs with
    |nil=>trivial
    |cons v vs=>
     simp only[rN] at hfm
     split at hfm
     ·rename_i h1 h2
      refine⟨?_,ih (ls:=[]) hp.2 h2⟩
      have jv:=hp.1
      cases m with
      |ro=>trivial
      |mv=>trivial
      |box own=>
       cases d with
       |box cs=>exact(hk i 0 (by decide)).trans jv
       |one _=>trivial
       |agg _=>trivial
       |ptr _=>trivial
       |fn _=>trivial
      |wr=>
       cases d with
       |one c=>exact(hk i 0 (by decide)).trans jv
       |agg cs=>
        simp only[GN] at h1
        rw[fc] at h1
        split at h1
        ·rename_i hlen
         rw[Vn] at hlen
         obtain⟨us,q1,q2,q3,q4⟩:=jv
         refine⟨us,q1,q2,fun j τ xs hj=> ?_,q4⟩
         have V1:j<cs.length:=by
          rcases lR j cs.length with g|g
          ·exact g
          ·rw[lU g] at hj;cases hj
         exact(hk i j (by omega)).trans (q3 j τ xs hj)
        ·cases h1
       |box _=>trivial
       |ptr _=>trivial
       |fn _=>trivial
     ·cases hfm
 have key:∀(σ:ah U),fin E fn.results.toList fn.resultTypes.toList rest fn.params.toList k.md (k.ds x) (k.ot x) σ->∀F1 kv fp a' w',cd E (Sr w F J1 ls) F1 kv fp σ a' w'->a'.defers=[]/\∃v,(results fn a'.tmps).run E.P w'=.ok v w'/\∃(us:List Value)(oi gS:List (List Nat)),Ending.returned v=.returned (MO us)/\fm (·∈ls.flatten) w w'/\
   lG E w' (rI F w w' (oi.flatten++gS.flatten) ls.flatten) (k.ot x).fresh (k.ot x).val us oi/\
   e_ E w' (rI F w w' (oi.flatten++gS.flatten) ls.flatten) w k.md vs (k.ot x).Kz gS/\
   (oi.flatten++gS.flatten).Nodup/\(∀b∈oi.flatten,(b∈ls.flatten\/w.heap.size<=b)/\b<w'.heap.size)/\(∀b∈gS.flatten,b∈ls.flatten\/(w.heap.size<=b/\b<w'.heap.size)):=by
  intro σ sZ F0 kv ati a' w' hs0
  refine⟨hs0.defers,?_⟩
  obtain⟨F1,fp,hs⟩:=an_ hs0 (fun p hp=>⟨fun hb=>(hld p.1 hb).2 (tw p hp).1,hF _ (tw p hp).1⟩) fn.results.toList
  unfold fin at sZ
  split at sZ
  ·rename_i ps ds ks qs mu ks' ho hm
   rw[fc] at sZ
   split at sZ
   ·rename_i hc
    simp only[fY,Ee,sS] at hc
    obtain⟨⟨c1,c3⟩,c5⟩:=hc
    obtain⟨hp,rfl,rfl⟩:=aec.1 sZ
    obtain⟨d1,d2,d3⟩:=aos c1
    have apw:∀i j,j<1024->kv (2000000+i,j)=J1 (2000000+i,j):=fun i j hj=>(hs.HW (2000000+i,j) (J1 (2000000+i,j)) (by simp[Sr,hj])).2.2.2
    obtain⟨gS,m1,m2,m3,m4,_⟩:=adU hs hm (fun p jf=>hp p (by simp[jf])) oZ har (aeA apw (ls:=[]) aaE hm) (sV.1 d2)
    have mT:∀{k':Key}{b:Nat},((I2 fn.results.toList σ).aU k').isSome=true->b∈fp k'->¬F1 b/\(b∈ls.flatten\/w.heap.size<=b)/\b<w'.heap.size:=by
     intro k' b bp hb
     obtain⟨e,he⟩:=kH.1 bp
     exact hs.cU k' e b he hb
    have TI:∀b∈gS.flatten,b∈ls.flatten\/(w.heap.size<=b/\b<w'.heap.size):=by
     intro b hb
     obtain⟨k',bp,hb⟩:=m3 b hb
     have:=mT (m4 k' bp) hb
     rcases this.2.1 with g|g
     ·exact .inl g
     ·exact .inr ⟨g,this.2.2⟩
    have hG:∀own:List Nat,(∀b∈own,¬F1 b)->∀b,F1 b->rI F w w' own ls.flatten b:=fun own ho b hb=>by
     rcases hs.ny b hb with g|g|g
     ·exact .inl g
     ·exact .inr ⟨.inr g,hs.lT b hb,fun hbo=>ho b hbo hb⟩
     ·exact .inr ⟨.inl g,hs.lT b hb,fun hbo=>ho b hbo hb⟩
    obtain⟨us,oi,o1,o2,o3,o4,o5⟩:=am3 hs ho (fun p jf=>hp p (by simp[jf])) (sV.1 d1)
    have hG1:=hG (oi.flatten++gS.flatten) fun b hbo=>by
     rcases gA.1 hbo with g|g
     ·obtain⟨k',bp,g⟩:=o4 b g;exact(mT (o5 k' bp) g).1
     ·obtain⟨k',bp,g⟩:=m3 b g;exact(mT (m4 k' bp) g).1
    refine⟨_,amJ o1,_,oi,gS,rfl,hs.upto,o2 _ hG1 (fun k' e b hkr he hb=> ?_),m1.mono hG1,?_,fun b hb=> ?_,TI⟩
    ·have:=mT (by rw[he];rfl) hb
     refine .inr ⟨this.2.1.symm,this.2.2,fun hbm=> ?_⟩
     have Gt:∀k2 e2,k2∈ks++ks'->(I2 fn.results.toList σ).aU k2=some e2->b∉fp k2:=fun k2 e2 eS nX iY=>by
      refine hs.apart k' k2 e e2 b (fun e=> ?_) he nX hb iY
      have:meet (pO E (I2 fn.results.toList σ) (k.ot x).fresh fn.results.toList) (ks++ks')=true:=tW.2 ⟨k',hkr,nP.2 (by rw[e];exact eS)⟩
      rw[c3] at this;cases this
     rcases gA.1 hbm with g|g
     ·obtain⟨k2,eS,iY⟩:=o4 b g
      obtain⟨e2,nX⟩:=kH.1 (o5 k2 eS)
      exact Gt k2 e2 (oE _ eS) nX iY
     ·obtain⟨k2,eS,iY⟩:=m3 b g
      obtain⟨e2,nX⟩:=kH.1 (m4 k2 eS)
      exact Gt k2 e2 (pA _ eS) nX iY
    ·rw[nH]
     refine⟨o3,m2,fun b hb c hc e=> ?_⟩
     subst e
     obtain⟨k1,lg,js⟩:=o4 b hb
     obtain⟨k2,eS,iY⟩:=m3 b hc
     obtain⟨e1,L5⟩:=kH.1 (o5 k1 lg)
     obtain⟨e2,nX⟩:=kH.1 (m4 k2 eS)
     exact hs.apart k1 k2 e1 e2 b (fun e=>d3 k1 lg (by rw[e];exact eS)) L5 nX js iY
    ·obtain⟨k',bp,hb⟩:=o4 b hb
     exact(mT (o5 k' bp) hb).2
   ·exact sZ.elim
  ·exact sZ.elim
 obtain⟨τ,IH,hwp⟩:=hw x KK oZ.bd rest aph hrn vs (by omega)
 refine hwp (IH h0 (fun i hi=>by simp[Array.getD,gh,hi,MI hi (Nat.le_add_right _ _)])) (fun o ho F1 kv fp a' w' hs=> ?_)
 cases o with
 |normal σ=>exact key σ ho F1 kv fp a' w' hs
 |ret σ=>exact key σ ho F1 kv fp a' w' hs
 |exit id σ=>exact ho.elim
theorem an7(hE:E.Good){f:FuncId}{fn:Func}{c:Code}(hf:E.P.funcs[f]? =some fn)(hb:fn.body=some c)(k:kq U)(n9:k.α->Nat->Option (Ai U))(hms:k.md.length<=fn.ntmps)(mS:fn.ntmps<=1000000)(js:r_ k.md=true\/k.LA=0)
  (hw:∀x,(∀p∈k.pre x,p)->(∀d∈k.ds x,dT d)->∀rest,(k.md.any ly=true->rest.length=k.LA)->(k.md.any ly=false->rest=[])->
   AM.wp E (n9 x) c (entry rest fn.ntmps k.md (k.ds x)) (leave E fn.results.toList fn.resultTypes.toList rest fn.params.toList k.md (k.ds x) (k.ot x))):eL E f k:=
 Fi hE hf hb k hms mS js fun x hp hd rest hr hn _ _=>⟨_,fun h _=>h,J_ hE (hw x hp hd rest hr hn)⟩
theorem cd.over{F:Nat->Prop}{kv:Key->Value}{fp:Key->List Nat}{σ:ah U}{a:Act}{w:World}{pm:Pm}(h:cd E pm F kv fp σ a w)(s:Nat)(x:SV U)(hx:RS E w F kv fp (aZ σ) x (a.tmps.getD s undef)):
  cd E pm F kv fp {σ with bw:=(s,some x)::σ.bw} a w:=by
 refine{h with bw:=fun t y hy=> ?_,bQ:=h.bQ.imp fun tk ht=>ht.cI (fun k e hk _=>⟨hk,rfl,rfl,fun _ _=>rfl⟩) (fun b hb=>⟨hb,rfl⟩)}
 unfold ah.get at hy
 simp only[look] at hy
 cases hb:Nat.beq s t<;>rw[hb] at hy<;>simp only[cond_true,cond_false] at hy
 ·exact h.bw t y hy
 ·cases hy
  rw[<-jp hb]
  exact hx
def GP(n:Nat)(b:Bool)(τ:U.Ty)(xs:List (U.T τ)):ah U:={entry [] n [.ro] [.one (.sl τ xs)] with bw:=(0,some (one (.kn b τ xs)))::(entry [] n [.ro] [.one (.sl τ xs)]).bw}
theorem an6(hE:E.Good){f:FuncId}{fn:Func}{c:Code}(hf:E.P.funcs[f]? =some fn)(hb:fn.body=some c)(k:kq U)(n9:k.α->Nat->Option (Ai U))(hms:k.md.length<=fn.ntmps)(mS:fn.ntmps<=1000000)(js:r_ k.md=true\/k.LA=0)
  (hmd:k.md=[.ro]) (τ:U.Ty) (xs:k.α->List (U.T τ)) (EC:∀x,k.ds x=[.one (.sl τ (xs x))])
  (hw:∀x,(∀p∈k.pre x,p)->(∀d∈k.ds x,dT d)->∀b:Bool,(b=true->xs x=[])->
   AM.wp E (n9 x) c (GP fn.ntmps b τ (xs x)) (leave E fn.results.toList fn.resultTypes.toList [] fn.params.toList k.md (k.ds x) (k.ot x))):eL E f k:=by
 refine Fi hE hf hb k hms mS js fun x hp hd rest hr hn vs yI=> ?_
 have wK:rest=[]:=hn (by rw[hmd];rfl)
 subst wK
 have yI:0<vs.length:=by rw[yI,hmd];decide
 by_cases hv:tv (vs.getD 0 undef)=true->xs x=[]
 ·refine⟨GP fn.ntmps (tv (vs.getD 0 undef)) τ (xs x),fun{pm F kv fp a w} h ha=> ?_,J_ hE (hw x hp hd _ hv)⟩
  rw[hmd,EC] at h
  have h0:=h.bw 0 (one (.c (.sl τ (xs x)))) rfl
  have h1:Rp E w F false (.sl τ (xs x)) (a.tmps.getD 0 undef) []:=bG (bD h0 rfl) rfl
  rw[ha 0 yI] at h1
  have h2:=h.over 0 (one (.kn (tv (vs.getD 0 undef)) τ (xs x))) (fT (x:=.kn (tv (vs.getD 0 undef)) τ (xs x)) (by rw[ha 0 yI];exact⟨by rw[<-ha 0 yI];exact(bD (h.bw 0 (one (.c (.sl τ (xs x)))) rfl) rfl).1,.inr ⟨h1,rfl⟩⟩))
  exact h2
 ·refine⟨GP fn.ntmps false τ (xs x),fun{pm F kv fp a w} h ha=> ?_,J_ hE (hw x hp hd _ (by simp))⟩
  rw[hmd,EC] at h
  have h0:=h.bw 0 (one (.c (.sl τ (xs x)))) rfl
  have h1:Rp E w F false (.sl τ (xs x)) (a.tmps.getD 0 undef) []:=bG (bD h0 rfl) rfl
  rw[ha 0 yI] at h1
  refine absurd (fun hn=> ?_) hv
  rcases h1.inv with⟨h3,_⟩|⟨b,off,cap,rm,h3,_⟩
  ·exact h3
  ·rw[h3] at hn;simp[tv] at hn
end
theorem Rp.env{E E':Env U}(ht:E'.tid=E.tid){w:World}{F:Nat->Prop}{m:Bool}{c:U.C}{v:Value}{l:List Nat}(h:Rp E w F m c v l):Rp E' w F m c v l:=by
 induction h with
 |lit m v h=>exact .lit m v h
 |nil m τ a c h=>exact .nil m τ a c h
 |shr τ xs b off cap vs NS hc hm hv hr ih=>exact .shr τ xs b off cap vs NS hc hm hv ih
 |own τ xs b cap cur vs dH hb hc hm hs hv hr ih=>exact .own τ xs b cap cur vs dH (by rw[ht];exact hb) hc hm hs hv ih
section
variable{E E':Env U}{w:World}{F:Nat->Prop}
theorem cF.env(ht:E'.tid=E.tid){d:Bool}{a:fK U}{v:Value}{l:List Nat}(h:cF E w F d a v l):cF E' w F d a v l:=by
 rcases h with h|⟨b,cap,cur,vs,dH,h1,h2,h3,h4,h5,h6,h7,h8⟩
 ·exact .inl h
 ·exact .inr ⟨b,cap,cur,vs,dH,h1,by rw[ht];exact h2,h3,h4,h5,h6,fun i x j c hx hj=>(h7 i x j c hx hj).env ht,h8⟩
theorem rf.env(ht:E'.tid=E.tid){own:Bool}{cs:List U.C}{rest:List Value}{v:Value}{l:List Nat}(h:rf E w F own cs rest v l):rf E' w F own cs rest v l:=by
 obtain⟨b,cur,e,fl,h1,h2,h3,h4,h5,h6,h7,h8⟩:=h
 exact⟨b,cur,e,fl,h1,h2,h3,h4,h5,h6,fun i c hc=>(h7 i c hc).env ht,h8⟩
theorem lH.env(ht:E'.tid=E.tid){cs:List U.C}{v:Value}{l:List Nat}(h:lH E w F cs v l):lH E' w F cs v l:=by
 obtain⟨vs,fl,h1,h2,h3,h4,h5⟩:=h
 exact⟨vs,fl,h1,h2,h3,fun i c hc=>(h4 i c hc).env ht,h5⟩
theorem RDA.env(ht:E'.tid=E.tid){d:DA U}{v:Value}(h:RDA E w F d v):RDA E' w F d v:=by
 obtain⟨vs,h1,h2,h3⟩:=h
 exact⟨vs,h1,fun i c hc=>(h2 i c hc).env ht,h3⟩
theorem mC.env(hP:E'.P=E.P)(ht:E'.tid=E.tid){p:List (DA U)->Option Value}{v:Value}(h:mC E w F p v):mC E' w F p v:=by
 obtain⟨g,oe,h1,h2,h3⟩:=h
 refine⟨g,oe,h1,by rw[hP];exact h2,fun ds r hr w' F' h4 h5 vs h6=> ?_⟩
 rw[hP]
 exact h3 ds r hr w' F' h4 h5 vs ⟨h6.1,fun i d v hd hv=>(h6.2 i d v hd hv).env ht.symm⟩
theorem mN.env(hP:E'.P=E.P)(ht:E'.tid=E.tid){m:Mode}{d:DV U}{v:Value}{l:List Nat}(h:mN E w F m d v l):mN E' w F m d v l:=by
 cases m with
 |ro=>
  cases d with
  |one c=>exact⟨h.1.env ht,h.2⟩
  |agg cs=>obtain⟨vs,h1,h2,h3,h4⟩:=h;exact⟨vs,h1,h2,fun i c hc=>(h3 i c hc).env ht,h4⟩
  |ptr cs=>
   obtain⟨⟨b,o,h1,h2,h3⟩,h4⟩:=h
   exact⟨⟨b,o,h1,h2,fun i c hc=>by obtain⟨u,g1,g2⟩:=h3 i c hc;exact⟨u,g1,g2.env ht⟩⟩,h4⟩
  |fn _=>exact⟨h.1.env hP ht,h.2⟩
  |box _=>exact h.elim
 |wr=>
  cases d with
  |one c=>cases c with
   |lit _=>exact h.elim
   |sl τ xs=>exact cF.env ht h
  |agg _=>exact lH.env ht h
  |box _=>exact h.elim
  |ptr _=>exact h.elim
  |fn _=>exact h.elim
 |mv=>
  cases d with
  |one c=>exact Rp.env ht h
  |agg _=>exact lH.env ht h
  |box _=>exact h.elim
  |ptr _=>exact h.elim
  |fn _=>exact h.elim
 |box own=>
  cases d with
  |box cs=>exact rf.env ht h
  |one _=>exact h.elim
  |agg _=>exact h.elim
  |ptr _=>exact h.elim
  |fn _=>exact h.elim
theorem iN.env(hP:E'.P=E.P)(ht:E'.tid=E.tid):∀{ms:List Mode}{ds:List (DV U)}{vs:List Value}{ls:List (List Nat)},iN E w F ms ds vs ls->iN E' w F ms ds vs ls
 |[],[],[],[],_=>trivial
 |m::ms,d0::ds,v::vs,l::ls,h=>⟨h.1.env hP ht,iN.env hP ht h.2⟩
 |[],_::_,_,_,h=>h.elim
 |[],[],_::_,_,h=>h.elim
 |[],[],[],_::_,h=>h.elim
 |_::_,[],_,_,h=>h.elim
 |_::_,_::_,[],_,h=>h.elim
 |_::_,_::_,_::_,[],h=>h.elim
theorem kp.env(ht:E'.tid=E.tid){fresh:Bool}{d:DV U}{v:Value}{l:List Nat}(h:kp E w F fresh d v l):kp E' w F fresh d v l:=by
 cases d with
 |ptr _=>exact h
 |fn _=>exact h
 |one c=>cases fresh with
  |true=>exact Rp.env ht h
  |false=>exact⟨h.1.env ht,h.2⟩
 |agg cs=>cases fresh with
  |true=>exact lH.env ht h
  |false=>obtain⟨vs,h1,h2,h3,h4⟩:=h;exact⟨vs,h1,h2,fun i c hc=>(h3 i c hc).env ht,h4⟩
 |box cs=>obtain⟨g,b,cur,e,h1,h2,h3,h4,h5⟩:=h;exact⟨g,b,cur,e,h1,h2,h3,h4,fun i c hc=>(h5 i c hc).env ht⟩
theorem lG.env(ht:E'.tid=E.tid):∀{fs:List Bool}{ds:List (DV U)}{us:List Value}{ls:List (List Nat)},lG E w F fs ds us ls->lG E' w F fs ds us ls
 |_,[],[],[],_=>trivial
 |_,d::ds,u::us,l::ls,h=>⟨h.1.env ht,lG.env ht h.2⟩
 |_,[],_::_,_,h=>h.elim
 |_,[],[],_::_,h=>h.elim
 |_,_::_,[],_,h=>h.elim
 |_,_::_,_::_,[],h=>h.elim
theorem e_.env(ht:E'.tid=E.tid){w0:World}:∀{ms:List Mode}{vs:List Value}{dm:List (DV U)}{ls:List (List Nat)},e_ E w F w0 ms vs dm ls->e_ E' w F w0 ms vs dm ls:=by
 intro ms
 induction ms with
 |nil=>intro vs dm ls h;cases vs<;>cases dm<;>cases ls<;>first|trivial|exact h.elim
 |cons m ms ih=>
  intro vs dm ls h
  cases m with
  |ro=>cases vs with
   |nil=>cases dm<;>cases ls<;>exact h.elim
   |cons v vs=>simp only[e_] at h⊢;exact ih h
  |mv=>cases vs with
   |nil=>cases dm<;>cases ls<;>exact h.elim
   |cons v vs=>simp only[e_] at h⊢;exact ih h
  |wr=>cases vs with
   |nil=>cases dm<;>cases ls<;>exact h.elim
   |cons v vs=>cases dm with
    |nil=>cases ls<;>exact h.elim
    |cons d dm=>cases d with
     |one c=>cases c with
      |lit _=>cases ls<;>exact h.elim
      |sl τ ys=>cases ls with
       |nil=>exact h.elim
       |cons l ls=>exact⟨h.1.env ht,ih h.2⟩
     |agg cs=>cases ls with
       |nil=>exact h.elim
       |cons l ls=>exact⟨h.1.env ht,ih h.2⟩
     |box _=>cases ls<;>exact h.elim
     |ptr _=>cases ls<;>exact h.elim
     |fn _=>cases ls<;>exact h.elim
  |box own=>cases vs with
   |nil=>cases dm<;>cases ls<;>exact h.elim
   |cons v vs=>cases dm with
    |nil=>cases ls<;>exact h.elim
    |cons d dm=>cases d with
     |box cs=>cases ls with
       |nil=>exact h.elim
       |cons l ls=>exact⟨h.1.env ht,ih h.2⟩
     |one _=>cases ls<;>exact h.elim
     |agg _=>cases ls<;>exact h.elim
     |ptr _=>cases ls<;>exact h.elim
     |fn _=>cases ls<;>exact h.elim
end
theorem eL.env{E E':Env U}(hP:E'.P=E.P)(ht:E'.tid=E.tid)(hT:E'.CE=E.CE){f:FuncId}{k:kq U}(h:eL E f k):eL E' f k:=by
 intro x hp w F vs ls h1 hL h2 KJ h3 h4
 have:=h x hp w F vs ls h1 (by unfold Lj;rw[<-hT];exact hL) (h2.env hP.symm ht.symm) KJ h3 h4
 rw[hP]
 refine this.mono ?_
 rintro e w' ⟨us,oi,gS,g1,g2,g3,g4,g5⟩
 exact⟨us,oi,gS,g1,g2,g3.env ht,g4.env ht,g5⟩
section
variable{E E':Env U}{w:World}{F:Nat->Prop}{kv:Key->Value}{fp:Key->List Nat}{bad:Key->Bool}
theorem RD.env(ht:E'.tid=E.tid){x:AC U}{v:Value}(h:RD E w F kv fp bad x v):RD E' w F kv fp bad x v:=by
 refine⟨h.1,h.2.imp id fun h2=> ?_⟩
 cases x with
 |c x=>exact Rp.env ht h2
 |kn b τ xs=>exact⟨Rp.env ht h2.1,h2.2⟩
 |ia cs=>
  obtain⟨b,o,g1,g2,g3⟩:=h2
  refine⟨b,o,g1,g2,fun j c hc=> ?_⟩
  obtain⟨u,g4,g5⟩:=g3 j c hc
  exact⟨u,g4,g5.env ht⟩
 |e0=>exact h2
 |ref k p=>exact h2
 |sub k wd lo hi=>exact h2
 |iC k p i wd off=>exact h2
 |ji k off=>exact h2
theorem RV.env(ht:E'.tid=E.tid){x:AV U}{v:Value}(h:RV E w F kv fp bad x v):RV E' w F kv fp bad x v:=by
 obtain⟨vs,h1,h2⟩:=h
 exact⟨vs,⟨h1.1,fun i x v hx hv=>(h1.2 i x v hx hv).env ht⟩,h2⟩
theorem RS.env(hP:E'.P=E.P)(ht:E'.tid=E.tid){x:SV U}{v:Value}(h:RS E w F kv fp bad x v):RS E' w F kv fp bad x v:=by
 cases x with
 |v x=>exact RV.env ht h
 |tX xs=>
  obtain⟨vs,h1,h2,h3⟩:=h
  exact⟨vs,h1,h2,fun i x u hx hu=>(h3 i x u hx hu).env ht⟩
 |fn p=>exact mC.env hP ht h
 |El g xs=>
  obtain⟨vs,h1,h2,h3⟩:=h
  exact⟨vs,h1,h2,fun i x u hx hu=>(h3 i x u hx hu).env ht⟩
end
theorem Ed.env{E E':Env U}(hP:E'.P=E.P)(ht:E'.tid=E.tid)(hT:E'.CE=E.CE)(hr:E'.raw=E.raw){f:FuncId}(h:Ed E f):Ed E' f:=by
 intro xs ps cs hx
 rw[hr] at hx
 obtain⟨h1,h2⟩:=h xs ps cs hx
 refine⟨by rw[hP];exact h1,fun hp w F kv fp bad vs g1 g2 g3 g4=> ?_⟩
 have:=h2 hp w F kv fp bad vs g1 (by unfold Lj;rw[<-hT];exact g2) g3 (fun i x v hx hv=>(g4 i x v hx hv).env hP.symm ht.symm)
 rw[hP]
 refine this.mono ?_
 rintro e w' ⟨us,k1,k2,k3,k4⟩
 refine⟨us,k1,k2,k3,fun j y u hy hu=> ?_⟩
 rcases k4 j y u hy hu with g|⟨c,g,g'⟩
 ·exact .inl (g.env ht)
 ·exact .inr ⟨c,g,g'.env ht⟩
theorem wg.env{E E':Env U}(hP:E'.P=E.P)(ht:E'.tid=E.tid)(hT:E'.CE=E.CE){f:FuncId}{q:Rh U}(h:wg E f q):wg E' f q:=by
 refine⟨by rw[hP];exact h.1,fun w F v l xs g1 g2 g3 g4 g5=> ?_⟩
 rw[hP]
 refine(h.2 w F v l xs g1 (by unfold Lj;rw[<-hT];exact g2) (g3.env ht.symm) g4 g5).mono ?_
 rintro e w' ⟨k1,k2,k3⟩
 exact⟨k1,k2,k3.env ht⟩
def Jk:List (FuncId×kq U)->FuncId->Option (kq U)
 |[],_=>none
 |(g,k)::r,f=>bif Nat.beq g f then some k else Jk r f
def GS:List (FuncId×kq U)->FuncId->Option (kq U)
 |[],_=>none
 |(g,k)::r,f=>bif Nat.beq g f then Jk r f else GS r f
def Env.add(E:Env U)(l:List (FuncId×kq U)):Env U:={E with NU:=Jk l,NT:=GS l}
def Holds(E:Env U)(p:FuncId×kq U):Prop:=u7 E.P p.1/\eL E p.1 p.2
theorem Holds.env{E E':Env U}{p:FuncId×kq U}(h:Holds E p)(hP:E'.P=E.P)(ht:E'.tid=E.tid)(hT:E'.CE=E.CE):Holds E' p:=⟨by rw[hP];exact h.1,eL.env hP ht hT h.2⟩
theorem adM{E:Env U}(hE:E.Ok){l:List (FuncId×kq U)}(h:∀p∈l,Holds E p):(E.add l).Good:=by
 have one:∀{f:FuncId}{k:kq U}{l:List (FuncId×kq U)},Jk l f=some k->(f,k)∈l:=by
  intro f k l
  induction l with
  |nil=>intro h;cases h
  |cons p l ih=>
   obtain⟨g,k'⟩:=p
   intro h
   simp only[Jk] at h
   cases hb:Nat.beq g f<;>rw[hb] at h<;>simp only[cond_true,cond_false] at h
   ·exact aJ _ (ih h)
   ·cases h
    rw[jp hb]
    exact cH
 have two:∀{f:FuncId}{k:kq U}{l:List (FuncId×kq U)},GS l f=some k->(f,k)∈l:=by
  intro f k l
  induction l with
  |nil=>intro h;cases h
  |cons p l ih=>
   obtain⟨g,k'⟩:=p
   intro h
   simp only[GS] at h
   cases hb:Nat.beq g f<;>rw[hb] at h<;>simp only[cond_true,cond_false] at h
   ·exact aJ _ (ih h)
   ·exact aJ _ (one h)
 have go:∀{f:FuncId}{k:kq U},(f,k)∈l->u7 (E.add l).P f/\eL (E.add l) f k:=fun hm=>⟨(h _ hm).1,eL.env (E:=E) (E':=E.add l) rfl rfl rfl (h _ hm).2⟩
 exact⟨⟨hE.code,hE.mixed,hE.Wa,fun f=>Ed.env (E:=E) (E':=E.add l) rfl rfl rfl rfl (hE.raw f),fun f q hq=>wg.env (E:=E) (E':=E.add l) rfl rfl rfl (hE.Vt f q hq)⟩,fun f k hk=>go (one hk),fun f k hk=>go (two hk)⟩
def zu(fn:Func):Code:=match fn.body with|some c=>c|none=> .skip
def V8(rest:List Value)(E:Env U)(l:List (FuncId×kq U))(fn:Func)(k:kq U)(n9:k.α->Nat->Option (Ai U))(x:k.α):Prop:=
 AM.wp (E.add l) (n9 x) (zu fn) (entry rest fn.ntmps k.md (k.ds x)) (leave (E.add l) fn.results.toList fn.resultTypes.toList rest fn.params.toList k.md (k.ds x) (k.ot x))
def ae2(E:Env U)(l:List (FuncId×kq U))(fn:Func)(k:kq U)(n9:k.α->Nat->Option (Ai U))(x:k.α):Prop:=V8 [] E l fn k n9 x
def Nb(P:Program)(f:FuncId)(fn:Func)(ms:List Mode):Bool:=
 fn.body.isSome&& !(fn.name== "runtime.NumGoroutine")&&Nat.ble ms.length fn.ntmps&&Nat.ble fn.ntmps 1000000
theorem anV{E:Env U}(hE:E.Ok){f:FuncId}{fn:Func}(hf:E.P.funcs[f]? =some fn)(k:kq U)(hc:Nb E.P f fn k.md=true)(l:List (FuncId×kq U))(hl:∀p∈l,Holds E p)
  (n9:k.α->Nat->Option (Ai U)) (hw:∀x,(∀p∈k.pre x,p)->(∀d∈k.ds x,dT d)->∀rest,(k.md.any ly=true->rest.length=k.LA)->(k.md.any ly=false->rest=[])->V8 rest E l fn k n9 x) (js:r_ k.md=true\/k.LA=0):Holds E (f,k):=by
 unfold Nb at hc
 simp only[fY,sS,Vn] at hc
 obtain⟨⟨⟨c1,c2⟩,c3⟩,c4⟩:=hc
 refine⟨⟨fn,hf,c1,c2⟩,?_⟩
 have hb:fn.body=some (zu fn):=by
  unfold zu
  cases h:fn.body with
  |none=>rw[h] at c1;cases c1
  |some c=>rfl
 have:=an7 (E:=E.add l) (adM hE hl) hf hb k n9 c3 c4 js hw
 exact eL.env (E:=E.add l) (E':=E) rfl rfl rfl this
theorem holds_of{E:Env U}(hE:E.Ok){f:FuncId}{fn:Func}(hf:E.P.funcs[f]? =some fn)(k:kq U)(hc:Nb E.P f fn k.md=true)(l:List (FuncId×kq U))(hl:∀p∈l,Holds E p)
  (n9:k.α->Nat->Option (Ai U)) (hw:∀x,(∀p∈k.pre x,p)->(∀d∈k.ds x,dT d)->ae2 E l fn k n9 x) (h0:k.LA=0:=by rfl):Holds E (f,k):=
 anV hE hf k hc l hl n9 (fun x hp hb rest hr hn=>by
  have e:rest=[]:=by
   cases s6:k.md.any ly with
   |false=>exact hn s6
   |true=>exact yG ((hr s6).trans h0)
  rw[e];exact hw x hp hb) (.inr h0)
def zV(E:Env U)(l:List (FuncId×kq U))(fn:Func)(k:kq U)(n9:k.α->Nat->Option (Ai U))(x:k.α)(τ:U.Ty)(xs:List (U.T τ))(b:Bool):Prop:=
 AM.wp (E.add l) (n9 x) (zu fn) (GP fn.ntmps b τ xs) (leave (E.add l) fn.results.toList fn.resultTypes.toList [] fn.params.toList k.md (k.ds x) (k.ot x))
theorem zd{E:Env U}(hE:E.Ok){f:FuncId}{fn:Func}(hf:E.P.funcs[f]? =some fn)(k:kq U)(hc:Nb E.P f fn k.md=true)(hmd:k.md=[.ro])(τ:U.Ty)(xs:k.α->List (U.T τ))(EC:∀x,k.ds x=[.one (.sl τ (xs x))])
  (l:List (FuncId×kq U)) (hl:∀p∈l,Holds E p)
  (n9:k.α->Nat->Option (Ai U)) (hw:∀x,(∀p∈k.pre x,p)->(∀d∈k.ds x,dT d)->zV E l fn k n9 x τ (xs x) false/\(xs x=[]->zV E l fn k n9 x τ (xs x) true)):Holds E (f,k):=by
 unfold Nb at hc
 simp only[fY,sS,Vn] at hc
 obtain⟨⟨⟨c1,c2⟩,c3⟩,c4⟩:=hc
 refine⟨⟨fn,hf,c1,c2⟩,?_⟩
 have hb:fn.body=some (zu fn):=by
  unfold zu
  cases h:fn.body with
  |none=>rw[h] at c1;cases c1
  |some c=>rfl
 have:=an6 (E:=E.add l) (adM hE hl) hf hb k n9 c3 c4 (.inl (by rw[hmd];rfl)) hmd τ xs EC (fun x hp hd b hb=>by
  cases b with
  |false=>exact(hw x hp hd).1
  |true=>exact(hw x hp hd).2 (hb rfl))
 exact eL.env (E:=E.add l) (E':=E) rfl rfl rfl this
def kq.below(k:kq U)(μ:k.α->Nat)(n:Nat):kq U:={k with pre:=fun x=>(μ x<n)::k.pre x}
theorem all_nil{α:Type 1}{p:α->Prop}:∀x∈([]:List α),p x:=fun x hx=>by cases hx
theorem all_cons{α:Type 1}{p:α->Prop}{a:α}{l:List α}(h:p a)(hl:∀x∈l,p x):∀x∈a::l,p x:=by
 intro x hx
 rcases h_.1 hx with rfl|hx
 ·exact h
 ·exact hl x hx
end AM
