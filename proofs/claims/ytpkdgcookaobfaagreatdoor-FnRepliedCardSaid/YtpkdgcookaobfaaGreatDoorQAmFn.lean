/- THE ABSTRACT MACHINE: functions: a contract holds where the weakest precondition of the body does. -/
import Derived.Test.YtpkdgcookaobfaaGreatDoorQAmCode
namespace AM
set_option linter.unusedVariables false
open Go
variable{U:lz}
def EZ(i:Nat)(rest:List Value):Mode->DV U->SV U×List (Nat×iN U)
 | .ro,.one c=>(one (.c c),[])
 | .ro,.agg cs=>(.v ⟨true,cs.map .c⟩,[])
 | .ro,.ptr cs=>(one (.ia cs),[])
 | .ro,.fn p=>(.fn p,[])
 | .wr,.one (.sl τ xs)=>(one (.ref (2000000+i,0) []),[(0,.arr ⟨τ,xs⟩ true)])
 | .wr,.agg cs=>(.v ⟨true,(putCells (2000000+i) true 0 cs).1⟩,(putCells (2000000+i) true 0 cs).2)
 | .mv,.one c=>(.v ⟨false,(putCells (2000000+i) true 4096 [c]).1⟩,(putCells (2000000+i) true 4096 [c]).2)
 | .mv,.agg cs=>(.v ⟨true,(putCells (2000000+i) true 4096 cs).1⟩,(putCells (2000000+i) true 4096 cs).2)
 | .box true,.box cs=>(one (.ky (2000000+i,0) 0),(0,.box ((putCells (2000000+i) true 4096 cs).1++rest.map fun v=> .c (.lit v)))::(putCells (2000000+i) true 4096 cs).2)
 | .box false,.box cs=>(one (.ky (2000000+i,0) 0),[(0,.box (cs.map .c++rest.map fun v=> .c (.lit v)))])
 |_,_=>(.wv [],[])
def E1(rest:List Value):Nat->List Mode->List (DV U)->List (Nat×Option (SV U))
 |i,m::ms,d::ds=>(i,some (EZ i rest m d).1)::E1 rest (i+1) ms ds
 |_,_,_=>[]
def Nn(rest:List Value):Nat->List Mode->List (DV U)->List (Key×Option (iN U))
 |i,m::ms,d::ds=>pO (2000000+i) (EZ i rest m d).2++Nn rest (i+1) ms ds
 |_,_,_=>[]
def entry(rest:List Value)(n:Nat)(ms:List Mode)(ds:List (DV U)):ak U:={n,bM:=E1 rest 0 ms ds,oR:=Nn rest 0 ms ds,aT:=[]}
def NU(E:Env U)(σ:ak U):ResultVar->Option (AV U)
 | .tmp t=>match σ.get t with
  |some (.v x)=>some x
  |_=>none
 | .cell a t=>match σ.get a with
  |some (.v ⟨false,[.ky k 0]⟩)=>match σ.bO k,E.size t,E.isAgg t with
   |some (.box cs),some n,some g=>bif Nat.beq n cs.length&&(g||Nat.beq n 1) then some ⟨g,cs⟩ else none
   |_,_,_=>none
  |_=>none
def abo(ds:List (DV U)):Bool:=ds.any fun| .box _=>true|_=>false
def Rs(fresh:Bool)(σ:ak U):AV U->Option (List U.C×Key)
 |⟨false,[.ky k 0]⟩=>bif fresh then(match σ.bO k with|some (.box bs)=>(match plain bs with|some l=>some (l,k)|none=>none)|_=>none) else none
 |_=>none
def outs(E:Env U)(σ:ak U):List Bool->List ResultVar->List TypeId->Option (List Prop×List (DV U)×List Key)
 |_,[],_=>some ([],[],[])
 |fs,r::rs,ts=>match NU E σ r with
  |some x=>
   match Rs (fs.headD true) σ x with
   |some (l,k)=>match outs E σ fs.tail rs ts.tail with
    |some (qs,ds,ks')=>some (qs,.box l::ds,k::ks')
    |none=>none
   |none=>
   let want:=match ts with|t::_=>E.shape 8 t|[]=>[]
   let tb:=restrict σ.bO (SV.v x).keys
   match(bif fs.headD true then(match fe tb want x.cs with|some (ps,cs,ks,true)=>some (ps,cs,ks)|_=>none) else(match cellsOf tb σ.aT want x.cs with|some (ps,cs)=>some (ps,cs,[])|none=>none)) with
   |some (ps,cs,ks)=>match No x cs,outs E σ fs.tail rs ts.tail with
    |some d,some (qs,ds,ks')=>some (ps++qs,d::ds,ks++ks')
    |_,_=>none
   |none=>none
  |none=>none
def pZ(σ:ak U)(i:Nat):Nat->List U.C->Option (List U.C×List Key)
 |_,[]=>some ([],[])
 |j,.lit v::r=>match pZ σ i (j+1) r with|some (cs,ks)=>some (.lit v::cs,ks)|none=>none
 |j,.sl _ _::r=>match σ.bO (2000000+i,j),pZ σ i (j+1) r with
  |some (.arr a true),some (cs,ks)=>some (.sl a.τ a.xs::cs,(2000000+i,j)::ks)
  |_,_=>none
def Rf(bs:List (AC U))(rest:List Value):List Prop:=(bs.length=rest.length)::(match rest with
 |[]=>[]
 |r=>[bs=r.map fun v=> .c (.lit v)])
theorem acY{bs:List (AC U)}{rest:List Value}(h:∀p∈Rf bs rest,p):bs=rest.map fun v=> .c (.lit v):=by
 cases rest with
 |nil=>exact FL (h _ iy)
 |cons r rs=>exact h _ (fA _ iy)
def Iv(σ:ak U)(rest:List Value)(i:Nat)(want:List (Option U.Ty)):Mode->DV U->Option (List Prop×List (DV U)×List Key)
 | .ro,_=>some ([],[],[])
 | .mv,_=>some ([],[],[])
 | .wr,.one (.sl _ _)=>match σ.bO (2000000+i,0) with
  |some (.arr a true)=>some ([],[.one (.sl a.τ a.xs)],[(2000000+i,0)])
  |_=>none
 | .wr,.agg cs=>bif Nat.ble cs.length 1024 then(match pZ σ i 0 cs with|some (ds,ks)=>some ([],[.agg ds],ks)|none=>none) else none
 | .box true,.box cs=>match σ.bO (2000000+i,0) with
  |some (.box bs)=>match fe (restrict σ.bO (SV.v ⟨true,bs⟩).keys) want (bs.take cs.length) with
   |some (ps,l,ks,true)=>bif Nat.beq l.length cs.length then some (ps++Rf (bs.drop cs.length) rest,[.box l],(2000000+i,0)::ks) else none
   |_=>none
  |_=>none
 | .box false,.box cs=>match σ.bO (2000000+i,0) with
  |some (.box bs)=>match plain (bs.take cs.length) with
   |some l=>bif Nat.beq l.length cs.length then some (Rf (bs.drop cs.length) rest,[.box l],[(2000000+i,0)]) else none
   |none=>none
  |_=>none
 |_,_=>none
def th(σ:ak U)(rest:List Value):Nat->List (List (Option U.Ty))->List Mode->List (DV U)->Option (List Prop×List (DV U)×List Key)
 |i,ws,m::ms,d::ds=>match Iv σ rest i (ws.headD []) m d,th σ rest (i+1) ws.tail ms ds with
  |some (ps,xs,ks),some (qs,ys,ks')=>some (ps++qs,xs++ys,ks++ks')
  |_,_=>none
 |_,_,_,_=>some ([],[],[])
def SK(ms:List Mode):Bool:=ms.any fun m=>match m with| .wr=>true| .mv=>true| .box true=>true|_=>false
def tt(ms:List Mode):Bool:=ms.all fun| .ro=>true|_=>false
def qM(E:Env U)(σ:ak U):List Bool->List ResultVar->List Key
 |_,[]=>[]
 |fs,r::rs=>(bif fs.headD true then[] else match NU E σ r with|some x=>(SV.v x).keys|none=>[])++qM E σ fs.tail rs
def fin(E:Env U)(rs:List ResultVar)(ts:List TypeId)(rest:List Value)(ps:List TypeId)(ms:List Mode)(ds:List (DV U))(r:Res U)(σ:ak U):Prop:=
 match outs E (jH σ) r.fresh rs ts,th (jH σ) rest 0 (ps.map E.zJ) ms ds with
 |some (ps,vs,ks),some (qs,mu,ks')=>bif distinct (ks++ks')&& !(meet (qM E (jH σ) r.fresh rs) (ks++ks'))&&(!(abo r.val)||tt ms) then Qt (ps++qs) (vs=r.val/\mu=r.KW) else False
 |_,_=>False
def leave(E:Env U)(rs:List ResultVar)(ts:List TypeId)(rest:List Value)(ps:List TypeId)(ms:List Mode)(ds:List (DV U))(r:Res U):Out U->Prop
 | .ret σ=>fin E rs ts rest ps ms ds r σ
 | .normal σ=>fin E rs ts rest ps ms ds r σ
 | .exit _ _=>False
section
variable{E:Env U}{w:World}{F:Nat->Prop}
theorem js.len:∀{ms:List Mode}{ds:List (DV U)}{vs:List Value}{ls:List (List Nat)},js E w F ms ds vs ls->ds.length=ms.length/\vs.length=ms.length/\ls.length=ms.length
 |[],[],[],[],_=>⟨rfl,rfl,rfl⟩
 |m::ms,d::ds,v::vs,l::ls,h=>by
  obtain⟨h1,h2,h3⟩:=js.len h.2
  simp[h1,h2,h3]
 |[],_::_,_,_,h=>h.elim
 |[],[],_::_,_,h=>h.elim
 |[],[],[],_::_,h=>h.elim
 |_::_,[],_,_,h=>h.elim
 |_::_,_::_,[],_,h=>h.elim
 |_::_,_::_,_::_,[],h=>h.elim
theorem uS{ls:List (List Nat)}:ls.flatten.Nodup↔(∀l∈ls,l.Nodup)/\ls.Pairwise (fun a b=>∀x∈a,∀y∈b,x≠y):=List.pairwise_flatten
theorem al6{ls:List (List Nat)}(h:ls.flatten.Nodup){i j:Nat}(FQ:i≠j){b:Nat}(hb:b∈ls.getD i []):b∉ls.getD j []:=by
 intro bj
 rw[uS] at h
 have gI:∀{k:Nat},b∈ls.getD k []->∃hk:k<ls.length,b∈ls[k]:=by
  intro k hk
  rcases pe k ls.length with g|g
  ·exact⟨g,by rwa[ez,fw g] at hk⟩
  ·rw[ez,od g] at hk;cases hk
 obtain⟨hi,hb⟩:=gI hb
 obtain⟨hj,bj⟩:=gI bj
 have hp:=UC.1 h.2
 rcases Nat.lt_or_gt_of_ne FQ with g|g
 ·exact hp i j hi hj g _ hb _ bj rfl
 ·exact hp j i hj hi g _ bj _ hb rfl
theorem alm{ls:List (List Nat)}{j b:Nat}(hb:b∈ls.getD j []):b∈ls.flatten:=by
 rcases pe j ls.length with g|g
 ·rw[ez,fw g] at hb
  exact Zf.2 ⟨_,FH g,hb⟩
 ·rw[ez,od g] at hb;cases hb
theorem adb{ls:List (List Nat)}(h:ls.flatten.Nodup)(j:Nat):(ls.getD j []).Nodup:=by
 rcases pe j ls.length with g|g
 ·rw[ez,fw g]
  exact(uS.1 h).1 _ (FH g)
 ·rw[ez,od g];exact Ze
theorem amn{a b:List Key}(h:distinct (a++b)=true):distinct a=true/\distinct b=true/\∀k∈a,k∉b:=by
 rw[uN,rK] at h
 exact⟨uN.2 h.1,uN.2 h.2.1,fun k hk cU=>h.2.2 k hk k cU rfl⟩
theorem aml{x:AV U}{cs:List U.C}{d:DV U}{v:Value}{vs:List Value}{fl:List (List Nat)}(hd:No x cs=some d)(hv:if x.agg then v=.agg vs.toArray else vs=[v])(hl:vs.length=cs.length)(hf:fl.length=cs.length)
  (h:∀(i:Nat)(c:U.C),cs[i]? =some c->Rp E w F true c (vs.getD i undef) (fl.getD i [])):kT E w F true d v fl.flatten:=by
 unfold No at hd
 cases Uv:x.agg<;>rw[Uv] at hd hv<;>simp only[cond_true,cond_false,xv,if_false,if_true] at hd hv
 ·split at hd
  ·rename_i c
   cases hd
   subst hv
   simp only[fK,fv] at hf
   obtain⟨l,rfl⟩:=List.length_eq_one_iff.1 hf
   simpa[kT] using h 0 c rfl
  ·cases hd
 ·cases hd
  simp only[kT,if_true]
  exact⟨vs,fl,hv,hl,hf,h,rfl⟩
theorem amk{x:AV U}{cs:List U.C}{d:DV U}{v:Value}{vs:List Value}(hd:No x cs=some d)(hv:if x.agg then v=.agg vs.toArray else vs=[v])(hl:vs.length=cs.length)
  (h:∀(i:Nat)(c:U.C),cs[i]? =some c->Rp E w F false c (vs.getD i undef) []):kT E w F false d v []:=by
 unfold No at hd
 cases Uv:x.agg<;>rw[Uv] at hd hv<;>simp only[cond_true,cond_false,xv,if_false,if_true] at hd hv
 ·split at hd
  ·rename_i c
   cases hd
   subst hv
   simpa[kT] using h 0 c rfl
  ·cases hd
 ·cases hd
  simp only[kT,xv,if_false]
  exact⟨vs,hv,hl,h,trivial⟩
def Ub(i:Nat)(m:Mode)(d:DV U)(v:Value)(kv:Key->Value):Prop:=
 match m,d with
 | .wr,.one _=>kv (2000000+i,0)=v
 | .wr,.agg cs=>∃vs:List Value,v=.agg vs.toArray/\vs.length=cs.length/\(∀(j:Nat)(τ:U.Ty)(xs:List (U.T τ)),cs[j]? =some (.sl τ xs)->kv (2000000+i,j)=vs.getD j undef)/\(∀(j:Nat)(u:Value),cs[j]? =some (.lit u)->vs.getD j undef=u/\gr u)
 | .box _,.box _=>kv (2000000+i,0)=v
 |_,_=>True
def AJ(kv:Key->Value):Nat->List Mode->List (DV U)->List Value->Prop
 |i,m::ms,d::ds,v::vs=>Ub i m d v kv/\AJ kv (i+1) ms ds vs
 |_,_,_,_=>True
def kW:Mode->Bool
 | .box _=>true
 |_=>false
def rr(w:World)(rest:List Value):List Mode->List (DV U)->List Value->Prop
 |m::ms,d::ds,v::vs=>(∀cs,kW m=true->d=.box cs->rest=sP w v cs.length)/\rr w rest ms ds vs
 |_,_,_=>True
def uK(w:World):List Mode->List (DV U)->List Value->List Value
 |m::ms,d::ds,v::vs=>bif kW m then(match d with| .box cs=>sP w v cs.length|_=>[]) else uK w ms ds vs
 |_,_,_=>[]
def rH:List Mode->Bool
 |[]=>true
 |m::r=>bif kW m then !(r.any kW) else rH r
theorem adR{w:World}{rest:List Value}:∀{ms:List Mode}{ds:List (DV U)}{vs:List Value},ms.any kW=false->rr w rest ms ds vs
 |[],_,_,_=>trivial
 |m::ms,[],_,_=>trivial
 |m::ms,d::ds,[],_=>trivial
 |m::ms,d::ds,v::vs,h=>by
  simp only[UA,QA] at h
  exact⟨fun cs hb _=>(by rw[h.1] at hb;cases hb),adR h.2⟩
theorem adQ{w:World}:∀{ms:List Mode}{ds:List (DV U)}{vs:List Value},rH ms=true->rr w (uK w ms ds vs) ms ds vs
 |[],_,_,_=>trivial
 |m::ms,[],_,_=>trivial
 |m::ms,d::ds,[],_=>trivial
 |m::ms,d::ds,v::vs,h=>by
  unfold rH at h
  unfold uK
  cases hb:kW m<;>rw[hb] at h<;>simp only[cond_true,cond_false] at h⊢
  ·exact⟨fun cs bj _=>(by rw[hb] at bj;cases bj),adQ h⟩
  ·exact⟨fun cs _ hd=>by rw[hd],adR (by simpa using h)⟩
theorem adP{w:World}:∀{ms:List Mode}{ds:List (DV U)}{vs:List Value},tO w 0 ms ds vs->rr w [] ms ds vs
 |[],_,_,_=>trivial
 |m::ms,[],_,_=>trivial
 |m::ms,d::ds,[],_=>trivial
 |m::ms,d::ds,v::vs,h=>by
  refine⟨fun cs hb hd=> ?_,adP h.2⟩
  cases m with
  |box own=>exact(FL (h.1 own cs rfl hd)).symm
  |ro=>cases hb
  |wr=>cases hb
  |mv=>cases hb
theorem acZ{w:World}:∀{ms:List Mode}{ds:List (DV U)}{vs:List Value},ms.any kW=false->uK w ms ds vs=[]
 |[],_,_,_=>rfl
 |m::ms,[],_,_=>rfl
 |m::ms,d::ds,[],_=>rfl
 |m::ms,d::ds,v::vs,h=>by
  simp only[UA,QA] at h
  unfold uK
  rw[h.1]
  exact acZ h.2
theorem ac0{n:Nat}:∀{ms:List Mode}{ds:List (DV U)}{vs:List Value}{ls:List (List Nat)},js E w F ms ds vs ls->tO w n ms ds vs->rH ms=true->ms.any kW=true->(uK w ms ds vs).length=n
 |[],[],[],[],_,_,_,hb=>by simp at hb
 |m::ms,d::ds,v::vs,l::ls,h,hr,h1,hb=>by
  unfold rH at h1
  unfold uK
  cases hm:kW m<;>rw[hm] at h1<;>simp only[cond_true,cond_false] at h1⊢
  ·exact ac0 h.2 hr.2 h1 (by simpa[hm] using hb)
  ·cases m with
   |box own=>
    cases d with
    |box cs=>exact hr.1 own cs rfl rfl
    |one _=>exact h.1.elim
    |agg _=>exact h.1.elim
    |ptr _=>exact h.1.elim
    |fn _=>exact h.1.elim
   |ro=>cases hm
   |wr=>cases hm
   |mv=>cases hm
 |[],_::_,_,_,h,_,_,_=>h.elim
 |[],[],_::_,_,h,_,_,_=>h.elim
 |[],[],[],_::_,h,_,_,_=>h.elim
 |_::_,[],_,_,h,_,_,_=>h.elim
 |_::_,_::_,[],_,h,_,_,_=>h.elim
 |_::_,_::_,_::_,[],h,_,_,_=>h.elim
theorem Ri{dst:Nat}:∀{cs:List U.C}{base:Nat},(((putCells dst true base cs).2).map (·.1)).Nodup/\∀p∈(putCells dst true base cs).2,base<=p.1
 |[],base=>⟨by simp[putCells],fun p hp=>by simp[putCells] at hp⟩
 | .lit v::r,base=>by
  obtain⟨h1,h2⟩:=Ri (dst:=dst) (cs:=r) (base:=base+1)
  exact⟨by simpa[putCells] using h1,fun p hp=>by have:=h2 p (by simpa[putCells] using hp);omega⟩
 | .sl τ xs::r,base=>by
  obtain⟨h1,h2⟩:=Ri (dst:=dst) (cs:=r) (base:=base+1)
  refine⟨?_,fun p hp=> ?_⟩
  ·simp only[putCells,cond_true,wh,tY]
   refine⟨fun hm=> ?_,h1⟩
   obtain⟨p,hp,e⟩:=mf.1 hm
   have:=h2 p hp
   omega
  ·simp only[putCells,cond_true,jZ] at hp
   rcases hp with rfl|hp
   ·exact tX _
   ·have:=h2 p hp;omega
theorem ac4{dst:Nat}:∀{cs:List U.C}{base j:Nat}{τ:U.Ty}{xs:List (U.T τ)},cs[j]? =some (.sl τ xs)->(putCells dst true base cs).1[j]? =some (.ref (dst,base+j) [])
 |[],base,j,τ,xs,h=>by simp at h
 |c::r,base,j,τ,xs,h=>by
  cases j with
  |zero=>
   simp only[vn,gA] at h
   subst h
   rfl
  |succ j=>
   have:=ac4 (dst:=dst) (cs:=r) (base:=base+1) (j:=j) (by simpa using h)
   cases c<;>simpa[putCells,QO,zew 1 j] using this
theorem amg{i:Nat}{rest:List Value}{m:Mode}{d:DV U}{v:Value}{l:List Nat}(h:oK E w F m d v l)(lJ:∀cs,kW m=true->d=.box cs->rest=sP w v cs.length):
  ∃t:fi U,(EZ i rest m d).2=t.es/\(t.map (·.1)).Nodup/\t.bl=l/\∀kv fp bad,(∀s∈t,kv (2000000+i,s.1)=s.2.2.1)->
   RS E w F kv fp bad (EZ i rest m d).1 v/\(∀s∈t,tP E w F kv fp bad s.2.1 s.2.2.1 s.2.2.2)/\Ub i m d v kv:=by
 have agg:∀(bs:Nat){cs:List U.C}{v:Value}{l:List Nat},mF E w F cs v l->∃t:fi U,(putCells (2000000+i) true bs cs).2=t.es/\(t.map (·.1)).Nodup/\t.bl=l/\∃vs:List Value,v=.agg vs.toArray/\vs.length=cs.length/\(∀(j:Nat)(u:Value),cs[j]? =some (.lit u)->vs.getD j undef=u/\gr u)/\
   ∀kv fp bad,(∀s∈t,kv (2000000+i,s.1)=s.2.2.1)->mc E w F kv fp bad (putCells (2000000+i) true bs cs).1 vs/\(∀s∈t,tP E w F kv fp bad s.2.1 s.2.2.1 s.2.2.2):=by
  rintro bs cs v l ⟨vs,fl,h1,h2,h3,h4,h5⟩
  obtain⟨t,t1,t2,t3,t4⟩:=KA (dst:=2000000+i) (base:=bs) h2 h3 h4
  refine⟨t,t1,?_,by rw[t3,h5],vs,h1,h2,fun j u hj=> ?_,fun kv fp bad hk=>⟨t4 kv fp bad hk,fun s hs=>t2 s hs kv fp bad⟩⟩
  ·have:=(Ri (dst:=2000000+i) (cs:=cs) (base:=bs)).1
   rw[t1] at this
   simpa[fi.es,Function.comp_def] using this
  ·obtain⟨_,g2,g3⟩:=(h4 j _ hj).kc
   exact⟨g2,g3⟩
 cases m with
 |ro=>
  cases d with
  |one c=>exact⟨[],rfl,by simp,h.2.symm,fun kv fp bad _=>⟨AI ⟨h.1.gv,.inr h.1⟩,by simp,trivial⟩⟩
  |agg cs=>
   obtain⟨vs,rfl,h2,h3,h4⟩:=h
   exact⟨[],rfl,by simp,h4.symm,fun kv fp bad _=>⟨⟨vs,MR h2 h3,rfl⟩,by simp,trivial⟩⟩
  |ptr cs=>
   obtain⟨⟨b,o,rfl,h2,h3⟩,h4⟩:=h
   exact⟨[],rfl,by simp,h4.symm,fun kv fp bad _=>⟨AI ⟨⟨rfl,trivial⟩,.inr ⟨b,o,rfl,h2,h3⟩⟩,by simp,trivial⟩⟩
  |fn p=>exact⟨[],rfl,by simp,h.2.symm,fun kv fp bad _=>⟨h.1,by simp,trivial⟩⟩
  |box cs=>exact h.elim
 |wr=>
  cases d with
  |one c=>
   cases c with
   |lit _=>exact h.elim
   |sl τ xs=>
    refine⟨[(0,.arr ⟨τ,xs⟩ true,v,l)],rfl,by simp,by simp[fi.bl],fun kv fp bad hk=> ?_⟩
    have BY:kv (2000000+i,0)=v:=hk _ (mI.2 rfl)
    refine⟨AI ⟨?_,.inr (by simp only[RA];rw[BY];rfl)⟩,fun s hs=>by rw[mI.1 hs];exact h,BY⟩
    rcases h with⟨_,⟨ad,rfl⟩,_⟩|⟨b,cap,cur,vs,hZ,rfl,_⟩<;>exact⟨rfl,trivial⟩
  |agg cs=>
   obtain⟨t,t1,t2,t3,vs,t4,t5,t6,t7⟩:=agg 0 h
   refine⟨t,t1,t2,t3,fun kv fp bad hk=> ?_⟩
   obtain⟨g1,g2⟩:=t7 kv fp bad hk
   refine⟨⟨vs,g1,t4⟩,g2,vs,t4,t5,fun j τ xs hj=> ?_,t6⟩
   have hr:=ac4 (dst:=2000000+i) (base:=0) hj
   have gI:j<vs.length:=by
    rw[t5]
    rcases pe j cs.length with g|g
    ·exact g
    ·rw[od g] at hj;cases hj
   have:=cw (g1.2 j _ _ hr (fF (d:=undef) gI)) rfl
   simp only[RA,vk] at this
   exact this.symm
  |box _=>exact h.elim
  |ptr _=>exact h.elim
  |fn _=>exact h.elim
 |mv=>
  cases d with
  |one c=>
   obtain⟨t,t1,t2,t3,t4⟩:=KA (E:=E) (w:=w) (F:=F) (dst:=2000000+i) (base:=4096) (cs:=[c]) (vs:=[v]) (fl:=[l]) rfl rfl (fun j c' hc=>by
    cases j with
    |zero=>simp only[vn,gA] at hc;subst hc;exact h
    |succ j=>simp at hc)
   refine⟨t,t1,?_,by simpa using t3,fun kv fp bad hk=>⟨⟨[v],t4 kv fp bad hk,by simp⟩,fun s hs=>t2 s hs kv fp bad,trivial⟩⟩
   have:=(Ri (dst:=2000000+i) (cs:=[c]) (base:=4096)).1
   rw[t1] at this
   simpa[fi.es,Function.comp_def] using this
  |agg cs=>
   obtain⟨t,t1,t2,t3,vs,t4,t5,t6,t7⟩:=agg 4096 h
   refine⟨t,t1,t2,t3,fun kv fp bad hk=> ?_⟩
   obtain⟨g1,g2⟩:=t7 kv fp bad hk
   exact⟨⟨vs,g1,t4⟩,g2,trivial⟩
  |box _=>exact h.elim
  |ptr _=>exact h.elim
  |fn _=>exact h.elim
 |box own=>
  cases d with
  |box cs=>
   have hrs:=lJ cs rfl rfl
   obtain⟨b,cur,e,fl,h1,h2,h3,h4,h5,h6,h7,h8⟩:=h
   rw[<-hrs] at h4 h5
   have iv:cur.toList.take cs.length++cur.toList.drop cs.length=cur.toList:=Ul _ _
   have sY:∀(j:Nat)(c:U.C),cs[j]? =some c->(cur.toList.take cs.length).getD j undef=cur.toList.getD j undef:=by
    intro j c hc
    have hj:j<cs.length:=by
     rcases pe j cs.length with g|g
     ·exact g
     ·rw[od g] at hc;cases hc
    simp only[ez,qn,if_pos hj]
   have Xe:∀kv fp bad,mc E w F kv fp bad (rest.map fun v=> .c (.lit v)) rest:=by
    intro kv fp bad
    refine⟨by simp,fun j x u hx hu=> ?_⟩
    rw[nT,hu] at hx
    cases hx
    exact xp (h5 u (Gl hu))
   cases own with
   |true=>
    obtain⟨t,t1,t2,t3,t4⟩:=KA (E:=E) (w:=w) (F:=F) (dst:=2000000+i) (base:=4096) (cs:=cs) (vs:=cur.toList.take cs.length) (fl:=fl) (by simp;omega) h6 (fun j c hc=>by rw[sY j c hc];exact h7 j c hc)
    have Xa:=Ri (dst:=2000000+i) (cs:=cs) (base:=4096)
    refine⟨(0,.box ((putCells (2000000+i) true 4096 cs).1++rest.map fun v=> .c (.lit v)),v,[b])::t,by simp[EZ,fi.es,t1],?_,by rw[h8];simp only[fi.bl,zB,List.singleton_append] at t3⊢;rw[t3],fun kv fp bad hk=> ?_⟩
    ·rw[wh,tY]
     have h0:(t.map (·.1))=((putCells (2000000+i) true 4096 cs).2).map (·.1):=by rw[t1];simp[fi.es,Function.comp_def]
     rw[h0]
     refine⟨fun hm=> ?_,Xa.1⟩
     obtain⟨p,hp,e⟩:=mf.1 hm
     have:=Xa.2 p hp
     simp only at e
     omega
    ·have BY:kv (2000000+i,0)=v:=hk _ iy
     have Aa:=fun s hs=>hk s (fA _ hs)
     refine⟨AI ⟨by rw[h1];exact⟨rfl,trivial⟩,.inr ⟨b,by rw[BY,h1],h1⟩⟩,fun s hs=> ?_,BY⟩
     rcases jZ.1 hs with rfl|hs
     ·refine⟨b,cur,e,h1,h2,rfl,?_⟩
      rw[<-iv,h4]
      exact(t4 kv fp bad Aa).append (Xe kv fp bad)
     ·exact t2 s hs kv fp bad
   |false=>
    have Gd:fl.flatten=[]:=by
     rw[zdm]
     intro b' bj
     obtain⟨l',Ii,Gh⟩:=Zf.1 bj
     obtain⟨j,hj,rfl⟩:=sG Ii
     have ue:j<cs.length:=by omega
     have:=h7 j _ (fw ue)
     rw[ez (l:=fl),fw hj] at this
     exact this.Vx (F':=fun _=>False) Gh
    rw[Gd] at h8
    refine⟨[(0,.box (cs.map .c++rest.map fun v=> .c (.lit v)),v,[b])],rfl,by simp,by simp[fi.bl,h8],fun kv fp bad hk=> ?_⟩
    have BY:kv (2000000+i,0)=v:=hk _ iy
    refine⟨AI ⟨by rw[h1];exact⟨rfl,trivial⟩,.inr ⟨b,by rw[BY,h1],h1⟩⟩,fun s hs=> ?_,BY⟩
    rw[mI.1 hs]
    refine⟨b,cur,e,h1,h2,rfl,?_⟩
    rw[<-iv,h4]
    refine(MR (by simp;omega) (fun j c hc=> ?_)).append (Xe kv fp bad)
    rw[sY j c hc]
    have:=h7 j c hc
    exact this.lD (fun _ hb=>hb) (fun b' bj=>this.Vx bj)
  |one _=>exact h.elim
  |agg _=>exact h.elim
  |ptr _=>exact h.elim
  |fn _=>exact h.elim
theorem alk{dst:Nat}{t:fi U}{k:Key}{e:iN U}(h:eJ (pO dst t.es) k=some e):∃s∈t,k=(dst,s.1)/\e=s.2.1:=by
 have:=F4 h
 simp only[pO,fi.es,List.map_map,mf,Function.comp,pq,gA] at this
 obtain⟨s,hs,h1,h2⟩:=this
 exact⟨s,hs,h1.symm,h2.symm⟩
theorem adz{rest:List Value}:∀{ms:List Mode}{ds:List (DV U)}{vs:List Value}{ls:List (List Nat)}{i:Nat},js E w F ms ds vs ls->rr w rest ms ds vs->
  ∃ts:List (fi U),ts.map fi.bl=ls/\(∀t∈ts,(t.map (·.1)).Nodup)/\
   (∀k e,eJ (Nn rest i ms ds) k=some e->∃j s,s∈ts.getD j []/\k=(2000000+(i+j),s.1)/\e=s.2.1)/\
   ∀kv fp bad,(∀j s,s∈ts.getD j []->kv (2000000+(i+j),s.1)=s.2.2.1)->
    (∀s x,look (E1 rest i ms ds) s=some x->∃j,s=i+j/\j<vs.length/\RS E w F kv fp bad x (vs.getD j undef))/\
    (∀j s,s∈ts.getD j []->tP E w F kv fp bad s.2.1 s.2.2.1 s.2.2.2)/\AJ kv i ms ds vs
 |[],[],[],[],i,_,_=>⟨[],rfl,by simp,fun k e he=>(by cases he),fun kv fp bad _=>⟨fun s x hs=>(by cases hs),by simp,trivial⟩⟩
 |m::ms,d::ds,v::vs,l::ls,i,h,hr=>by
  obtain⟨ts,i1,i2,i3,i4⟩:=adz (rest:=rest) (i:=i+1) h.2 hr.2
  obtain⟨t,t1,t2,t3,t4⟩:=amg (i:=i) h.1 hr.1
  refine⟨t::ts,by rw[wh,t3,i1],fun t' ht=> ?_,fun k e he=> ?_,fun kv fp bad hk=> ?_⟩
  ·rcases jZ.1 ht with rfl|ht
   ·exact t2
   ·exact i2 t' ht
  ·have he:=(F5 _ _ _).symm.trans he
   split at he
   ·rw[t1] at he
    obtain⟨s,hs,h1,h2⟩:=alk he
    exact⟨0,s,by simpa using hs,by simpa using h1,h2⟩
   ·obtain⟨j,s,hs,h1,h2⟩:=i3 k e he
    exact⟨j+1,s,by simpa using hs,by rw[h1];simp only[pq,and_true];omega,h2⟩
  ·obtain⟨g1,g2,g3⟩:=t4 kv fp bad (fun s hs=>by have:=hk 0 s (by simpa using hs);simpa using this)
   obtain⟨k1,k2,k3⟩:=i4 kv fp bad (fun j s hs=>by have:=hk (j+1) s (by simpa using hs);simpa[QO,zew 1 j] using this)
   refine⟨fun s x hs=> ?_,fun j s hs=> ?_,g3,k3⟩
   ·have hs:=(MO _ _ _ _).symm.trans hs
    split at hs
    ·rename_i e;cases hs;exact⟨0,by simp[e],by simp,by simpa using g1⟩
    ·obtain⟨j,rfl,h2,h3⟩:=k1 s x hs
     exact⟨j+1,by omega,by simpa using h2,by simpa using h3⟩
   ·cases j with
    |zero=>exact g2 s (by simpa using hs)
    |succ j=>exact k2 j s (by simpa using hs)
 |[],_::_,_,_,_,h,_=>h.elim
 |[],[],_::_,_,_,h,_=>h.elim
 |[],[],[],_::_,_,h,_=>h.elim
 |_::_,[],_,_,_,h,_=>h.elim
 |_::_,_::_,[],_,_,h,_=>h.elim
 |_::_,_::_,_::_,[],_,h,_=>h.elim
def Ru(w:World)(F:Nat->Prop)(kv:Key->Value)(ls:List (List Nat)):Pm:=
 ⟨w,fun b=>b∈ls.flatten,F,fun k=>if 2000000<=k.1/\k.2<1024 then some (kv k) else none⟩
theorem alZ{ts:List (fi U)}{j:Nat}:(ts.map fi.bl).getD j []=(ts.getD j []).bl:=by
 rw[ez,ez,nT]
 cases ts[j]? <;>rfl
theorem amf{n:Nat}{rest:List Value}{ms:List Mode}{ds:List (DV U)}{vs:List Value}{ls:List (List Nat)}(hF:∀b,F b->b<w.heap.size)(BF:QH E w F)(h:js E w F ms ds vs ls)(hr:rr w rest ms ds vs)(hn:ls.flatten.Nodup)(hl:∀b∈ls.flatten,b<w.heap.size/\¬F b)
  (hms:ms.length<=n) (xx:n<=1000000):
  ∃K3 Wb,cM E (Ru w F K3 ls) F K3 Wb (entry rest n ms ds) {tmps:=vs.toArray++Array.replicate (n-vs.length) undef,defers:=[]} w/\AJ K3 0 ms ds vs:=by
 obtain⟨l1,l2,l3⟩:=h.len
 obtain⟨ts,i1,i2,i3,i4⟩:=adz (rest:=rest) (i:=0) h hr
 have qu:∀{j:Nat},((ts.getD j []).map (·.1)).Nodup:=by
  intro j
  rcases pe j ts.length with g|g
  ·rw[ez,fw g];exact i2 _ (FH g)
  ·rw[ez,od g];exact Ze
 let K3:Key->Value:=fun k=>(ts.getD (k.1-2000000) []).BE k.1 (fun _=>undef) k
 let Wb:Key->List Nat:=fun k=>(ts.getD (k.1-2000000) []).Af k.1 (fun _=>[]) k
 have PW:∀j s,s∈ts.getD j []->K3 (2000000+(0+j),s.1)=s.2.2.1:=by
  intro j s hs
  simp only[K3,vk,Nat.add_sub_cancel_left]
  exact fi.x_ qu hs
 have sZ:∀j s,s∈ts.getD j []->Wb (2000000+(0+j),s.1)=s.2.2.2:=by
  intro j s hs
  simp only[Wb,vk,Nat.add_sub_cancel_left]
  exact fi.vB qu hs
 obtain⟨g1,g2,g3⟩:=i4 K3 Wb (bW (entry rest n ms ds)) PW
 have P7:∀{j:Nat},(ts.getD j []).bl=ls.getD j []:=fun{j}=>by rw[<-i1,alZ]
 have abj:∀{j:Nat}{s:Nat×iN U×Value×List Nat}{b:Nat},s∈ts.getD j []->b∈s.2.2.2->b∈ls.getD j []:=fun{j s b} hs hb=>by rw[<-P7];exact fi.qe.2 ⟨s,hs,hb⟩
 refine⟨K3,Wb,⟨by simp[entry];omega,rfl,fun s x hs=> ?_,fun k e he=> ?_,fun k k' e e' b eZ h1 h2 hb=> ?_,fun k e he=> ?_,fun k e b he hb=> ?_,hF,fun b hb=> .inl hb,hU.refl _ _,fun k v hk=> ?_,BF⟩,g3⟩
 ·obtain⟨j,rfl,hj,h3⟩:=g1 s x hs
  have:(vs.toArray++Array.replicate (n-vs.length) undef).getD (0+j) undef=vs.getD j undef:=by
   rw[vk,QR,Array.getElem?_append_left (by simpa using hj)]
   simp[ez]
  show RS E w F _ _ _ x ((vs.toArray++Array.replicate (n-vs.length) undef).getD (0+j) undef)
  rw[this];exact h3
 ·obtain⟨j,s,hs,rfl,rfl⟩:=i3 k e he
  rw[PW j s hs,sZ j s hs]
  exact g2 j s hs
 ·obtain⟨j,s,hs,rfl,rfl⟩:=i3 k e h1
  obtain⟨j',s',kl,rfl,rfl⟩:=i3 k' e' h2
  rw[sZ j s hs] at hb
  rw[sZ j' s' kl]
  by_cases hj:j=j'
  ·subst hj
   have wm:(ts.getD j []).bl.Nodup:=by rw[P7];exact adb hn j
   exact fi.sh wm hs kl (fun e=>eZ (by rw[e])) hb
  ·exact fun bj=>al6 hn hj (abj hs hb) (abj kl bj)
 ·obtain⟨j,s,hs,rfl,rfl⟩:=i3 k e he
  rw[sZ j s hs]
  have wm:(ts.getD j []).bl.Nodup:=by rw[P7];exact adb hn j
  exact fi.yQ wm hs
 ·obtain⟨j,s,hs,rfl,rfl⟩:=i3 k e he
  rw[sZ j s hs] at hb
  have:=alm (abj hs hb)
  exact⟨(hl b this).2,.inl this,(hl b this).1⟩
 ·simp only[Ru] at hk
  split at hk
  ·rename_i hc
   cases hk
   exact⟨hc.1,hc.2,xx,rfl⟩
  ·cases hk
variable{pm:Pm}{kv:Key->Value}{fp:Key->List Nat}{σ:ak U}{a:Act}
def MJ(tmps:Array Value):ResultVar->Sem Value
 | .tmp t=>pure (tmps.getD t undef)
 | .cell a t=>do loadVar t (<-asAddr (tmps.getD a undef))
def J2(P:Program)(tmps:Array Value)(w:World):List ResultVar->List Value->Prop
 |[],[]=>True
 |r::rs,u::us=>(MJ tmps r).run P w=.ok u w/\J2 P tmps w rs us
 |_,_=>False
theorem adg{P:Program}{tmps:Array Value}{w:World}:∀{rs:List ResultVar}{us:List Value},J2 P tmps w rs us->(List.mapM (MJ tmps) rs).run P w=.ok us w
 |[],[],_=>rfl
 |r::rs,u::us,h=>by
  rw[List.mapM_cons,Sem.run_bind,h.1]
  simp only[Result.andThen,Sem.run_bind,adg h.2]
  rfl
 |[],_::_,h=>h.elim
 |_::_,[],h=>h.elim
theorem akY{P:Program}{fn:Func}{tmps:Array Value}{w:World}{us:List Value}(h:J2 P tmps w fn.results.toList us):
  (results fn tmps).run P w=.ok (Pd us) w:=by
 have hg:(fun x=>match x with
   |ResultVar.tmp t=>(pure (tmps.getD t undef):Sem Value)
   |ResultVar.cell a t=>do loadVar t (<-asAddr (tmps.getD a undef)))=MJ tmps:=by
  funext x;cases x<;>rfl
 unfold results
 have hr:fn.results=fn.results.toList.toArray:=rfl
 rw[hr,List.mapM_toArray]
 show Sem.run P (do
  let vs←Functor.map List.toArray (List.mapM (fun x=>match x with
   |ResultVar.tmp t=>(pure (tmps.getD t undef):Sem Value)
   |ResultVar.cell a t=>do loadVar t (<-asAddr (tmps.getD a undef))) fn.results.toList)
  pure (if h:vs.size=1 then vs[0] else Value.tuple vs)) w=_
 rw[hg,Sem.run_bind]
 have hm:(Functor.map List.toArray (List.mapM (MJ tmps) fn.results.toList)).run P w=.ok us.toArray w:=by
  rw[map_eq_pure_bind,Sem.run_bind,adg h]
  rfl
 rw[hm]
 show Result.ok _ w=_
 congr 1
 match us with
 |[]=>rfl
 |[t]=>rfl
 |t::u::r=>
  rw[dif_neg (by simp)]
  rfl
theorem ac1(h:cM E pm F kv fp σ a w){r:ResultVar}{x:AV U}(hr:NU E σ r=some x):∃u,(MJ a.tmps r).run E.P w=.ok u w/\RV E w F kv fp (bW σ) x u:=by
 unfold NU at hr
 split at hr
 ·rename_i t
  split at hr
  ·rename_i y hy
   cases hr
   exact⟨_,rfl,h.bM t _ hy⟩
  ·cases hr
 ·rename_i s t
  split at hr
  ·rename_i k hk
   split at hr
   ·rename_i cs n g he hn hg
    rw[im] at hr
    split at hr
    ·rename_i hc
     cases hr
     simp only[cJ] at hc
     obtain⟨b,h1,h2⟩:=cw (HT (h.bM s _ hk)) rfl
     obtain⟨b',cur,e,h3,h4,h5,h6⟩:=h.dH k _ he
     rw[h1] at h3;cases h3
     have hlen:n=cur.toList.length:=(nk hc.1).trans h6.1
     obtain⟨v,hv1,hv2⟩:=U8 (E:=E) (w:=w) (us:=cur.toList) (off:=0) (b:=b) hn hg hc.2 hlen.symm (fun j v hj=>by
      simp only[World.cell?,h4,vk]
      simpa using hj)
     refine⟨v,?_,cur.toList,h6,hv2⟩
     have fc:(MJ a.tmps (.cell s t)).run E.P w=(Instr.loadAt t (.pointer (some ⟨b,0,none⟩))).run E.P w:=by
      simp only[MJ,h2,asAddr,Instr.loadAt,Instr.sureAddr,pure_bind]
     rw[fc];exact hv1
    ·cases hr
   ·cases hr
  ·cases hr
theorem ak8(h:cM E pm F kv fp σ a w):∀{rs:List ResultVar}{fs:List Bool}{ts:List TypeId}{ps:List Prop}{ds:List (DV U)}{ks:List Key},outs E σ fs rs ts=some (ps,ds,ks)->(∀p∈ps,p)->ks.Nodup->
  ∃(us:List Value)(sE:List (List Nat)),J2 E.P a.tmps w rs us/\(∀F':Nat->Prop,(∀b,F b->F' b)->(∀k e b,k∈qM E σ fs rs->σ.bO k=some e->b∈fp k->F' b)->nD E w F' fs ds us sE)/\sE.flatten.Nodup/\(∀b∈sE.flatten,∃k∈ks,b∈fp k)/\(∀k∈ks,(σ.bO k).isSome=true):=by
 intro rs
 induction rs with
 |nil=>
  intro fs ts ps ds ks ho hp hn
  simp only[outs,gA,pq] at ho
  obtain⟨rfl,rfl,rfl⟩:=ho
  exact⟨[],[],trivial,fun _ _ _=>trivial,by simp,by simp,by simp⟩
 |cons r rs ih=>
  intro fs ts ps ds ks ho hp hn
  have Ij:∀k,k∈qM E σ fs.tail rs->k∈qM E σ fs (r::rs):=fun k hk=>by
   simp only[qM,jC];exact .inr hk
  simp only[outs] at ho
  split at ho
  ·rename_i x hx
   split at ho
   ·rename_i l k ye
    split at ho
    ·rename_i qs ds2 ks2 K7
     cases ho
     have hh:fs.headD true=true:=by
      cases hh:fs.headD true with
      |true=>rfl
      |false=>
       rw[hh] at ye
       unfold Rs at ye
       split at ye<;>cases ye
     rw[hh] at ye
     unfold Rs at ye
     split at ye
     ·rename_i k0
      simp only[cond_true] at ye
      split at ye
      ·rename_i bs he
       split at ye
       ·rename_i l' hl
        cases ye
        obtain⟨uo,n2⟩:=tY.1 hn
        obtain⟨us,sE,i1,i2,i3,i4,i5⟩:=ih K7 hp n2
        obtain⟨u,hu,vs,r1,r2⟩:=ac1 h hx
        simp only[xv,if_false] at r2
        subst r2
        obtain⟨b,PW,rfl⟩:=cw (r1.2 0 _ u rfl rfl) rfl
        obtain⟨b',cur,e',g1,g2,g3,g4⟩:=h.dH k _ he
        rw[PW] at g1
        simp only[Value.pointer.injEq,gA,Addr.mk.injEq] at g1
        obtain⟨rfl,_,_⟩:=g1
        have vA:=Ph hl
        have Gc:bs.length=l.length:=by rw[vA];simp
        have rZ:kT E w F true (.box l:DV U) (.pointer (some ⟨b,0,none⟩)) [b]:=by
         refine⟨rfl,b,cur,e',rfl,g2,rfl,by rw[<-Gc,g4.1];simp,fun i c hc=> ?_⟩
         have hbc:bs[i]? =some (.c c):=by rw[vA,nT,hc];rfl
         have gI:i<cur.toList.length:=by
          rw[<-g4.1]
          rcases pe i bs.length with g|g
          ·exact g
          ·rw[od g] at hbc;cases hbc
         have sV:cur.toList[i]? =some (cur.toList[i]):=fw gI
         rw[ez,sV]
         exact(cw (g4.2 i _ _ hbc sV) rfl:Rp E w F false _ _ _)
        refine⟨_::us,[b]::sE,⟨hu,i1⟩,fun F' wo hK'=>⟨by rw[hh];exact kT.fT wo rZ,i2 F' wo fun k e b hk=>hK' k e b (Ij k hk)⟩,?_,fun b' bj=> ?_,fun k' cU=> ?_⟩
        ·rw[Ms,rK]
         refine⟨by simp,i3,fun b' bj c hc e=> ?_⟩
         rw[mI.1 bj] at e
         subst e
         obtain⟨k2,lp,ug⟩:=i4 b hc
         obtain⟨e2,uf⟩:=nf.1 (i5 k2 lp)
         exact h.apart k k2 _ e2 b (fun e=>uo (e▸lp)) he uf (by rw[g3];exact mI.2 rfl) ug
        ·rw[Ms,jC] at bj
         rcases bj with bj|bj
         ·rw[mI.1 bj]
          exact⟨k,iy,by rw[g3];exact mI.2 rfl⟩
         ·obtain⟨k2,lp,ug⟩:=i4 b' bj
          exact⟨k2,fA _ lp,ug⟩
        ·rcases jZ.1 cU with rfl|cU
         ·rw[he];rfl
         ·exact i5 k' cU
       ·cases ye
      ·cases ye
     ·cases ye
    ·cases ho
   split at ho
   ·rename_i Um cs ks1 Ba
    split at ho
    ·rename_i d qs ds2 ks2 hd K7
     simp only[gA,pq] at ho
     obtain⟨rfl,rfl,rfl⟩:=ho
     rw[rK] at hn
     obtain⟨n1,n2,n3⟩:=hn
     obtain⟨us,sE,i1,i2,i3,i4,i5⟩:=ih K7 (fun p kJ=>hp p (by simp[kJ])) n2
     obtain⟨u,hu,vs,r1,r2⟩:=ac1 h hx
     cases hh:fs.headD true with
     |true=>
      rw[hh] at Ba
      simp only[cond_true] at Ba
      split at Ba
      ·rename_i KH vT ks' aaC
       cases Ba
       obtain⟨g1,g2,g3,g4⟩:=MM h aaC (fun p kJ=>hp p (by simp[kJ])) r1 n1
       obtain⟨fl,f1,f2,f3,f4⟩:=g3 rfl
       refine⟨u::us,fl.flatten::sE,⟨hu,i1⟩,fun F' wo hK'=>⟨by rw[hh];exact kT.fT wo (aml hd r2 (by rw[g1];exact r1.1.symm) f1 f2),i2 F' wo fun k e b hk=>hK' k e b (Ij k hk)⟩,?_,fun b hb=> ?_,fun k hk=> ?_⟩
       ·rw[Ms,rK]
        refine⟨f3,i3,fun b hb c hc e=> ?_⟩
        subst e
        obtain⟨k1,Aa,uh⟩:=f4 b hb
        obtain⟨k2,lp,ug⟩:=i4 b hc
        obtain⟨e1,V5⟩:=nf.1 (g2 k1 Aa)
        obtain⟨e2,uf⟩:=nf.1 (i5 k2 lp)
        exact h.apart k1 k2 e1 e2 b (n3 k1 Aa k2 lp) V5 uf uh ug
       ·rw[Ms,jC] at hb
        rcases hb with hb|hb
        ·obtain⟨k,hk,hb⟩:=f4 b hb;exact⟨k,sD _ hk,hb⟩
        ·obtain⟨k,hk,hb⟩:=i4 b hb;exact⟨k,rv _ hk,hb⟩
       ·rcases jC.1 hk with hk|hk
        ·exact g2 k hk
        ·exact i5 k hk
      ·cases Ba
     |false=>
      rw[hh] at Ba
      simp only[cond_false] at Ba
      split at Ba
      ·rename_i KH vT aaC
       cases Ba
       obtain⟨g1,g2⟩:=adG h aaC (fun p kJ=>hp p (by simp[kJ])) r1
       refine⟨u::us,[]::sE,⟨hu,i1⟩,fun F' wo hK'=>⟨by
        rw[hh]
        refine amk hd r2 (by rw[g1];exact r1.1.symm) (fun i c hc=>(g2 i c hc).fT (fun b hb=> ?_))
        rcases hb with hb|⟨k,hk,hb⟩
        ·exact wo b hb
        ·rw[zA] at hk
         obtain⟨e,he⟩:=nf.1 hk.2
         exact hK' k e b (by simp only[qM,hh,cond_false,jC,hx];exact .inl hk.1) he hb,i2 F' wo fun k e b hk=>hK' k e b (Ij k hk)⟩,by simpa using i3,by simpa using i4,by simpa using i5⟩
      ·cases Ba
    ·cases ho
   ·cases ho
  ·cases ho
theorem aae(h:cM E pm F kv fp σ a w){i:Nat}:∀{cs:List U.C}{j:Nat}{vs:List Value}{ds:List U.C}{ks:List Key},pZ σ i j cs=some (ds,ks)->vs.length=cs.length->
  (∀(n:Nat)(τ:U.Ty)(xs:List (U.T τ)),cs[n]? =some (.sl τ xs)->kv (2000000+i,j+n)=vs.getD n undef)->(∀(n:Nat)(u:Value),cs[n]? =some (.lit u)->vs.getD n undef=u/\gr u)->
  ds.length=cs.length/\∃fl:List (List Nat),fl.length=ds.length/\(∀(n:Nat)(c:U.C),ds[n]? =some c->Rp E w F true c (vs.getD n undef) (fl.getD n []))/\fl.flatten=ks.flatMap fp/\(∀k∈ks,(σ.bO k).isSome=true/\j<=k.2)/\ks.Nodup
 |[],j,vs,ds,ks,hf,hl,h1,h2=>by
  simp only[pZ,gA,pq] at hf
  obtain⟨rfl,rfl⟩:=hf
  exact⟨rfl,[],rfl,fun n c hc=>by simp at hc,rfl,by simp,by simp⟩
 |c::cs,j,[],ds,ks,hf,hl,h1,h2=>by simp at hl
 |c::cs,j,v::vs,ds,ks,hf,hl,h1,h2=>by
  have Mn:∀(n:Nat)(τ:U.Ty)(xs:List (U.T τ)),cs[n]? =some (.sl τ xs)->kv (2000000+i,j+1+n)=vs.getD n undef:=fun n τ xs hn=>by
   have:=h1 (n+1) τ xs (by simpa using hn)
   simpa[QO,zew 1 n] using this
  have Oi:∀(n:Nat)(u:Value),cs[n]? =some (.lit u)->vs.getD n undef=u/\gr u:=fun n u hn=>by simpa using h2 (n+1) u (by simpa using hn)
  cases c with
  |lit u=>
   simp only[pZ] at hf
   split at hf
   ·rename_i ds' ks' hf'
    cases hf
    obtain⟨i1,fl,i2,i3,i4,i5,i6⟩:=aae h hf' (by simpa using hl) Mn Oi
    obtain⟨g1,g2⟩:=h2 0 u rfl
    have hvu:v=u:=by simpa using g1
    subst hvu
    refine⟨by simp[i1],[]::fl,by simp[i2],fun n c hc=> ?_,by simpa using i4,fun k hk=>⟨(i5 k hk).1,by have:=(i5 k hk).2;omega⟩,i6⟩
    cases n with
    |zero=>simp only[vn,gA] at hc;subst hc;exact .lit _ _ g2
    |succ n=>simpa using i3 n c (by simpa using hc)
   ·cases hf
  |sl τ xs=>
   simp only[pZ] at hf
   split at hf
   ·rename_i y ds' ks' he hf'
    cases hf
    obtain⟨i1,fl,i2,i3,i4,i5,i6⟩:=aae h hf' (by simpa using hl) Mn Oi
    have hv:kv (2000000+i,j)=v:=by simpa using h1 0 τ xs rfl
    have ho:e7 E w F true y (kv (2000000+i,j)) (fp (2000000+i,j)):=h.dH _ _ he
    refine⟨by simp[i1],fp (2000000+i,j)::fl,by simp[i2],fun n c hc=> ?_,by simp[i4],fun k hk=> ?_,?_⟩
    ·cases n with
     |zero=>simp only[vn,gA] at hc;subst hc;rw[hv] at ho;exact ho.rp
     |succ n=>simpa using i3 n c (by simpa using hc)
    ·rcases jZ.1 hk with rfl|hk
     ·exact⟨by rw[he];rfl,tX _⟩
     ·exact⟨(i5 k hk).1,by have:=(i5 k hk).2;omega⟩
    ·rw[tY]
     exact⟨fun hm=>by have:=(i5 _ hm).2;simp only at this;omega,i6⟩
   ·cases hf
theorem al8(h:cM E pm F kv fp σ a w){w0:World}{F0:Nat->Prop}{rest:List Value}{i:Nat}{want:List (Option U.Ty)}{m:Mode}{d:DV U}{v:Value}{l:List Nat}{ps:List Prop}{mu:List (DV U)}{ks:List Key}
  (hf:Iv σ rest i want m d=some (ps,mu,ks)) (hp:∀p∈ps,p) (n9:oK E w0 F0 m d v l) (lJ:∀cs,kW m=true->d=.box cs->rest=sP w0 v cs.length) (Gb:Ub i m d v kv) (hn:ks.Nodup):
  ∃iY,fg E w F w0 [m] [v] mu iY/\iY.flatten.Nodup/\(∀b∈iY.flatten,∃k∈ks,b∈fp k)/\(∀k∈ks,(σ.bO k).isSome=true)/\(m=.box false->∀b∈l,∃k∈ks,b∈fp k):=by
 cases m with
 |ro=>
  simp only[Iv,gA,pq] at hf
  obtain⟨_,rfl,rfl⟩:=hf
  exact⟨[],trivial,by simp,by simp,by simp,fun e=>by cases e⟩
 |mv=>
  simp only[Iv,gA,pq] at hf
  obtain⟨_,rfl,rfl⟩:=hf
  exact⟨[],trivial,by simp,by simp,by simp,fun e=>by cases e⟩
 |wr=>
  cases d with
  |one c=>
   cases c with
   |lit _=>exact n9.elim
   |sl τ xs=>
    simp only[Iv] at hf
    split at hf
    ·rename_i y he
     cases hf
     have hv:kv (2000000+i,0)=v:=Gb
     have ho:e7 E w F true y (kv (2000000+i,0)) (fp (2000000+i,0)):=h.dH _ _ he
     rw[hv] at ho
     exact⟨[fp (2000000+i,0)],⟨ho,trivial⟩,by simpa using h.nodup _ _ he,by simp,by simp[he],fun e=>by cases e⟩
    ·cases hf
  |agg cs=>
   simp only[Iv] at hf
   rw[im] at hf
   split at hf
   ·split at hf
    ·rename_i ds ks' hfc
     cases hf
     obtain⟨vs,p1,p2,p3,p4⟩:=Gb
     obtain⟨i1,fl,i2,i3,i4,i5,i6⟩:=aae h hfc p2 (by simpa using p3) p4
     refine⟨[fl.flatten],⟨⟨vs,fl,p1,by rw[p2,i1],i2,i3,rfl⟩,trivial⟩,?_,fun b hb=> ?_,fun k hk=>(i5 k hk).1,fun e=>by cases e⟩
     ·simp only[Ms,zey,xu]
      rw[i4]
      exact aad h i6 (fun k hk=>(i5 k hk).1)
     ·simp only[Ms,zey,xu] at hb
      rw[i4] at hb
      exact oQ.1 hb
    ·cases hf
   ·cases hf
  |box _=>exact n9.elim
  |ptr _=>exact n9.elim
  |fn _=>exact n9.elim
 |box own=>
  cases d with
  |one _=>exact n9.elim
  |agg _=>exact n9.elim
  |ptr _=>exact n9.elim
  |fn _=>exact n9.elim
  |box cs=>
   have hrs:=lJ cs rfl rfl
   have hv:kv (2000000+i,0)=v:=Gb
   obtain⟨b0,anJ,e0,fl0,z1,z2,z3,z4,z5,z6,z7,z8⟩:=n9
   have M8:∀{bs:List (AC U)}{cur:Array Value}{n:Nat},mc E w F kv fp (bW σ) bs cur.toList->bs.drop n=rest.map (fun v=> .c (.lit v))->cur.toList.drop n=rest:=by
    intro bs cur n hd he
    have h1:=hd.drop n
    rw[he] at h1
    refine Uk fun j=> ?_
    cases hj:rest[j]? with
    |none=>
     rw[List.getElem?_eq_none_iff] at hj⊢
     rw[<-h1.1];simpa using hj
    |some u=>
     have gI:j<(cur.toList.drop n).length:=by
      rw[<-h1.1,xt]
      rcases pe j rest.length with g|g
      ·exact g
      ·rw[od g] at hj;cases hj
     rw[fw gI]
     have:=aap (h1.2 j (.c (.lit u)) _ (by rw[nT,hj];rfl) (fw gI))
     rw[this]
   cases own with
   |true=>
    simp only[Iv] at hf
    split at hf
    ·rename_i bs he
     split at hf
     ·rename_i KH l0 ks' ht
      rw[im] at hf
      split at hf
      ·rename_i K_
       cases hf
       have K_:=nk K_
       obtain⟨b,cur,e,h3,h4,h5,h6⟩:=h.dH _ _ he
       rw[hv] at h3
       obtain⟨g1,g2,g3,_⟩:=MM h ht (fun p kJ=>hp p (by simp[kJ])) (h6.take cs.length) (tY.1 hn).2
       obtain⟨fl,f1,f2,f3,f4⟩:=g3 rfl
       have aaK:bs.drop cs.length=rest.map fun v=> .c (.lit v):=acY fun p kJ=>hp p (rv _ kJ)
       have SB:=M8 h6 aaK
       have P7:cs.length<=cur.size:=by
        have h8:bs.length=cur.size:=by have:=h6.1;simpa using this
        rw[g1,oc] at K_
        omega
       have abl:b∉fl.flatten:=by
        intro hb
        obtain⟨k',cU,bj⟩:=f4 b hb
        obtain⟨e2,uf⟩:=nf.1 (g2 k' cU)
        exact h.apart _ k' _ e2 b (fun e=>(tY.1 hn).1 (by rw[e];exact cU)) he uf (by rw[h5];simp) bj
       refine⟨[b::fl.flatten],⟨⟨b,cur,e,fl,h3,h4,by omega,by rw[K_,SB,hrs],by rw[K_];exact z5,f1,fun j c hc=> ?_,rfl⟩,trivial⟩,(by rw[Ms,zey,xu,tY];exact⟨abl,f3⟩),fun c hc=> ?_,fun k hk=> ?_,fun e=>by cases e⟩
       ·have hj:j<cs.length:=by
         rw[<-K_]
         rcases pe j l0.length with g|g
         ·exact g
         ·rw[od g] at hc;cases hc
        have:=f2 j c hc
        rw[ez,qn,if_pos hj,<-ez] at this
        exact this
       ·simp only[Ms,zey,xu,jZ] at hc
        rcases hc with rfl|hc
        ·exact⟨_,iy,by rw[h5];simp⟩
        ·obtain⟨k',cU,hc⟩:=f4 c hc;exact⟨k',fA _ cU,hc⟩
       ·rcases jZ.1 hk with rfl|hk
        ·rw[he];rfl
        ·exact g2 k hk
      ·cases hf
     ·cases hf
    ·cases hf
   |false=>
    simp only[Iv] at hf
    split at hf
    ·rename_i bs he
     split at hf
     ·rename_i l0 Bb
      rw[im] at hf
      split at hf
      ·rename_i K_
       cases hf
       have K_:=nk K_
       have vA:=Ph Bb
       obtain⟨b,cur,e,h3,h4,h5,h6⟩:=h.dH _ _ he
       rw[hv] at h3
       have aaK:bs.drop cs.length=rest.map fun v=> .c (.lit v):=acY fun p kJ=>hp p kJ
       have SB:=M8 h6 aaK
       have h8:bs.length=cur.size:=by have:=h6.1;simpa using this
       have P7:cs.length<=cur.size:=by
        have:=congrArg List.length vA
        rw[oc,xt,K_] at this
        omega
       refine⟨[[b]],⟨⟨b,cur,e,List.replicate l0.length [],h3,h4,by omega,by rw[K_,SB,hrs],by rw[K_];exact z5,by simp,fun j c hc=> ?_,by rw[zN]⟩,trivial⟩,by simp,fun c hc=>⟨_,iy,by rw[h5];simpa using hc⟩,by simp[he],fun _ c hc=> ?_⟩
       ·have hj:j<cs.length:=by
         rw[<-K_]
         rcases pe j l0.length with g|g
         ·exact g
         ·rw[od g] at hc;cases hc
        have hci:bs[j]? =some (.c c):=by
         have:(bs.take cs.length)[j]? =some (.c c):=by rw[vA,nT,hc];rfl
         rwa[qn,if_pos hj] at this
        have h7:=cw (h6.2 j (.c c) (cur.toList.getD j undef) hci (fF (by simp;omega))) rfl
        rw[HP]
        exact h7
       ·refine⟨_,iy,?_⟩
        rw[h5]
        rw[z1] at h3
        cases h3
        rw[z8,jZ] at hc
        rcases hc with rfl|hc
        ·simp
        ·exfalso
         obtain⟨l',Ii,Gh⟩:=Zf.1 hc
         obtain⟨j,hj,rfl⟩:=sG Ii
         have ue:j<cs.length:=by omega
         have:=z7 j _ (fw ue)
         rw[ez (l:=fl0),fw hj] at this
         exact this.Vx (F':=fun _=>False) Gh
      ·cases hf
     ·cases hf
    ·cases hf
theorem fg.cons{w0:World}{m:Mode}{v:Value}{RR:List (DV U)}{GJ:List (List Nat)}{ms:List Mode}{vs:List Value}{mu2:List (DV U)}{Vz:List (List Nat)}(h:fg E w F w0 [m] [v] RR GJ)(h':fg E w F w0 ms vs mu2 Vz):
  fg E w F w0 (m::ms) (v::vs) (RR++mu2) (GJ++Vz):=by
 cases m with
 |ro=>cases RR<;>cases GJ<;>first|exact h.elim|exact h'
 |mv=>cases RR<;>cases GJ<;>first|exact h.elim|exact h'
 |wr=>
  cases RR with
  |nil=>cases GJ<;>exact h.elim
  |cons d RR=>
   cases GJ with
   |nil=>cases d<;>first|exact h.elim|(rename_i c;cases c<;>exact h.elim)
   |cons l GJ=>
    cases d with
    |one c=>cases c with
     |lit _=>exact h.elim
     |sl τ ys=>
      obtain⟨h1,h2⟩:=h
      cases RR<;>cases GJ<;>first|exact h2.elim|exact⟨h1,h'⟩
    |agg cs=>
     obtain⟨h1,h2⟩:=h
     cases RR<;>cases GJ<;>first|exact h2.elim|exact⟨h1,h'⟩
    |box _=>exact h.elim
    |ptr _=>exact h.elim
    |fn _=>exact h.elim
 |box own=>
  cases RR with
  |nil=>cases GJ<;>exact h.elim
  |cons d RR=>
   cases GJ with
   |nil=>cases d<;>exact h.elim
   |cons l GJ=>
    cases d with
    |box cs=>
     obtain⟨h1,h2⟩:=h
     cases RR<;>cases GJ<;>first|exact h2.elim|exact⟨h1,h'⟩
    |one _=>exact h.elim
    |agg _=>exact h.elim
    |ptr _=>exact h.elim
    |fn _=>exact h.elim
theorem adx(h:cM E pm F kv fp σ a w){w0:World}{F0:Nat->Prop}{rest:List Value}:∀{ms:List Mode}{i:Nat}{ws:List (List (Option U.Ty))}{ds:List (DV U)}{vs:List Value}{ls:List (List Nat)}{ps:List Prop}{mu:List (DV U)}{ks:List Key},
  th σ rest i ws ms ds=some (ps,mu,ks)->(∀p∈ps,p)->js E w0 F0 ms ds vs ls->rr w0 rest ms ds vs->AJ kv i ms ds vs->ks.Nodup->
  ∃iY,fg E w F w0 ms vs mu iY/\iY.flatten.Nodup/\(∀b∈iY.flatten,∃k∈ks,b∈fp k)/\(∀k∈ks,(σ.bO k).isSome=true)/\(SK ms=false->∀b∈ls.flatten,∃k∈ks,b∈fp k)
 |[],i,ws,[],[],[],ps,mu,ks,hf,hp,n9,hr,Gb,hn=>by
  simp only[th,gA,pq] at hf
  obtain⟨_,rfl,rfl⟩:=hf
  exact⟨[],trivial,by simp,by simp,by simp,by simp⟩
 |m::ms,i,ws,d::ds,v::vs,l::ls,ps,mu,ks,hf,hp,n9,hr,Gb,hn=>by
  simp only[th] at hf
  split at hf
  ·rename_i Um xs ks1 qs ys ks2 h1 h2
   cases hf
   rw[rK] at hn
   obtain⟨n1,n2,n3⟩:=hn
   obtain⟨GJ,i1,i2,i3,i4,i5⟩:=al8 h h1 (fun p kJ=>hp p (by simp[kJ])) n9.1 hr.1 Gb.1 n1
   obtain⟨Vz,j1,j2,j3,j4,j5⟩:=adx h h2 (fun p kJ=>hp p (by simp[kJ])) n9.2 hr.2 Gb.2 n2
   refine⟨GJ++Vz,i1.cons j1,?_,fun b hb=> ?_,fun k hk=>(jC.1 hk).elim (i4 k) (j4 k),fun ho b hb=> ?_⟩
   ·rw[Mg,rK]
    refine⟨i2,j2,fun b hb c hc e=> ?_⟩
    subst e
    obtain⟨k1,Aa,uh⟩:=i3 b hb
    obtain⟨k2,lp,ug⟩:=j3 b hc
    obtain⟨e1,V5⟩:=nf.1 (i4 k1 Aa)
    obtain⟨e2,uf⟩:=nf.1 (j4 k2 lp)
    exact h.apart k1 k2 e1 e2 b (n3 k1 Aa k2 lp) V5 uf uh ug
   ·rw[Mg,jC] at hb
    rcases hb with hb|hb
    ·obtain⟨k,hk,hb⟩:=i3 b hb;exact⟨k,sD _ hk,hb⟩
    ·obtain⟨k,hk,hb⟩:=j3 b hb;exact⟨k,rv _ hk,hb⟩
   ·simp only[SK,UA,QA] at ho
    rw[Ms,jC] at hb
    rcases hb with hb|hb
    ·have:m=.ro\/m=.box false:=by
      cases m with
      |ro=>exact .inl rfl
      |wr=>simp at ho
      |mv=>simp at ho
      |box own=>cases own with
       |true=>simp at ho
       |false=>exact .inr rfl
     rcases this with rfl|rfl
     ·have:l=[]:=by cases d<;>first|exact n9.1.2|(obtain⟨_,_,_,_,h⟩:=n9.1;exact h)|exact n9.1.elim
      rw[this] at hb;cases hb
     ·obtain⟨k,hk,hb⟩:=i5 rfl b hb;exact⟨k,sD _ hk,hb⟩
    ·obtain⟨k,hk,hb⟩:=j5 ho.2 b hb;exact⟨k,rv _ hk,hb⟩
  ·cases hf
 |[],_,_,_::_,_,_,_,_,_,_,_,n9,_,_,_=>n9.elim
 |[],_,_,[],_::_,_,_,_,_,_,_,n9,_,_,_=>n9.elim
 |[],_,_,[],[],_::_,_,_,_,_,_,n9,_,_,_=>n9.elim
 |_::_,_,_,[],_,_,_,_,_,_,_,n9,_,_,_=>n9.elim
 |_::_,_,_,_::_,[],_,_,_,_,_,_,n9,_,_,_=>n9.elim
 |_::_,_,_,_::_,_::_,[],_,_,_,_,_,n9,_,_,_=>n9.elim
theorem fg.mono{w0:World}{F':Nat->Prop}(hF:∀b,F b->F' b):∀{ms:List Mode}{vs:List Value}{dm:List (DV U)}{ls:List (List Nat)},fg E w F w0 ms vs dm ls->fg E w F' w0 ms vs dm ls:=by
 intro ms
 induction ms with
 |nil=>intro vs dm ls h;cases vs<;>cases dm<;>cases ls<;>first|trivial|exact h.elim
 |cons m ms ih=>
  intro vs dm ls h
  cases m with
  |ro=>cases vs with
   |nil=>cases dm<;>cases ls<;>exact h.elim
   |cons v vs=>simp only[fg] at h⊢;exact ih h
  |mv=>cases vs with
   |nil=>cases dm<;>cases ls<;>exact h.elim
   |cons v vs=>simp only[fg] at h⊢;exact ih h
  |wr=>cases vs with
   |nil=>cases dm<;>cases ls<;>exact h.elim
   |cons v vs=>cases dm with
    |nil=>cases ls<;>exact h.elim
    |cons d dm=>cases d with
     |one c=>cases c with
      |lit _=>cases ls<;>exact h.elim
      |sl τ ys=>cases ls with
       |nil=>exact h.elim
       |cons l ls=>exact⟨e7.any h.1,ih h.2⟩
     |agg cs=>cases ls with
       |nil=>exact h.elim
       |cons l ls=>exact⟨h.1.any,ih h.2⟩
     |box _=>cases ls<;>exact h.elim
     |ptr _=>cases ls<;>exact h.elim
     |fn _=>cases ls<;>exact h.elim
  |box own=>cases vs with
   |nil=>cases dm<;>cases ls<;>exact h.elim
   |cons v vs=>cases dm with
    |nil=>cases ls<;>exact h.elim
    |cons d dm=>cases d with
     |box cs=>cases ls with
       |nil=>exact h.elim
       |cons l ls=>exact⟨h.1.fT hF,ih h.2⟩
     |one _=>cases ls<;>exact h.elim
     |agg _=>cases ls<;>exact h.elim
     |ptr _=>cases ls<;>exact h.elim
     |fn _=>cases ls<;>exact h.elim
theorem NT:∀{ms:List Mode}{ds:List (DV U)}{vs:List Value}{ls:List (List Nat)},js E w F ms ds vs ls->tt ms=true->ls.flatten=[]
 |[],[],[],[],_,_=>rfl
 |m::ms,d::ds,v::vs,l::ls,h,hr=>by
  simp only[tt,QM,cJ] at hr
  have h2:=NT h.2 hr.2
  have h1:l=[]:=by
   cases m with
   |ro=>cases d<;>first|exact h.1.2|(obtain⟨_,_,_,_,h⟩:=h.1;exact h)|exact h.1.elim
   |wr=>simp at hr
   |mv=>simp at hr
   |box _=>simp at hr
  simp[h1,h2]
 |[],_::_,_,_,h,_=>h.elim
 |[],[],_::_,_,h,_=>h.elim
 |[],[],[],_::_,h,_=>h.elim
 |_::_,[],_,_,h,_=>h.elim
 |_::_,_::_,[],_,h,_=>h.elim
 |_::_,_::_,_::_,[],h,_=>h.elim
inductive Bd:U.C->Prop
 |lit (v:Value) (h:gr v):Bd (.lit v)
 |sl (τ:U.Ty) (xs:List (U.T τ)) (hl:xs.length<=maxLen) (h:∀(i:Nat)(x:U.T τ)(j:Nat)(c:U.C),xs[i]? =some x->(U.enc τ x)[j]? =some c->Bd c):Bd (.sl τ xs)
theorem Rp.bd{m:Bool}{c:U.C}{v:Value}{l:List Nat}(h:Rp E w F m c v l):Bd c:=by
 induction h with
 |lit m v h=>exact .lit v h
 |nil m τ a c h=>exact .sl τ [] (by simp) (fun i x j c hx=>by simp at hx)
 |shr τ xs b off cap vs P9 hc hm hv hr ih=>exact .sl τ xs hm ih
 |own τ xs b cap cur vs hZ hb hc hm hs hv hr ih=>exact .sl τ xs (xr hc hm) ih
def gW:DV U->Prop
 | .one c=>Bd c
 | .agg cs=>∀c∈cs,Bd c
 | .box cs=>∀c∈cs,Bd c
 | .ptr cs=>∀c∈cs,Bd c
 | .fn _=>True
theorem IH{cs:List U.C}(hh:∀(i:Nat)(c:U.C),cs[i]? =some c->Bd c):∀c∈cs,Bd c:=by
 intro c hc
 obtain⟨i,hi,rfl⟩:=sG hc
 exact hh i _ (fw hi)
theorem mF.bd{cs:List U.C}{v:Value}{l:List Nat}(h:mF E w F cs v l):∀c∈cs,Bd c:=by
 obtain⟨vs,fl,_,_,_,h4,_⟩:=h
 exact IH fun i c hc=>(h4 i c hc).bd
theorem oK.bd{m:Mode}{d:DV U}{v:Value}{l:List Nat}(h:oK E w F m d v l):gW d:=by
 cases m with
 |ro=>
  cases d with
  |one c=>exact h.1.bd
  |agg cs=>obtain⟨vs,_,_,h3,_⟩:=h;exact IH fun i c hc=>(h3 i c hc).bd
  |ptr cs=>
   obtain⟨⟨b,o,_,_,h3⟩,_⟩:=h
   exact IH fun i c hc=>by obtain⟨u,_,h5⟩:=h3 i c hc;exact h5.bd
  |fn _=>trivial
  |box _=>exact h.elim
 |wr=>
  cases d with
  |one c=>
   cases c with
   |lit _=>exact h.elim
   |sl τ xs=>exact(h.lD (F':=fun _=>True) (fun _ _=>trivial) (fun _ _=>trivial)).bd
  |agg _=>exact mF.bd h
  |box _=>exact h.elim
  |ptr _=>exact h.elim
  |fn _=>exact h.elim
 |mv=>
  cases d with
  |one c=>exact Rp.bd h
  |agg _=>exact mF.bd h
  |box _=>exact h.elim
  |ptr _=>exact h.elim
  |fn _=>exact h.elim
 |box own=>
  cases d with
  |box cs=>obtain⟨b,cur,e,fl,_,_,_,_,_,_,h7,_⟩:=h;exact IH fun i c hc=>(h7 i c hc).bd
  |one _=>exact h.elim
  |agg _=>exact h.elim
  |ptr _=>exact h.elim
  |fn _=>exact h.elim
theorem js.bd:∀{ms:List Mode}{ds:List (DV U)}{vs:List Value}{ls:List (List Nat)},js E w F ms ds vs ls->∀d∈ds,gW d
 |[],[],[],[],_,d,hd=>by simp at hd
 |m::ms,d0::ds,v::vs,l::ls,h,d,hd=>by
  rcases jZ.1 hd with rfl|hd
  ·exact h.1.bd
  ·exact js.bd h.2 d hd
 |[],_::_,_,_,h,_,_=>h.elim
 |[],[],_::_,_,h,_,_=>h.elim
 |[],[],[],_::_,h,_,_=>h.elim
 |_::_,[],_,_,h,_,_=>h.elim
 |_::_,_::_,[],_,h,_,_=>h.elim
 |_::_,_::_,_::_,[],h,_,_=>h.elim
theorem Ag(hE:E.Good){f:FuncId}{fn:Func}{c:Code}(hf:E.P.funcs[f]? =some fn)(hb:fn.body=some c)(k:jY U)(hms:k.md.length<=fn.ntmps)(xx:fn.ntmps<=1000000)(uh:rH k.md=true\/k.Ku=0)
  (hw:∀x,(∀p∈k.pre x,p)->(∀d∈k.ds x,gW d)->∀rest,(k.md.any kW=true->rest.length=k.Ku)->(k.md.any kW=false->rest=[])->
   ∀vs:List Value,vs.length=k.md.length->∃τ,(∀{pm:Pm}{F:Nat->Prop}{kv:Key->Value}{fp:Key->List Nat}{a:Act}{w:World},cM E pm F kv fp (entry rest fn.ntmps k.md (k.ds x)) a w->(∀i,i<vs.length->a.tmps.getD i undef=vs.getD i undef)->cM E pm F kv fp τ a w)/\
    WpS E c τ (leave E fn.results.toList fn.resultTypes.toList rest fn.params.toList k.md (k.ds x) (k.nY x))):eG E f k:=by
 intro x M9 w F vs ls hF BF n9 aaJ qu hld
 obtain⟨l1,l2,l3⟩:=n9.len
 refine calls_of_wp hf hb ?_
 obtain⟨rest,am6,har,hrn⟩:∃rest:List Value,(k.md.any kW=true->rest.length=k.Ku)/\rr w rest k.md (k.ds x) vs/\(k.md.any kW=false->rest=[]):=by
  rcases uh with uh|uh
  ·exact⟨uK w k.md (k.ds x) vs,fun h=>ac0 n9 aaJ uh h,adQ uh,fun h=>acZ h⟩
  ·rw[uh] at aaJ
   exact⟨[],fun _=>uh.symm,adP aaJ,fun _=>rfl⟩
 obtain⟨K3,Wb,h0,aaM⟩:=amf (n:=fn.ntmps) (rest:=rest) hF BF n9 har qu hld hms xx
 have jm:(vs.toArray).size=vs.length:=by simp
 rw[jm]
 have aea:∀{kv:Key->Value},(∀i j,j<1024->kv (2000000+i,j)=K3 (2000000+i,j))->∀{i:Nat}{ms:List Mode}{ds:List (DV U)}{vs:List Value}{ls:List (List Nat)}{mu:List Prop×List (DV U)×List Key}{σ:ak U}{ws:List (List (Option U.Ty))},AJ K3 i ms ds vs->th σ rest i ws ms ds=some mu->AJ kv i ms ds vs:=by
  intro kv hk i ms
  induction ms generalizing i with
  |nil=>intro ds vs ls mu σ ws _ _;cases ds<;>trivial
  |cons m ms ih=>
   intro ds vs ls mu σ ws hp hfm
   cases ds with
   |nil=>trivial
   |cons d ds=>
    cases vs with
    |nil=>trivial
    |cons v vs=>
     simp only[th] at hfm
     split at hfm
     ·rename_i h1 h2
      refine⟨?_,ih (ls:=[]) hp.2 h2⟩
      have eN:=hp.1
      cases m with
      |ro=>trivial
      |mv=>trivial
      |box own=>
       cases d with
       |box cs=>exact(hk i 0 (by decide)).trans eN
       |one _=>trivial
       |agg _=>trivial
       |ptr _=>trivial
       |fn _=>trivial
      |wr=>
       cases d with
       |one c=>exact(hk i 0 (by decide)).trans eN
       |agg cs=>
        simp only[Iv] at h1
        rw[im] at h1
        split at h1
        ·rename_i hlen
         rw[QJ] at hlen
         obtain⟨us,q1,q2,q3,q4⟩:=eN
         refine⟨us,q1,q2,fun j τ xs hj=> ?_,q4⟩
         have hjl:j<cs.length:=by
          rcases pe j cs.length with g|g
          ·exact g
          ·rw[od g] at hj;cases hj
         exact(hk i j (by omega)).trans (q3 j τ xs hj)
        ·cases h1
       |box _=>trivial
       |ptr _=>trivial
       |fn _=>trivial
     ·cases hfm
 have key:∀(σ:ak U),fin E fn.results.toList fn.resultTypes.toList rest fn.params.toList k.md (k.ds x) (k.nY x) σ->∀F1 kv fp a' w',cM E (Ru w F K3 ls) F1 kv fp σ a' w'->a'.defers=[]/\∃v,(results fn a'.tmps).run E.P w'=.ok v w'/\∃(us:List Value)(sE iY:List (List Nat)),Ending.returned v=.returned (Pd us)/\hU (·∈ls.flatten) w w'/\
   nD E w' (ET F w w' (sE.flatten++iY.flatten) ls.flatten) (k.nY x).fresh (k.nY x).val us sE/\
   fg E w' (ET F w w' (sE.flatten++iY.flatten) ls.flatten) w k.md vs (k.nY x).KW iY/\
   (sE.flatten++iY.flatten).Nodup/\(∀b∈sE.flatten,(b∈ls.flatten\/w.heap.size<=b)/\b<w'.heap.size)/\(∀b∈iY.flatten,b∈ls.flatten\/(w.heap.size<=b/\b<w'.heap.size)):=by
  intro σ rY F1 kv fp a' w' hs0
  refine⟨hs0.defers,?_⟩
  have hs:cM E (Ru w F K3 ls) F1 kv fp (jH σ) a' w':=HN hs0 _
  unfold fin at rY
  split at rY
  ·rename_i ps ds ks qs mu ks' ho hm
   rw[im] at rY
   split at rY
   ·rename_i hc
    simp only[cJ,FI,ru] at hc
    obtain⟨⟨c1,c3⟩,c5⟩:=hc
    obtain⟨hp,rfl,rfl⟩:=adM.1 rY
    obtain⟨d1,d2,d3⟩:=amn c1
    have anh:∀i j,j<1024->kv (2000000+i,j)=K3 (2000000+i,j):=fun i j hj=>(hs.N0 (2000000+i,j) (K3 (2000000+i,j)) (by simp[Ru,hj])).2.2.2
    obtain⟨iY,m1,m2,m3,m4,_⟩:=adx hs hm (fun p kJ=>hp p (by simp[kJ])) n9 har (aea anh (ls:=[]) aaM hm) (uN.1 d2)
    have yf:∀{k':Key}{b:Nat},((jH σ).bO k').isSome=true->b∈fp k'->¬F1 b/\(b∈ls.flatten\/w.heap.size<=b)/\b<w'.heap.size:=by
     intro k' b cU hb
     obtain⟨e,he⟩:=nf.1 cU
     exact hs.fQ k' e b he hb
    have Xd:∀b∈iY.flatten,b∈ls.flatten\/(w.heap.size<=b/\b<w'.heap.size):=by
     intro b hb
     obtain⟨k',cU,hb⟩:=m3 b hb
     have:=yf (m4 k' cU) hb
     rcases this.2.1 with g|g
     ·exact .inl g
     ·exact .inr ⟨g,this.2.2⟩
    have hG:∀own:List Nat,(∀b∈own,¬F1 b)->∀b,F1 b->ET F w w' own ls.flatten b:=fun own ho b hb=>by
     rcases hs.uj b hb with g|g|g
     ·exact .inl g
     ·exact .inr ⟨.inr g,hs.uk b hb,fun hbo=>ho b hbo hb⟩
     ·exact .inr ⟨.inl g,hs.uk b hb,fun hbo=>ho b hbo hb⟩
    obtain⟨us,sE,o1,o2,o3,o4,o5⟩:=ak8 hs ho (fun p kJ=>hp p (by simp[kJ])) (uN.1 d1)
    have hG1:=hG (sE.flatten++iY.flatten) fun b hbo=>by
     rcases jC.1 hbo with g|g
     ·obtain⟨k',cU,g⟩:=o4 b g;exact(yf (o5 k' cU) g).1
     ·obtain⟨k',cU,g⟩:=m3 b g;exact(yf (m4 k' cU) g).1
    refine⟨_,akY o1,_,sE,iY,rfl,hs.upto,o2 _ hG1 (fun k' e b hkr he hb=> ?_),m1.mono hG1,?_,fun b hb=> ?_,Xd⟩
    ·have:=yf (by rw[he];rfl) hb
     refine .inr ⟨this.2.1.symm,this.2.2,fun hbm=> ?_⟩
     have Oa:∀k2 e2,k2∈ks++ks'->(jH σ).bO k2=some e2->b∉fp k2:=fun k2 e2 lp uf ug=>by
      refine hs.apart k' k2 e e2 b (fun e=> ?_) he uf hb ug
      have:meet (qM E (jH σ) (k.nY x).fresh fn.results.toList) (ks++ks')=true:=vm.2 ⟨k',hkr,sR.2 (by rw[e];exact lp)⟩
      rw[c3] at this;cases this
     rcases jC.1 hbm with g|g
     ·obtain⟨k2,lp,ug⟩:=o4 b g
      obtain⟨e2,uf⟩:=nf.1 (o5 k2 lp)
      exact Oa k2 e2 (sD _ lp) uf ug
     ·obtain⟨k2,lp,ug⟩:=m3 b g
      obtain⟨e2,uf⟩:=nf.1 (m4 k2 lp)
      exact Oa k2 e2 (rv _ lp) uf ug
    ·rw[rK]
     refine⟨o3,m2,fun b hb c hc e=> ?_⟩
     subst e
     obtain⟨k1,Aa,uh⟩:=o4 b hb
     obtain⟨k2,lp,ug⟩:=m3 b hc
     obtain⟨e1,V5⟩:=nf.1 (o5 k1 Aa)
     obtain⟨e2,uf⟩:=nf.1 (m4 k2 lp)
     exact hs.apart k1 k2 e1 e2 b (fun e=>d3 k1 Aa (by rw[e];exact lp)) V5 uf uh ug
    ·obtain⟨k',cU,hb⟩:=o4 b hb
     exact(yf (o5 k' cU) hb).2
   ·exact rY.elim
  ·exact rY.elim
 obtain⟨τ,Mi,hwp⟩:=hw x M9 n9.bd rest am6 hrn vs (by omega)
 refine hwp (Mi h0 (fun i hi=>by simp[Array.getD,ez,hi,zds hi (Nat.le_add_right _ _)])) (fun o ho F1 kv fp a' w' hs=> ?_)
 cases o with
 |normal σ=>exact key σ ho F1 kv fp a' w' hs
 |ret σ=>exact key σ ho F1 kv fp a' w' hs
 |exit id σ=>exact ho.elim
theorem al4(hE:E.Good){f:FuncId}{fn:Func}{c:Code}(hf:E.P.funcs[f]? =some fn)(hb:fn.body=some c)(k:jY U)(oG:k.α->Nat->Option (ul U))(hms:k.md.length<=fn.ntmps)(xx:fn.ntmps<=1000000)(uh:rH k.md=true\/k.Ku=0)
  (hw:∀x,(∀p∈k.pre x,p)->(∀d∈k.ds x,gW d)->∀rest,(k.md.any kW=true->rest.length=k.Ku)->(k.md.any kW=false->rest=[])->
   AM.wp E (oG x) c (entry rest fn.ntmps k.md (k.ds x)) (leave E fn.results.toList fn.resultTypes.toList rest fn.params.toList k.md (k.ds x) (k.nY x))):eG E f k:=
 Ag hE hf hb k hms xx uh fun x hp hd rest hr hn _ _=>⟨_,fun h _=>h,Mv hE (hw x hp hd rest hr hn)⟩
theorem cM.over{F:Nat->Prop}{kv:Key->Value}{fp:Key->List Nat}{σ:ak U}{a:Act}{w:World}{pm:Pm}(h:cM E pm F kv fp σ a w)(s:Nat)(x:SV U)(hx:RS E w F kv fp (bW σ) x (a.tmps.getD s undef)):
  cM E pm F kv fp {σ with bM:=(s,some x)::σ.bM} a w:=by
 refine{h with bM:=fun t y hy=> ?_}
 unfold ak.get at hy
 simp only[look] at hy
 cases hb:Nat.beq s t<;>rw[hb] at hy<;>simp only[cond_true,cond_false] at hy
 ·exact h.bM t y hy
 ·cases hy
  rw[<-nk hb]
  exact hx
def Ix(n:Nat)(b:Bool)(τ:U.Ty)(xs:List (U.T τ)):ak U:={entry [] n [.ro] [.one (.sl τ xs)] with bM:=(0,some (one (.kn b τ xs)))::(entry [] n [.ro] [.one (.sl τ xs)]).bM}
theorem al3(hE:E.Good){f:FuncId}{fn:Func}{c:Code}(hf:E.P.funcs[f]? =some fn)(hb:fn.body=some c)(k:jY U)(oG:k.α->Nat->Option (ul U))(hms:k.md.length<=fn.ntmps)(xx:fn.ntmps<=1000000)(uh:rH k.md=true\/k.Ku=0)
  (hmd:k.md=[.ro]) (τ:U.Ty) (xs:k.α->List (U.T τ)) (Im:∀x,k.ds x=[.one (.sl τ (xs x))])
  (hw:∀x,(∀p∈k.pre x,p)->(∀d∈k.ds x,gW d)->∀b:Bool,(b=true->xs x=[])->
   AM.wp E (oG x) c (Ix fn.ntmps b τ (xs x)) (leave E fn.results.toList fn.resultTypes.toList [] fn.params.toList k.md (k.ds x) (k.nY x))):eG E f k:=by
 refine Ag hE hf hb k hms xx uh fun x hp hd rest hr hn vs F_=> ?_
 have lJ:rest=[]:=hn (by rw[hmd];rfl)
 subst lJ
 have F_:0<vs.length:=by rw[F_,hmd];decide
 by_cases hv:uV (vs.getD 0 undef)=true->xs x=[]
 ·refine⟨Ix fn.ntmps (uV (vs.getD 0 undef)) τ (xs x),fun{pm F kv fp a w} h ha=> ?_,Mv hE (hw x hp hd _ hv)⟩
  rw[hmd,Im] at h
  have h0:=h.bM 0 (one (.c (.sl τ (xs x)))) rfl
  have h1:Rp E w F false (.sl τ (xs x)) (a.tmps.getD 0 undef) []:=cw (li h0 rfl) rfl
  rw[ha 0 F_] at h1
  have h2:=h.over 0 (one (.kn (uV (vs.getD 0 undef)) τ (xs x))) (iu (x:=.kn (uV (vs.getD 0 undef)) τ (xs x)) (by rw[ha 0 F_];exact⟨by rw[<-ha 0 F_];exact(li (h.bM 0 (one (.c (.sl τ (xs x)))) rfl) rfl).1,.inr ⟨h1,rfl⟩⟩))
  exact h2
 ·refine⟨Ix fn.ntmps false τ (xs x),fun{pm F kv fp a w} h ha=> ?_,Mv hE (hw x hp hd _ (by simp))⟩
  rw[hmd,Im] at h
  have h0:=h.bM 0 (one (.c (.sl τ (xs x)))) rfl
  have h1:Rp E w F false (.sl τ (xs x)) (a.tmps.getD 0 undef) []:=cw (li h0 rfl) rfl
  rw[ha 0 F_] at h1
  refine absurd (fun hn=> ?_) hv
  rcases h1.inv with⟨h3,_⟩|⟨b,off,cap,wj,h3,_⟩
  ·exact h3
  ·rw[h3] at hn;simp[uV] at hn
end
theorem Rp.env{E E':Env U}(ht:E'.tid=E.tid){w:World}{F:Nat->Prop}{m:Bool}{c:U.C}{v:Value}{l:List Nat}(h:Rp E w F m c v l):Rp E' w F m c v l:=by
 induction h with
 |lit m v h=>exact .lit m v h
 |nil m τ a c h=>exact .nil m τ a c h
 |shr τ xs b off cap vs P9 hc hm hv hr ih=>exact .shr τ xs b off cap vs P9 hc hm hv ih
 |own τ xs b cap cur vs hZ hb hc hm hs hv hr ih=>exact .own τ xs b cap cur vs hZ (by rw[ht];exact hb) hc hm hs hv ih
section
variable{E E':Env U}{w:World}{F:Nat->Prop}
theorem e7.env(ht:E'.tid=E.tid){d:Bool}{a:fu U}{v:Value}{l:List Nat}(h:e7 E w F d a v l):e7 E' w F d a v l:=by
 rcases h with h|⟨b,cap,cur,vs,hZ,h1,h2,h3,h4,h5,h6,h7,h8⟩
 ·exact .inl h
 ·exact .inr ⟨b,cap,cur,vs,hZ,h1,by rw[ht];exact h2,h3,h4,h5,h6,fun i x j c hx hj=>(h7 i x j c hx hj).env ht,h8⟩
theorem sz.env(ht:E'.tid=E.tid){own:Bool}{cs:List U.C}{rest:List Value}{v:Value}{l:List Nat}(h:sz E w F own cs rest v l):sz E' w F own cs rest v l:=by
 obtain⟨b,cur,e,fl,h1,h2,h3,h4,h5,h6,h7,h8⟩:=h
 exact⟨b,cur,e,fl,h1,h2,h3,h4,h5,h6,fun i c hc=>(h7 i c hc).env ht,h8⟩
theorem mF.env(ht:E'.tid=E.tid){cs:List U.C}{v:Value}{l:List Nat}(h:mF E w F cs v l):mF E' w F cs v l:=by
 obtain⟨vs,fl,h1,h2,h3,h4,h5⟩:=h
 exact⟨vs,fl,h1,h2,h3,fun i c hc=>(h4 i c hc).env ht,h5⟩
theorem RDA.env(ht:E'.tid=E.tid){d:DA U}{v:Value}(h:RDA E w F d v):RDA E' w F d v:=by
 obtain⟨vs,h1,h2,h3⟩:=h
 exact⟨vs,h1,fun i c hc=>(h2 i c hc).env ht,h3⟩
theorem nS.env(hP:E'.P=E.P)(ht:E'.tid=E.tid){p:List (DA U)->Option Value}{v:Value}(h:nS E w F p v):nS E' w F p v:=by
 obtain⟨g,qa,h1,h2,h3⟩:=h
 refine⟨g,qa,h1,by rw[hP];exact h2,fun ds r hr w' F' h4 h5 vs h6=> ?_⟩
 rw[hP]
 exact h3 ds r hr w' F' h4 h5 vs ⟨h6.1,fun i d v hd hv=>(h6.2 i d v hd hv).env ht.symm⟩
theorem oK.env(hP:E'.P=E.P)(ht:E'.tid=E.tid){m:Mode}{d:DV U}{v:Value}{l:List Nat}(h:oK E w F m d v l):oK E' w F m d v l:=by
 cases m with
 |ro=>
  cases d with
  |one c=>exact⟨h.1.env ht,h.2⟩
  |agg cs=>obtain⟨vs,h1,h2,h3,h4⟩:=h;exact⟨vs,h1,h2,fun i c hc=>(h3 i c hc).env ht,h4⟩
  |ptr cs=>
   obtain⟨⟨b,o,h1,h2,h3⟩,h4⟩:=h
   exact⟨⟨b,o,h1,h2,fun i c hc=>by obtain⟨u,g1,g2⟩:=h3 i c hc;exact⟨u,g1,g2.env ht⟩⟩,h4⟩
  |fn _=>exact⟨h.1.env hP ht,h.2⟩
  |box _=>exact h.elim
 |wr=>
  cases d with
  |one c=>cases c with
   |lit _=>exact h.elim
   |sl τ xs=>exact e7.env ht h
  |agg _=>exact mF.env ht h
  |box _=>exact h.elim
  |ptr _=>exact h.elim
  |fn _=>exact h.elim
 |mv=>
  cases d with
  |one c=>exact Rp.env ht h
  |agg _=>exact mF.env ht h
  |box _=>exact h.elim
  |ptr _=>exact h.elim
  |fn _=>exact h.elim
 |box own=>
  cases d with
  |box cs=>exact sz.env ht h
  |one _=>exact h.elim
  |agg _=>exact h.elim
  |ptr _=>exact h.elim
  |fn _=>exact h.elim
theorem js.env(hP:E'.P=E.P)(ht:E'.tid=E.tid):∀{ms:List Mode}{ds:List (DV U)}{vs:List Value}{ls:List (List Nat)},js E w F ms ds vs ls->js E' w F ms ds vs ls
 |[],[],[],[],_=>trivial
 |m::ms,d0::ds,v::vs,l::ls,h=>⟨h.1.env hP ht,js.env hP ht h.2⟩
 |[],_::_,_,_,h=>h.elim
 |[],[],_::_,_,h=>h.elim
 |[],[],[],_::_,h=>h.elim
 |_::_,[],_,_,h=>h.elim
 |_::_,_::_,[],_,h=>h.elim
 |_::_,_::_,_::_,[],h=>h.elim
theorem kT.env(ht:E'.tid=E.tid){fresh:Bool}{d:DV U}{v:Value}{l:List Nat}(h:kT E w F fresh d v l):kT E' w F fresh d v l:=by
 cases d with
 |ptr _=>exact h
 |fn _=>exact h
 |one c=>cases fresh with
  |true=>exact Rp.env ht h
  |false=>exact⟨h.1.env ht,h.2⟩
 |agg cs=>cases fresh with
  |true=>exact mF.env ht h
  |false=>obtain⟨vs,h1,h2,h3,h4⟩:=h;exact⟨vs,h1,h2,fun i c hc=>(h3 i c hc).env ht,h4⟩
 |box cs=>obtain⟨g,b,cur,e,h1,h2,h3,h4,h5⟩:=h;exact⟨g,b,cur,e,h1,h2,h3,h4,fun i c hc=>(h5 i c hc).env ht⟩
theorem nD.env(ht:E'.tid=E.tid):∀{fs:List Bool}{ds:List (DV U)}{us:List Value}{ls:List (List Nat)},nD E w F fs ds us ls->nD E' w F fs ds us ls
 |_,[],[],[],_=>trivial
 |_,d::ds,u::us,l::ls,h=>⟨h.1.env ht,nD.env ht h.2⟩
 |_,[],_::_,_,h=>h.elim
 |_,[],[],_::_,h=>h.elim
 |_,_::_,[],_,h=>h.elim
 |_,_::_,_::_,[],h=>h.elim
theorem fg.env(ht:E'.tid=E.tid){w0:World}:∀{ms:List Mode}{vs:List Value}{dm:List (DV U)}{ls:List (List Nat)},fg E w F w0 ms vs dm ls->fg E' w F w0 ms vs dm ls:=by
 intro ms
 induction ms with
 |nil=>intro vs dm ls h;cases vs<;>cases dm<;>cases ls<;>first|trivial|exact h.elim
 |cons m ms ih=>
  intro vs dm ls h
  cases m with
  |ro=>cases vs with
   |nil=>cases dm<;>cases ls<;>exact h.elim
   |cons v vs=>simp only[fg] at h⊢;exact ih h
  |mv=>cases vs with
   |nil=>cases dm<;>cases ls<;>exact h.elim
   |cons v vs=>simp only[fg] at h⊢;exact ih h
  |wr=>cases vs with
   |nil=>cases dm<;>cases ls<;>exact h.elim
   |cons v vs=>cases dm with
    |nil=>cases ls<;>exact h.elim
    |cons d dm=>cases d with
     |one c=>cases c with
      |lit _=>cases ls<;>exact h.elim
      |sl τ ys=>cases ls with
       |nil=>exact h.elim
       |cons l ls=>exact⟨h.1.env ht,ih h.2⟩
     |agg cs=>cases ls with
       |nil=>exact h.elim
       |cons l ls=>exact⟨h.1.env ht,ih h.2⟩
     |box _=>cases ls<;>exact h.elim
     |ptr _=>cases ls<;>exact h.elim
     |fn _=>cases ls<;>exact h.elim
  |box own=>cases vs with
   |nil=>cases dm<;>cases ls<;>exact h.elim
   |cons v vs=>cases dm with
    |nil=>cases ls<;>exact h.elim
    |cons d dm=>cases d with
     |box cs=>cases ls with
       |nil=>exact h.elim
       |cons l ls=>exact⟨h.1.env ht,ih h.2⟩
     |one _=>cases ls<;>exact h.elim
     |agg _=>cases ls<;>exact h.elim
     |ptr _=>cases ls<;>exact h.elim
     |fn _=>cases ls<;>exact h.elim
end
theorem eG.env{E E':Env U}(hP:E'.P=E.P)(ht:E'.tid=E.tid)(hT:E'.UJ=E.UJ){f:FuncId}{k:jY U}(h:eG E f k):eG E' f k:=by
 intro x hp w F vs ls h1 hL h2 M8 h3 h4
 have:=h x hp w F vs ls h1 (by unfold QH;rw[<-hT];exact hL) (h2.env hP.symm ht.symm) M8 h3 h4
 rw[hP]
 refine this.mono ?_
 rintro e w' ⟨us,sE,iY,g1,g2,g3,g4,g5⟩
 exact⟨us,sE,iY,g1,g2,g3.env ht,g4.env ht,g5⟩
def LD:List (FuncId×jY U)->FuncId->Option (jY U)
 |[],_=>none
 |(g,k)::r,f=>bif Nat.beq g f then some k else LD r f
def IB:List (FuncId×jY U)->FuncId->Option (jY U)
 |[],_=>none
 |(g,k)::r,f=>bif Nat.beq g f then LD r f else IB r f
def Env.add(E:Env U)(l:List (FuncId×jY U)):Env U:={E with Ql:=LD l,Qk:=IB l}
def Holds(E:Env U)(p:FuncId×jY U):Prop:=zy E.P p.1/\eG E p.1 p.2
theorem Va{E:Env U}(hE:E.Ok){l:List (FuncId×jY U)}(h:∀p∈l,Holds E p):(E.add l).Good:=by
 have one:∀{f:FuncId}{k:jY U}{l:List (FuncId×jY U)},LD l f=some k->(f,k)∈l:=by
  intro f k l
  induction l with
  |nil=>intro h;cases h
  |cons p l ih=>
   obtain⟨g,k'⟩:=p
   intro h
   simp only[LD] at h
   cases hb:Nat.beq g f<;>rw[hb] at h<;>simp only[cond_true,cond_false] at h
   ·exact fA _ (ih h)
   ·cases h
    rw[nk hb]
    exact iy
 have two:∀{f:FuncId}{k:jY U}{l:List (FuncId×jY U)},IB l f=some k->(f,k)∈l:=by
  intro f k l
  induction l with
  |nil=>intro h;cases h
  |cons p l ih=>
   obtain⟨g,k'⟩:=p
   intro h
   simp only[IB] at h
   cases hb:Nat.beq g f<;>rw[hb] at h<;>simp only[cond_true,cond_false] at h
   ·exact fA _ (ih h)
   ·exact fA _ (one h)
 have go:∀{f:FuncId}{k:jY U},(f,k)∈l->zy (E.add l).P f/\eG (E.add l) f k:=fun hm=>⟨(h _ hm).1,eG.env (E:=E) (E':=E.add l) rfl rfl rfl (h _ hm).2⟩
 exact⟨⟨hE.code,hE.mixed⟩,fun f k hk=>go (one hk),fun f k hk=>go (two hk)⟩
def nO(fn:Func):Code:=match fn.body with|some c=>c|none=> .skip
def SN(rest:List Value)(E:Env U)(l:List (FuncId×jY U))(fn:Func)(k:jY U)(oG:k.α->Nat->Option (ul U))(x:k.α):Prop:=
 AM.wp (E.add l) (oG x) (nO fn) (entry rest fn.ntmps k.md (k.ds x)) (leave (E.add l) fn.results.toList fn.resultTypes.toList rest fn.params.toList k.md (k.ds x) (k.nY x))
def aeA(E:Env U)(l:List (FuncId×jY U))(fn:Func)(k:jY U)(oG:k.α->Nat->Option (ul U))(x:k.α):Prop:=SN [] E l fn k oG x
def Ep(P:Program)(f:FuncId)(fn:Func)(ms:List Mode):Bool:=
 fn.body.isSome&& !(fn.name== "runtime.NumGoroutine")&&Nat.ble ms.length fn.ntmps&&Nat.ble fn.ntmps 1000000
theorem adm{E:Env U}(hE:E.Ok){f:FuncId}{fn:Func}(hf:E.P.funcs[f]? =some fn)(k:jY U)(hc:Ep E.P f fn k.md=true)(l:List (FuncId×jY U))(hl:∀p∈l,Holds E p)
  (oG:k.α->Nat->Option (ul U)) (hw:∀x,(∀p∈k.pre x,p)->(∀d∈k.ds x,gW d)->∀rest,(k.md.any kW=true->rest.length=k.Ku)->(k.md.any kW=false->rest=[])->SN rest E l fn k oG x) (uh:rH k.md=true\/k.Ku=0):Holds E (f,k):=by
 unfold Ep at hc
 simp only[cJ,ru,QJ] at hc
 obtain⟨⟨⟨c1,c2⟩,c3⟩,c4⟩:=hc
 refine⟨⟨fn,hf,c1,c2⟩,?_⟩
 have hb:fn.body=some (nO fn):=by
  unfold nO
  cases h:fn.body with
  |none=>rw[h] at c1;cases c1
  |some c=>rfl
 have:=al4 (E:=E.add l) (Va hE hl) hf hb k oG c3 c4 uh hw
 exact eG.env (E:=E.add l) (E':=E) rfl rfl rfl this
theorem holds_of{E:Env U}(hE:E.Ok){f:FuncId}{fn:Func}(hf:E.P.funcs[f]? =some fn)(k:jY U)(hc:Ep E.P f fn k.md=true)(l:List (FuncId×jY U))(hl:∀p∈l,Holds E p)
  (oG:k.α->Nat->Option (ul U)) (hw:∀x,(∀p∈k.pre x,p)->(∀d∈k.ds x,gW d)->aeA E l fn k oG x) (h0:k.Ku=0:=by rfl):Holds E (f,k):=
 adm hE hf k hc l hl oG (fun x hp hb rest hr hn=>by
  have e:rest=[]:=by
   cases rZ:k.md.any kW with
   |false=>exact hn rZ
   |true=>exact FL ((hr rZ).trans h0)
  rw[e];exact hw x hp hb) (.inr h0)
theorem zX{E:Env U}(hE:E.Ok){f:FuncId}{fn:Func}(hf:E.P.funcs[f]? =some fn)(k:jY U)(hc:Ep E.P f fn k.md=true)(rZ:k.md.any kW=true)(l:List (FuncId×jY U))(hl:∀p∈l,Holds E p)
  (oG:k.α->Nat->Option (ul U)) (hw:∀x,(∀p∈k.pre x,p)->(∀d∈k.ds x,gW d)->∀rest:List Value,rest.length=k.Ku->SN rest E l fn k oG x) (uh:rH k.md=true:=by rfl):Holds E (f,k):=
 adm hE hf k hc l hl oG (fun x hp hb rest hr _=>hw x hp hb rest (hr rZ)) (.inl uh)
def Bh(E:Env U)(l:List (FuncId×jY U))(fn:Func)(k:jY U)(oG:k.α->Nat->Option (ul U))(x:k.α)(τ:U.Ty)(xs:List (U.T τ))(b:Bool):Prop:=
 AM.wp (E.add l) (oG x) (nO fn) (Ix fn.ntmps b τ xs) (leave (E.add l) fn.results.toList fn.resultTypes.toList [] fn.params.toList k.md (k.ds x) (k.nY x))
theorem zY{E:Env U}(hE:E.Ok){f:FuncId}{fn:Func}(hf:E.P.funcs[f]? =some fn)(k:jY U)(hc:Ep E.P f fn k.md=true)(hmd:k.md=[.ro])(τ:U.Ty)(xs:k.α->List (U.T τ))(Im:∀x,k.ds x=[.one (.sl τ (xs x))])
  (l:List (FuncId×jY U)) (hl:∀p∈l,Holds E p)
  (oG:k.α->Nat->Option (ul U)) (hw:∀x,(∀p∈k.pre x,p)->(∀d∈k.ds x,gW d)->Bh E l fn k oG x τ (xs x) false/\(xs x=[]->Bh E l fn k oG x τ (xs x) true)):Holds E (f,k):=by
 unfold Ep at hc
 simp only[cJ,ru,QJ] at hc
 obtain⟨⟨⟨c1,c2⟩,c3⟩,c4⟩:=hc
 refine⟨⟨fn,hf,c1,c2⟩,?_⟩
 have hb:fn.body=some (nO fn):=by
  unfold nO
  cases h:fn.body with
  |none=>rw[h] at c1;cases c1
  |some c=>rfl
 have:=al3 (E:=E.add l) (Va hE hl) hf hb k oG c3 c4 (.inl (by rw[hmd];rfl)) hmd τ xs Im (fun x hp hd b hb=>by
  cases b with
  |false=>exact(hw x hp hd).1
  |true=>exact(hw x hp hd).2 (hb rfl))
 exact eG.env (E:=E.add l) (E':=E) rfl rfl rfl this
def rC(E:Env U)(l:List (FuncId×jY U))(fn:Func)(k:jY U)(oG:k.α->Nat->Option (ul U))(x:k.α)(r:Nat)(A:ul U):Prop:=
 AM.wp (E.add l) (oG x) (abE r (nO fn)) (entry [] fn.ntmps k.md (k.ds x)) (aeJ A (leave (E.add l) fn.results.toList fn.resultTypes.toList [] fn.params.toList k.md (k.ds x) (k.nY x)))
def mR(E:Env U)(l:List (FuncId×jY U))(fn:Func)(k:jY U)(oG:k.α->Nat->Option (ul U))(x:k.α)(r:Nat)(A:ul U)(y:A.X):Prop:=
 AM.wp (E.add l) (oG x) (abD r (nO fn)) (mr A [] ⟨fn.ntmps,[],[],[]⟩ y) (leave (E.add l) fn.results.toList fn.resultTypes.toList [] fn.params.toList k.md (k.ds x) (k.nY x))
theorem vx{E:Env U}(hE:E.Ok){f:FuncId}{fn:Func}(hf:E.P.funcs[f]? =some fn)(k:jY U)(hc:Ep E.P f fn k.md=true)(l:List (FuncId×jY U))(hl:∀p∈l,Holds E p)
  (oG:k.α->Nat->Option (ul U)) (r:Nat) (A:k.α->ul U) (hr:(Qh r (nO fn)).isSome=true)
  (hw:∀x,(∀p∈k.pre x,p)->(∀d∈k.ds x,gW d)->rC E l fn k oG x r (A x)/\∀y,(A x).I y y->mR E l fn k oG x r (A x) y) (h0:k.Ku=0:=by rfl):Holds E (f,k):=by
 unfold Ep at hc
 simp only[cJ,ru,QJ] at hc
 obtain⟨⟨⟨c1,c2⟩,c3⟩,c4⟩:=hc
 refine⟨⟨fn,hf,c1,c2⟩,?_⟩
 have hb:fn.body=some (nO fn):=by
  unfold nO
  cases h:fn.body with
  |none=>rw[h] at c1;cases c1
  |some c=>rfl
 obtain⟨p,hp⟩:=nf.1 hr
 have eA:abE r (nO fn)=p.1:=by simp only[abE,hp]
 have eB:abD r (nO fn)=p.2:=by simp only[abD,hp]
 have:=Ag (E:=E.add l) (Va hE hl) hf hb k c3 c4 (.inr h0) (fun x hx hd rest hrr Xb _ _=>by
  have e:rest=[]:=by
   cases rZ:k.md.any kW with
   |false=>exact Xb rZ
   |true=>exact FL ((hrr rZ).trans h0)
  subst e
  obtain⟨g1,g2⟩:=hw x hx hd
  unfold rC at g1
  unfold mR at g2
  rw[eA] at g1
  rw[eB] at g2
  exact⟨_,fun h _=>h,ams (Va hE hl) hp rfl g1 g2⟩)
 exact eG.env (E:=E.add l) (E':=E) rfl rfl rfl this
def jY.below(k:jY U)(μ:k.α->Nat)(n:Nat):jY U:={k with pre:=fun x=>(μ x<n)::k.pre x}
theorem GV{E:Env U}{f:FuncId}{fn:Func}(hf:E.P.funcs[f]? =some fn){k:jY U}(hc:Ep E.P f fn k.md=true)(μ:k.α->Nat)(h:∀n,Holds E (f,k.below μ n)->Holds E (f,k.below μ (n+1))):Holds E (f,k):=by
 have hok:zy E.P f:=by
  unfold Ep at hc
  simp only[cJ,ru] at hc
  exact⟨fn,hf,hc.1.1.1,hc.1.1.2⟩
 have all:∀n,Holds E (f,k.below μ n):=by
  intro n
  induction n with
  |zero=>exact⟨hok,fun x hp=>absurd (hp _ iy) (Nat.not_lt_zero _)⟩
  |succ n ih=>exact h n ih
 refine⟨hok,fun x hp=>(all (μ x+1)).2 x fun p hpp=> ?_⟩
 rcases jZ.1 hpp with rfl|hpp
 ·exact Nat.lt_succ_self _
 ·exact hp p hpp
theorem all_nil{α:Type 1}{p:α->Prop}:∀x∈([]:List α),p x:=fun x hx=>by cases hx
theorem all_cons{α:Type 1}{p:α->Prop}{a:α}{l:List α}(h:p a)(hl:∀x∈l,p x):∀x∈a::l,p x:=by
 intro x hx
 rcases jZ.1 hx with rfl|hx
 ·exact h
 ·exact hl x hx
end AM
