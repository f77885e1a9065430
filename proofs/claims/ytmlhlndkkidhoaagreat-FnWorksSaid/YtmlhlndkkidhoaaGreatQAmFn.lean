/- THE ABSTRACT MACHINE: functions: a contract holds where the weakest precondition of the body does. -/
import Derived.Test.YtmlhlndkkidhoaaGreatQAmCode
namespace AM
set_option linter.unusedVariables false
open Go
variable{U:kZ}
def Dp(i:Nat)(rest:List Value):Mode->DV U->SV U×List (Nat×iv U)
 | .ro,.one c=>(one (.c c),[])
 | .ro,.agg cs=>(.v ⟨true,cs.map .c⟩,[])
 | .ro,.ptr cs=>(one (.ia cs),[])
 | .ro,.fn p=>(.fn p,[])
 | .wr,.one (.sl τ xs)=>(one (.ref (2000000+i,0) []),[(0,.arr ⟨τ,xs⟩ true)])
 | .wr,.agg cs=>(.v ⟨true,(putCells (2000000+i) true 0 cs).1⟩,(putCells (2000000+i) true 0 cs).2)
 | .mv,.one c=>(.v ⟨false,(putCells (2000000+i) true 4096 [c]).1⟩,(putCells (2000000+i) true 4096 [c]).2)
 | .mv,.agg cs=>(.v ⟨true,(putCells (2000000+i) true 4096 cs).1⟩,(putCells (2000000+i) true 4096 cs).2)
 | .box true,.box cs=>(one (.kc (2000000+i,0) 0),(0,.box ((putCells (2000000+i) true 4096 cs).1++rest.map fun v=> .c (.lit v)))::(putCells (2000000+i) true 4096 cs).2)
 | .box false,.box cs=>(one (.kc (2000000+i,0) 0),[(0,.box (cs.map .c++rest.map fun v=> .c (.lit v)))])
 |_,_=>(.vf [],[])
def Dr(rest:List Value):Nat->List Mode->List (DV U)->List (Nat×Option (SV U))
 |i,m::ms,d::ds=>(i,some (Dp i rest m d).1)::Dr rest (i+1) ms ds
 |_,_,_=>[]
def Lh(rest:List Value):Nat->List Mode->List (DV U)->List (Key×Option (iv U))
 |i,m::ms,d::ds=>pa (2000000+i) (Dp i rest m d).2++Lh rest (i+1) ms ds
 |_,_,_=>[]
def entry(rest:List Value)(n:Nat)(ms:List Mode)(ds:List (DV U)):ah U:={n,bz:=Dr rest 0 ms ds,nU:=Lh rest 0 ms ds,aK:=[]}
def LQ(E:Env U)(σ:ah U):ResultVar->Option (AV U)
 | .tmp t=>match σ.get t with
  |some (.v x)=>some x
  |_=>none
 | .cell a t=>match σ.get a with
  |some (.v ⟨false,[.kc k 0]⟩)=>match σ.bJ k,E.size t,E.isAgg t with
   |some (.box cs),some n,some g=>bif Nat.beq n cs.length&&(g||Nat.beq n 1) then some ⟨g,cs⟩ else none
   |_,_,_=>none
  |_=>none
def Zh(ds:List (DV U)):Bool:=ds.any fun| .box _=>true|_=>false
def O6(fresh:Bool)(σ:ah U):AV U->Option (List U.C×Key)
 |⟨false,[.kc k 0]⟩=>bif fresh then(match σ.bJ k with|some (.box bs)=>(match plain bs with|some l=>some (l,k)|none=>none)|_=>none) else none
 |_=>none
def outs(E:Env U)(σ:ah U):List Bool->List ResultVar->List TypeId->Option (List Prop×List (DV U)×List Key)
 |_,[],_=>some ([],[],[])
 |fs,r::rs,ts=>match LQ E σ r with
  |some x=>
   match O6 (fs.headD true) σ x with
   |some (l,k)=>match outs E σ fs.tail rs ts.tail with
    |some (qs,ds,ks')=>some (qs,.box l::ds,k::ks')
    |none=>none
   |none=>
   let want:=match ts with|t::_=>E.shape 8 t|[]=>[]
   let tb:=restrict σ.bJ (SV.v x).keys
   match(bif fs.headD true then(match fa tb want x.cs with|some (ps,cs,ks,true)=>some (ps,cs,ks)|_=>none) else(match cellsOf tb σ.aK want x.cs with|some (ps,cs)=>some (ps,cs,[])|none=>none)) with
   |some (ps,cs,ks)=>match Lj x cs,outs E σ fs.tail rs ts.tail with
    |some d,some (qs,ds,ks')=>some (ps++qs,d::ds,ks++ks')
    |_,_=>none
   |none=>none
  |none=>none
def pi(σ:ah U)(i:Nat):Nat->List U.C->Option (List U.C×List Key)
 |_,[]=>some ([],[])
 |j,.lit v::r=>match pi σ i (j+1) r with|some (cs,ks)=>some (.lit v::cs,ks)|none=>none
 |j,.sl _ _::r=>match σ.bJ (2000000+i,j),pi σ i (j+1) r with
  |some (.arr a true),some (cs,ks)=>some (.sl a.τ a.xs::cs,(2000000+i,j)::ks)
  |_,_=>none
def OS(bs:List (AC U))(rest:List Value):List Prop:=(bs.length=rest.length)::(match rest with
 |[]=>[]
 |r=>[bs=r.map fun v=> .c (.lit v)])
theorem ab7{bs:List (AC U)}{rest:List Value}(h:∀p∈OS bs rest,p):bs=rest.map fun v=> .c (.lit v):=by
 cases rest with
 |nil=>exact Em (h _ gj)
 |cons r rs=>exact h _ (cA _ gj)
def GU(σ:ah U)(rest:List Value)(i:Nat)(want:List (Option U.Ty)):Mode->DV U->Option (List Prop×List (DV U)×List Key)
 | .ro,_=>some ([],[],[])
 | .mv,_=>some ([],[],[])
 | .wr,.one (.sl _ _)=>match σ.bJ (2000000+i,0) with
  |some (.arr a true)=>some ([],[.one (.sl a.τ a.xs)],[(2000000+i,0)])
  |_=>none
 | .wr,.agg cs=>bif Nat.ble cs.length 1024 then(match pi σ i 0 cs with|some (ds,ks)=>some ([],[.agg ds],ks)|none=>none) else none
 | .box true,.box cs=>match σ.bJ (2000000+i,0) with
  |some (.box bs)=>match fa (restrict σ.bJ (SV.v ⟨true,bs⟩).keys) want (bs.take cs.length) with
   |some (ps,l,ks,true)=>bif Nat.beq l.length cs.length then some (ps++OS (bs.drop cs.length) rest,[.box l],(2000000+i,0)::ks) else none
   |_=>none
  |_=>none
 | .box false,.box cs=>match σ.bJ (2000000+i,0) with
  |some (.box bs)=>match plain (bs.take cs.length) with
   |some l=>bif Nat.beq l.length cs.length then some (OS (bs.drop cs.length) rest,[.box l],[(2000000+i,0)]) else none
   |none=>none
  |_=>none
 |_,_=>none
def rV(σ:ah U)(rest:List Value):Nat->List (List (Option U.Ty))->List Mode->List (DV U)->Option (List Prop×List (DV U)×List Key)
 |i,ws,m::ms,d::ds=>match GU σ rest i (ws.headD []) m d,rV σ rest (i+1) ws.tail ms ds with
  |some (ps,xs,ks),some (qs,ys,ks')=>some (ps++qs,xs++ys,ks++ks')
  |_,_=>none
 |_,_,_,_=>some ([],[],[])
def Qd(ms:List Mode):Bool:=ms.any fun m=>match m with| .wr=>true| .mv=>true| .box true=>true|_=>false
def se(ms:List Mode):Bool:=ms.all fun| .ro=>true|_=>false
def p6(E:Env U)(σ:ah U):List Bool->List ResultVar->List Key
 |_,[]=>[]
 |fs,r::rs=>(bif fs.headD true then[] else match LQ E σ r with|some x=>(SV.v x).keys|none=>[])++p6 E σ fs.tail rs
def fin(E:Env U)(rs:List ResultVar)(ts:List TypeId)(rest:List Value)(ps:List TypeId)(ms:List Mode)(ds:List (DV U))(r:Res U)(σ:ah U):Prop:=
 match outs E (jz σ) r.fresh rs ts,rV (jz σ) rest 0 (ps.map E.yu) ms ds with
 |some (ps,vs,ks),some (qs,mu,ks')=>bif distinct (ks++ks')&& !(meet (p6 E (jz σ) r.fresh rs) (ks++ks'))&&(!(Zh r.val)||se ms) then N4 (ps++qs) (vs=r.val/\mu=r.IV) else False
 |_,_=>False
def leave(E:Env U)(rs:List ResultVar)(ts:List TypeId)(rest:List Value)(ps:List TypeId)(ms:List Mode)(ds:List (DV U))(r:Res U):Out U->Prop
 | .ret σ=>fin E rs ts rest ps ms ds r σ
 | .normal σ=>fin E rs ts rest ps ms ds r σ
 | .exit _ _=>False
section
variable{E:Env U}{w:World}{F:Nat->Prop}
theorem jj.len:∀{ms:List Mode}{ds:List (DV U)}{vs:List Value}{ls:List (List Nat)},jj E w F ms ds vs ls->ds.length=ms.length/\vs.length=ms.length/\ls.length=ms.length
 |[],[],[],[],_=>⟨rfl,rfl,rfl⟩
 |m::ms,d::ds,v::vs,l::ls,h=>by
  obtain⟨h1,h2,h3⟩:=jj.len h.2
  simp[h1,h2,h3]
 |[],_::_,_,_,h=>h.elim
 |[],[],_::_,_,h=>h.elim
 |[],[],[],_::_,h=>h.elim
 |_::_,[],_,_,h=>h.elim
 |_::_,_::_,[],_,h=>h.elim
 |_::_,_::_,_::_,[],h=>h.elim
theorem tA{ls:List (List Nat)}:ls.flatten.Nodup↔(∀l∈ls,l.Nodup)/\ls.Pairwise (fun a b=>∀x∈a,∀y∈b,x≠y):=List.pairwise_flatten
theorem am3{ls:List (List Nat)}(h:ls.flatten.Nodup){i j:Nat}(Ej:i≠j){b:Nat}(hb:b∈ls.getD i []):b∉ls.getD j []:=by
 intro bf
 rw[tA] at h
 have gF:∀{k:Nat},b∈ls.getD k []->∃hk:k<ls.length,b∈ls[k]:=by
  intro k hk
  rcases nV k ls.length with g|g
  ·exact⟨g,by rwa[eY,fo g] at hk⟩
  ·rw[eY,nz g] at hk;cases hk
 obtain⟨hi,hb⟩:=gF hb
 obtain⟨hj,bf⟩:=gF bf
 have hp:=Tn.1 h.2
 rcases Nat.lt_or_gt_of_ne Ej with g|g
 ·exact hp i j hi hj g _ hb _ bf rfl
 ·exact hp j i hj hi g _ bf _ hb rfl
theorem amk{ls:List (List Nat)}{j b:Nat}(hb:b∈ls.getD j []):b∈ls.flatten:=by
 rcases nV j ls.length with g|g
 ·rw[eY,fo g] at hb
  exact W5.2 ⟨_,Ed g,hb⟩
 ·rw[eY,nz g] at hb;cases hb
theorem aco{ls:List (List Nat)}(h:ls.flatten.Nodup)(j:Nat):(ls.getD j []).Nodup:=by
 rcases nV j ls.length with g|g
 ·rw[eY,fo g]
  exact(tA.1 h).1 _ (Ed g)
 ·rw[eY,nz g];exact W4
theorem anl{a b:List Key}(h:distinct (a++b)=true):distinct a=true/\distinct b=true/\∀k∈a,k∉b:=by
 rw[tu,qB] at h
 exact⟨tu.2 h.1,tu.2 h.2.1,fun k hk cO=>h.2.2 k hk k cO rfl⟩
theorem anj{x:AV U}{cs:List U.C}{d:DV U}{v:Value}{vs:List Value}{fl:List (List Nat)}(hd:Lj x cs=some d)(hv:if x.agg then v=.agg vs.toArray else vs=[v])(hl:vs.length=cs.length)(hf:fl.length=cs.length)
  (h:∀(i:Nat)(c:U.C),cs[i]? =some c->Rp E w F true c (vs.getD i undef) (fl.getD i [])):kz E w F true d v fl.flatten:=by
 unfold Lj at hd
 cases Tf:x.agg<;>rw[Tf] at hd hv<;>simp only[cond_true,cond_false,wx,if_false,if_true] at hd hv
 ·split at hd
  ·rename_i c
   cases hd
   subst hv
   simp only[gv,fO] at hf
   obtain⟨l,rfl⟩:=List.length_eq_one_iff.1 hf
   simpa[kz] using h 0 c rfl
  ·cases hd
 ·cases hd
  simp only[kz,if_true]
  exact⟨vs,fl,hv,hl,hf,h,rfl⟩
theorem ani{x:AV U}{cs:List U.C}{d:DV U}{v:Value}{vs:List Value}(hd:Lj x cs=some d)(hv:if x.agg then v=.agg vs.toArray else vs=[v])(hl:vs.length=cs.length)
  (h:∀(i:Nat)(c:U.C),cs[i]? =some c->Rp E w F false c (vs.getD i undef) []):kz E w F false d v []:=by
 unfold Lj at hd
 cases Tf:x.agg<;>rw[Tf] at hd hv<;>simp only[cond_true,cond_false,wx,if_false,if_true] at hd hv
 ·split at hd
  ·rename_i c
   cases hd
   subst hv
   simpa[kz] using h 0 c rfl
  ·cases hd
 ·cases hd
  simp only[kz,wx,if_false]
  exact⟨vs,hv,hl,h,trivial⟩
def S3(i:Nat)(m:Mode)(d:DV U)(v:Value)(kv:Key->Value):Prop:=
 match m,d with
 | .wr,.one _=>kv (2000000+i,0)=v
 | .wr,.agg cs=>∃vs:List Value,v=.agg vs.toArray/\vs.length=cs.length/\(∀(j:Nat)(τ:U.Ty)(xs:List (U.T τ)),cs[j]? =some (.sl τ xs)->kv (2000000+i,j)=vs.getD j undef)/\(∀(j:Nat)(u:Value),cs[j]? =some (.lit u)->vs.getD j undef=u/\gp u)
 | .box _,.box _=>kv (2000000+i,0)=v
 |_,_=>True
def zx(kv:Key->Value):Nat->List Mode->List (DV U)->List Value->Prop
 |i,m::ms,d::ds,v::vs=>S3 i m d v kv/\zx kv (i+1) ms ds vs
 |_,_,_,_=>True
def kE:Mode->Bool
 | .box _=>true
 |_=>false
def qk(w:World)(rest:List Value):List Mode->List (DV U)->List Value->Prop
 |m::ms,d::ds,v::vs=>(∀cs,kE m=true->d=.box cs->rest=rA w v cs.length)/\qk w rest ms ds vs
 |_,_,_=>True
def tr(w:World):List Mode->List (DV U)->List Value->List Value
 |m::ms,d::ds,v::vs=>bif kE m then(match d with| .box cs=>rA w v cs.length|_=>[]) else tr w ms ds vs
 |_,_,_=>[]
def qz:List Mode->Bool
 |[]=>true
 |m::r=>bif kE m then !(r.any kE) else qz r
theorem ac8{w:World}{rest:List Value}:∀{ms:List Mode}{ds:List (DV U)}{vs:List Value},ms.any kE=false->qk w rest ms ds vs
 |[],_,_,_=>trivial
 |m::ms,[],_,_=>trivial
 |m::ms,d::ds,[],_=>trivial
 |m::ms,d::ds,v::vs,h=>by
  simp only[Tk,Oc] at h
  exact⟨fun cs hb _=>(by rw[h.1] at hb;cases hb),ac8 h.2⟩
theorem ac7{w:World}:∀{ms:List Mode}{ds:List (DV U)}{vs:List Value},qz ms=true->qk w (tr w ms ds vs) ms ds vs
 |[],_,_,_=>trivial
 |m::ms,[],_,_=>trivial
 |m::ms,d::ds,[],_=>trivial
 |m::ms,d::ds,v::vs,h=>by
  unfold qz at h
  unfold tr
  cases hb:kE m<;>rw[hb] at h<;>simp only[cond_true,cond_false] at h⊢
  ·exact⟨fun cs bf _=>(by rw[hb] at bf;cases bf),ac7 h⟩
  ·exact⟨fun cs _ hd=>by rw[hd],ac8 (by simpa using h)⟩
theorem ac6{w:World}:∀{ms:List Mode}{ds:List (DV U)}{vs:List Value},sD w 0 ms ds vs->qk w [] ms ds vs
 |[],_,_,_=>trivial
 |m::ms,[],_,_=>trivial
 |m::ms,d::ds,[],_=>trivial
 |m::ms,d::ds,v::vs,h=>by
  refine⟨fun cs hb hd=> ?_,ac6 h.2⟩
  cases m with
  |box own=>exact(Em (h.1 own cs rfl hd)).symm
  |ro=>cases hb
  |wr=>cases hb
  |mv=>cases hb
theorem ab8{w:World}:∀{ms:List Mode}{ds:List (DV U)}{vs:List Value},ms.any kE=false->tr w ms ds vs=[]
 |[],_,_,_=>rfl
 |m::ms,[],_,_=>rfl
 |m::ms,d::ds,[],_=>rfl
 |m::ms,d::ds,v::vs,h=>by
  simp only[Tk,Oc] at h
  unfold tr
  rw[h.1]
  exact ab8 h.2
theorem ab9{n:Nat}:∀{ms:List Mode}{ds:List (DV U)}{vs:List Value}{ls:List (List Nat)},jj E w F ms ds vs ls->sD w n ms ds vs->qz ms=true->ms.any kE=true->(tr w ms ds vs).length=n
 |[],[],[],[],_,_,_,hb=>by simp at hb
 |m::ms,d::ds,v::vs,l::ls,h,hr,h1,hb=>by
  unfold qz at h1
  unfold tr
  cases hm:kE m<;>rw[hm] at h1<;>simp only[cond_true,cond_false] at h1⊢
  ·exact ab9 h.2 hr.2 h1 (by simpa[hm] using hb)
  ·cases m with
   |box own=>
    cases d with
    |box cs=>exact hr.1 own cs rfl rfl
    |one _=>exact h.1.elim
    |agg _=>exact h.1.elim
    |ptr _=>exact h.1.elim
    |fn _=>exact h.1.elim
   |ro=>cases hm
   |wr=>cases hm
   |mv=>cases hm
 |[],_::_,_,_,h,_,_,_=>h.elim
 |[],[],_::_,_,h,_,_,_=>h.elim
 |[],[],[],_::_,h,_,_,_=>h.elim
 |_::_,[],_,_,h,_,_,_=>h.elim
 |_::_,_::_,[],_,h,_,_,_=>h.elim
 |_::_,_::_,_::_,[],h,_,_,_=>h.elim
theorem OW{dst:Nat}:∀{cs:List U.C}{base:Nat},(((putCells dst true base cs).2).map (·.1)).Nodup/\∀p∈(putCells dst true base cs).2,base<=p.1
 |[],base=>⟨by simp[putCells],fun p hp=>by simp[putCells] at hp⟩
 | .lit v::r,base=>by
  obtain⟨h1,h2⟩:=OW (dst:=dst) (cs:=r) (base:=base+1)
  exact⟨by simpa[putCells] using h1,fun p hp=>by have:=h2 p (by simpa[putCells] using hp);omega⟩
 | .sl τ xs::r,base=>by
  obtain⟨h1,h2⟩:=OW (dst:=dst) (cs:=r) (base:=base+1)
  refine⟨?_,fun p hp=> ?_⟩
  ·simp only[putCells,cond_true,uY,sN]
   refine⟨fun hm=> ?_,h1⟩
   obtain⟨p,hp,e⟩:=lB.1 hm
   have:=h2 p hp
   omega
  ·simp only[putCells,cond_true,jQ] at hp
   rcases hp with rfl|hp
   ·exact s_ _
   ·have:=h2 p hp;omega
theorem acd{dst:Nat}:∀{cs:List U.C}{base j:Nat}{τ:U.Ty}{xs:List (U.T τ)},cs[j]? =some (.sl τ xs)->(putCells dst true base cs).1[j]? =some (.ref (dst,base+j) [])
 |[],base,j,τ,xs,h=>by simp at h
 |c::r,base,j,τ,xs,h=>by
  cases j with
  |zero=>
   simp only[t_,gx] at h
   subst h
   rfl
  |succ j=>
   have:=acd (dst:=dst) (cs:=r) (base:=base+1) (j:=j) (by simpa using h)
   cases c<;>simpa[putCells,Oo,zew 1 j] using this
theorem acb{dst:Nat}{fresh:Bool}:∀{cs:List U.C}{base:Nat},(putCells dst fresh base cs).1.length=cs.length
 |[],base=>rfl
 | .lit v::r,base=>by simp[putCells,acb]
 | .sl τ xs::r,base=>by cases fresh<;>simp[putCells,acb]
theorem ane{i:Nat}{rest:List Value}{m:Mode}{d:DV U}{v:Value}{l:List Nat}(h:l_ E w F m d v l)(nH:∀cs,kE m=true->d=.box cs->rest=rA w v cs.length):
  ∃t:fi U,(Dp i rest m d).2=t.es/\(t.map (·.1)).Nodup/\t.bl=l/\∀kv fp bad,(∀s∈t,kv (2000000+i,s.1)=s.2.2.1)->
   RS E w F kv fp bad (Dp i rest m d).1 v/\(∀s∈t,sE E w F kv fp bad s.2.1 s.2.2.1 s.2.2.2)/\S3 i m d v kv:=by
 have agg:∀(bs:Nat){cs:List U.C}{v:Value}{l:List Nat},l8 E w F cs v l->∃t:fi U,(putCells (2000000+i) true bs cs).2=t.es/\(t.map (·.1)).Nodup/\t.bl=l/\∃vs:List Value,v=.agg vs.toArray/\vs.length=cs.length/\(∀(j:Nat)(u:Value),cs[j]? =some (.lit u)->vs.getD j undef=u/\gp u)/\
   ∀kv fp bad,(∀s∈t,kv (2000000+i,s.1)=s.2.2.1)->ly E w F kv fp bad (putCells (2000000+i) true bs cs).1 vs/\(∀s∈t,sE E w F kv fp bad s.2.1 s.2.2.1 s.2.2.2):=by
  rintro bs cs v l ⟨vs,fl,h1,h2,h3,h4,h5⟩
  obtain⟨t,t1,t2,t3,t4⟩:=Iy (dst:=2000000+i) (base:=bs) h2 h3 h4
  refine⟨t,t1,?_,by rw[t3,h5],vs,h1,h2,fun j u hj=> ?_,fun kv fp bad hk=>⟨t4 kv fp bad hk,fun s hs=>t2 s hs kv fp bad⟩⟩
  ·have:=(OW (dst:=2000000+i) (cs:=cs) (base:=bs)).1
   rw[t1] at this
   simpa[fi.es,Function.comp_def] using this
  ·obtain⟨_,g2,g3⟩:=(h4 j _ hj).mh
   exact⟨g2,g3⟩
 cases m with
 |ro=>
  cases d with
  |one c=>exact⟨[],rfl,by simp,h.2.symm,fun kv fp bad _=>⟨zw ⟨h.1.gq,.inr h.1⟩,by simp,trivial⟩⟩
  |agg cs=>
   obtain⟨vs,rfl,h2,h3,h4⟩:=h
   exact⟨[],rfl,by simp,h4.symm,fun kv fp bad _=>⟨⟨vs,KH h2 h3,rfl⟩,by simp,trivial⟩⟩
  |ptr cs=>
   obtain⟨⟨b,o,rfl,h2,h3⟩,h4⟩:=h
   exact⟨[],rfl,by simp,h4.symm,fun kv fp bad _=>⟨zw ⟨⟨rfl,trivial⟩,.inr ⟨b,o,rfl,h2,h3⟩⟩,by simp,trivial⟩⟩
  |fn p=>exact⟨[],rfl,by simp,h.2.symm,fun kv fp bad _=>⟨h.1,by simp,trivial⟩⟩
  |box cs=>exact h.elim
 |wr=>
  cases d with
  |one c=>
   cases c with
   |lit _=>exact h.elim
   |sl τ xs=>
    refine⟨[(0,.arr ⟨τ,xs⟩ true,v,l)],rfl,by simp,by simp[fi.bl],fun kv fp bad hk=> ?_⟩
    have AB:kv (2000000+i,0)=v:=hk _ (ma.2 rfl)
    refine⟨zw ⟨?_,.inr (by simp only[RA];rw[AB];rfl)⟩,fun s hs=>by rw[ma.1 hs];exact h,AB⟩
    rcases h with⟨_,⟨ad,rfl⟩,_⟩|⟨b,cap,cur,vs,gV,rfl,_⟩<;>exact⟨rfl,trivial⟩
  |agg cs=>
   obtain⟨t,t1,t2,t3,vs,t4,t5,t6,t7⟩:=agg 0 h
   refine⟨t,t1,t2,t3,fun kv fp bad hk=> ?_⟩
   obtain⟨g1,g2⟩:=t7 kv fp bad hk
   refine⟨⟨vs,g1,t4⟩,g2,vs,t4,t5,fun j τ xs hj=> ?_,t6⟩
   have hr:=acd (dst:=2000000+i) (base:=0) hj
   have gF:j<vs.length:=by
    rw[t5]
    rcases nV j cs.length with g|g
    ·exact g
    ·rw[nz g] at hj;cases hj
   have:=cf (g1.2 j _ _ hr (e9 (d:=undef) gF)) rfl
   simp only[RA,tY] at this
   exact this.symm
  |box _=>exact h.elim
  |ptr _=>exact h.elim
  |fn _=>exact h.elim
 |mv=>
  cases d with
  |one c=>
   obtain⟨t,t1,t2,t3,t4⟩:=Iy (E:=E) (w:=w) (F:=F) (dst:=2000000+i) (base:=4096) (cs:=[c]) (vs:=[v]) (fl:=[l]) rfl rfl (fun j c' hc=>by
    cases j with
    |zero=>simp only[t_,gx] at hc;subst hc;exact h
    |succ j=>simp at hc)
   refine⟨t,t1,?_,by simpa using t3,fun kv fp bad hk=>⟨⟨[v],t4 kv fp bad hk,by simp⟩,fun s hs=>t2 s hs kv fp bad,trivial⟩⟩
   have:=(OW (dst:=2000000+i) (cs:=[c]) (base:=4096)).1
   rw[t1] at this
   simpa[fi.es,Function.comp_def] using this
  |agg cs=>
   obtain⟨t,t1,t2,t3,vs,t4,t5,t6,t7⟩:=agg 4096 h
   refine⟨t,t1,t2,t3,fun kv fp bad hk=> ?_⟩
   obtain⟨g1,g2⟩:=t7 kv fp bad hk
   exact⟨⟨vs,g1,t4⟩,g2,trivial⟩
  |box _=>exact h.elim
  |ptr _=>exact h.elim
  |fn _=>exact h.elim
 |box own=>
  cases d with
  |box cs=>
   have YA:=nH cs rfl rfl
   obtain⟨b,cur,e,fl,h1,h2,h3,h4,h5,h6,h7,h8⟩:=h
   rw[<-YA] at h4 h5
   have iq:cur.toList.take cs.length++cur.toList.drop cs.length=cur.toList:=Tr _ _
   have rL:∀(j:Nat)(c:U.C),cs[j]? =some c->(cur.toList.take cs.length).getD j undef=cur.toList.getD j undef:=by
    intro j c hc
    have hj:j<cs.length:=by
     rcases nV j cs.length with g|g
     ·exact g
     ·rw[nz g] at hc;cases hc
    simp only[eY,oJ,if_pos hj]
   have V_:∀kv fp bad,ly E w F kv fp bad (rest.map fun v=> .c (.lit v)) rest:=by
    intro kv fp bad
    refine⟨by simp,fun j x u hx hu=> ?_⟩
    rw[nk,hu] at hx
    cases hx
    exact wq (h5 u (EM hu))
   cases own with
   |true=>
    obtain⟨t,t1,t2,t3,t4⟩:=Iy (E:=E) (w:=w) (F:=F) (dst:=2000000+i) (base:=4096) (cs:=cs) (vs:=cur.toList.take cs.length) (fl:=fl) (by simp;omega) h6 (fun j c hc=>by rw[rL j c hc];exact h7 j c hc)
    have V7:=OW (dst:=2000000+i) (cs:=cs) (base:=4096)
    refine⟨(0,.box ((putCells (2000000+i) true 4096 cs).1++rest.map fun v=> .c (.lit v)),v,[b])::t,by simp[Dp,fi.es,t1],?_,by rw[h8];simp only[fi.bl,yh,List.singleton_append] at t3⊢;rw[t3],fun kv fp bad hk=> ?_⟩
    ·rw[uY,sN]
     have h0:(t.map (·.1))=((putCells (2000000+i) true 4096 cs).2).map (·.1):=by rw[t1];simp[fi.es,Function.comp_def]
     rw[h0]
     refine⟨fun hm=> ?_,V7.1⟩
     obtain⟨p,hp,e⟩:=lB.1 hm
     have:=V7.2 p hp
     simp only at e
     omega
    ·have AB:kv (2000000+i,0)=v:=hk _ gj
     have yV:=fun s hs=>hk s (cA _ hs)
     refine⟨zw ⟨by rw[h1];exact⟨rfl,trivial⟩,.inr ⟨b,by rw[AB,h1],h1⟩⟩,fun s hs=> ?_,AB⟩
     rcases jQ.1 hs with rfl|hs
     ·refine⟨b,cur,e,h1,h2,rfl,?_⟩
      rw[<-iq,h4]
      exact(t4 kv fp bad yV).append (V_ kv fp bad)
     ·exact t2 s hs kv fp bad
   |false=>
    have EC:fl.flatten=[]:=by
     rw[zdm]
     intro b' bf
     obtain⟨l',GH,EH⟩:=W5.1 bf
     obtain⟨j,hj,rfl⟩:=ri GH
     have s8:j<cs.length:=by omega
     have:=h7 j _ (fo s8)
     rw[eY (l:=fl),fo hj] at this
     exact this.Uw (F':=fun _=>False) EH
    rw[EC] at h8
    refine⟨[(0,.box (cs.map .c++rest.map fun v=> .c (.lit v)),v,[b])],rfl,by simp,by simp[fi.bl,h8],fun kv fp bad hk=> ?_⟩
    have AB:kv (2000000+i,0)=v:=hk _ gj
    refine⟨zw ⟨by rw[h1];exact⟨rfl,trivial⟩,.inr ⟨b,by rw[AB,h1],h1⟩⟩,fun s hs=> ?_,AB⟩
    rw[ma.1 hs]
    refine⟨b,cur,e,h1,h2,rfl,?_⟩
    rw[<-iq,h4]
    refine(KH (by simp;omega) (fun j c hc=> ?_)).append (V_ kv fp bad)
    rw[rL j c hc]
    have:=h7 j c hc
    exact this.k8 (fun _ hb=>hb) (fun b' bf=>this.Uw bf)
  |one _=>exact h.elim
  |agg _=>exact h.elim
  |ptr _=>exact h.elim
  |fn _=>exact h.elim
theorem amj{dst:Nat}{t:fi U}{k:Key}{e:iv U}(h:eD (pa dst t.es) k=some e):∃s∈t,k=(dst,s.1)/\e=s.2.1:=by
 have:=CB h
 simp only[pa,fi.es,List.map_map,lB,Function.comp,ox,gx] at this
 obtain⟨s,hs,h1,h2⟩:=this
 exact⟨s,hs,h1.symm,h2.symm⟩
theorem acP{rest:List Value}:∀{ms:List Mode}{ds:List (DV U)}{vs:List Value}{ls:List (List Nat)}{i:Nat},jj E w F ms ds vs ls->qk w rest ms ds vs->
  ∃ts:List (fi U),ts.map fi.bl=ls/\(∀t∈ts,(t.map (·.1)).Nodup)/\
   (∀k e,eD (Lh rest i ms ds) k=some e->∃j s,s∈ts.getD j []/\k=(2000000+(i+j),s.1)/\e=s.2.1)/\
   ∀kv fp bad,(∀j s,s∈ts.getD j []->kv (2000000+(i+j),s.1)=s.2.2.1)->
    (∀s x,look (Dr rest i ms ds) s=some x->∃j,s=i+j/\j<vs.length/\RS E w F kv fp bad x (vs.getD j undef))/\
    (∀j s,s∈ts.getD j []->sE E w F kv fp bad s.2.1 s.2.2.1 s.2.2.2)/\zx kv i ms ds vs
 |[],[],[],[],i,_,_=>⟨[],rfl,by simp,fun k e he=>(by cases he),fun kv fp bad _=>⟨fun s x hs=>(by cases hs),by simp,trivial⟩⟩
 |m::ms,d::ds,v::vs,l::ls,i,h,hr=>by
  obtain⟨ts,i1,i2,i3,i4⟩:=acP (rest:=rest) (i:=i+1) h.2 hr.2
  obtain⟨t,t1,t2,t3,t4⟩:=ane (i:=i) h.1 hr.1
  refine⟨t::ts,by rw[uY,t3,i1],fun t' ht=> ?_,fun k e he=> ?_,fun kv fp bad hk=> ?_⟩
  ·rcases jQ.1 ht with rfl|ht
   ·exact t2
   ·exact i2 t' ht
  ·have he:=(Er _ _ _).symm.trans he
   split at he
   ·rw[t1] at he
    obtain⟨s,hs,h1,h2⟩:=amj he
    exact⟨0,s,by simpa using hs,by simpa using h1,h2⟩
   ·obtain⟨j,s,hs,h1,h2⟩:=i3 k e he
    exact⟨j+1,s,by simpa using hs,by rw[h1];simp only[ox,and_true];omega,h2⟩
  ·obtain⟨g1,g2,g3⟩:=t4 kv fp bad (fun s hs=>by have:=hk 0 s (by simpa using hs);simpa using this)
   obtain⟨k1,k2,k3⟩:=i4 kv fp bad (fun j s hs=>by have:=hk (j+1) s (by simpa using hs);simpa[Oo,zew 1 j] using this)
   refine⟨fun s x hs=> ?_,fun j s hs=> ?_,g3,k3⟩
   ·have hs:=(KE _ _ _ _).symm.trans hs
    split at hs
    ·rename_i e;cases hs;exact⟨0,by simp[e],by simp,by simpa using g1⟩
    ·obtain⟨j,rfl,h2,h3⟩:=k1 s x hs
     exact⟨j+1,by omega,by simpa using h2,by simpa using h3⟩
   ·cases j with
    |zero=>exact g2 s (by simpa using hs)
    |succ j=>exact k2 j s (by simpa using hs)
 |[],_::_,_,_,_,h,_=>h.elim
 |[],[],_::_,_,_,h,_=>h.elim
 |[],[],[],_::_,_,h,_=>h.elim
 |_::_,[],_,_,_,h,_=>h.elim
 |_::_,_::_,[],_,_,h,_=>h.elim
 |_::_,_::_,_::_,[],_,h,_=>h.elim
def O8(w:World)(F:Nat->Prop)(kv:Key->Value)(ls:List (List Nat)):Pm:=
 ⟨w,fun b=>b∈ls.flatten,F,fun k=>if 2000000<=k.1/\k.2<1024 then some (kv k) else none⟩
theorem amW{ts:List (fi U)}{j:Nat}:(ts.map fi.bl).getD j []=(ts.getD j []).bl:=by
 rw[eY,eY,nk]
 cases ts[j]? <;>rfl
theorem anc{n:Nat}{rest:List Value}{ms:List Mode}{ds:List (DV U)}{vs:List Value}{ls:List (List Nat)}(hF:∀b,F b->b<w.heap.size)(GF:Tj E w F)(h:jj E w F ms ds vs ls)(hr:qk w rest ms ds vs)(hn:ls.flatten.Nodup)(hl:∀b∈ls.flatten,b<w.heap.size/\¬F b)
  (hms:ms.length<=n) (wy:n<=1000000):
  ∃I2 U6,cE E (O8 w F I2 ls) F I2 U6 (entry rest n ms ds) {tmps:=vs.toArray++Array.replicate (n-vs.length) undef,defers:=[]} w/\zx I2 0 ms ds vs:=by
 obtain⟨l1,l2,l3⟩:=h.len
 obtain⟨ts,i1,i2,i3,i4⟩:=acP (rest:=rest) (i:=0) h hr
 have pL:∀{j:Nat},((ts.getD j []).map (·.1)).Nodup:=by
  intro j
  rcases nV j ts.length with g|g
  ·rw[eY,fo g];exact i2 _ (Ed g)
  ·rw[eY,nz g];exact W4
 let I2:Key->Value:=fun k=>(ts.getD (k.1-2000000) []).Ai k.1 (fun _=>undef) k
 let U6:Key->List Nat:=fun k=>(ts.getD (k.1-2000000) []).y3 k.1 (fun _=>[]) k
 have Ny:∀j s,s∈ts.getD j []->I2 (2000000+(0+j),s.1)=s.2.2.1:=by
  intro j s hs
  simp only[I2,tY,Nat.add_sub_cancel_left]
  exact fi.w4 pL hs
 have rM:∀j s,s∈ts.getD j []->U6 (2000000+(0+j),s.1)=s.2.2.2:=by
  intro j s hs
  simp only[U6,tY,Nat.add_sub_cancel_left]
  exact fi.uu pL hs
 obtain⟨g1,g2,g3⟩:=i4 I2 U6 (bW (entry rest n ms ds)) Ny
 have NH:∀{j:Nat},(ts.getD j []).bl=ls.getD j []:=fun{j}=>by rw[<-i1,amW]
 have Zb:∀{j:Nat}{s:Nat×iv U×Value×List Nat}{b:Nat},s∈ts.getD j []->b∈s.2.2.2->b∈ls.getD j []:=fun{j s b} hs hb=>by rw[<-NH];exact fi.px.2 ⟨s,hs,hb⟩
 refine⟨I2,U6,⟨by simp[entry];omega,rfl,fun s x hs=> ?_,fun k e he=> ?_,fun k k' e e' b eO h1 h2 hb=> ?_,fun k e he=> ?_,fun k e b he hb=> ?_,hF,fun b hb=> .inl hb,gN.refl _ _,fun k v hk=> ?_,GF⟩,g3⟩
 ·obtain⟨j,rfl,hj,h3⟩:=g1 s x hs
  have:(vs.toArray++Array.replicate (n-vs.length) undef).getD (0+j) undef=vs.getD j undef:=by
   rw[tY,Ot,Array.getElem?_append_left (by simpa using hj)]
   simp[eY]
  show RS E w F _ _ _ x ((vs.toArray++Array.replicate (n-vs.length) undef).getD (0+j) undef)
  rw[this];exact h3
 ·obtain⟨j,s,hs,rfl,rfl⟩:=i3 k e he
  rw[Ny j s hs,rM j s hs]
  exact g2 j s hs
 ·obtain⟨j,s,hs,rfl,rfl⟩:=i3 k e h1
  obtain⟨j',s',j0,rfl,rfl⟩:=i3 k' e' h2
  rw[rM j s hs] at hb
  rw[rM j' s' j0]
  by_cases hj:j=j'
  ·subst hj
   have u7:(ts.getD j []).bl.Nodup:=by rw[NH];exact aco hn j
   exact fi.qW u7 hs j0 (fun e=>eO (by rw[e])) hb
  ·exact fun bf=>am3 hn hj (Zb hs hb) (Zb j0 bf)
 ·obtain⟨j,s,hs,rfl,rfl⟩:=i3 k e he
  rw[rM j s hs]
  have u7:(ts.getD j []).bl.Nodup:=by rw[NH];exact aco hn j
  exact fi.xE u7 hs
 ·obtain⟨j,s,hs,rfl,rfl⟩:=i3 k e he
  rw[rM j s hs] at hb
  have:=amk (Zb hs hb)
  exact⟨(hl b this).2,.inl this,(hl b this).1⟩
 ·simp only[O8] at hk
  split at hk
  ·rename_i hc
   cases hk
   exact⟨hc.1,hc.2,wy,rfl⟩
  ·cases hk
variable{pm:Pm}{kv:Key->Value}{fp:Key->List Nat}{σ:ah U}{a:Act}
def Kz(tmps:Array Value):ResultVar->Sem Value
 | .tmp t=>pure (tmps.getD t undef)
 | .cell a t=>do loadVar t (<-asAddr (tmps.getD a undef))
def HX(P:Program)(tmps:Array Value)(w:World):List ResultVar->List Value->Prop
 |[],[]=>True
 |r::rs,u::us=>(Kz tmps r).run P w=.ok u w/\HX P tmps w rs us
 |_,_=>False
theorem acr{P:Program}{tmps:Array Value}{w:World}:∀{rs:List ResultVar}{us:List Value},HX P tmps w rs us->(List.mapM (Kz tmps) rs).run P w=.ok us w
 |[],[],_=>rfl
 |r::rs,u::us,h=>by
  rw[List.mapM_cons,Sem.run_bind,h.1]
  simp only[Result.andThen,Sem.run_bind,acr h.2]
  rfl
 |[],_::_,h=>h.elim
 |_::_,[],h=>h.elim
theorem alY{P:Program}{fn:Func}{tmps:Array Value}{w:World}{us:List Value}(h:HX P tmps w fn.results.toList us):
  (results fn tmps).run P w=.ok (MR us) w:=by
 have hg:(fun x=>match x with
   |ResultVar.tmp t=>(pure (tmps.getD t undef):Sem Value)
   |ResultVar.cell a t=>do loadVar t (<-asAddr (tmps.getD a undef)))=Kz tmps:=by
  funext x;cases x<;>rfl
 unfold results
 have hr:fn.results=fn.results.toList.toArray:=rfl
 rw[hr,List.mapM_toArray]
 show Sem.run P (do
  let vs←Functor.map List.toArray (List.mapM (fun x=>match x with
   |ResultVar.tmp t=>(pure (tmps.getD t undef):Sem Value)
   |ResultVar.cell a t=>do loadVar t (<-asAddr (tmps.getD a undef))) fn.results.toList)
  pure (if h:vs.size=1 then vs[0] else Value.tuple vs)) w=_
 rw[hg,Sem.run_bind]
 have hm:(Functor.map List.toArray (List.mapM (Kz tmps) fn.results.toList)).run P w=.ok us.toArray w:=by
  rw[map_eq_pure_bind,Sem.run_bind,acr h]
  rfl
 rw[hm]
 show Result.ok _ w=_
 congr 1
 match us with
 |[]=>rfl
 |[t]=>rfl
 |t::u::r=>
  rw[dif_neg (by simp)]
  rfl
theorem ab'(h:cE E pm F kv fp σ a w){r:ResultVar}{x:AV U}(hr:LQ E σ r=some x):∃u,(Kz a.tmps r).run E.P w=.ok u w/\RV E w F kv fp (bW σ) x u:=by
 unfold LQ at hr
 split at hr
 ·rename_i t
  split at hr
  ·rename_i y hy
   cases hr
   exact⟨_,rfl,h.bz t _ hy⟩
  ·cases hr
 ·rename_i s t
  split at hr
  ·rename_i k hk
   split at hr
   ·rename_i cs n g he hn hg
    rw[h_] at hr
    split at hr
    ·rename_i hc
     cases hr
     simp only[cK] at hc
     obtain⟨b,h1,h2⟩:=cf (Gf (h.bz s _ hk)) rfl
     obtain⟨b',cur,e,h3,h4,h5,h6⟩:=h.di k _ he
     rw[h1] at h3;cases h3
     have hlen:n=cur.toList.length:=(mM hc.1).trans h6.1
     obtain⟨v,Yo,Yn⟩:=TW (E:=E) (w:=w) (us:=cur.toList) (off:=0) (b:=b) hn hg hc.2 hlen.symm (fun j v hj=>by
      simp only[World.cell?,h4,tY]
      simpa using hj)
     refine⟨v,?_,cur.toList,h6,Yn⟩
     have e8:(Kz a.tmps (.cell s t)).run E.P w=(Instr.loadAt t (.pointer (some ⟨b,0,none⟩))).run E.P w:=by
      simp only[Kz,h2,asAddr,Instr.loadAt,Instr.sureAddr,pure_bind]
     rw[e8];exact Yo
    ·cases hr
   ·cases hr
  ·cases hr
theorem al7(h:cE E pm F kv fp σ a w):∀{rs:List ResultVar}{fs:List Bool}{ts:List TypeId}{ps:List Prop}{ds:List (DV U)}{ks:List Key},outs E σ fs rs ts=some (ps,ds,ks)->(∀p∈ps,p)->ks.Nodup->
  ∃(us:List Value)(re:List (List Nat)),HX E.P a.tmps w rs us/\(∀F':Nat->Prop,(∀b,F b->F' b)->(∀k e b,k∈p6 E σ fs rs->σ.bJ k=some e->b∈fp k->F' b)->mU E w F' fs ds us re)/\re.flatten.Nodup/\(∀b∈re.flatten,∃k∈ks,b∈fp k)/\(∀k∈ks,(σ.bJ k).isSome=true):=by
 intro rs
 induction rs with
 |nil=>
  intro fs ts ps ds ks ho hp hn
  simp only[outs,gx,ox] at ho
  obtain⟨rfl,rfl,rfl⟩:=ho
  exact⟨[],[],trivial,fun _ _ _=>trivial,by simp,by simp,by simp⟩
 |cons r rs ih=>
  intro fs ts ps ds ks ho hp hn
  have GI:∀k,k∈p6 E σ fs.tail rs->k∈p6 E σ fs (r::rs):=fun k hk=>by
   simp only[p6,jr];exact .inr hk
  simp only[outs] at ho
  split at ho
  ·rename_i x hx
   split at ho
   ·rename_i l k w8
    split at ho
    ·rename_i qs ds2 ks2 I7
     cases ho
     have hh:fs.headD true=true:=by
      cases hh:fs.headD true with
      |true=>rfl
      |false=>
       rw[hh] at w8
       unfold O6 at w8
       split at w8<;>cases w8
     rw[hh] at w8
     unfold O6 at w8
     split at w8
     ·rename_i k0
      simp only[cond_true] at w8
      split at w8
      ·rename_i bs he
       split at w8
       ·rename_i l' hl
        cases w8
        obtain⟨s7,n2⟩:=sN.1 hn
        obtain⟨us,re,i1,i2,i3,i4,i5⟩:=ih I7 hp n2
        obtain⟨u,hu,vs,r1,r2⟩:=ab' h hx
        simp only[wx,if_false] at r2
        subst r2
        obtain⟨b,Ny,rfl⟩:=cf (r1.2 0 _ u rfl rfl) rfl
        obtain⟨b',cur,e',g1,g2,g3,g4⟩:=h.di k _ he
        rw[Ny] at g1
        simp only[Value.pointer.injEq,gx,Addr.mk.injEq] at g1
        obtain⟨rfl,_,_⟩:=g1
        have ur:=MU hl
        have EA:bs.length=l.length:=by rw[ur];simp
        have rP:kz E w F true (.box l:DV U) (.pointer (some ⟨b,0,none⟩)) [b]:=by
         refine⟨rfl,b,cur,e',rfl,g2,rfl,by rw[<-EA,g4.1];simp,fun i c hc=> ?_⟩
         have hbc:bs[i]? =some (.c c):=by rw[ur,nk,hc];rfl
         have gF:i<cur.toList.length:=by
          rw[<-g4.1]
          rcases nV i bs.length with g|g
          ·exact g
          ·rw[nz g] at hbc;cases hbc
         have rI:cur.toList[i]? =some (cur.toList[i]):=fo gF
         rw[eY,rI]
         exact(cf (g4.2 i _ _ hbc rI) rfl:Rp E w F false _ _ _)
        refine⟨_::us,[b]::re,⟨hu,i1⟩,fun F' u9 hK'=>⟨by rw[hh];exact kz.fQ u9 rP,i2 F' u9 fun k e b hk=>hK' k e b (GI k hk)⟩,?_,fun b' bf=> ?_,fun k' cO=> ?_⟩
        ·rw[Kj,qB]
         refine⟨by simp,i3,fun b' bf c hc e=> ?_⟩
         rw[ma.1 bf] at e
         subst e
         obtain⟨k2,kU,sT⟩:=i4 b hc
         obtain⟨e2,sS⟩:=mI.1 (i5 k2 kU)
         exact h.apart k k2 _ e2 b (fun e=>s7 (e▸kU)) he sS (by rw[g3];exact ma.2 rfl) sT
        ·rw[Kj,jr] at bf
         rcases bf with bf|bf
         ·rw[ma.1 bf]
          exact⟨k,gj,by rw[g3];exact ma.2 rfl⟩
         ·obtain⟨k2,kU,sT⟩:=i4 b' bf
          exact⟨k2,cA _ kU,sT⟩
        ·rcases jQ.1 cO with rfl|cO
         ·rw[he];rfl
         ·exact i5 k' cO
       ·cases w8
      ·cases w8
     ·cases w8
    ·cases ho
   split at ho
   ·rename_i S_ cs ks1 zT
    split at ho
    ·rename_i d qs ds2 ks2 hd I7
     simp only[gx,ox] at ho
     obtain⟨rfl,rfl,rfl⟩:=ho
     rw[qB] at hn
     obtain⟨n1,n2,n3⟩:=hn
     obtain⟨us,re,i1,i2,i3,i4,i5⟩:=ih I7 (fun p kq=>hp p (by simp[kq])) n2
     obtain⟨u,hu,vs,r1,r2⟩:=ab' h hx
     cases hh:fs.headD true with
     |true=>
      rw[hh] at zT
      simp only[cond_true] at zT
      split at zT
      ·rename_i IF uK ks' Ys
       cases zT
       obtain⟨g1,g2,g3,g4⟩:=KC h Ys (fun p kq=>hp p (by simp[kq])) r1 n1
       obtain⟨fl,f1,f2,f3,f4⟩:=g3 rfl
       refine⟨u::us,fl.flatten::re,⟨hu,i1⟩,fun F' u9 hK'=>⟨by rw[hh];exact kz.fQ u9 (anj hd r2 (by rw[g1];exact r1.1.symm) f1 f2),i2 F' u9 fun k e b hk=>hK' k e b (GI k hk)⟩,?_,fun b hb=> ?_,fun k hk=> ?_⟩
       ·rw[Kj,qB]
        refine⟨f3,i3,fun b hb c hc e=> ?_⟩
        subst e
        obtain⟨k1,yV,sU⟩:=f4 b hb
        obtain⟨k2,kU,sT⟩:=i4 b hc
        obtain⟨e1,Y9⟩:=mI.1 (g2 k1 yV)
        obtain⟨e2,sS⟩:=mI.1 (i5 k2 kU)
        exact h.apart k1 k2 e1 e2 b (n3 k1 yV k2 kU) Y9 sS sU sT
       ·rw[Kj,jr] at hb
        rcases hb with hb|hb
        ·obtain⟨k,hk,hb⟩:=f4 b hb;exact⟨k,qC _ hk,hb⟩
        ·obtain⟨k,hk,hb⟩:=i4 b hb;exact⟨k,pS _ hk,hb⟩
       ·rcases jr.1 hk with hk|hk
        ·exact g2 k hk
        ·exact i5 k hk
      ·cases zT
     |false=>
      rw[hh] at zT
      simp only[cond_false] at zT
      split at zT
      ·rename_i IF uK Ys
       cases zT
       obtain⟨g1,g2⟩:=acW h Ys (fun p kq=>hp p (by simp[kq])) r1
       refine⟨u::us,[]::re,⟨hu,i1⟩,fun F' u9 hK'=>⟨by
        rw[hh]
        refine ani hd r2 (by rw[g1];exact r1.1.symm) (fun i c hc=>(g2 i c hc).fQ (fun b hb=> ?_))
        rcases hb with hb|⟨k,hk,hb⟩
        ·exact u9 b hb
        ·rw[wA] at hk
         obtain⟨e,he⟩:=mI.1 hk.2
         exact hK' k e b (by simp only[p6,hh,cond_false,jr,hx];exact .inl hk.1) he hb,i2 F' u9 fun k e b hk=>hK' k e b (GI k hk)⟩,by simpa using i3,by simpa using i4,by simpa using i5⟩
      ·cases zT
    ·cases ho
   ·cases ho
  ·cases ho
theorem XY(h:cE E pm F kv fp σ a w){i:Nat}:∀{cs:List U.C}{j:Nat}{vs:List Value}{ds:List U.C}{ks:List Key},pi σ i j cs=some (ds,ks)->vs.length=cs.length->
  (∀(n:Nat)(τ:U.Ty)(xs:List (U.T τ)),cs[n]? =some (.sl τ xs)->kv (2000000+i,j+n)=vs.getD n undef)->(∀(n:Nat)(u:Value),cs[n]? =some (.lit u)->vs.getD n undef=u/\gp u)->
  ds.length=cs.length/\∃fl:List (List Nat),fl.length=ds.length/\(∀(n:Nat)(c:U.C),ds[n]? =some c->Rp E w F true c (vs.getD n undef) (fl.getD n []))/\fl.flatten=ks.flatMap fp/\(∀k∈ks,(σ.bJ k).isSome=true/\j<=k.2)/\ks.Nodup
 |[],j,vs,ds,ks,hf,hl,h1,h2=>by
  simp only[pi,gx,ox] at hf
  obtain⟨rfl,rfl⟩:=hf
  exact⟨rfl,[],rfl,fun n c hc=>by simp at hc,rfl,by simp,by simp⟩
 |c::cs,j,[],ds,ks,hf,hl,h1,h2=>by simp at hl
 |c::cs,j,v::vs,ds,ks,hf,hl,h1,h2=>by
  have Ke:∀(n:Nat)(τ:U.Ty)(xs:List (U.T τ)),cs[n]? =some (.sl τ xs)->kv (2000000+i,j+1+n)=vs.getD n undef:=fun n τ xs hn=>by
   have:=h1 (n+1) τ xs (by simpa using hn)
   simpa[Oo,zew 1 n] using this
  have Ma:∀(n:Nat)(u:Value),cs[n]? =some (.lit u)->vs.getD n undef=u/\gp u:=fun n u hn=>by simpa using h2 (n+1) u (by simpa using hn)
  cases c with
  |lit u=>
   simp only[pi] at hf
   split at hf
   ·rename_i ds' ks' hf'
    cases hf
    obtain⟨i1,fl,i2,i3,i4,i5,i6⟩:=XY h hf' (by simpa using hl) Ke Ma
    obtain⟨g1,g2⟩:=h2 0 u rfl
    have hvu:v=u:=by simpa using g1
    subst hvu
    refine⟨by simp[i1],[]::fl,by simp[i2],fun n c hc=> ?_,by simpa using i4,fun k hk=>⟨(i5 k hk).1,by have:=(i5 k hk).2;omega⟩,i6⟩
    cases n with
    |zero=>simp only[t_,gx] at hc;subst hc;exact .lit _ _ g2
    |succ n=>simpa using i3 n c (by simpa using hc)
   ·cases hf
  |sl τ xs=>
   simp only[pi] at hf
   split at hf
   ·rename_i y ds' ks' he hf'
    cases hf
    obtain⟨i1,fl,i2,i3,i4,i5,i6⟩:=XY h hf' (by simpa using hl) Ke Ma
    have hv:kv (2000000+i,j)=v:=by simpa using h1 0 τ xs rfl
    have ho:eW E w F true y (kv (2000000+i,j)) (fp (2000000+i,j)):=h.di _ _ he
    refine⟨by simp[i1],fp (2000000+i,j)::fl,by simp[i2],fun n c hc=> ?_,by simp[i4],fun k hk=> ?_,?_⟩
    ·cases n with
     |zero=>simp only[t_,gx] at hc;subst hc;rw[hv] at ho;exact ho.rp
     |succ n=>simpa using i3 n c (by simpa using hc)
    ·rcases jQ.1 hk with rfl|hk
     ·exact⟨by rw[he];rfl,s_ _⟩
     ·exact⟨(i5 k hk).1,by have:=(i5 k hk).2;omega⟩
    ·rw[sN]
     exact⟨fun hm=>by have:=(i5 _ hm).2;simp only at this;omega,i6⟩
   ·cases hf
theorem am5(h:cE E pm F kv fp σ a w){w0:World}{F0:Nat->Prop}{rest:List Value}{i:Nat}{want:List (Option U.Ty)}{m:Mode}{d:DV U}{v:Value}{l:List Nat}{ps:List Prop}{mu:List (DV U)}{ks:List Key}
  (hf:GU σ rest i want m d=some (ps,mu,ks)) (hp:∀p∈ps,p) (ol:l_ E w0 F0 m d v l) (nH:∀cs,kE m=true->d=.box cs->rest=rA w0 v cs.length) (Ez:S3 i m d v kv) (hn:ks.Nodup):
  ∃iQ,fe E w F w0 [m] [v] mu iQ/\iQ.flatten.Nodup/\(∀b∈iQ.flatten,∃k∈ks,b∈fp k)/\(∀k∈ks,(σ.bJ k).isSome=true)/\(m=.box false->∀b∈l,∃k∈ks,b∈fp k):=by
 cases m with
 |ro=>
  simp only[GU,gx,ox] at hf
  obtain⟨_,rfl,rfl⟩:=hf
  exact⟨[],trivial,by simp,by simp,by simp,fun e=>by cases e⟩
 |mv=>
  simp only[GU,gx,ox] at hf
  obtain⟨_,rfl,rfl⟩:=hf
  exact⟨[],trivial,by simp,by simp,by simp,fun e=>by cases e⟩
 |wr=>
  cases d with
  |one c=>
   cases c with
   |lit _=>exact ol.elim
   |sl τ xs=>
    simp only[GU] at hf
    split at hf
    ·rename_i y he
     cases hf
     have hv:kv (2000000+i,0)=v:=Ez
     have ho:eW E w F true y (kv (2000000+i,0)) (fp (2000000+i,0)):=h.di _ _ he
     rw[hv] at ho
     exact⟨[fp (2000000+i,0)],⟨ho,trivial⟩,by simpa using h.nodup _ _ he,by simp,by simp[he],fun e=>by cases e⟩
    ·cases hf
  |agg cs=>
   simp only[GU] at hf
   rw[h_] at hf
   split at hf
   ·split at hf
    ·rename_i ds ks' hfc
     cases hf
     obtain⟨vs,p1,p2,p3,p4⟩:=Ez
     obtain⟨i1,fl,i2,i3,i4,i5,i6⟩:=XY h hfc p2 (by simpa using p3) p4
     refine⟨[fl.flatten],⟨⟨vs,fl,p1,by rw[p2,i1],i2,i3,rfl⟩,trivial⟩,?_,fun b hb=> ?_,fun k hk=>(i5 k hk).1,fun e=>by cases e⟩
     ·simp only[Kj,zey,ww]
      rw[i4]
      exact XX h i6 (fun k hk=>(i5 k hk).1)
     ·simp only[Kj,zey,ww] at hb
      rw[i4] at hb
      exact nT.1 hb
    ·cases hf
   ·cases hf
  |box _=>exact ol.elim
  |ptr _=>exact ol.elim
  |fn _=>exact ol.elim
 |box own=>
  cases d with
  |one _=>exact ol.elim
  |agg _=>exact ol.elim
  |ptr _=>exact ol.elim
  |fn _=>exact ol.elim
  |box cs=>
   have YA:=nH cs rfl rfl
   have hv:kv (2000000+i,0)=v:=Ez
   obtain⟨b0,aoJ,e0,fl0,z1,z2,z3,z4,z5,z6,z7,z8⟩:=ol
   have KX:∀{bs:List (AC U)}{cur:Array Value}{n:Nat},ly E w F kv fp (bW σ) bs cur.toList->bs.drop n=rest.map (fun v=> .c (.lit v))->cur.toList.drop n=rest:=by
    intro bs cur n hd he
    have h1:=hd.drop n
    rw[he] at h1
    refine Oq fun j=> ?_
    cases hj:rest[j]? with
    |none=>
     rw[List.getElem?_eq_none_iff] at hj⊢
     rw[<-h1.1];simpa using hj
    |some u=>
     have gF:j<(cur.toList.drop n).length:=by
      rw[<-h1.1,wv]
      rcases nV j rest.length with g|g
      ·exact g
      ·rw[nz g] at hj;cases hj
     rw[fo gF]
     have:=X9 (h1.2 j (.c (.lit u)) _ (by rw[nk,hj];rfl) (fo gF))
     rw[this]
   cases own with
   |true=>
    simp only[GU] at hf
    split at hf
    ·rename_i bs he
     split at hf
     ·rename_i IF l0 ks' ht
      rw[h_] at hf
      split at hf
      ·rename_i I'
       cases hf
       have I':=mM I'
       obtain⟨b,cur,e,h3,h4,h5,h6⟩:=h.di _ _ he
       rw[hv] at h3
       obtain⟨g1,g2,g3,_⟩:=KC h ht (fun p kq=>hp p (by simp[kq])) (h6.take cs.length) (sN.1 hn).2
       obtain⟨fl,f1,f2,f3,f4⟩:=g3 rfl
       have YF:bs.drop cs.length=rest.map fun v=> .c (.lit v):=ab7 fun p kq=>hp p (pS _ kq)
       have P7:=KX h6 YF
       have NH:cs.length<=cur.size:=by
        have h8:bs.length=cur.size:=by have:=h6.1;simpa using this
        rw[g1,oH] at I'
        omega
       have Zd:b∉fl.flatten:=by
        intro hb
        obtain⟨k',cO,bf⟩:=f4 b hb
        obtain⟨e2,sS⟩:=mI.1 (g2 k' cO)
        exact h.apart _ k' _ e2 b (fun e=>(sN.1 hn).1 (by rw[e];exact cO)) he sS (by rw[h5];simp) bf
       refine⟨[b::fl.flatten],⟨⟨b,cur,e,fl,h3,h4,by omega,by rw[I',P7,YA],by rw[I'];exact z5,f1,fun j c hc=> ?_,rfl⟩,trivial⟩,(by rw[Kj,zey,ww,sN];exact⟨Zd,f3⟩),fun c hc=> ?_,fun k hk=> ?_,fun e=>by cases e⟩
       ·have hj:j<cs.length:=by
         rw[<-I']
         rcases nV j l0.length with g|g
         ·exact g
         ·rw[nz g] at hc;cases hc
        have:=f2 j c hc
        rw[eY,oJ,if_pos hj,<-eY] at this
        exact this
       ·simp only[Kj,zey,ww,jQ] at hc
        rcases hc with rfl|hc
        ·exact⟨_,gj,by rw[h5];simp⟩
        ·obtain⟨k',cO,hc⟩:=f4 c hc;exact⟨k',cA _ cO,hc⟩
       ·rcases jQ.1 hk with rfl|hk
        ·rw[he];rfl
        ·exact g2 k hk
      ·cases hf
     ·cases hf
    ·cases hf
   |false=>
    simp only[GU] at hf
    split at hf
    ·rename_i bs he
     split at hf
     ·rename_i l0 AA
      rw[h_] at hf
      split at hf
      ·rename_i I'
       cases hf
       have I':=mM I'
       have ur:=MU AA
       obtain⟨b,cur,e,h3,h4,h5,h6⟩:=h.di _ _ he
       rw[hv] at h3
       have YF:bs.drop cs.length=rest.map fun v=> .c (.lit v):=ab7 fun p kq=>hp p kq
       have P7:=KX h6 YF
       have h8:bs.length=cur.size:=by have:=h6.1;simpa using this
       have NH:cs.length<=cur.size:=by
        have:=congrArg List.length ur
        rw[oH,wv,I'] at this
        omega
       refine⟨[[b]],⟨⟨b,cur,e,List.replicate l0.length [],h3,h4,by omega,by rw[I',P7,YA],by rw[I'];exact z5,by simp,fun j c hc=> ?_,by rw[yC]⟩,trivial⟩,by simp,fun c hc=>⟨_,gj,by rw[h5];simpa using hc⟩,by simp[he],fun _ c hc=> ?_⟩
       ·have hj:j<cs.length:=by
         rw[<-I']
         rcases nV j l0.length with g|g
         ·exact g
         ·rw[nz g] at hc;cases hc
        have hci:bs[j]? =some (.c c):=by
         have:(bs.take cs.length)[j]? =some (.c c):=by rw[ur,nk,hc];rfl
         rwa[oJ,if_pos hj] at this
        have h7:=cf (h6.2 j (.c c) (cur.toList.getD j undef) hci (e9 (by simp;omega))) rfl
        rw[Gb]
        exact h7
       ·refine⟨_,gj,?_⟩
        rw[h5]
        rw[z1] at h3
        cases h3
        rw[z8,jQ] at hc
        rcases hc with rfl|hc
        ·simp
        ·exfalso
         obtain⟨l',GH,EH⟩:=W5.1 hc
         obtain⟨j,hj,rfl⟩:=ri GH
         have s8:j<cs.length:=by omega
         have:=z7 j _ (fo s8)
         rw[eY (l:=fl0),fo hj] at this
         exact this.Uw (F':=fun _=>False) EH
      ·cases hf
     ·cases hf
    ·cases hf
theorem fe.cons{w0:World}{m:Mode}{v:Value}{Pp:List (DV U)}{E8:List (List Nat)}{ms:List Mode}{vs:List Value}{mu2:List (DV U)}{Uy:List (List Nat)}(h:fe E w F w0 [m] [v] Pp E8)(h':fe E w F w0 ms vs mu2 Uy):
  fe E w F w0 (m::ms) (v::vs) (Pp++mu2) (E8++Uy):=by
 cases m with
 |ro=>cases Pp<;>cases E8<;>first|exact h.elim|exact h'
 |mv=>cases Pp<;>cases E8<;>first|exact h.elim|exact h'
 |wr=>
  cases Pp with
  |nil=>cases E8<;>exact h.elim
  |cons d Pp=>
   cases E8 with
   |nil=>cases d<;>first|exact h.elim|(rename_i c;cases c<;>exact h.elim)
   |cons l E8=>
    cases d with
    |one c=>cases c with
     |lit _=>exact h.elim
     |sl τ ys=>
      obtain⟨h1,h2⟩:=h
      cases Pp<;>cases E8<;>first|exact h2.elim|exact⟨h1,h'⟩
    |agg cs=>
     obtain⟨h1,h2⟩:=h
     cases Pp<;>cases E8<;>first|exact h2.elim|exact⟨h1,h'⟩
    |box _=>exact h.elim
    |ptr _=>exact h.elim
    |fn _=>exact h.elim
 |box own=>
  cases Pp with
  |nil=>cases E8<;>exact h.elim
  |cons d Pp=>
   cases E8 with
   |nil=>cases d<;>exact h.elim
   |cons l E8=>
    cases d with
    |box cs=>
     obtain⟨h1,h2⟩:=h
     cases Pp<;>cases E8<;>first|exact h2.elim|exact⟨h1,h'⟩
    |one _=>exact h.elim
    |agg _=>exact h.elim
    |ptr _=>exact h.elim
    |fn _=>exact h.elim
theorem acN(h:cE E pm F kv fp σ a w){w0:World}{F0:Nat->Prop}{rest:List Value}:∀{ms:List Mode}{i:Nat}{ws:List (List (Option U.Ty))}{ds:List (DV U)}{vs:List Value}{ls:List (List Nat)}{ps:List Prop}{mu:List (DV U)}{ks:List Key},
  rV σ rest i ws ms ds=some (ps,mu,ks)->(∀p∈ps,p)->jj E w0 F0 ms ds vs ls->qk w0 rest ms ds vs->zx kv i ms ds vs->ks.Nodup->
  ∃iQ,fe E w F w0 ms vs mu iQ/\iQ.flatten.Nodup/\(∀b∈iQ.flatten,∃k∈ks,b∈fp k)/\(∀k∈ks,(σ.bJ k).isSome=true)/\(Qd ms=false->∀b∈ls.flatten,∃k∈ks,b∈fp k)
 |[],i,ws,[],[],[],ps,mu,ks,hf,hp,ol,hr,Ez,hn=>by
  simp only[rV,gx,ox] at hf
  obtain⟨_,rfl,rfl⟩:=hf
  exact⟨[],trivial,by simp,by simp,by simp,by simp⟩
 |m::ms,i,ws,d::ds,v::vs,l::ls,ps,mu,ks,hf,hp,ol,hr,Ez,hn=>by
  simp only[rV] at hf
  split at hf
  ·rename_i S_ xs ks1 qs ys ks2 h1 h2
   cases hf
   rw[qB] at hn
   obtain⟨n1,n2,n3⟩:=hn
   obtain⟨E8,i1,i2,i3,i4,i5⟩:=am5 h h1 (fun p kq=>hp p (by simp[kq])) ol.1 hr.1 Ez.1 n1
   obtain⟨Uy,j1,j2,j3,j4,j5⟩:=acN h h2 (fun p kq=>hp p (by simp[kq])) ol.2 hr.2 Ez.2 n2
   refine⟨E8++Uy,i1.cons j1,?_,fun b hb=> ?_,fun k hk=>(jr.1 hk).elim (i4 k) (j4 k),fun ho b hb=> ?_⟩
   ·rw[J7,qB]
    refine⟨i2,j2,fun b hb c hc e=> ?_⟩
    subst e
    obtain⟨k1,yV,sU⟩:=i3 b hb
    obtain⟨k2,kU,sT⟩:=j3 b hc
    obtain⟨e1,Y9⟩:=mI.1 (i4 k1 yV)
    obtain⟨e2,sS⟩:=mI.1 (j4 k2 kU)
    exact h.apart k1 k2 e1 e2 b (n3 k1 yV k2 kU) Y9 sS sU sT
   ·rw[J7,jr] at hb
    rcases hb with hb|hb
    ·obtain⟨k,hk,hb⟩:=i3 b hb;exact⟨k,qC _ hk,hb⟩
    ·obtain⟨k,hk,hb⟩:=j3 b hb;exact⟨k,pS _ hk,hb⟩
   ·simp only[Qd,Tk,Oc] at ho
    rw[Kj,jr] at hb
    rcases hb with hb|hb
    ·have:m=.ro\/m=.box false:=by
      cases m with
      |ro=>exact .inl rfl
      |wr=>simp at ho
      |mv=>simp at ho
      |box own=>cases own with
       |true=>simp at ho
       |false=>exact .inr rfl
     rcases this with rfl|rfl
     ·have:l=[]:=by cases d<;>first|exact ol.1.2|(obtain⟨_,_,_,_,h⟩:=ol.1;exact h)|exact ol.1.elim
      rw[this] at hb;cases hb
     ·obtain⟨k,hk,hb⟩:=i5 rfl b hb;exact⟨k,qC _ hk,hb⟩
    ·obtain⟨k,hk,hb⟩:=j5 ho.2 b hb;exact⟨k,pS _ hk,hb⟩
  ·cases hf
 |[],_,_,_::_,_,_,_,_,_,_,_,ol,_,_,_=>ol.elim
 |[],_,_,[],_::_,_,_,_,_,_,_,ol,_,_,_=>ol.elim
 |[],_,_,[],[],_::_,_,_,_,_,_,ol,_,_,_=>ol.elim
 |_::_,_,_,[],_,_,_,_,_,_,_,ol,_,_,_=>ol.elim
 |_::_,_,_,_::_,[],_,_,_,_,_,_,ol,_,_,_=>ol.elim
 |_::_,_,_,_::_,_::_,[],_,_,_,_,_,ol,_,_,_=>ol.elim
theorem fe.mono{w0:World}{F':Nat->Prop}(hF:∀b,F b->F' b):∀{ms:List Mode}{vs:List Value}{dm:List (DV U)}{ls:List (List Nat)},fe E w F w0 ms vs dm ls->fe E w F' w0 ms vs dm ls:=by
 intro ms
 induction ms with
 |nil=>intro vs dm ls h;cases vs<;>cases dm<;>cases ls<;>first|trivial|exact h.elim
 |cons m ms ih=>
  intro vs dm ls h
  cases m with
  |ro=>cases vs with
   |nil=>cases dm<;>cases ls<;>exact h.elim
   |cons v vs=>simp only[fe] at h⊢;exact ih h
  |mv=>cases vs with
   |nil=>cases dm<;>cases ls<;>exact h.elim
   |cons v vs=>simp only[fe] at h⊢;exact ih h
  |wr=>cases vs with
   |nil=>cases dm<;>cases ls<;>exact h.elim
   |cons v vs=>cases dm with
    |nil=>cases ls<;>exact h.elim
    |cons d dm=>cases d with
     |one c=>cases c with
      |lit _=>cases ls<;>exact h.elim
      |sl τ ys=>cases ls with
       |nil=>exact h.elim
       |cons l ls=>exact⟨eW.any h.1,ih h.2⟩
     |agg cs=>cases ls with
       |nil=>exact h.elim
       |cons l ls=>exact⟨h.1.any,ih h.2⟩
     |box _=>cases ls<;>exact h.elim
     |ptr _=>cases ls<;>exact h.elim
     |fn _=>cases ls<;>exact h.elim
  |box own=>cases vs with
   |nil=>cases dm<;>cases ls<;>exact h.elim
   |cons v vs=>cases dm with
    |nil=>cases ls<;>exact h.elim
    |cons d dm=>cases d with
     |box cs=>cases ls with
       |nil=>exact h.elim
       |cons l ls=>exact⟨h.1.fQ hF,ih h.2⟩
     |one _=>cases ls<;>exact h.elim
     |agg _=>cases ls<;>exact h.elim
     |ptr _=>cases ls<;>exact h.elim
     |fn _=>cases ls<;>exact h.elim
theorem LP:∀{ms:List Mode}{ds:List (DV U)}{vs:List Value}{ls:List (List Nat)},jj E w F ms ds vs ls->se ms=true->ls.flatten=[]
 |[],[],[],[],_,_=>rfl
 |m::ms,d::ds,v::vs,l::ls,h,hr=>by
  simp only[se,Om,cK] at hr
  have h2:=LP h.2 hr.2
  have h1:l=[]:=by
   cases m with
   |ro=>cases d<;>first|exact h.1.2|(obtain⟨_,_,_,_,h⟩:=h.1;exact h)|exact h.1.elim
   |wr=>simp at hr
   |mv=>simp at hr
   |box _=>simp at hr
  simp[h1,h2]
 |[],_::_,_,_,h,_=>h.elim
 |[],[],_::_,_,h,_=>h.elim
 |[],[],[],_::_,h,_=>h.elim
 |_::_,[],_,_,h,_=>h.elim
 |_::_,_::_,[],_,h,_=>h.elim
 |_::_,_::_,_::_,[],h,_=>h.elim
inductive Bd:U.C->Prop
 |lit (v:Value) (h:gp v):Bd (.lit v)
 |sl (τ:U.Ty) (xs:List (U.T τ)) (hl:xs.length<=maxLen) (h:∀(i:Nat)(x:U.T τ)(j:Nat)(c:U.C),xs[i]? =some x->(U.enc τ x)[j]? =some c->Bd c):Bd (.sl τ xs)
theorem Rp.bd{m:Bool}{c:U.C}{v:Value}{l:List Nat}(h:Rp E w F m c v l):Bd c:=by
 induction h with
 |lit m v h=>exact .lit v h
 |nil m τ a c h=>exact .sl τ [] (by simp) (fun i x j c hx=>by simp at hx)
 |shr τ xs b off cap vs NJ hc hm hv hr ih=>exact .sl τ xs hm ih
 |own τ xs b cap cur vs gV hb hc hm hs hv hr ih=>exact .sl τ xs (wu hc hm) ih
def gB:DV U->Prop
 | .one c=>Bd c
 | .agg cs=>∀c∈cs,Bd c
 | .box cs=>∀c∈cs,Bd c
 | .ptr cs=>∀c∈cs,Bd c
 | .fn _=>True
theorem G3{cs:List U.C}(hh:∀(i:Nat)(c:U.C),cs[i]? =some c->Bd c):∀c∈cs,Bd c:=by
 intro c hc
 obtain⟨i,hi,rfl⟩:=ri hc
 exact hh i _ (fo hi)
theorem l8.bd{cs:List U.C}{v:Value}{l:List Nat}(h:l8 E w F cs v l):∀c∈cs,Bd c:=by
 obtain⟨vs,fl,_,_,_,h4,_⟩:=h
 exact G3 fun i c hc=>(h4 i c hc).bd
theorem l_.bd{m:Mode}{d:DV U}{v:Value}{l:List Nat}(h:l_ E w F m d v l):gB d:=by
 cases m with
 |ro=>
  cases d with
  |one c=>exact h.1.bd
  |agg cs=>obtain⟨vs,_,_,h3,_⟩:=h;exact G3 fun i c hc=>(h3 i c hc).bd
  |ptr cs=>
   obtain⟨⟨b,o,_,_,h3⟩,_⟩:=h
   exact G3 fun i c hc=>by obtain⟨u,_,h5⟩:=h3 i c hc;exact h5.bd
  |fn _=>trivial
  |box _=>exact h.elim
 |wr=>
  cases d with
  |one c=>
   cases c with
   |lit _=>exact h.elim
   |sl τ xs=>exact(h.k8 (F':=fun _=>True) (fun _ _=>trivial) (fun _ _=>trivial)).bd
  |agg _=>exact l8.bd h
  |box _=>exact h.elim
  |ptr _=>exact h.elim
  |fn _=>exact h.elim
 |mv=>
  cases d with
  |one c=>exact Rp.bd h
  |agg _=>exact l8.bd h
  |box _=>exact h.elim
  |ptr _=>exact h.elim
  |fn _=>exact h.elim
 |box own=>
  cases d with
  |box cs=>obtain⟨b,cur,e,fl,_,_,_,_,_,_,h7,_⟩:=h;exact G3 fun i c hc=>(h7 i c hc).bd
  |one _=>exact h.elim
  |agg _=>exact h.elim
  |ptr _=>exact h.elim
  |fn _=>exact h.elim
theorem jj.bd:∀{ms:List Mode}{ds:List (DV U)}{vs:List Value}{ls:List (List Nat)},jj E w F ms ds vs ls->∀d∈ds,gB d
 |[],[],[],[],_,d,hd=>by simp at hd
 |m::ms,d0::ds,v::vs,l::ls,h,d,hd=>by
  rcases jQ.1 hd with rfl|hd
  ·exact h.1.bd
  ·exact jj.bd h.2 d hd
 |[],_::_,_,_,h,_,_=>h.elim
 |[],[],_::_,_,h,_,_=>h.elim
 |[],[],[],_::_,h,_,_=>h.elim
 |_::_,[],_,_,h,_,_=>h.elim
 |_::_,_::_,[],_,h,_,_=>h.elim
 |_::_,_::_,_::_,[],h,_,_=>h.elim
theorem y4(hE:E.Good){f:FuncId}{fn:Func}{c:Code}(hf:E.P.funcs[f]? =some fn)(hb:fn.body=some c)(k:bp U)(hms:k.md.length<=fn.ntmps)(wy:fn.ntmps<=1000000)(sU:qz k.md=true\/k.Iq=0)
  (hw:∀x,(∀p∈k.pre x,p)->(∀d∈k.ds x,gB d)->∀rest,(k.md.any kE=true->rest.length=k.Iq)->(k.md.any kE=false->rest=[])->
   ∀vs:List Value,vs.length=k.md.length->∃τ,(∀{pm:Pm}{F:Nat->Prop}{kv:Key->Value}{fp:Key->List Nat}{a:Act}{w:World},cE E pm F kv fp (entry rest fn.ntmps k.md (k.ds x)) a w->(∀i,i<vs.length->a.tmps.getD i undef=vs.getD i undef)->cE E pm F kv fp τ a w)/\
    WpS E c τ (leave E fn.results.toList fn.resultTypes.toList rest fn.params.toList k.md (k.ds x) (k.bT x))):eu E f k:=by
 intro x KY w F vs ls hF GF ol YE pL hld
 obtain⟨l1,l2,l3⟩:=ol.len
 refine calls_of_wp hf hb ?_
 obtain⟨rest,an8,har,hrn⟩:∃rest:List Value,(k.md.any kE=true->rest.length=k.Iq)/\qk w rest k.md (k.ds x) vs/\(k.md.any kE=false->rest=[]):=by
  rcases sU with sU|sU
  ·exact⟨tr w k.md (k.ds x) vs,fun h=>ab9 ol YE sU h,ac7 sU,fun h=>ab8 h⟩
  ·rw[sU] at YE
   exact⟨[],fun _=>sU.symm,ac6 YE,fun _=>rfl⟩
 obtain⟨I2,U6,h0,YH⟩:=anc (n:=fn.ntmps) (rest:=rest) hF GF ol har pL hld hms wy
 have jd:(vs.toArray).size=vs.length:=by simp
 rw[jd]
 have adr:∀{kv:Key->Value},(∀i j,j<1024->kv (2000000+i,j)=I2 (2000000+i,j))->∀{i:Nat}{ms:List Mode}{ds:List (DV U)}{vs:List Value}{ls:List (List Nat)}{mu:List Prop×List (DV U)×List Key}{σ:ah U}{ws:List (List (Option U.Ty))},zx I2 i ms ds vs->rV σ rest i ws ms ds=some mu->zx kv i ms ds vs:=by
  intro kv hk i ms
  induction ms generalizing i with
  |nil=>intro ds vs ls mu σ ws _ _;cases ds<;>trivial
  |cons m ms ih=>
   intro ds vs ls mu σ ws hp hfm
   cases ds with
   |nil=>trivial
   |cons d ds=>
    cases vs with
    |nil=>trivial
    |cons v vs=>
     simp only[rV] at hfm
     split at hfm
     ·rename_i h1 h2
      refine⟨?_,ih (ls:=[]) hp.2 h2⟩
      have fT:=hp.1
      cases m with
      |ro=>trivial
      |mv=>trivial
      |box own=>
       cases d with
       |box cs=>exact(hk i 0 (by decide)).trans fT
       |one _=>trivial
       |agg _=>trivial
       |ptr _=>trivial
       |fn _=>trivial
      |wr=>
       cases d with
       |one c=>exact(hk i 0 (by decide)).trans fT
       |agg cs=>
        simp only[GU] at h1
        rw[h_] at h1
        split at h1
        ·rename_i hlen
         rw[S7] at hlen
         obtain⟨us,q1,q2,q3,q4⟩:=fT
         refine⟨us,q1,q2,fun j τ xs hj=> ?_,q4⟩
         have Wb:j<cs.length:=by
          rcases nV j cs.length with g|g
          ·exact g
          ·rw[nz g] at hj;cases hj
         exact(hk i j (by omega)).trans (q3 j τ xs hj)
        ·cases h1
       |box _=>trivial
       |ptr _=>trivial
       |fn _=>trivial
     ·cases hfm
 have key:∀(σ:ah U),fin E fn.results.toList fn.resultTypes.toList rest fn.params.toList k.md (k.ds x) (k.bT x) σ->∀F1 kv fp a' w',cE E (O8 w F I2 ls) F1 kv fp σ a' w'->a'.defers=[]/\∃v,(results fn a'.tmps).run E.P w'=.ok v w'/\∃(us:List Value)(re iQ:List (List Nat)),Ending.returned v=.returned (MR us)/\gN (·∈ls.flatten) w w'/\
   mU E w' (Dg F w w' (re.flatten++iQ.flatten) ls.flatten) (k.bT x).fresh (k.bT x).val us re/\
   fe E w' (Dg F w w' (re.flatten++iQ.flatten) ls.flatten) w k.md vs (k.bT x).IV iQ/\
   (re.flatten++iQ.flatten).Nodup/\(∀b∈re.flatten,(b∈ls.flatten\/w.heap.size<=b)/\b<w'.heap.size)/\(∀b∈iQ.flatten,b∈ls.flatten\/(w.heap.size<=b/\b<w'.heap.size)):=by
  intro σ qP F1 kv fp a' w' hs0
  refine⟨hs0.defers,?_⟩
  have hs:cE E (O8 w F I2 ls) F1 kv fp (jz σ) a' w':=F_ hs0 _
  unfold fin at qP
  split at qP
  ·rename_i ps ds ks qs mu ks' ho hm
   rw[h_] at qP
   split at qP
   ·rename_i hc
    simp only[cK,Ee,ql] at hc
    obtain⟨⟨c1,c3⟩,c5⟩:=hc
    obtain⟨hp,rfl,rfl⟩:=ac3.1 qP
    obtain⟨d1,d2,d3⟩:=anl c1
    have aoh:∀i j,j<1024->kv (2000000+i,j)=I2 (2000000+i,j):=fun i j hj=>(hs.LV (2000000+i,j) (I2 (2000000+i,j)) (by simp[O8,hj])).2.2.2
    obtain⟨iQ,m1,m2,m3,m4,_⟩:=acN hs hm (fun p kq=>hp p (by simp[kq])) ol har (adr aoh (ls:=[]) YH hm) (tu.1 d2)
    have w9:∀{k':Key}{b:Nat},((jz σ).bJ k').isSome=true->b∈fp k'->¬F1 b/\(b∈ls.flatten\/w.heap.size<=b)/\b<w'.heap.size:=by
     intro k' b cO hb
     obtain⟨e,he⟩:=mI.1 cO
     exact hs.fK k' e b he hb
    have V':∀b∈iQ.flatten,b∈ls.flatten\/(w.heap.size<=b/\b<w'.heap.size):=by
     intro b hb
     obtain⟨k',cO,hb⟩:=m3 b hb
     have:=w9 (m4 k' cO) hb
     rcases this.2.1 with g|g
     ·exact .inl g
     ·exact .inr ⟨g,this.2.2⟩
    have hG:∀own:List Nat,(∀b∈own,¬F1 b)->∀b,F1 b->Dg F w w' own ls.flatten b:=fun own ho b hb=>by
     rcases hs.sY b hb with g|g|g
     ·exact .inl g
     ·exact .inr ⟨.inr g,hs.sZ b hb,fun hbo=>ho b hbo hb⟩
     ·exact .inr ⟨.inl g,hs.sZ b hb,fun hbo=>ho b hbo hb⟩
    obtain⟨us,re,o1,o2,o3,o4,o5⟩:=al7 hs ho (fun p kq=>hp p (by simp[kq])) (tu.1 d1)
    have hG1:=hG (re.flatten++iQ.flatten) fun b hbo=>by
     rcases jr.1 hbo with g|g
     ·obtain⟨k',cO,g⟩:=o4 b g;exact(w9 (o5 k' cO) g).1
     ·obtain⟨k',cO,g⟩:=m3 b g;exact(w9 (m4 k' cO) g).1
    refine⟨_,alY o1,_,re,iQ,rfl,hs.upto,o2 _ hG1 (fun k' e b hkr he hb=> ?_),m1.mono hG1,?_,fun b hb=> ?_,V'⟩
    ·have:=w9 (by rw[he];rfl) hb
     refine .inr ⟨this.2.1.symm,this.2.2,fun hbm=> ?_⟩
     have L4:∀k2 e2,k2∈ks++ks'->(jz σ).bJ k2=some e2->b∉fp k2:=fun k2 e2 kU sS sT=>by
      refine hs.apart k' k2 e e2 b (fun e=> ?_) he sS hb sT
      have:meet (p6 E (jz σ) (k.bT x).fresh fn.results.toList) (ks++ks')=true:=tZ.2 ⟨k',hkr,rE.2 (by rw[e];exact kU)⟩
      rw[c3] at this;cases this
     rcases jr.1 hbm with g|g
     ·obtain⟨k2,kU,sT⟩:=o4 b g
      obtain⟨e2,sS⟩:=mI.1 (o5 k2 kU)
      exact L4 k2 e2 (qC _ kU) sS sT
     ·obtain⟨k2,kU,sT⟩:=m3 b g
      obtain⟨e2,sS⟩:=mI.1 (m4 k2 kU)
      exact L4 k2 e2 (pS _ kU) sS sT
    ·rw[qB]
     refine⟨o3,m2,fun b hb c hc e=> ?_⟩
     subst e
     obtain⟨k1,yV,sU⟩:=o4 b hb
     obtain⟨k2,kU,sT⟩:=m3 b hc
     obtain⟨e1,Y9⟩:=mI.1 (o5 k1 yV)
     obtain⟨e2,sS⟩:=mI.1 (m4 k2 kU)
     exact hs.apart k1 k2 e1 e2 b (fun e=>d3 k1 yV (by rw[e];exact kU)) Y9 sS sU sT
    ·obtain⟨k',cO,hb⟩:=o4 b hb
     exact(w9 (o5 k' cO) hb).2
   ·exact qP.elim
  ·exact qP.elim
 obtain⟨τ,J',hwp⟩:=hw x KY ol.bd rest an8 hrn vs (by omega)
 refine hwp (J' h0 (fun i hi=>by simp[Array.getD,eY,hi,zds hi (Nat.le_add_right _ _)])) (fun o ho F1 kv fp a' w' hs=> ?_)
 cases o with
 |normal σ=>exact key σ ho F1 kv fp a' w' hs
 |ret σ=>exact key σ ho F1 kv fp a' w' hs
 |exit id σ=>exact ho.elim
theorem am1(hE:E.Good){f:FuncId}{fn:Func}{c:Code}(hf:E.P.funcs[f]? =some fn)(hb:fn.body=some c)(k:bp U)(ov:k.α->Nat->Option (bY U))(hms:k.md.length<=fn.ntmps)(wy:fn.ntmps<=1000000)(sU:qz k.md=true\/k.Iq=0)
  (hw:∀x,(∀p∈k.pre x,p)->(∀d∈k.ds x,gB d)->∀rest,(k.md.any kE=true->rest.length=k.Iq)->(k.md.any kE=false->rest=[])->
   AM.wp E (ov x) c (entry rest fn.ntmps k.md (k.ds x)) (leave E fn.results.toList fn.resultTypes.toList rest fn.params.toList k.md (k.ds x) (k.bT x))):eu E f k:=
 y4 hE hf hb k hms wy sU fun x hp hd rest hr hn _ _=>⟨_,fun h _=>h,Kl hE (hw x hp hd rest hr hn)⟩
theorem cE.over{F:Nat->Prop}{kv:Key->Value}{fp:Key->List Nat}{σ:ah U}{a:Act}{w:World}{pm:Pm}(h:cE E pm F kv fp σ a w)(s:Nat)(x:SV U)(hx:RS E w F kv fp (bW σ) x (a.tmps.getD s undef)):
  cE E pm F kv fp {σ with bz:=(s,some x)::σ.bz} a w:=by
 refine{h with bz:=fun t y hy=> ?_}
 unfold ah.get at hy
 simp only[look] at hy
 cases hb:Nat.beq s t<;>rw[hb] at hy<;>simp only[cond_true,cond_false] at hy
 ·exact h.bz t y hy
 ·cases hy
  rw[<-mM hb]
  exact hx
def GW(n:Nat)(b:Bool)(τ:U.Ty)(xs:List (U.T τ)):ah U:={entry [] n [.ro] [.one (.sl τ xs)] with bz:=(0,some (one (.kn b τ xs)))::(entry [] n [.ro] [.one (.sl τ xs)]).bz}
theorem am0(hE:E.Good){f:FuncId}{fn:Func}{c:Code}(hf:E.P.funcs[f]? =some fn)(hb:fn.body=some c)(k:bp U)(ov:k.α->Nat->Option (bY U))(hms:k.md.length<=fn.ntmps)(wy:fn.ntmps<=1000000)(sU:qz k.md=true\/k.Iq=0)
  (YP:k.md=[.ro]) (τ:U.Ty) (xs:k.α->List (U.T τ)) (GL:∀x,k.ds x=[.one (.sl τ (xs x))])
  (hw:∀x,(∀p∈k.pre x,p)->(∀d∈k.ds x,gB d)->∀b:Bool,(b=true->xs x=[])->
   AM.wp E (ov x) c (GW fn.ntmps b τ (xs x)) (leave E fn.results.toList fn.resultTypes.toList [] fn.params.toList k.md (k.ds x) (k.bT x))):eu E f k:=by
 refine y4 hE hf hb k hms wy sU fun x hp hd rest hr hn vs Ex=> ?_
 have nH:rest=[]:=hn (by rw[YP];rfl)
 subst nH
 have Ex:0<vs.length:=by rw[Ex,YP];decide
 by_cases hv:tC (vs.getD 0 undef)=true->xs x=[]
 ·refine⟨GW fn.ntmps (tC (vs.getD 0 undef)) τ (xs x),fun{pm F kv fp a w} h ha=> ?_,Kl hE (hw x hp hd _ hv)⟩
  rw[YP,GL] at h
  have h0:=h.bz 0 (one (.c (.sl τ (xs x)))) rfl
  have h1:Rp E w F false (.sl τ (xs x)) (a.tmps.getD 0 undef) []:=cf (kP h0 rfl) rfl
  rw[ha 0 Ex] at h1
  have h2:=h.over 0 (one (.kn (tC (vs.getD 0 undef)) τ (xs x))) (ik (x:=.kn (tC (vs.getD 0 undef)) τ (xs x)) (by rw[ha 0 Ex];exact⟨by rw[<-ha 0 Ex];exact(kP (h.bz 0 (one (.c (.sl τ (xs x)))) rfl) rfl).1,.inr ⟨h1,rfl⟩⟩))
  exact h2
 ·refine⟨GW fn.ntmps false τ (xs x),fun{pm F kv fp a w} h ha=> ?_,Kl hE (hw x hp hd _ (by simp))⟩
  rw[YP,GL] at h
  have h0:=h.bz 0 (one (.c (.sl τ (xs x)))) rfl
  have h1:Rp E w F false (.sl τ (xs x)) (a.tmps.getD 0 undef) []:=cf (kP h0 rfl) rfl
  rw[ha 0 Ex] at h1
  refine absurd (fun hn=> ?_) hv
  rcases h1.inv with⟨h3,_⟩|⟨b,off,cap,uZ,h3,_⟩
  ·exact h3
  ·rw[h3] at hn;simp[tC] at hn
end
theorem Rp.env{E E':Env U}(ht:E'.tid=E.tid){w:World}{F:Nat->Prop}{m:Bool}{c:U.C}{v:Value}{l:List Nat}(h:Rp E w F m c v l):Rp E' w F m c v l:=by
 induction h with
 |lit m v h=>exact .lit m v h
 |nil m τ a c h=>exact .nil m τ a c h
 |shr τ xs b off cap vs NJ hc hm hv hr ih=>exact .shr τ xs b off cap vs NJ hc hm hv ih
 |own τ xs b cap cur vs gV hb hc hm hs hv hr ih=>exact .own τ xs b cap cur vs gV (by rw[ht];exact hb) hc hm hs hv ih
section
variable{E E':Env U}{w:World}{F:Nat->Prop}
theorem eW.env(ht:E'.tid=E.tid){d:Bool}{a:iX U}{v:Value}{l:List Nat}(h:eW E w F d a v l):eW E' w F d a v l:=by
 rcases h with h|⟨b,cap,cur,vs,gV,h1,h2,h3,h4,h5,h6,h7,h8⟩
 ·exact .inl h
 ·exact .inr ⟨b,cap,cur,vs,gV,h1,by rw[ht];exact h2,h3,h4,h5,h6,fun i x j c hx hj=>(h7 i x j c hx hj).env ht,h8⟩
theorem ra.env(ht:E'.tid=E.tid){own:Bool}{cs:List U.C}{rest:List Value}{v:Value}{l:List Nat}(h:ra E w F own cs rest v l):ra E' w F own cs rest v l:=by
 obtain⟨b,cur,e,fl,h1,h2,h3,h4,h5,h6,h7,h8⟩:=h
 exact⟨b,cur,e,fl,h1,h2,h3,h4,h5,h6,fun i c hc=>(h7 i c hc).env ht,h8⟩
theorem l8.env(ht:E'.tid=E.tid){cs:List U.C}{v:Value}{l:List Nat}(h:l8 E w F cs v l):l8 E' w F cs v l:=by
 obtain⟨vs,fl,h1,h2,h3,h4,h5⟩:=h
 exact⟨vs,fl,h1,h2,h3,fun i c hc=>(h4 i c hc).env ht,h5⟩
theorem RDA.env(ht:E'.tid=E.tid){d:DA U}{v:Value}(h:RDA E w F d v):RDA E' w F d v:=by
 obtain⟨vs,h1,h2,h3⟩:=h
 exact⟨vs,h1,fun i c hc=>(h2 i c hc).env ht,h3⟩
theorem nj.env(hP:E'.P=E.P)(ht:E'.tid=E.tid){p:List (DA U)->Option Value}{v:Value}(h:nj E w F p v):nj E' w F p v:=by
 obtain⟨g,pq,h1,h2,h3⟩:=h
 refine⟨g,pq,h1,by rw[hP];exact h2,fun ds r hr w' F' h4 h5 vs h6=> ?_⟩
 rw[hP]
 exact h3 ds r hr w' F' h4 h5 vs ⟨h6.1,fun i d v hd hv=>(h6.2 i d v hd hv).env ht.symm⟩
theorem l_.env(hP:E'.P=E.P)(ht:E'.tid=E.tid){m:Mode}{d:DV U}{v:Value}{l:List Nat}(h:l_ E w F m d v l):l_ E' w F m d v l:=by
 cases m with
 |ro=>
  cases d with
  |one c=>exact⟨h.1.env ht,h.2⟩
  |agg cs=>obtain⟨vs,h1,h2,h3,h4⟩:=h;exact⟨vs,h1,h2,fun i c hc=>(h3 i c hc).env ht,h4⟩
  |ptr cs=>
   obtain⟨⟨b,o,h1,h2,h3⟩,h4⟩:=h
   exact⟨⟨b,o,h1,h2,fun i c hc=>by obtain⟨u,g1,g2⟩:=h3 i c hc;exact⟨u,g1,g2.env ht⟩⟩,h4⟩
  |fn _=>exact⟨h.1.env hP ht,h.2⟩
  |box _=>exact h.elim
 |wr=>
  cases d with
  |one c=>cases c with
   |lit _=>exact h.elim
   |sl τ xs=>exact eW.env ht h
  |agg _=>exact l8.env ht h
  |box _=>exact h.elim
  |ptr _=>exact h.elim
  |fn _=>exact h.elim
 |mv=>
  cases d with
  |one c=>exact Rp.env ht h
  |agg _=>exact l8.env ht h
  |box _=>exact h.elim
  |ptr _=>exact h.elim
  |fn _=>exact h.elim
 |box own=>
  cases d with
  |box cs=>exact ra.env ht h
  |one _=>exact h.elim
  |agg _=>exact h.elim
  |ptr _=>exact h.elim
  |fn _=>exact h.elim
theorem jj.env(hP:E'.P=E.P)(ht:E'.tid=E.tid):∀{ms:List Mode}{ds:List (DV U)}{vs:List Value}{ls:List (List Nat)},jj E w F ms ds vs ls->jj E' w F ms ds vs ls
 |[],[],[],[],_=>trivial
 |m::ms,d0::ds,v::vs,l::ls,h=>⟨h.1.env hP ht,jj.env hP ht h.2⟩
 |[],_::_,_,_,h=>h.elim
 |[],[],_::_,_,h=>h.elim
 |[],[],[],_::_,h=>h.elim
 |_::_,[],_,_,h=>h.elim
 |_::_,_::_,[],_,h=>h.elim
 |_::_,_::_,_::_,[],h=>h.elim
theorem kz.env(ht:E'.tid=E.tid){fresh:Bool}{d:DV U}{v:Value}{l:List Nat}(h:kz E w F fresh d v l):kz E' w F fresh d v l:=by
 cases d with
 |ptr _=>exact h
 |fn _=>exact h
 |one c=>cases fresh with
  |true=>exact Rp.env ht h
  |false=>exact⟨h.1.env ht,h.2⟩
 |agg cs=>cases fresh with
  |true=>exact l8.env ht h
  |false=>obtain⟨vs,h1,h2,h3,h4⟩:=h;exact⟨vs,h1,h2,fun i c hc=>(h3 i c hc).env ht,h4⟩
 |box cs=>obtain⟨g,b,cur,e,h1,h2,h3,h4,h5⟩:=h;exact⟨g,b,cur,e,h1,h2,h3,h4,fun i c hc=>(h5 i c hc).env ht⟩
theorem mU.env(ht:E'.tid=E.tid):∀{fs:List Bool}{ds:List (DV U)}{us:List Value}{ls:List (List Nat)},mU E w F fs ds us ls->mU E' w F fs ds us ls
 |_,[],[],[],_=>trivial
 |_,d::ds,u::us,l::ls,h=>⟨h.1.env ht,mU.env ht h.2⟩
 |_,[],_::_,_,h=>h.elim
 |_,[],[],_::_,h=>h.elim
 |_,_::_,[],_,h=>h.elim
 |_,_::_,_::_,[],h=>h.elim
theorem fe.env(ht:E'.tid=E.tid){w0:World}:∀{ms:List Mode}{vs:List Value}{dm:List (DV U)}{ls:List (List Nat)},fe E w F w0 ms vs dm ls->fe E' w F w0 ms vs dm ls:=by
 intro ms
 induction ms with
 |nil=>intro vs dm ls h;cases vs<;>cases dm<;>cases ls<;>first|trivial|exact h.elim
 |cons m ms ih=>
  intro vs dm ls h
  cases m with
  |ro=>cases vs with
   |nil=>cases dm<;>cases ls<;>exact h.elim
   |cons v vs=>simp only[fe] at h⊢;exact ih h
  |mv=>cases vs with
   |nil=>cases dm<;>cases ls<;>exact h.elim
   |cons v vs=>simp only[fe] at h⊢;exact ih h
  |wr=>cases vs with
   |nil=>cases dm<;>cases ls<;>exact h.elim
   |cons v vs=>cases dm with
    |nil=>cases ls<;>exact h.elim
    |cons d dm=>cases d with
     |one c=>cases c with
      |lit _=>cases ls<;>exact h.elim
      |sl τ ys=>cases ls with
       |nil=>exact h.elim
       |cons l ls=>exact⟨h.1.env ht,ih h.2⟩
     |agg cs=>cases ls with
       |nil=>exact h.elim
       |cons l ls=>exact⟨h.1.env ht,ih h.2⟩
     |box _=>cases ls<;>exact h.elim
     |ptr _=>cases ls<;>exact h.elim
     |fn _=>cases ls<;>exact h.elim
  |box own=>cases vs with
   |nil=>cases dm<;>cases ls<;>exact h.elim
   |cons v vs=>cases dm with
    |nil=>cases ls<;>exact h.elim
    |cons d dm=>cases d with
     |box cs=>cases ls with
       |nil=>exact h.elim
       |cons l ls=>exact⟨h.1.env ht,ih h.2⟩
     |one _=>cases ls<;>exact h.elim
     |agg _=>cases ls<;>exact h.elim
     |ptr _=>cases ls<;>exact h.elim
     |fn _=>cases ls<;>exact h.elim
end
theorem eu.env{E E':Env U}(hP:E'.P=E.P)(ht:E'.tid=E.tid)(hT:E'.Xr=E.Xr){f:FuncId}{k:bp U}(h:eu E f k):eu E' f k:=by
 intro x hp w F vs ls h1 hL h2 KX h3 h4
 have:=h x hp w F vs ls h1 (by unfold Tj;rw[<-hT];exact hL) (h2.env hP.symm ht.symm) KX h3 h4
 rw[hP]
 refine this.mono ?_
 rintro e w' ⟨us,re,iQ,g1,g2,g3,g4,g5⟩
 exact⟨us,re,iQ,g1,g2,g3.env ht,g4.env ht,g5⟩
def JH:List (FuncId×bp U)->FuncId->Option (bp U)
 |[],_=>none
 |(g,k)::r,f=>bif Nat.beq g f then some k else JH r f
def G0:List (FuncId×bp U)->FuncId->Option (bp U)
 |[],_=>none
 |(g,k)::r,f=>bif Nat.beq g f then JH r f else G0 r f
def Env.add(E:Env U)(l:List (FuncId×bp U)):Env U:={E with NY:=JH l,NX:=G0 l}
def Holds(E:Env U)(p:FuncId×bp U):Prop:=yf E.P p.1/\eu E p.1 p.2
theorem T'{E:Env U}(hE:E.Ok){l:List (FuncId×bp U)}(h:∀p∈l,Holds E p):(E.add l).Good:=by
 have one:∀{f:FuncId}{k:bp U}{l:List (FuncId×bp U)},JH l f=some k->(f,k)∈l:=by
  intro f k l
  induction l with
  |nil=>intro h;cases h
  |cons p l ih=>
   obtain⟨g,k'⟩:=p
   intro h
   simp only[JH] at h
   cases hb:Nat.beq g f<;>rw[hb] at h<;>simp only[cond_true,cond_false] at h
   ·exact cA _ (ih h)
   ·cases h
    rw[mM hb]
    exact gj
 have two:∀{f:FuncId}{k:bp U}{l:List (FuncId×bp U)},G0 l f=some k->(f,k)∈l:=by
  intro f k l
  induction l with
  |nil=>intro h;cases h
  |cons p l ih=>
   obtain⟨g,k'⟩:=p
   intro h
   simp only[G0] at h
   cases hb:Nat.beq g f<;>rw[hb] at h<;>simp only[cond_true,cond_false] at h
   ·exact cA _ (ih h)
   ·exact cA _ (one h)
 have go:∀{f:FuncId}{k:bp U},(f,k)∈l->yf (E.add l).P f/\eu (E.add l) f k:=fun hm=>⟨(h _ hm).1,eu.env (E:=E) (E':=E.add l) rfl rfl rfl (h _ hm).2⟩
 exact⟨⟨hE.code,hE.mixed⟩,fun f k hk=>go (one hk),fun f k hk=>go (two hk)⟩
def nd(fn:Func):Code:=match fn.body with|some c=>c|none=> .skip
def Qh(rest:List Value)(E:Env U)(l:List (FuncId×bp U))(fn:Func)(k:bp U)(ov:k.α->Nat->Option (bY U))(x:k.α):Prop:=
 AM.wp (E.add l) (ov x) (nd fn) (entry rest fn.ntmps k.md (k.ds x)) (leave (E.add l) fn.results.toList fn.resultTypes.toList rest fn.params.toList k.md (k.ds x) (k.bT x))
def aoC(E:Env U)(l:List (FuncId×bp U))(fn:Func)(k:bp U)(ov:k.α->Nat->Option (bY U))(x:k.α):Prop:=Qh [] E l fn k ov x
def Et(P:Program)(f:FuncId)(fn:Func)(ms:List Mode):Bool:=
 fn.body.isSome&& !(fn.name== "runtime.NumGoroutine")&&Nat.ble ms.length fn.ntmps&&Nat.ble fn.ntmps 1000000
theorem acz{E:Env U}(hE:E.Ok){f:FuncId}{fn:Func}(hf:E.P.funcs[f]? =some fn)(k:bp U)(hc:Et E.P f fn k.md=true)(l:List (FuncId×bp U))(hl:∀p∈l,Holds E p)
  (ov:k.α->Nat->Option (bY U)) (hw:∀x,(∀p∈k.pre x,p)->(∀d∈k.ds x,gB d)->∀rest,(k.md.any kE=true->rest.length=k.Iq)->(k.md.any kE=false->rest=[])->Qh rest E l fn k ov x) (sU:qz k.md=true\/k.Iq=0):Holds E (f,k):=by
 unfold Et at hc
 simp only[cK,ql,S7] at hc
 obtain⟨⟨⟨c1,c2⟩,c3⟩,c4⟩:=hc
 refine⟨⟨fn,hf,c1,c2⟩,?_⟩
 have hb:fn.body=some (nd fn):=by
  unfold nd
  cases h:fn.body with
  |none=>rw[h] at c1;cases c1
  |some c=>rfl
 have:=am1 (E:=E.add l) (T' hE hl) hf hb k ov c3 c4 sU hw
 exact eu.env (E:=E.add l) (E':=E) rfl rfl rfl this
theorem holds_of{E:Env U}(hE:E.Ok){f:FuncId}{fn:Func}(hf:E.P.funcs[f]? =some fn)(k:bp U)(hc:Et E.P f fn k.md=true)(l:List (FuncId×bp U))(hl:∀p∈l,Holds E p)
  (ov:k.α->Nat->Option (bY U)) (hw:∀x,(∀p∈k.pre x,p)->(∀d∈k.ds x,gB d)->aoC E l fn k ov x) (h0:k.Iq=0:=by rfl):Holds E (f,k):=
 acz hE hf k hc l hl ov (fun x hp hb rest hr hn=>by
  have e:rest=[]:=by
   cases rP:k.md.any kE with
   |false=>exact hn rP
   |true=>exact Em ((hr rP).trans h0)
  rw[e];exact hw x hp hb) (.inr h0)
theorem Fh{E:Env U}(hE:E.Ok){f:FuncId}{fn:Func}(hf:E.P.funcs[f]? =some fn)(k:bp U)(hc:Et E.P f fn k.md=true)(rP:k.md.any kE=true)(l:List (FuncId×bp U))(hl:∀p∈l,Holds E p)
  (ov:k.α->Nat->Option (bY U)) (hw:∀x,(∀p∈k.pre x,p)->(∀d∈k.ds x,gB d)->∀rest:List Value,rest.length=k.Iq->Qh rest E l fn k ov x) (sU:qz k.md=true:=by rfl):Holds E (f,k):=
 acz hE hf k hc l hl ov (fun x hp hb rest hr _=>hw x hp hb rest (hr rP)) (.inl sU)
def Mb(E:Env U)(l:List (FuncId×bp U))(fn:Func)(k:bp U)(ov:k.α->Nat->Option (bY U))(x:k.α)(τ:U.Ty)(xs:List (U.T τ))(b:Bool):Prop:=
 AM.wp (E.add l) (ov x) (nd fn) (GW fn.ntmps b τ xs) (leave (E.add l) fn.results.toList fn.resultTypes.toList [] fn.params.toList k.md (k.ds x) (k.bT x))
theorem Nq{E:Env U}(hE:E.Ok){f:FuncId}{fn:Func}(hf:E.P.funcs[f]? =some fn)(k:bp U)(hc:Et E.P f fn k.md=true)(YP:k.md=[.ro])(τ:U.Ty)(xs:k.α->List (U.T τ))(GL:∀x,k.ds x=[.one (.sl τ (xs x))])
  (l:List (FuncId×bp U)) (hl:∀p∈l,Holds E p)
  (ov:k.α->Nat->Option (bY U)) (hw:∀x,(∀p∈k.pre x,p)->(∀d∈k.ds x,gB d)->Mb E l fn k ov x τ (xs x) false/\(xs x=[]->Mb E l fn k ov x τ (xs x) true)):Holds E (f,k):=by
 unfold Et at hc
 simp only[cK,ql,S7] at hc
 obtain⟨⟨⟨c1,c2⟩,c3⟩,c4⟩:=hc
 refine⟨⟨fn,hf,c1,c2⟩,?_⟩
 have hb:fn.body=some (nd fn):=by
  unfold nd
  cases h:fn.body with
  |none=>rw[h] at c1;cases c1
  |some c=>rfl
 have:=am0 (E:=E.add l) (T' hE hl) hf hb k ov c3 c4 (.inl (by rw[YP];rfl)) YP τ xs GL (fun x hp hd b hb=>by
  cases b with
  |false=>exact(hw x hp hd).1
  |true=>exact(hw x hp hd).2 (hb rfl))
 exact eu.env (E:=E.add l) (E':=E) rfl rfl rfl this
def qv(E:Env U)(l:List (FuncId×bp U))(fn:Func)(k:bp U)(ov:k.α->Nat->Option (bY U))(x:k.α)(r:Nat)(A:bY U):Prop:=
 AM.wp (E.add l) (ov x) (Zy r (nd fn)) (entry [] fn.ntmps k.md (k.ds x)) (ad1 A (leave (E.add l) fn.results.toList fn.resultTypes.toList [] fn.params.toList k.md (k.ds x) (k.bT x)))
def mr(E:Env U)(l:List (FuncId×bp U))(fn:Func)(k:bp U)(ov:k.α->Nat->Option (bY U))(x:k.α)(r:Nat)(A:bY U)(y:A.X):Prop:=
 AM.wp (E.add l) (ov x) (Zx r (nd fn)) (lM A [] ⟨fn.ntmps,[],[],[]⟩ y) (leave (E.add l) fn.results.toList fn.resultTypes.toList [] fn.params.toList k.md (k.ds x) (k.bT x))
theorem uj{E:Env U}(hE:E.Ok){f:FuncId}{fn:Func}(hf:E.P.funcs[f]? =some fn)(k:bp U)(hc:Et E.P f fn k.md=true)(l:List (FuncId×bp U))(hl:∀p∈l,Holds E p)
  (ov:k.α->Nat->Option (bY U)) (r:Nat) (A:k.α->bY U) (hr:(NU r (nd fn)).isSome=true)
  (hw:∀x,(∀p∈k.pre x,p)->(∀d∈k.ds x,gB d)->qv E l fn k ov x r (A x)/\∀y,(A x).I y y->mr E l fn k ov x r (A x) y) (h0:k.Iq=0:=by rfl):Holds E (f,k):=by
 unfold Et at hc
 simp only[cK,ql,S7] at hc
 obtain⟨⟨⟨c1,c2⟩,c3⟩,c4⟩:=hc
 refine⟨⟨fn,hf,c1,c2⟩,?_⟩
 have hb:fn.body=some (nd fn):=by
  unfold nd
  cases h:fn.body with
  |none=>rw[h] at c1;cases c1
  |some c=>rfl
 obtain⟨p,hp⟩:=mI.1 hr
 have eA:Zy r (nd fn)=p.1:=by simp only[Zy,hp]
 have eB:Zx r (nd fn)=p.2:=by simp only[Zx,hp]
 have:=y4 (E:=E.add l) (T' hE hl) hf hb k c3 c4 (.inr h0) (fun x hx hd rest YB V8 _ _=>by
  have e:rest=[]:=by
   cases rP:k.md.any kE with
   |false=>exact V8 rP
   |true=>exact Em ((YB rP).trans h0)
  subst e
  obtain⟨g1,g2⟩:=hw x hx hd
  unfold qv at g1
  unfold mr at g2
  rw[eA] at g1
  rw[eB] at g2
  exact⟨_,fun h _=>h,anr (T' hE hl) hp rfl g1 g2⟩)
 exact eu.env (E:=E.add l) (E':=E) rfl rfl rfl this
def bp.below(k:bp U)(μ:k.α->Nat)(n:Nat):bp U:={k with pre:=fun x=>(μ x<n)::k.pre x}
theorem Fg{E:Env U}{f:FuncId}{fn:Func}(hf:E.P.funcs[f]? =some fn){k:bp U}(hc:Et E.P f fn k.md=true)(μ:k.α->Nat)(h:∀n,Holds E (f,k.below μ n)->Holds E (f,k.below μ (n+1))):Holds E (f,k):=by
 have hok:yf E.P f:=by
  unfold Et at hc
  simp only[cK,ql] at hc
  exact⟨fn,hf,hc.1.1.1,hc.1.1.2⟩
 have all:∀n,Holds E (f,k.below μ n):=by
  intro n
  induction n with
  |zero=>exact⟨hok,fun x hp=>absurd (hp _ gj) (Nat.not_lt_zero _)⟩
  |succ n ih=>exact h n ih
 refine⟨hok,fun x hp=>(all (μ x+1)).2 x fun p hpp=> ?_⟩
 rcases jQ.1 hpp with rfl|hpp
 ·exact Nat.lt_succ_self _
 ·exact hp p hpp
theorem all_nil{α:Type 1}{p:α->Prop}:∀x∈([]:List α),p x:=fun x hx=>by cases hx
theorem all_cons{α:Type 1}{p:α->Prop}{a:α}{l:List α}(h:p a)(hl:∀x∈l,p x):∀x∈a::l,p x:=by
 intro x hx
 rcases jQ.1 hx with rfl|hx
 ·exact h
 ·exact hl x hx
end AM
