/- THE ABSTRACT MACHINE: functions: a contract holds where the weakest precondition of the body does. -/
import Derived.Test.YtlachfpabecaeaaQAmCode
namespace AM
set_option linter.unusedVariables false
open Go
variable{U:dw}
def nj(i:Nat)(rest:List Value):Mode->DV U->SV U×List (Nat×bZ U)
 | .ro,.one c=>(one (.c c),[])
 | .ro,.agg cs=>(.v ⟨true,cs.map .c⟩,[])
 | .ro,.ptr cs=>(one (.ia cs),[])
 | .ro,.fn p=>(.fn p,[])
 | .wr,.one (.sl τ xs)=>(one (.ref (2000000+i,0) []),[(0,.arr ⟨τ,xs⟩ true)])
 | .wr,.agg cs=>(.v ⟨true,(ak (2000000+i) true 0 cs).1⟩,(ak (2000000+i) true 0 cs).2)
 | .mv,.one c=>(.v ⟨false,(ak (2000000+i) true 4096 [c]).1⟩,(ak (2000000+i) true 4096 [c]).2)
 | .mv,.agg cs=>(.v ⟨true,(ak (2000000+i) true 4096 cs).1⟩,(ak (2000000+i) true 4096 cs).2)
 | .box true,.box cs=>(one (.dh (2000000+i,0) 0),(0,.box ((ak (2000000+i) true 4096 cs).1++rest.map fun v=> .c (.lit v)))::(ak (2000000+i) true 4096 cs).2)
 | .box false,.box cs=>(one (.dh (2000000+i,0) 0),[(0,.box (cs.map .c++rest.map fun v=> .c (.lit v)))])
 |_,_=>(.jx [],[])
def nl(rest:List Value):Nat->List Mode->List (DV U)->List (Nat×Option (SV U))
 |i,m::ms,d::ds=>(i,some (nj i rest m d).1)::nl rest (i+1) ms ds
 |_,_,_=>[]
def sq(rest:List Value):Nat->List Mode->List (DV U)->List (Key×Option (bZ U))
 |i,m::ms,d::ds=>fH (2000000+i) (nj i rest m d).2++sq rest (i+1) ms ds
 |_,_,_=>[]
def entry(rest:List Value)(n:Nat)(ms:List Mode)(ds:List (DV U)):aa U:={n,au:=nl rest 0 ms ds,tab:=sq rest 0 ms ds,ah:=[]}
def sJ(E:Env U)(σ:aa U):ResultVar->Option (AV U)
 | .tmp t=>match σ.get t with
  |some (.v x)=>some x
  |_=>none
 | .cell a t=>match σ.get a with
  |some (.v ⟨false,[.dh k 0]⟩)=>match σ.aw k,E.size t,E.isAgg t with
   |some (.box cs),some n,some g=>bif Nat.beq n cs.length&&(g||Nat.beq n 1) then some ⟨g,cs⟩ else none
   |_,_,_=>none
  |_=>none
def BB(ds:List (DV U)):Bool:=ds.any fun| .box _=>true|_=>false
def u1(fresh:Bool)(σ:aa U):AV U->Option (List U.C×Key)
 |⟨false,[.dh k 0]⟩=>bif fresh then(match σ.aw k with|some (.box bs)=>(match plain bs with|some l=>some (l,k)|none=>none)|_=>none) else none
 |_=>none
def outs(E:Env U)(σ:aa U):List Bool->List ResultVar->List TypeId->Option (List Prop×List (DV U)×List Key)
 |_,[],_=>some ([],[],[])
 |fs,r::rs,ts=>match sJ E σ r with
  |some x=>
   match u1 (fs.headD true) σ x with
   |some (l,k)=>match outs E σ fs.tail rs ts.tail with
    |some (qs,ds,ks')=>some (qs,.box l::ds,k::ks')
    |none=>none
   |none=>
   let want:=match ts with|t::_=>E.shape 8 t|[]=>[]
   let tb:=restrict σ.aw (SV.v x).keys
   match(bif fs.headD true then(match bc tb want x.cs with|some (ps,cs,ks,true)=>some (ps,cs,ks)|_=>none) else(match cellsOf tb σ.ah want x.cs with|some (ps,cs)=>some (ps,cs,[])|none=>none)) with
   |some (ps,cs,ks)=>match sr x cs,outs E σ fs.tail rs ts.tail with
    |some d,some (qs,ds,ks')=>some (ps++qs,d::ds,ks++ks')
    |_,_=>none
   |none=>none
  |none=>none
def fK(σ:aa U)(i:Nat):Nat->List U.C->Option (List U.C×List Key)
 |_,[]=>some ([],[])
 |j,.lit v::r=>match fK σ i (j+1) r with|some (cs,ks)=>some (.lit v::cs,ks)|none=>none
 |j,.sl _ _::r=>match σ.aw (2000000+i,j),fK σ i (j+1) r with
  |some (.arr a true),some (cs,ks)=>some (.sl a.τ a.xs::cs,(2000000+i,j)::ks)
  |_,_=>none
def uN(bs:List (AC U))(rest:List Value):List Prop:=(bs.length=rest.length)::(match rest with
 |[]=>[]
 |r=>[bs=r.map fun v=> .c (.lit v)])
theorem Dq{bs:List (AC U)}{rest:List Value}(h:∀p∈uN bs rest,p):bs=rest.map fun v=> .c (.lit v):=by
 cases rest with
 |nil=>exact qk (h _ gp)
 |cons r rs=>exact h _ (d_ _ gp)
def px(σ:aa U)(rest:List Value)(i:Nat)(want:List (Option U.Ty)):Mode->DV U->Option (List Prop×List (DV U)×List Key)
 | .ro,_=>some ([],[],[])
 | .mv,_=>some ([],[],[])
 | .wr,.one (.sl _ _)=>match σ.aw (2000000+i,0) with
  |some (.arr a true)=>some ([],[.one (.sl a.τ a.xs)],[(2000000+i,0)])
  |_=>none
 | .wr,.agg cs=>bif Nat.ble cs.length 1024 then(match fK σ i 0 cs with|some (ds,ks)=>some ([],[.agg ds],ks)|none=>none) else none
 | .box true,.box cs=>match σ.aw (2000000+i,0) with
  |some (.box bs)=>match bc (restrict σ.aw (SV.v ⟨true,bs⟩).keys) want (bs.take cs.length) with
   |some (ps,l,ks,true)=>bif Nat.beq l.length cs.length then some (ps++uN (bs.drop cs.length) rest,[.box l],(2000000+i,0)::ks) else none
   |_=>none
  |_=>none
 | .box false,.box cs=>match σ.aw (2000000+i,0) with
  |some (.box bs)=>match plain (bs.take cs.length) with
   |some l=>bif Nat.beq l.length cs.length then some (uN (bs.drop cs.length) rest,[.box l],[(2000000+i,0)]) else none
   |none=>none
  |_=>none
 |_,_=>none
def hX(σ:aa U)(rest:List Value):Nat->List (List (Option U.Ty))->List Mode->List (DV U)->Option (List Prop×List (DV U)×List Key)
 |i,ws,m::ms,d::ds=>match px σ rest i (ws.headD []) m d,hX σ rest (i+1) ws.tail ms ds with
  |some (ps,xs,ks),some (qs,ys,ks')=>some (ps++qs,xs++ys,ks++ks')
  |_,_=>none
 |_,_,_,_=>some ([],[],[])
def vY(ms:List Mode):Bool:=ms.any fun m=>match m with| .wr=>true| .mv=>true| .box true=>true|_=>false
def ic(ms:List Mode):Bool:=ms.all fun| .ro=>true|_=>false
def fY(E:Env U)(σ:aa U):List Bool->List ResultVar->List Key
 |_,[]=>[]
 |fs,r::rs=>(bif fs.headD true then[] else match sJ E σ r with|some x=>(SV.v x).keys|none=>[])++fY E σ fs.tail rs
def fin(E:Env U)(rs:List ResultVar)(ts:List TypeId)(rest:List Value)(ps:List TypeId)(ms:List Mode)(ds:List (DV U))(r:Gq U)(σ:aa U):Prop:=
 match outs E (cI σ) r.fresh rs ts,hX (cI σ) rest 0 (ps.map E.k8) ms ds with
 |some (ps,vs,ks),some (qs,mu,ks')=>bif distinct (ks++ks')&& !(meet (fY E (cI σ) r.fresh rs) (ks++ks'))&&(!(BB r.val)||ic ms) then uq (ps++qs) (vs=r.val/\mu=r.rX) else False
 |_,_=>False
def leave(E:Env U)(rs:List ResultVar)(ts:List TypeId)(rest:List Value)(ps:List TypeId)(ms:List Mode)(ds:List (DV U))(r:Gq U):Out U->Prop
 | .ret σ=>fin E rs ts rest ps ms ds r σ
 | .normal σ=>fin E rs ts rest ps ms ds r σ
 | .exit _ _=>False
section
variable{E:Env U}{w:World}{F:Nat->Prop}
theorem cA.len:∀{ms:List Mode}{ds:List (DV U)}{vs:List Value}{ls:List (List Nat)},cA E w F ms ds vs ls->ds.length=ms.length/\vs.length=ms.length/\ls.length=ms.length
 |[],[],[],[],_=>⟨rfl,rfl,rfl⟩
 |m::ms,d::ds,v::vs,l::ls,h=>by
  obtain⟨h1,h2,h3⟩:=cA.len h.2
  simp[h1,h2,h3]
 |[],_::_,_,_,h=>h.elim
 |[],[],_::_,_,h=>h.elim
 |[],[],[],_::_,h=>h.elim
 |_::_,[],_,_,h=>h.elim
 |_::_,_::_,[],_,h=>h.elim
 |_::_,_::_,_::_,[],h=>h.elim
theorem iN{ls:List (List Nat)}:ls.flatten.Nodup↔(∀l∈ls,l.Nodup)/\ls.Pairwise (fun a b=>∀x∈a,∀y∈b,x≠y):=List.pairwise_flatten
theorem Jm{ls:List (List Nat)}(h:ls.flatten.Nodup){i j:Nat}(vJ:i≠j){b:Nat}(hb:b∈ls.getD i []):b∉ls.getD j []:=by
 intro ap
 rw[iN] at h
 have bU:∀{k:Nat},b∈ls.getD k []->∃hk:k<ls.length,b∈ls[k]:=by
  intro k hk
  rcases fA k ls.length with g|g
  ·exact⟨g,by rwa[cB,cF g] at hk⟩
  ·rw[cB,fb g] at hk;cases hk
 obtain⟨hi,hb⟩:=bU hb
 obtain⟨hj,ap⟩:=bU ap
 have hp:=Cy.1 h.2
 rcases Nat.lt_or_gt_of_ne vJ with g|g
 ·exact hp i j hi hj g _ hb _ ap rfl
 ·exact hp j i hj hi g _ ap _ hb rfl
theorem IE{ls:List (List Nat)}{j b:Nat}(hb:b∈ls.getD j []):b∈ls.flatten:=by
 rcases fA j ls.length with g|g
 ·rw[cB,cF g] at hb
  exact zr.2 ⟨_,wQ g,hb⟩
 ·rw[cB,fb g] at hb;cases hb
theorem DI{ls:List (List Nat)}(h:ls.flatten.Nodup)(j:Nat):(ls.getD j []).Nodup:=by
 rcases fA j ls.length with g|g
 ·rw[cB,cF g]
  exact(iN.1 h).1 _ (wQ g)
 ·rw[cB,fb g];exact zq
theorem JF{a b:List Key}(h:distinct (a++b)=true):distinct a=true/\distinct b=true/\∀k∈a,k∉b:=by
 rw[iL,gz] at h
 exact⟨iL.2 h.1,iL.2 h.2.1,fun k hk aG=>h.2.2 k hk k aG rfl⟩
theorem JD{x:AV U}{cs:List U.C}{d:DV U}{v:Value}{vs:List Value}{fl:List (List Nat)}(hd:sr x cs=some d)(hv:if x.agg then v=.agg vs.toArray else vs=[v])(hl:vs.length=cs.length)(hf:fl.length=cs.length)
  (h:∀(i:Nat)(c:U.C),cs[i]? =some c->Rp E w F true c (vs.getD i undef) (fl.getD i [])):dk E w F true d v fl.flatten:=by
 unfold sr at hd
 cases wK:x.agg<;>rw[wK] at hd hv<;>simp only[cond_true,cond_false,mF,if_false,if_true] at hd hv
 ·split at hd
  ·rename_i c
   cases hd
   subst hv
   simp only[kQ,j9] at hf
   obtain⟨l,rfl⟩:=List.length_eq_one_iff.1 hf
   simpa[dk] using h 0 c rfl
  ·cases hd
 ·cases hd
  simp only[dk,if_true]
  exact⟨vs,fl,hv,hl,hf,h,rfl⟩
theorem JC{x:AV U}{cs:List U.C}{d:DV U}{v:Value}{vs:List Value}(hd:sr x cs=some d)(hv:if x.agg then v=.agg vs.toArray else vs=[v])(hl:vs.length=cs.length)
  (h:∀(i:Nat)(c:U.C),cs[i]? =some c->Rp E w F false c (vs.getD i undef) []):dk E w F false d v []:=by
 unfold sr at hd
 cases wK:x.agg<;>rw[wK] at hd hv<;>simp only[cond_true,cond_false,mF,if_false,if_true] at hd hv
 ·split at hd
  ·rename_i c
   cases hd
   subst hv
   simpa[dk] using h 0 c rfl
  ·cases hd
 ·cases hd
  simp only[dk,mF,if_false]
  exact⟨vs,hv,hl,h,trivial⟩
def wz(i:Nat)(m:Mode)(d:DV U)(v:Value)(kv:Key->Value):Prop:=
 match m,d with
 | .wr,.one _=>kv (2000000+i,0)=v
 | .wr,.agg cs=>∃vs:List Value,v=.agg vs.toArray/\vs.length=cs.length/\(∀(j:Nat)(τ:U.Ty)(xs:List (U.T τ)),cs[j]? =some (.sl τ xs)->kv (2000000+i,j)=vs.getD j undef)/\(∀(j:Nat)(u:Value),cs[j]? =some (.lit u)->vs.getD j undef=u/\bD u)
 | .box _,.box _=>kv (2000000+i,0)=v
 |_,_=>True
def lH(kv:Key->Value):Nat->List Mode->List (DV U)->List Value->Prop
 |i,m::ms,d::ds,v::vs=>wz i m d v kv/\lH kv (i+1) ms ds vs
 |_,_,_,_=>True
def dl:Mode->Bool
 | .box _=>true
 |_=>false
def gm(w:World)(rest:List Value):List Mode->List (DV U)->List Value->Prop
 |m::ms,d::ds,v::vs=>(∀cs,dl m=true->d=.box cs->rest=gV w v cs.length)/\gm w rest ms ds vs
 |_,_,_=>True
def iJ(w:World):List Mode->List (DV U)->List Value->List Value
 |m::ms,d::ds,v::vs=>bif dl m then(match d with| .box cs=>gV w v cs.length|_=>[]) else iJ w ms ds vs
 |_,_,_=>[]
def gw:List Mode->Bool
 |[]=>true
 |m::r=>bif dl m then !(r.any dl) else gw r
theorem Em{w:World}{rest:List Value}:∀{ms:List Mode}{ds:List (DV U)}{vs:List Value},ms.any dl=false->gm w rest ms ds vs
 |[],_,_,_=>trivial
 |m::ms,[],_,_=>trivial
 |m::ms,d::ds,[],_=>trivial
 |m::ms,d::ds,v::vs,h=>by
  simp only[zo,wD] at h
  exact⟨fun cs hb _=>(by rw[h.1] at hb;cases hb),Em h.2⟩
theorem El{w:World}:∀{ms:List Mode}{ds:List (DV U)}{vs:List Value},gw ms=true->gm w (iJ w ms ds vs) ms ds vs
 |[],_,_,_=>trivial
 |m::ms,[],_,_=>trivial
 |m::ms,d::ds,[],_=>trivial
 |m::ms,d::ds,v::vs,h=>by
  unfold gw at h
  unfold iJ
  cases hb:dl m<;>rw[hb] at h<;>simp only[cond_true,cond_false] at h⊢
  ·exact⟨fun cs ap _=>(by rw[hb] at ap;cases ap),El h⟩
  ·exact⟨fun cs _ hd=>by rw[hd],Em (by simpa using h)⟩
theorem Ek{w:World}:∀{ms:List Mode}{ds:List (DV U)}{vs:List Value},ie w 0 ms ds vs->gm w [] ms ds vs
 |[],_,_,_=>trivial
 |m::ms,[],_,_=>trivial
 |m::ms,d::ds,[],_=>trivial
 |m::ms,d::ds,v::vs,h=>by
  refine⟨fun cs hb hd=> ?_,Ek h.2⟩
  cases m with
  |box own=>exact(qk (h.1 own cs rfl hd)).symm
  |ro=>cases hb
  |wr=>cases hb
  |mv=>cases hb
theorem Dr{w:World}:∀{ms:List Mode}{ds:List (DV U)}{vs:List Value},ms.any dl=false->iJ w ms ds vs=[]
 |[],_,_,_=>rfl
 |m::ms,[],_,_=>rfl
 |m::ms,d::ds,[],_=>rfl
 |m::ms,d::ds,v::vs,h=>by
  simp only[zo,wD] at h
  unfold iJ
  rw[h.1]
  exact Dr h.2
theorem Ds{n:Nat}:∀{ms:List Mode}{ds:List (DV U)}{vs:List Value}{ls:List (List Nat)},cA E w F ms ds vs ls->ie w n ms ds vs->gw ms=true->ms.any dl=true->(iJ w ms ds vs).length=n
 |[],[],[],[],_,_,_,hb=>by simp at hb
 |m::ms,d::ds,v::vs,l::ls,h,hr,h1,hb=>by
  unfold gw at h1
  unfold iJ
  cases hm:dl m<;>rw[hm] at h1<;>simp only[cond_true,cond_false] at h1⊢
  ·exact Ds h.2 hr.2 h1 (by simpa[hm] using hb)
  ·cases m with
   |box own=>
    cases d with
    |box cs=>exact hr.1 own cs rfl rfl
    |one _=>exact h.1.elim
    |agg _=>exact h.1.elim
    |ptr _=>exact h.1.elim
    |fn _=>exact h.1.elim
   |ro=>cases hm
   |wr=>cases hm
   |mv=>cases hm
 |[],_::_,_,_,h,_,_,_=>h.elim
 |[],[],_::_,_,h,_,_,_=>h.elim
 |[],[],[],_::_,h,_,_,_=>h.elim
 |_::_,[],_,_,h,_,_,_=>h.elim
 |_::_,_::_,[],_,h,_,_,_=>h.elim
 |_::_,_::_,_::_,[],h,_,_,_=>h.elim
theorem uR{dst:Nat}:∀{cs:List U.C}{base:Nat},(((ak dst true base cs).2).map (·.1)).Nodup/\∀p∈(ak dst true base cs).2,base<=p.1
 |[],base=>⟨by simp[ak],fun p hp=>by simp[ak] at hp⟩
 | .lit v::r,base=>by
  obtain⟨h1,h2⟩:=uR (dst:=dst) (cs:=r) (base:=base+1)
  exact⟨by simpa[ak] using h1,fun p hp=>by have:=h2 p (by simpa[ak] using hp);omega⟩
 | .sl τ xs::r,base=>by
  obtain⟨h1,h2⟩:=uR (dst:=dst) (cs:=r) (base:=base+1)
  refine⟨?_,fun p hp=> ?_⟩
  ·simp only[ak,cond_true,qd,gx]
   refine⟨fun hm=> ?_,h1⟩
   obtain⟨p,hp,e⟩:=eV.1 hm
   have:=h2 p hp
   omega
  ·simp only[ak,cond_true,dJ] at hp
   rcases hp with rfl|hp
   ·exact nC _
   ·have:=h2 p hp;omega
theorem Dx{dst:Nat}:∀{cs:List U.C}{base j:Nat}{τ:U.Ty}{xs:List (U.T τ)},cs[j]? =some (.sl τ xs)->(ak dst true base cs).1[j]? =some (.ref (dst,base+j) [])
 |[],base,j,τ,xs,h=>by simp at h
 |c::r,base,j,τ,xs,h=>by
  cases j with
  |zero=>
   simp only[ja,bH] at h
   subst h
   rfl
  |succ j=>
   have:=Dx (dst:=dst) (cs:=r) (base:=base+1) (j:=j) (by simpa using h)
   cases c<;>simpa[ak,uD,BX 1 j] using this
theorem Dw{dst:Nat}{fresh:Bool}:∀{cs:List U.C}{base:Nat},(ak dst fresh base cs).1.length=cs.length
 |[],base=>rfl
 | .lit v::r,base=>by simp[ak,Dw]
 | .sl τ xs::r,base=>by cases fresh<;>simp[ak,Dw]
theorem Jy{i:Nat}{rest:List Value}{m:Mode}{d:DV U}{v:Value}{l:List Nat}(h:eo E w F m d v l)(kt:∀cs,dl m=true->d=.box cs->rest=gV w v cs.length):
  ∃t:bi U,(nj i rest m d).2=t.es/\(t.map (·.1)).Nodup/\t.bl=l/\∀kv fp bad,(∀s∈t,kv (2000000+i,s.1)=s.2.2.1)->
   RS E w F kv fp bad (nj i rest m d).1 v/\(∀s∈t,ig E w F kv fp bad s.2.1 s.2.2.1 s.2.2.2)/\wz i m d v kv:=by
 have agg:∀(bs:Nat){cs:List U.C}{v:Value}{l:List Nat},ee E w F cs v l->∃t:bi U,(ak (2000000+i) true bs cs).2=t.es/\(t.map (·.1)).Nodup/\t.bl=l/\∃vs:List Value,v=.agg vs.toArray/\vs.length=cs.length/\(∀(j:Nat)(u:Value),cs[j]? =some (.lit u)->vs.getD j undef=u/\bD u)/\
   ∀kv fp bad,(∀s∈t,kv (2000000+i,s.1)=s.2.2.1)->dQ E w F kv fp bad (ak (2000000+i) true bs cs).1 vs/\(∀s∈t,ig E w F kv fp bad s.2.1 s.2.2.1 s.2.2.2):=by
  rintro bs cs v l ⟨vs,fl,h1,h2,h3,h4,h5⟩
  obtain⟨t,t1,t2,t3,t4⟩:=qx (dst:=2000000+i) (base:=bs) h2 h3 h4
  refine⟨t,t1,?_,by rw[t3,h5],vs,h1,h2,fun j u hj=> ?_,fun kv fp bad hk=>⟨t4 kv fp bad hk,fun s hs=>t2 s hs kv fp bad⟩⟩
  ·have:=(uR (dst:=2000000+i) (cs:=cs) (base:=bs)).1
   rw[t1] at this
   simpa[bi.es,Function.comp_def] using this
  ·obtain⟨_,g2,g3⟩:=(h4 j _ hj).dK
   exact⟨g2,g3⟩
 cases m with
 |ro=>
  cases d with
  |one c=>exact⟨[],rfl,by simp,h.2.symm,fun kv fp bad _=>⟨lG ⟨h.1.bn,.inr h.1⟩,by simp,trivial⟩⟩
  |agg cs=>
   obtain⟨vs,rfl,h2,h3,h4⟩:=h
   exact⟨[],rfl,by simp,h4.symm,fun kv fp bad _=>⟨⟨vs,rT h2 h3,rfl⟩,by simp,trivial⟩⟩
  |ptr cs=>
   obtain⟨⟨b,o,rfl,h2,h3⟩,h4⟩:=h
   exact⟨[],rfl,by simp,h4.symm,fun kv fp bad _=>⟨lG ⟨⟨rfl,trivial⟩,.inr ⟨b,o,rfl,h2,h3⟩⟩,by simp,trivial⟩⟩
  |fn p=>exact⟨[],rfl,by simp,h.2.symm,fun kv fp bad _=>⟨h.1,by simp,trivial⟩⟩
  |box cs=>exact h.elim
 |wr=>
  cases d with
  |one c=>
   cases c with
   |lit _=>exact h.elim
   |sl τ xs=>
    refine⟨[(0,.arr ⟨τ,xs⟩ true,v,l)],rfl,by simp,by simp[bi.bl],fun kv fp bad hk=> ?_⟩
    have nE:kv (2000000+i,0)=v:=hk _ (gn.2 rfl)
    refine⟨lG ⟨?_,.inr (by simp only[RA];rw[nE];rfl)⟩,fun s hs=>by rw[gn.1 hs];exact h,nE⟩
    rcases h with⟨_,⟨ad,rfl⟩,_⟩|⟨b,cap,cur,vs,bM,rfl,_⟩<;>exact⟨rfl,trivial⟩
  |agg cs=>
   obtain⟨t,t1,t2,t3,vs,t4,t5,t6,t7⟩:=agg 0 h
   refine⟨t,t1,t2,t3,fun kv fp bad hk=> ?_⟩
   obtain⟨g1,g2⟩:=t7 kv fp bad hk
   refine⟨⟨vs,g1,t4⟩,g2,vs,t4,t5,fun j τ xs hj=> ?_,t6⟩
   have hr:=Dx (dst:=2000000+i) (base:=0) hj
   have bU:j<vs.length:=by
    rw[t5]
    rcases fA j cs.length with g|g
    ·exact g
    ·rw[fb g] at hj;cases hj
   have:=aA (g1.2 j _ _ hr (ba (d:=undef) bU)) rfl
   simp only[RA,kO] at this
   exact this.symm
  |box _=>exact h.elim
  |ptr _=>exact h.elim
  |fn _=>exact h.elim
 |mv=>
  cases d with
  |one c=>
   obtain⟨t,t1,t2,t3,t4⟩:=qx (E:=E) (w:=w) (F:=F) (dst:=2000000+i) (base:=4096) (cs:=[c]) (vs:=[v]) (fl:=[l]) rfl rfl (fun j c' hc=>by
    cases j with
    |zero=>simp only[ja,bH] at hc;subst hc;exact h
    |succ j=>simp at hc)
   refine⟨t,t1,?_,by simpa using t3,fun kv fp bad hk=>⟨⟨[v],t4 kv fp bad hk,by simp⟩,fun s hs=>t2 s hs kv fp bad,trivial⟩⟩
   have:=(uR (dst:=2000000+i) (cs:=[c]) (base:=4096)).1
   rw[t1] at this
   simpa[bi.es,Function.comp_def] using this
  |agg cs=>
   obtain⟨t,t1,t2,t3,vs,t4,t5,t6,t7⟩:=agg 4096 h
   refine⟨t,t1,t2,t3,fun kv fp bad hk=> ?_⟩
   obtain⟨g1,g2⟩:=t7 kv fp bad hk
   exact⟨⟨vs,g1,t4⟩,g2,trivial⟩
  |box _=>exact h.elim
  |ptr _=>exact h.elim
  |fn _=>exact h.elim
 |box own=>
  cases d with
  |box cs=>
   have AQ:=kt cs rfl rfl
   obtain⟨b,cur,e,fl,h1,h2,h3,h4,h5,h6,h7,h8⟩:=h
   rw[<-AQ] at h4 h5
   have ck:cur.toList.take cs.length++cur.toList.drop cs.length=cur.toList:=zu _ _
   have gZ:∀(j:Nat)(c:U.C),cs[j]? =some c->(cur.toList.take cs.length).getD j undef=cur.toList.getD j undef:=by
    intro j c hc
    have hj:j<cs.length:=by
     rcases fA j cs.length with g|g
     ·exact g
     ·rw[fb g] at hc;cases hc
    simp only[cB,fg,if_pos hj]
   have y6:∀kv fp bad,dQ E w F kv fp bad (rest.map fun v=> .c (.lit v)) rest:=by
    intro kv fp bad
    refine⟨by simp,fun j x u hx hu=> ?_⟩
    rw[eW,hu] at hx
    cases hx
    exact j6 (h5 u (n6 hu))
   cases own with
   |true=>
    obtain⟨t,t1,t2,t3,t4⟩:=qx (E:=E) (w:=w) (F:=F) (dst:=2000000+i) (base:=4096) (cs:=cs) (vs:=cur.toList.take cs.length) (fl:=fl) (by simp;omega) h6 (fun j c hc=>by rw[gZ j c hc];exact h7 j c hc)
    have yZ:=uR (dst:=2000000+i) (cs:=cs) (base:=4096)
    refine⟨(0,.box ((ak (2000000+i) true 4096 cs).1++rest.map fun v=> .c (.lit v)),v,[b])::t,by simp[nj,bi.es,t1],?_,by rw[h8];simp only[bi.bl,mf,List.singleton_append] at t3⊢;rw[t3],fun kv fp bad hk=> ?_⟩
    ·rw[qd,gx]
     have h0:(t.map (·.1))=((ak (2000000+i) true 4096 cs).2).map (·.1):=by rw[t1];simp[bi.es,Function.comp_def]
     rw[h0]
     refine⟨fun hm=> ?_,yZ.1⟩
     obtain⟨p,hp,e⟩:=eV.1 hm
     have:=yZ.2 p hp
     simp only at e
     omega
    ·have nE:kv (2000000+i,0)=v:=hk _ gp
     have ll:=fun s hs=>hk s (d_ _ hs)
     refine⟨lG ⟨by rw[h1];exact⟨rfl,trivial⟩,.inr ⟨b,by rw[nE,h1],h1⟩⟩,fun s hs=> ?_,nE⟩
     rcases dJ.1 hs with rfl|hs
     ·refine⟨b,cur,e,h1,h2,rfl,?_⟩
      rw[<-ck,h4]
      exact(t4 kv fp bad ll).append (y6 kv fp bad)
     ·exact t2 s hs kv fp bad
   |false=>
    have rc:fl.flatten=[]:=by
     rw[Hn]
     intro b' ap
     obtain⟨l',rb,nX⟩:=zr.1 ap
     obtain⟨j,hj,rfl⟩:=nJ rb
     have ir:j<cs.length:=by omega
     have:=h7 j _ (cF ir)
     rw[cB (l:=fl),cF hj] at this
     exact this.xG (F':=fun _=>False) nX
    rw[rc] at h8
    refine⟨[(0,.box (cs.map .c++rest.map fun v=> .c (.lit v)),v,[b])],rfl,by simp,by simp[bi.bl,h8],fun kv fp bad hk=> ?_⟩
    have nE:kv (2000000+i,0)=v:=hk _ gp
    refine⟨lG ⟨by rw[h1];exact⟨rfl,trivial⟩,.inr ⟨b,by rw[nE,h1],h1⟩⟩,fun s hs=> ?_,nE⟩
    rw[gn.1 hs]
    refine⟨b,cur,e,h1,h2,rfl,?_⟩
    rw[<-ck,h4]
    refine(rT (by simp;omega) (fun j c hc=> ?_)).append (y6 kv fp bad)
    rw[gZ j c hc]
    have:=h7 j c hc
    exact this.dy (fun _ hb=>hb) (fun b' ap=>this.xG ap)
  |one _=>exact h.elim
  |agg _=>exact h.elim
  |ptr _=>exact h.elim
  |fn _=>exact h.elim
theorem ID{dst:Nat}{t:bi U}{k:Key}{e:bZ U}(h:aW (fH dst t.es) k=some e):∃s∈t,k=(dst,s.1)/\e=s.2.1:=by
 have:=mN h
 simp only[fH,bi.es,List.map_map,eV,Function.comp,fB,bH] at this
 obtain⟨s,hs,h1,h2⟩:=this
 exact⟨s,hs,h1.symm,h2.symm⟩
theorem D5{rest:List Value}:∀{ms:List Mode}{ds:List (DV U)}{vs:List Value}{ls:List (List Nat)}{i:Nat},cA E w F ms ds vs ls->gm w rest ms ds vs->
  ∃ts:List (bi U),ts.map bi.bl=ls/\(∀t∈ts,(t.map (·.1)).Nodup)/\
   (∀k e,aW (sq rest i ms ds) k=some e->∃j s,s∈ts.getD j []/\k=(2000000+(i+j),s.1)/\e=s.2.1)/\
   ∀kv fp bad,(∀j s,s∈ts.getD j []->kv (2000000+(i+j),s.1)=s.2.2.1)->
    (∀s x,look (nl rest i ms ds) s=some x->∃j,s=i+j/\j<vs.length/\RS E w F kv fp bad x (vs.getD j undef))/\
    (∀j s,s∈ts.getD j []->ig E w F kv fp bad s.2.1 s.2.2.1 s.2.2.2)/\lH kv i ms ds vs
 |[],[],[],[],i,_,_=>⟨[],rfl,by simp,fun k e he=>(by cases he),fun kv fp bad _=>⟨fun s x hs=>(by cases hs),by simp,trivial⟩⟩
 |m::ms,d::ds,v::vs,l::ls,i,h,hr=>by
  obtain⟨ts,i1,i2,i3,i4⟩:=D5 (rest:=rest) (i:=i+1) h.2 hr.2
  obtain⟨t,t1,t2,t3,t4⟩:=Jy (i:=i) h.1 hr.1
  refine⟨t::ts,by rw[qd,t3,i1],fun t' ht=> ?_,fun k e he=> ?_,fun kv fp bad hk=> ?_⟩
  ·rcases dJ.1 ht with rfl|ht
   ·exact t2
   ·exact i2 t' ht
  ·have he:=(nL _ _ _).symm.trans he
   split at he
   ·rw[t1] at he
    obtain⟨s,hs,h1,h2⟩:=ID he
    exact⟨0,s,by simpa using hs,by simpa using h1,h2⟩
   ·obtain⟨j,s,hs,h1,h2⟩:=i3 k e he
    exact⟨j+1,s,by simpa using hs,by rw[h1];simp only[fB,and_true];omega,h2⟩
  ·obtain⟨g1,g2,g3⟩:=t4 kv fp bad (fun s hs=>by have:=hk 0 s (by simpa using hs);simpa using this)
   obtain⟨k1,k2,k3⟩:=i4 kv fp bad (fun j s hs=>by have:=hk (j+1) s (by simpa using hs);simpa[uD,BX 1 j] using this)
   refine⟨fun s x hs=> ?_,fun j s hs=> ?_,g3,k3⟩
   ·have hs:=(rQ _ _ _ _).symm.trans hs
    split at hs
    ·rename_i e;cases hs;exact⟨0,by simp[e],by simp,by simpa using g1⟩
    ·obtain⟨j,rfl,h2,h3⟩:=k1 s x hs
     exact⟨j+1,by omega,by simpa using h2,by simpa using h3⟩
   ·cases j with
    |zero=>exact g2 s (by simpa using hs)
    |succ j=>exact k2 j s (by simpa using hs)
 |[],_::_,_,_,_,h,_=>h.elim
 |[],[],_::_,_,_,h,_=>h.elim
 |[],[],[],_::_,_,h,_=>h.elim
 |_::_,[],_,_,_,h,_=>h.elim
 |_::_,_::_,[],_,_,h,_=>h.elim
 |_::_,_::_,_::_,[],_,h,_=>h.elim
def u2(w:World)(F:Nat->Prop)(kv:Key->Value)(ls:List (List Nat)):Pm:=
 ⟨w,fun b=>b∈ls.flatten,F,fun k=>if 2000000<=k.1/\k.2<1024 then some (kv k) else none⟩
theorem Jf{ts:List (bi U)}{j:Nat}:(ts.map bi.bl).getD j []=(ts.getD j []).bl:=by
 rw[cB,cB,eW]
 cases ts[j]? <;>rfl
theorem Jx{n:Nat}{rest:List Value}{ms:List Mode}{ds:List (DV U)}{vs:List Value}{ls:List (List Nat)}(hF:∀b,F b->b<w.heap.size)(nS:wP E w F)(h:cA E w F ms ds vs ls)(hr:gm w rest ms ds vs)(hn:ls.flatten.Nodup)(hl:∀b∈ls.flatten,b<w.heap.size/\¬F b)
  (Cb:ms.length<=n) (jf:n<=1000000):
  ∃qQ yd,aE E (u2 w F qQ ls) F qQ yd (entry rest n ms ds) {tmps:=vs.toArray++Array.replicate (n-vs.length) undef,defers:=[]} w/\lH qQ 0 ms ds vs:=by
 obtain⟨l1,l2,l3⟩:=h.len
 obtain⟨ts,i1,i2,i3,i4⟩:=D5 (rest:=rest) (i:=0) h hr
 have fc:∀{j:Nat},((ts.getD j []).map (·.1)).Nodup:=by
  intro j
  rcases fA j ts.length with g|g
  ·rw[cB,cF g];exact i2 _ (wQ g)
  ·rw[cB,fb g];exact zq
 let qQ:Key->Value:=fun k=>(ts.getD (k.1-2000000) []).l9 k.1 (fun _=>undef) k
 let yd:Key->List Nat:=fun k=>(ts.getD (k.1-2000000) []).lq k.1 (fun _=>[]) k
 have tZ:∀j s,s∈ts.getD j []->qQ (2000000+(0+j),s.1)=s.2.2.1:=by
  intro j s hs
  simp only[qQ,kO,Nat.add_sub_cancel_left]
  exact bi.kl fc hs
 have g_:∀j s,s∈ts.getD j []->yd (2000000+(0+j),s.1)=s.2.2.2:=by
  intro j s hs
  simp only[yd,kO,Nat.add_sub_cancel_left]
  exact bi.jg fc hs
 obtain⟨g1,g2,g3⟩:=i4 qQ yd (ay (entry rest n ms ds)) tZ
 have ue:∀{j:Nat},(ts.getD j []).bl=ls.getD j []:=fun{j}=>by rw[<-i1,Jf]
 have Bw:∀{j:Nat}{s:Nat×bZ U×Value×List Nat}{b:Nat},s∈ts.getD j []->b∈s.2.2.2->b∈ls.getD j []:=fun{j s b} hs hb=>by rw[<-ue];exact bi.fO.2 ⟨s,hs,hb⟩
 refine⟨qQ,yd,⟨by simp[entry];omega,rfl,fun s x hs=> ?_,fun k e he=> ?_,fun k k' e e' b aX h1 h2 hb=> ?_,fun k e he=> ?_,fun k e b he hb=> ?_,hF,fun b hb=> .inl hb,bB.refl _ _,fun k v hk=> ?_,nS⟩,g3⟩
 ·obtain⟨j,rfl,hj,h3⟩:=g1 s x hs
  have:(vs.toArray++Array.replicate (n-vs.length) undef).getD (0+j) undef=vs.getD j undef:=by
   rw[kO,uG,Array.getElem?_append_left (by simpa using hj)]
   simp[cB]
  show RS E w F _ _ _ x ((vs.toArray++Array.replicate (n-vs.length) undef).getD (0+j) undef)
  rw[this];exact h3
 ·obtain⟨j,s,hs,rfl,rfl⟩:=i3 k e he
  rw[tZ j s hs,g_ j s hs]
  exact g2 j s hs
 ·obtain⟨j,s,hs,rfl,rfl⟩:=i3 k e h1
  obtain⟨j',s',cZ,rfl,rfl⟩:=i3 k' e' h2
  rw[g_ j s hs] at hb
  rw[g_ j' s' cZ]
  by_cases hj:j=j'
  ·subst hj
   have ju:(ts.getD j []).bl.Nodup:=by rw[ue];exact DI hn j
   exact bi.gL ju hs cZ (fun e=>aX (by rw[e])) hb
  ·exact fun ap=>Jm hn hj (Bw hs hb) (Bw cZ ap)
 ·obtain⟨j,s,hs,rfl,rfl⟩:=i3 k e he
  rw[g_ j s hs]
  have ju:(ts.getD j []).bl.Nodup:=by rw[ue];exact DI hn j
  exact bi.kJ ju hs
 ·obtain⟨j,s,hs,rfl,rfl⟩:=i3 k e he
  rw[g_ j s hs] at hb
  have:=IE (Bw hs hb)
  exact⟨(hl b this).2,.inl this,(hl b this).1⟩
 ·simp only[u2] at hk
  split at hk
  ·rename_i hc
   cases hk
   exact⟨hc.1,hc.2,jf,rfl⟩
  ·cases hk
variable{pm:Pm}{kv:Key->Value}{fp:Key->List Nat}{σ:aa U}{a:Act}
def rM(tmps:Array Value):ResultVar->Sem Value
 | .tmp t=>pure (tmps.getD t undef)
 | .cell a t=>do loadVar t (<-asAddr (tmps.getD a undef))
def p8(P:Program)(tmps:Array Value)(w:World):List ResultVar->List Value->Prop
 |[],[]=>True
 |r::rs,u::us=>(rM tmps r).run P w=.ok u w/\p8 P tmps w rs us
 |_,_=>False
theorem DL{P:Program}{tmps:Array Value}{w:World}:∀{rs:List ResultVar}{us:List Value},p8 P tmps w rs us->(List.mapM (rM tmps) rs).run P w=.ok us w
 |[],[],_=>rfl
 |r::rs,u::us,h=>by
  rw[List.mapM_cons,Sem.run_bind,h.1]
  simp only[Result.andThen,Sem.run_bind,DL h.2]
  rfl
 |[],_::_,h=>h.elim
 |_::_,[],h=>h.elim
theorem Ie{P:Program}{fn:Func}{tmps:Array Value}{w:World}{us:List Value}(h:p8 P tmps w fn.results.toList us):
  (results fn tmps).run P w=.ok (oN us) w:=by
 have hg:(fun x=>match x with
   |ResultVar.tmp t=>(pure (tmps.getD t undef):Sem Value)
   |ResultVar.cell a t=>do loadVar t (<-asAddr (tmps.getD a undef)))=rM tmps:=by
  funext x;cases x<;>rfl
 unfold results
 have hr:fn.results=fn.results.toList.toArray:=rfl
 rw[hr,List.mapM_toArray]
 show Sem.run P (do
  let vs←Functor.map List.toArray (List.mapM (fun x=>match x with
   |ResultVar.tmp t=>(pure (tmps.getD t undef):Sem Value)
   |ResultVar.cell a t=>do loadVar t (<-asAddr (tmps.getD a undef))) fn.results.toList)
  pure (if h:vs.size=1 then vs[0] else Value.tuple vs)) w=_
 rw[hg,Sem.run_bind]
 have hm:(Functor.map List.toArray (List.mapM (rM tmps) fn.results.toList)).run P w=.ok us.toArray w:=by
  rw[map_eq_pure_bind,Sem.run_bind,DL h]
  rfl
 rw[hm]
 show Result.ok _ w=_
 congr 1
 match us with
 |[]=>rfl
 |[t]=>rfl
 |t::u::r=>
  rw[dif_neg (by simp)]
  rfl
theorem Dt(h:aE E pm F kv fp σ a w){r:ResultVar}{x:AV U}(hr:sJ E σ r=some x):∃u,(rM a.tmps r).run E.P w=.ok u w/\RV E w F kv fp (ay σ) x u:=by
 unfold sJ at hr
 split at hr
 ·rename_i t
  split at hr
  ·rename_i y hy
   cases hr
   exact⟨_,rfl,h.au t _ hy⟩
  ·cases hr
 ·rename_i s t
  split at hr
  ·rename_i k hk
   split at hr
   ·rename_i cs n g he hn hg
    rw[bV] at hr
    split at hr
    ·rename_i hc
     cases hr
     simp only[c9] at hc
     obtain⟨b,h1,h2⟩:=aA (o0 (h.au s _ hk)) rfl
     obtain⟨b',cur,e,h3,h4,h5,h6⟩:=h.aJ k _ he
     rw[h1] at h3;cases h3
     have hlen:n=cur.toList.length:=(eI hc.1).trans h6.1
     obtain⟨v,AE,AD⟩:=xg (E:=E) (w:=w) (us:=cur.toList) (off:=0) (b:=b) hn hg hc.2 hlen.symm (fun j v hj=>by
      simp only[World.cell?,h4,kO]
      simpa using hj)
     refine⟨v,?_,cur.toList,h6,AD⟩
     have a_:(rM a.tmps (.cell s t)).run E.P w=(Instr.loadAt t (.pointer (some ⟨b,0,none⟩))).run E.P w:=by
      simp only[rM,h2,asAddr,Instr.loadAt,Instr.sureAddr,pure_bind]
     rw[a_];exact AE
    ·cases hr
   ·cases hr
  ·cases hr
theorem Io(h:aE E pm F kv fp σ a w):∀{rs:List ResultVar}{fs:List Bool}{ts:List TypeId}{ps:List Prop}{ds:List (DV U)}{ks:List Key},outs E σ fs rs ts=some (ps,ds,ks)->(∀p∈ps,p)->ks.Nodup->
  ∃(us:List Value)(dz:List (List Nat)),p8 E.P a.tmps w rs us/\(∀F':Nat->Prop,(∀b,F b->F' b)->(∀k e b,k∈fY E σ fs rs->σ.aw k=some e->b∈fp k->F' b)->dH E w F' fs ds us dz)/\dz.flatten.Nodup/\(∀b∈dz.flatten,∃k∈ks,b∈fp k)/\(∀k∈ks,(σ.aw k).isSome=true):=by
 intro rs
 induction rs with
 |nil=>
  intro fs ts ps ds ks ho hp hn
  simp only[outs,bH,fB] at ho
  obtain⟨rfl,rfl,rfl⟩:=ho
  exact⟨[],[],trivial,fun _ _ _=>trivial,by simp,by simp,by simp⟩
 |cons r rs ih=>
  intro fs ts ps ds ks ho hp hn
  have pj:∀k,k∈fY E σ fs.tail rs->k∈fY E σ fs (r::rs):=fun k hk=>by
   simp only[fY,cY];exact .inr hk
  simp only[outs] at ho
  split at ho
  ·rename_i x hx
   split at ho
   ·rename_i l k ku
    split at ho
    ·rename_i qs Cq GL qV
     cases ho
     have hh:fs.headD true=true:=by
      cases hh:fs.headD true with
      |true=>rfl
      |false=>
       rw[hh] at ku
       unfold u1 at ku
       split at ku<;>cases ku
     rw[hh] at ku
     unfold u1 at ku
     split at ku
     ·rename_i k0
      simp only[cond_true] at ku
      split at ku
      ·rename_i bs he
       split at ku
       ·rename_i l' hl
        cases ku
        obtain⟨lT,n2⟩:=gx.1 hn
        obtain⟨us,dz,i1,i2,i3,i4,i5⟩:=ih qV hp n2
        obtain⟨u,hu,vs,r1,r2⟩:=Dt h hx
        simp only[mF,if_false] at r2
        subst r2
        obtain⟨b,tZ,rfl⟩:=aA (r1.2 0 _ u rfl rfl) rfl
        obtain⟨b',cur,e',g1,g2,g3,g4⟩:=h.aJ k _ he
        rw[tZ] at g1
        simp only[Value.pointer.injEq,bH,Addr.mk.injEq] at g1
        obtain⟨rfl,_,_⟩:=g1
        have ik:=tr hl
        have nR:bs.length=l.length:=by rw[ik];simp
        have x8:dk E w F true (.box l:DV U) (.pointer (some ⟨b,0,none⟩)) [b]:=by
         refine⟨rfl,b,cur,e',rfl,g2,rfl,by rw[<-nR,g4.1];simp,fun i c hc=> ?_⟩
         have Lj:bs[i]? =some (.c c):=by rw[ik,eW,hc];rfl
         have bU:i<cur.toList.length:=by
          rw[<-g4.1]
          rcases fA i bs.length with g|g
          ·exact g
          ·rw[fb g] at Lj;cases Lj
         have gG:cur.toList[i]? =some (cur.toList[i]):=cF bU
         rw[cB,gG]
         exact(aA (g4.2 i _ _ Lj gG) rfl:Rp E w F false _ _ _)
        refine⟨_::us,[b]::dz,⟨hu,i1⟩,fun F' jU Cm=>⟨by rw[hh];exact dk.bx jU x8,i2 F' jU fun k e b hk=>Cm k e b (pj k hk)⟩,?_,fun b' ap=> ?_,fun k' aG=> ?_⟩
        ·rw[rJ,gz]
         refine⟨by simp,i3,fun b' ap c hc e=> ?_⟩
         rw[gn.1 ap] at e
         subst e
         obtain⟨k2,eH,il⟩:=i4 b hc
         obtain⟨e2,iw⟩:=eD.1 (i5 k2 eH)
         exact h.apart k k2 _ e2 b (fun e=>lT (e▸eH)) he iw (by rw[g3];exact gn.2 rfl) il
        ·rw[rJ,cY] at ap
         rcases ap with ap|ap
         ·rw[gn.1 ap]
          exact⟨k,gp,by rw[g3];exact gn.2 rfl⟩
         ·obtain⟨k2,eH,il⟩:=i4 b' ap
          exact⟨k2,d_ _ eH,il⟩
        ·rcases dJ.1 aG with rfl|aG
         ·rw[he];rfl
         ·exact i5 k' aG
       ·cases ku
      ·cases ku
     ·cases ku
    ·cases ho
   split at ho
   ·rename_i wF cs GM gY
    split at ho
    ·rename_i d qs Cq GL hd qV
     simp only[bH,fB] at ho
     obtain⟨rfl,rfl,rfl⟩:=ho
     rw[gz] at hn
     obtain⟨n1,n2,n3⟩:=hn
     obtain⟨us,dz,i1,i2,i3,i4,i5⟩:=ih qV (fun p dj=>hp p (by simp[dj])) n2
     obtain⟨u,hu,vs,r1,r2⟩:=Dt h hx
     cases hh:fs.headD true with
     |true=>
      rw[hh] at gY
      simp only[cond_true] at gY
      split at gY
      ·rename_i qG jo ks' AI
       cases gY
       obtain⟨g1,g2,g3,g4⟩:=rO h AI (fun p dj=>hp p (by simp[dj])) r1 n1
       obtain⟨fl,f1,f2,f3,f4⟩:=g3 rfl
       refine⟨u::us,fl.flatten::dz,⟨hu,i1⟩,fun F' jU Cm=>⟨by rw[hh];exact dk.bx jU (JD hd r2 (by rw[g1];exact r1.1.symm) f1 f2),i2 F' jU fun k e b hk=>Cm k e b (pj k hk)⟩,?_,fun b hb=> ?_,fun k hk=> ?_⟩
       ·rw[rJ,gz]
        refine⟨f3,i3,fun b hb c hc e=> ?_⟩
        subst e
        obtain⟨k1,ll,hM⟩:=f4 b hb
        obtain⟨k2,eH,il⟩:=i4 b hc
        obtain⟨e1,Br⟩:=eD.1 (g2 k1 ll)
        obtain⟨e2,iw⟩:=eD.1 (i5 k2 eH)
        exact h.apart k1 k2 e1 e2 b (n3 k1 ll k2 eH) Br iw hM il
       ·rw[rJ,cY] at hb
        rcases hb with hb|hb
        ·obtain⟨k,hk,hb⟩:=f4 b hb;exact⟨k,fV _ hk,hb⟩
        ·obtain⟨k,hk,hb⟩:=i4 b hb;exact⟨k,fD _ hk,hb⟩
       ·rcases cY.1 hk with hk|hk
        ·exact g2 k hk
        ·exact i5 k hk
      ·cases gY
     |false=>
      rw[hh] at gY
      simp only[cond_false] at gY
      split at gY
      ·rename_i qG jo AI
       cases gY
       obtain⟨g1,g2⟩:=Eb h AI (fun p dj=>hp p (by simp[dj])) r1
       refine⟨u::us,[]::dz,⟨hu,i1⟩,fun F' jU Cm=>⟨by
        rw[hh]
        refine JC hd r2 (by rw[g1];exact r1.1.symm) (fun i c hc=>(g2 i c hc).bx (fun b hb=> ?_))
        rcases hb with hb|⟨k,hk,hb⟩
        ·exact jU b hb
        ·rw[qa] at hk
         obtain⟨e,he⟩:=eD.1 hk.2
         exact Cm k e b (by simp only[fY,hh,cond_false,cY,hx];exact .inl hk.1) he hb,i2 F' jU fun k e b hk=>Cm k e b (pj k hk)⟩,by simpa using i3,by simpa using i4,by simpa using i5⟩
      ·cases gY
    ·cases ho
   ·cases ho
  ·cases ho
theorem Af(h:aE E pm F kv fp σ a w){i:Nat}:∀{cs:List U.C}{j:Nat}{vs:List Value}{ds:List U.C}{ks:List Key},fK σ i j cs=some (ds,ks)->vs.length=cs.length->
  (∀(n:Nat)(τ:U.Ty)(xs:List (U.T τ)),cs[n]? =some (.sl τ xs)->kv (2000000+i,j+n)=vs.getD n undef)->(∀(n:Nat)(u:Value),cs[n]? =some (.lit u)->vs.getD n undef=u/\bD u)->
  ds.length=cs.length/\∃fl:List (List Nat),fl.length=ds.length/\(∀(n:Nat)(c:U.C),ds[n]? =some c->Rp E w F true c (vs.getD n undef) (fl.getD n []))/\fl.flatten=ks.flatMap fp/\(∀k∈ks,(σ.aw k).isSome=true/\j<=k.2)/\ks.Nodup
 |[],j,vs,ds,ks,hf,hl,h1,h2=>by
  simp only[fK,bH,fB] at hf
  obtain⟨rfl,rfl⟩:=hf
  exact⟨rfl,[],rfl,fun n c hc=>by simp at hc,rfl,by simp,by simp⟩
 |c::cs,j,[],ds,ks,hf,hl,h1,h2=>by simp at hl
 |c::cs,j,v::vs,ds,ks,hf,hl,h1,h2=>by
  have rI:∀(n:Nat)(τ:U.Ty)(xs:List (U.T τ)),cs[n]? =some (.sl τ xs)->kv (2000000+i,j+1+n)=vs.getD n undef:=fun n τ xs hn=>by
   have:=h1 (n+1) τ xs (by simpa using hn)
   simpa[uD,BX 1 n] using this
  have yc:∀(n:Nat)(u:Value),cs[n]? =some (.lit u)->vs.getD n undef=u/\bD u:=fun n u hn=>by simpa using h2 (n+1) u (by simpa using hn)
  cases c with
  |lit u=>
   simp only[fK] at hf
   split at hf
   ·rename_i NI ks' Ci
    cases hf
    obtain⟨i1,fl,i2,i3,i4,i5,i6⟩:=Af h Ci (by simpa using hl) rI yc
    obtain⟨g1,g2⟩:=h2 0 u rfl
    have Kj:v=u:=by simpa using g1
    subst Kj
    refine⟨by simp[i1],[]::fl,by simp[i2],fun n c hc=> ?_,by simpa using i4,fun k hk=>⟨(i5 k hk).1,by have:=(i5 k hk).2;omega⟩,i6⟩
    cases n with
    |zero=>simp only[ja,bH] at hc;subst hc;exact .lit _ _ g2
    |succ n=>simpa using i3 n c (by simpa using hc)
   ·cases hf
  |sl τ xs=>
   simp only[fK] at hf
   split at hf
   ·rename_i y NI ks' he Ci
    cases hf
    obtain⟨i1,fl,i2,i3,i4,i5,i6⟩:=Af h Ci (by simpa using hl) rI yc
    have hv:kv (2000000+i,j)=v:=by simpa using h1 0 τ xs rfl
    have ho:aZ E w F true y (kv (2000000+i,j)) (fp (2000000+i,j)):=h.aJ _ _ he
    refine⟨by simp[i1],fp (2000000+i,j)::fl,by simp[i2],fun n c hc=> ?_,by simp[i4],fun k hk=> ?_,?_⟩
    ·cases n with
     |zero=>simp only[ja,bH] at hc;subst hc;rw[hv] at ho;exact ho.rp
     |succ n=>simpa using i3 n c (by simpa using hc)
    ·rcases dJ.1 hk with rfl|hk
     ·exact⟨by rw[he];rfl,nC _⟩
     ·exact⟨(i5 k hk).1,by have:=(i5 k hk).2;omega⟩
    ·rw[gx]
     exact⟨fun hm=>by have:=(i5 _ hm).2;simp only at this;omega,i6⟩
   ·cases hf
theorem Jo(h:aE E pm F kv fp σ a w){w0:World}{F0:Nat->Prop}{rest:List Value}{i:Nat}{want:List (Option U.Ty)}{m:Mode}{d:DV U}{v:Value}{l:List Nat}{ps:List Prop}{mu:List (DV U)}{ks:List Key}
  (hf:px σ rest i want m d=some (ps,mu,ks)) (hp:∀p∈ps,p) (eF:eo E w0 F0 m d v l) (kt:∀cs,dl m=true->d=.box cs->rest=gV w0 v cs.length) (nQ:wz i m d v kv) (hn:ks.Nodup):
  ∃bL,bh E w F w0 [m] [v] mu bL/\bL.flatten.Nodup/\(∀b∈bL.flatten,∃k∈ks,b∈fp k)/\(∀k∈ks,(σ.aw k).isSome=true)/\(m=.box false->∀b∈l,∃k∈ks,b∈fp k):=by
 cases m with
 |ro=>
  simp only[px,bH,fB] at hf
  obtain⟨_,rfl,rfl⟩:=hf
  exact⟨[],trivial,by simp,by simp,by simp,fun e=>by cases e⟩
 |mv=>
  simp only[px,bH,fB] at hf
  obtain⟨_,rfl,rfl⟩:=hf
  exact⟨[],trivial,by simp,by simp,by simp,fun e=>by cases e⟩
 |wr=>
  cases d with
  |one c=>
   cases c with
   |lit _=>exact eF.elim
   |sl τ xs=>
    simp only[px] at hf
    split at hf
    ·rename_i y he
     cases hf
     have hv:kv (2000000+i,0)=v:=nQ
     have ho:aZ E w F true y (kv (2000000+i,0)) (fp (2000000+i,0)):=h.aJ _ _ he
     rw[hv] at ho
     exact⟨[fp (2000000+i,0)],⟨ho,trivial⟩,by simpa using h.nodup _ _ he,by simp,by simp[he],fun e=>by cases e⟩
    ·cases hf
  |agg cs=>
   simp only[px] at hf
   rw[bV] at hf
   split at hf
   ·split at hf
    ·rename_i ds ks' OQ
     cases hf
     obtain⟨vs,p1,p2,p3,p4⟩:=nQ
     obtain⟨i1,fl,i2,i3,i4,i5,i6⟩:=Af h OQ p2 (by simpa using p3) p4
     refine⟨[fl.flatten],⟨⟨vs,fl,p1,by rw[p2,i1],i2,i3,rfl⟩,trivial⟩,?_,fun b hb=> ?_,fun k hk=>(i5 k hk).1,fun e=>by cases e⟩
     ·simp only[rJ,Cu,oG]
      rw[i4]
      exact Ae h i6 (fun k hk=>(i5 k hk).1)
     ·simp only[rJ,Cu,oG] at hb
      rw[i4] at hb
      exact fC.1 hb
    ·cases hf
   ·cases hf
  |box _=>exact eF.elim
  |ptr _=>exact eF.elim
  |fn _=>exact eF.elim
 |box own=>
  cases d with
  |one _=>exact eF.elim
  |agg _=>exact eF.elim
  |ptr _=>exact eF.elim
  |fn _=>exact eF.elim
  |box cs=>
   have AQ:=kt cs rfl rfl
   have hv:kv (2000000+i,0)=v:=nQ
   obtain⟨b0,LJ,e0,Pp,z1,z2,z3,z4,z5,z6,z7,z8⟩:=eF
   have r9:∀{bs:List (AC U)}{cur:Array Value}{n:Nat},dQ E w F kv fp (ay σ) bs cur.toList->bs.drop n=rest.map (fun v=> .c (.lit v))->cur.toList.drop n=rest:=by
    intro bs cur n hd he
    have h1:=hd.drop n
    rw[he] at h1
    refine wR fun j=> ?_
    cases hj:rest[j]? with
    |none=>
     rw[List.getElem?_eq_none_iff] at hj⊢
     rw[<-h1.1];simpa using hj
    |some u=>
     have bU:j<(cur.toList.drop n).length:=by
      rw[<-h1.1,uF]
      rcases fA j rest.length with g|g
      ·exact g
      ·rw[fb g] at hj;cases hj
     rw[cF bU]
     have:=Aq (h1.2 j (.c (.lit u)) _ (by rw[eW,hj];rfl) (cF bU))
     rw[this]
   cases own with
   |true=>
    simp only[px] at hf
    split at hf
    ·rename_i bs he
     split at hf
     ·rename_i qG l0 ks' ht
      rw[bV] at hf
      split at hf
      ·rename_i ra
       cases hf
       have ra:=eI ra
       obtain⟨b,cur,e,h3,h4,h5,h6⟩:=h.aJ _ _ he
       rw[hv] at h3
       obtain⟨g1,g2,g3,_⟩:=rO h ht (fun p dj=>hp p (by simp[dj])) (h6.take cs.length) (gx.1 hn).2
       obtain⟨fl,f1,f2,f3,f4⟩:=g3 rfl
       have AW:bs.drop cs.length=rest.map fun v=> .c (.lit v):=Dq fun p dj=>hp p (fD _ dj)
       have vR:=r9 h6 AW
       have ue:cs.length<=cur.size:=by
        have h8:bs.length=cur.size:=by have:=h6.1;simpa using this
        rw[g1,jw] at ra
        omega
       have By:b∉fl.flatten:=by
        intro hb
        obtain⟨k',aG,ap⟩:=f4 b hb
        obtain⟨e2,iw⟩:=eD.1 (g2 k' aG)
        exact h.apart _ k' _ e2 b (fun e=>(gx.1 hn).1 (by rw[e];exact aG)) he iw (by rw[h5];simp) ap
       refine⟨[b::fl.flatten],⟨⟨b,cur,e,fl,h3,h4,by omega,by rw[ra,vR,AQ],by rw[ra];exact z5,f1,fun j c hc=> ?_,rfl⟩,trivial⟩,(by rw[rJ,Cu,oG,gx];exact⟨By,f3⟩),fun c hc=> ?_,fun k hk=> ?_,fun e=>by cases e⟩
       ·have hj:j<cs.length:=by
         rw[<-ra]
         rcases fA j l0.length with g|g
         ·exact g
         ·rw[fb g] at hc;cases hc
        have:=f2 j c hc
        rw[cB,fg,if_pos hj,<-cB] at this
        exact this
       ·simp only[rJ,Cu,oG,dJ] at hc
        rcases hc with rfl|hc
        ·exact⟨_,gp,by rw[h5];simp⟩
        ·obtain⟨k',aG,hc⟩:=f4 c hc;exact⟨k',d_ _ aG,hc⟩
       ·rcases dJ.1 hk with rfl|hk
        ·rw[he];rfl
        ·exact g2 k hk
      ·cases hf
     ·cases hf
    ·cases hf
   |false=>
    simp only[px] at hf
    split at hf
    ·rename_i bs he
     split at hf
     ·rename_i l0 pf
      rw[bV] at hf
      split at hf
      ·rename_i ra
       cases hf
       have ra:=eI ra
       have ik:=tr pf
       obtain⟨b,cur,e,h3,h4,h5,h6⟩:=h.aJ _ _ he
       rw[hv] at h3
       have AW:bs.drop cs.length=rest.map fun v=> .c (.lit v):=Dq fun p dj=>hp p dj
       have vR:=r9 h6 AW
       have h8:bs.length=cur.size:=by have:=h6.1;simpa using this
       have ue:cs.length<=cur.size:=by
        have:=congrArg List.length ik
        rw[jw,uF,ra] at this
        omega
       refine⟨[[b]],⟨⟨b,cur,e,List.replicate l0.length [],h3,h4,by omega,by rw[ra,vR,AQ],by rw[ra];exact z5,by simp,fun j c hc=> ?_,by rw[k_]⟩,trivial⟩,by simp,fun c hc=>⟨_,gp,by rw[h5];simpa using hc⟩,by simp[he],fun _ c hc=> ?_⟩
       ·have hj:j<cs.length:=by
         rw[<-ra]
         rcases fA j l0.length with g|g
         ·exact g
         ·rw[fb g] at hc;cases hc
        have zd:bs[j]? =some (.c c):=by
         have:(bs.take cs.length)[j]? =some (.c c):=by rw[ik,eW,hc];rfl
         rwa[fg,if_pos hj] at this
        have h7:=aA (h6.2 j (.c c) (cur.toList.getD j undef) zd (ba (by simp;omega))) rfl
        rw[oT]
        exact h7
       ·refine⟨_,gp,?_⟩
        rw[h5]
        rw[z1] at h3
        cases h3
        rw[z8,dJ] at hc
        rcases hc with rfl|hc
        ·simp
        ·exfalso
         obtain⟨l',rb,nX⟩:=zr.1 hc
         obtain⟨j,hj,rfl⟩:=nJ rb
         have ir:j<cs.length:=by omega
         have:=z7 j _ (cF ir)
         rw[cB (l:=Pp),cF hj] at this
         exact this.xG (F':=fun _=>False) nX
      ·cases hf
     ·cases hf
    ·cases hf
theorem bh.cons{w0:World}{m:Mode}{v:Value}{vf:List (DV U)}{oa:List (List Nat)}{ms:List Mode}{vs:List Value}{Nf:List (DV U)}{xH:List (List Nat)}(h:bh E w F w0 [m] [v] vf oa)(h':bh E w F w0 ms vs Nf xH):
  bh E w F w0 (m::ms) (v::vs) (vf++Nf) (oa++xH):=by
 cases m with
 |ro=>cases vf<;>cases oa<;>first|exact h.elim|exact h'
 |mv=>cases vf<;>cases oa<;>first|exact h.elim|exact h'
 |wr=>
  cases vf with
  |nil=>cases oa<;>exact h.elim
  |cons d vf=>
   cases oa with
   |nil=>cases d<;>first|exact h.elim|(rename_i c;cases c<;>exact h.elim)
   |cons l oa=>
    cases d with
    |one c=>cases c with
     |lit _=>exact h.elim
     |sl τ ys=>
      obtain⟨h1,h2⟩:=h
      cases vf<;>cases oa<;>first|exact h2.elim|exact⟨h1,h'⟩
    |agg cs=>
     obtain⟨h1,h2⟩:=h
     cases vf<;>cases oa<;>first|exact h2.elim|exact⟨h1,h'⟩
    |box _=>exact h.elim
    |ptr _=>exact h.elim
    |fn _=>exact h.elim
 |box own=>
  cases vf with
  |nil=>cases oa<;>exact h.elim
  |cons d vf=>
   cases oa with
   |nil=>cases d<;>exact h.elim
   |cons l oa=>
    cases d with
    |box cs=>
     obtain⟨h1,h2⟩:=h
     cases vf<;>cases oa<;>first|exact h2.elim|exact⟨h1,h'⟩
    |one _=>exact h.elim
    |agg _=>exact h.elim
    |ptr _=>exact h.elim
    |fn _=>exact h.elim
theorem D3(h:aE E pm F kv fp σ a w){w0:World}{F0:Nat->Prop}{rest:List Value}:∀{ms:List Mode}{i:Nat}{ws:List (List (Option U.Ty))}{ds:List (DV U)}{vs:List Value}{ls:List (List Nat)}{ps:List Prop}{mu:List (DV U)}{ks:List Key},
  hX σ rest i ws ms ds=some (ps,mu,ks)->(∀p∈ps,p)->cA E w0 F0 ms ds vs ls->gm w0 rest ms ds vs->lH kv i ms ds vs->ks.Nodup->
  ∃bL,bh E w F w0 ms vs mu bL/\bL.flatten.Nodup/\(∀b∈bL.flatten,∃k∈ks,b∈fp k)/\(∀k∈ks,(σ.aw k).isSome=true)/\(vY ms=false->∀b∈ls.flatten,∃k∈ks,b∈fp k)
 |[],i,ws,[],[],[],ps,mu,ks,hf,hp,eF,hr,nQ,hn=>by
  simp only[hX,bH,fB] at hf
  obtain⟨_,rfl,rfl⟩:=hf
  exact⟨[],trivial,by simp,by simp,by simp,by simp⟩
 |m::ms,i,ws,d::ds,v::vs,l::ls,ps,mu,ks,hf,hp,eF,hr,nQ,hn=>by
  simp only[hX] at hf
  split at hf
  ·rename_i wF xs GM qs ys GL h1 h2
   cases hf
   rw[gz] at hn
   obtain⟨n1,n2,n3⟩:=hn
   obtain⟨oa,i1,i2,i3,i4,i5⟩:=Jo h h1 (fun p dj=>hp p (by simp[dj])) eF.1 hr.1 nQ.1 n1
   obtain⟨xH,j1,j2,j3,j4,j5⟩:=D3 h h2 (fun p dj=>hp p (by simp[dj])) eF.2 hr.2 nQ.2 n2
   refine⟨oa++xH,i1.cons j1,?_,fun b hb=> ?_,fun k hk=>(cY.1 hk).elim (i4 k) (j4 k),fun ho b hb=> ?_⟩
   ·rw[qb,gz]
    refine⟨i2,j2,fun b hb c hc e=> ?_⟩
    subst e
    obtain⟨k1,ll,hM⟩:=i3 b hb
    obtain⟨k2,eH,il⟩:=j3 b hc
    obtain⟨e1,Br⟩:=eD.1 (i4 k1 ll)
    obtain⟨e2,iw⟩:=eD.1 (j4 k2 eH)
    exact h.apart k1 k2 e1 e2 b (n3 k1 ll k2 eH) Br iw hM il
   ·rw[qb,cY] at hb
    rcases hb with hb|hb
    ·obtain⟨k,hk,hb⟩:=i3 b hb;exact⟨k,fV _ hk,hb⟩
    ·obtain⟨k,hk,hb⟩:=j3 b hb;exact⟨k,fD _ hk,hb⟩
   ·simp only[vY,zo,wD] at ho
    rw[rJ,cY] at hb
    rcases hb with hb|hb
    ·have:m=.ro\/m=.box false:=by
      cases m with
      |ro=>exact .inl rfl
      |wr=>simp at ho
      |mv=>simp at ho
      |box own=>cases own with
       |true=>simp at ho
       |false=>exact .inr rfl
     rcases this with rfl|rfl
     ·have:l=[]:=by cases d<;>first|exact eF.1.2|(obtain⟨_,_,_,_,h⟩:=eF.1;exact h)|exact eF.1.elim
      rw[this] at hb;cases hb
     ·obtain⟨k,hk,hb⟩:=i5 rfl b hb;exact⟨k,fV _ hk,hb⟩
    ·obtain⟨k,hk,hb⟩:=j5 ho.2 b hb;exact⟨k,fD _ hk,hb⟩
  ·cases hf
 |[],_,_,_::_,_,_,_,_,_,_,_,eF,_,_,_=>eF.elim
 |[],_,_,[],_::_,_,_,_,_,_,_,eF,_,_,_=>eF.elim
 |[],_,_,[],[],_::_,_,_,_,_,_,eF,_,_,_=>eF.elim
 |_::_,_,_,[],_,_,_,_,_,_,_,eF,_,_,_=>eF.elim
 |_::_,_,_,_::_,[],_,_,_,_,_,_,eF,_,_,_=>eF.elim
 |_::_,_,_,_::_,_::_,[],_,_,_,_,_,eF,_,_,_=>eF.elim
theorem bh.mono{w0:World}{F':Nat->Prop}(hF:∀b,F b->F' b):∀{ms:List Mode}{vs:List Value}{dm:List (DV U)}{ls:List (List Nat)},bh E w F w0 ms vs dm ls->bh E w F' w0 ms vs dm ls:=by
 intro ms
 induction ms with
 |nil=>intro vs dm ls h;cases vs<;>cases dm<;>cases ls<;>first|trivial|exact h.elim
 |cons m ms ih=>
  intro vs dm ls h
  cases m with
  |ro=>cases vs with
   |nil=>cases dm<;>cases ls<;>exact h.elim
   |cons v vs=>simp only[bh] at h⊢;exact ih h
  |mv=>cases vs with
   |nil=>cases dm<;>cases ls<;>exact h.elim
   |cons v vs=>simp only[bh] at h⊢;exact ih h
  |wr=>cases vs with
   |nil=>cases dm<;>cases ls<;>exact h.elim
   |cons v vs=>cases dm with
    |nil=>cases ls<;>exact h.elim
    |cons d dm=>cases d with
     |one c=>cases c with
      |lit _=>cases ls<;>exact h.elim
      |sl τ ys=>cases ls with
       |nil=>exact h.elim
       |cons l ls=>exact⟨aZ.any h.1,ih h.2⟩
     |agg cs=>cases ls with
       |nil=>exact h.elim
       |cons l ls=>exact⟨h.1.any,ih h.2⟩
     |box _=>cases ls<;>exact h.elim
     |ptr _=>cases ls<;>exact h.elim
     |fn _=>cases ls<;>exact h.elim
  |box own=>cases vs with
   |nil=>cases dm<;>cases ls<;>exact h.elim
   |cons v vs=>cases dm with
    |nil=>cases ls<;>exact h.elim
    |cons d dm=>cases d with
     |box cs=>cases ls with
       |nil=>exact h.elim
       |cons l ls=>exact⟨h.1.bx hF,ih h.2⟩
     |one _=>cases ls<;>exact h.elim
     |agg _=>cases ls<;>exact h.elim
     |ptr _=>cases ls<;>exact h.elim
     |fn _=>cases ls<;>exact h.elim
theorem sI:∀{ms:List Mode}{ds:List (DV U)}{vs:List Value}{ls:List (List Nat)},cA E w F ms ds vs ls->ic ms=true->ls.flatten=[]
 |[],[],[],[],_,_=>rfl
 |m::ms,d::ds,v::vs,l::ls,h,hr=>by
  simp only[ic,Cz,c9] at hr
  have h2:=sI h.2 hr.2
  have h1:l=[]:=by
   cases m with
   |ro=>cases d<;>first|exact h.1.2|(obtain⟨_,_,_,_,h⟩:=h.1;exact h)|exact h.1.elim
   |wr=>simp at hr
   |mv=>simp at hr
   |box _=>simp at hr
  simp[h1,h2]
 |[],_::_,_,_,h,_=>h.elim
 |[],[],_::_,_,h,_=>h.elim
 |[],[],[],_::_,h,_=>h.elim
 |_::_,[],_,_,h,_=>h.elim
 |_::_,_::_,[],_,h,_=>h.elim
 |_::_,_::_,_::_,[],h,_=>h.elim
inductive Bd:U.C->Prop
 |lit (v:Value) (h:bD v):Bd (.lit v)
 |sl (τ:U.Ty) (xs:List (U.T τ)) (hl:xs.length<=maxLen) (h:∀(i:Nat)(x:U.T τ)(j:Nat)(c:U.C),xs[i]? =some x->(U.enc τ x)[j]? =some c->Bd c):Bd (.sl τ xs)
theorem Rp.bd{m:Bool}{c:U.C}{v:Value}{l:List Nat}(h:Rp E w F m c v l):Bd c:=by
 induction h with
 |lit m v h=>exact .lit v h
 |nil m τ a c h=>exact .sl τ [] (by simp) (fun i x j c hx=>by simp at hx)
 |shr τ xs b off cap vs uh hc hm hv hr ih=>exact .sl τ xs hm ih
 |own τ xs b cap cur vs bM hb hc hm hs hv hr ih=>exact .sl τ xs (tg hc hm) ih
def gQ:DV U->Prop
 | .one c=>Bd c
 | .agg cs=>∀c∈cs,Bd c
 | .box cs=>∀c∈cs,Bd c
 | .ptr cs=>∀c∈cs,Bd c
 | .fn _=>True
theorem pF{cs:List U.C}(hh:∀(i:Nat)(c:U.C),cs[i]? =some c->Bd c):∀c∈cs,Bd c:=by
 intro c hc
 obtain⟨i,hi,rfl⟩:=nJ hc
 exact hh i _ (cF hi)
theorem ee.bd{cs:List U.C}{v:Value}{l:List Nat}(h:ee E w F cs v l):∀c∈cs,Bd c:=by
 obtain⟨vs,fl,_,_,_,h4,_⟩:=h
 exact pF fun i c hc=>(h4 i c hc).bd
theorem eo.bd{m:Mode}{d:DV U}{v:Value}{l:List Nat}(h:eo E w F m d v l):gQ d:=by
 cases m with
 |ro=>
  cases d with
  |one c=>exact h.1.bd
  |agg cs=>obtain⟨vs,_,_,h3,_⟩:=h;exact pF fun i c hc=>(h3 i c hc).bd
  |ptr cs=>
   obtain⟨⟨b,o,_,_,h3⟩,_⟩:=h
   exact pF fun i c hc=>by obtain⟨u,_,h5⟩:=h3 i c hc;exact h5.bd
  |fn _=>trivial
  |box _=>exact h.elim
 |wr=>
  cases d with
  |one c=>
   cases c with
   |lit _=>exact h.elim
   |sl τ xs=>exact(h.dy (F':=fun _=>True) (fun _ _=>trivial) (fun _ _=>trivial)).bd
  |agg _=>exact ee.bd h
  |box _=>exact h.elim
  |ptr _=>exact h.elim
  |fn _=>exact h.elim
 |mv=>
  cases d with
  |one c=>exact Rp.bd h
  |agg _=>exact ee.bd h
  |box _=>exact h.elim
  |ptr _=>exact h.elim
  |fn _=>exact h.elim
 |box own=>
  cases d with
  |box cs=>obtain⟨b,cur,e,fl,_,_,_,_,_,_,h7,_⟩:=h;exact pF fun i c hc=>(h7 i c hc).bd
  |one _=>exact h.elim
  |agg _=>exact h.elim
  |ptr _=>exact h.elim
  |fn _=>exact h.elim
theorem cA.bd:∀{ms:List Mode}{ds:List (DV U)}{vs:List Value}{ls:List (List Nat)},cA E w F ms ds vs ls->∀d∈ds,gQ d
 |[],[],[],[],_,d,hd=>by simp at hd
 |m::ms,d0::ds,v::vs,l::ls,h,d,hd=>by
  rcases dJ.1 hd with rfl|hd
  ·exact h.1.bd
  ·exact cA.bd h.2 d hd
 |[],_::_,_,_,h,_,_=>h.elim
 |[],[],_::_,_,h,_,_=>h.elim
 |[],[],[],_::_,h,_,_=>h.elim
 |_::_,[],_,_,h,_,_=>h.elim
 |_::_,_::_,[],_,h,_,_=>h.elim
 |_::_,_::_,_::_,[],h,_,_=>h.elim
theorem lr(hE:E.Good){f:FuncId}{fn:Func}{c:Code}(hf:E.P.funcs[f]? =some fn)(hb:fn.body=some c)(k:eg U)(Cb:k.md.length<=fn.ntmps)(jf:fn.ntmps<=1000000)(hM:gw k.md=true\/k.qu=0)
  (hw:∀x,(∀p∈k.pre x,p)->(∀d∈k.ds x,gQ d)->∀rest,(k.md.any dl=true->rest.length=k.qu)->(k.md.any dl=false->rest=[])->
   ∀vs:List Value,vs.length=k.md.length->∃τ,(∀{pm:Pm}{F:Nat->Prop}{kv:Key->Value}{fp:Key->List Nat}{a:Act}{w:World},aE E pm F kv fp (entry rest fn.ntmps k.md (k.ds x)) a w->(∀i,i<vs.length->a.tmps.getD i undef=vs.getD i undef)->aE E pm F kv fp τ a w)/\
    M6 E c τ (leave E fn.results.toList fn.resultTypes.toList rest fn.params.toList k.md (k.ds x) (k.fZ x))):aV E f k:=by
 intro x r_ w F vs ls hF nS eF AU fc vE
 obtain⟨l1,l2,l3⟩:=eF.len
 refine calls_of_wp hf hb ?_
 obtain⟨rest,Ky,Nz,Nm⟩:∃rest:List Value,(k.md.any dl=true->rest.length=k.qu)/\gm w rest k.md (k.ds x) vs/\(k.md.any dl=false->rest=[]):=by
  rcases hM with hM|hM
  ·exact⟨iJ w k.md (k.ds x) vs,fun h=>Ds eF AU hM h,El hM,fun h=>Dr h⟩
  ·rw[hM] at AU
   exact⟨[],fun _=>hM.symm,Ek AU,fun _=>rfl⟩
 obtain⟨qQ,yd,h0,AZ⟩:=Jx (n:=fn.ntmps) (rest:=rest) hF nS eF Nz fc vE Cb jf
 have b9:(vs.toArray).size=vs.length:=by simp
 rw[b9]
 have EX:∀{kv:Key->Value},(∀i j,j<1024->kv (2000000+i,j)=qQ (2000000+i,j))->∀{i:Nat}{ms:List Mode}{ds:List (DV U)}{vs:List Value}{ls:List (List Nat)}{mu:List Prop×List (DV U)×List Key}{σ:aa U}{ws:List (List (Option U.Ty))},lH qQ i ms ds vs->hX σ rest i ws ms ds=some mu->lH kv i ms ds vs:=by
  intro kv hk i ms
  induction ms generalizing i with
  |nil=>intro ds vs ls mu σ ws _ _;cases ds<;>trivial
  |cons m ms ih=>
   intro ds vs ls mu σ ws hp KY
   cases ds with
   |nil=>trivial
   |cons d ds=>
    cases vs with
    |nil=>trivial
    |cons v vs=>
     simp only[hX] at KY
     split at KY
     ·rename_i h1 h2
      refine⟨?_,ih (ls:=[]) hp.2 h2⟩
      have mZ:=hp.1
      cases m with
      |ro=>trivial
      |mv=>trivial
      |box own=>
       cases d with
       |box cs=>exact(hk i 0 (by decide)).trans mZ
       |one _=>trivial
       |agg _=>trivial
       |ptr _=>trivial
       |fn _=>trivial
      |wr=>
       cases d with
       |one c=>exact(hk i 0 (by decide)).trans mZ
       |agg cs=>
        simp only[px] at h1
        rw[bV] at h1
        split at h1
        ·rename_i hlen
         rw[wC] at hlen
         obtain⟨us,q1,q2,q3,q4⟩:=mZ
         refine⟨us,q1,q2,fun j τ xs hj=> ?_,q4⟩
         have GU:j<cs.length:=by
          rcases fA j cs.length with g|g
          ·exact g
          ·rw[fb g] at hj;cases hj
         exact(hk i j (by omega)).trans (q3 j τ xs hj)
        ·cases h1
       |box _=>trivial
       |ptr _=>trivial
       |fn _=>trivial
     ·cases KY
 have key:∀(σ:aa U),fin E fn.results.toList fn.resultTypes.toList rest fn.params.toList k.md (k.ds x) (k.fZ x) σ->∀F1 kv fp a' w',aE E (u2 w F qQ ls) F1 kv fp σ a' w'->a'.defers=[]/\∃v,(results fn a'.tmps).run E.P w'=.ok v w'/\∃(us:List Value)(dz bL:List (List Nat)),Ending.returned v=.returned (oN us)/\bB (·∈ls.flatten) w w'/\
   dH E w' (fJ F w w' (dz.flatten++bL.flatten) ls.flatten) (k.fZ x).fresh (k.fZ x).val us dz/\
   bh E w' (fJ F w w' (dz.flatten++bL.flatten) ls.flatten) w k.md vs (k.fZ x).rX bL/\
   (dz.flatten++bL.flatten).Nodup/\(∀b∈dz.flatten,(b∈ls.flatten\/w.heap.size<=b)/\b<w'.heap.size)/\(∀b∈bL.flatten,b∈ls.flatten\/(w.heap.size<=b/\b<w'.heap.size)):=by
  intro σ iu F1 kv fp a' w' l_
  refine⟨l_.defers,?_⟩
  have hs:aE E (u2 w F qQ ls) F1 kv fp (cI σ) a' w':=oQ l_ _
  unfold fin at iu
  split at iu
  ·rename_i ps ds ks qs mu ks' ho hm
   rw[bV] at iu
   split at iu
   ·rename_i hc
    simp only[c9,qi,l6] at hc
    obtain⟨⟨c1,c3⟩,c5⟩:=hc
    obtain⟨hp,rfl,rfl⟩:=Eh.1 iu
    obtain⟨d1,d2,d3⟩:=JF c1
    have KQ:∀i j,j<1024->kv (2000000+i,j)=qQ (2000000+i,j):=fun i j hj=>(hs.sL (2000000+i,j) (qQ (2000000+i,j)) (by simp[u2,hj])).2.2.2
    obtain⟨bL,m1,m2,m3,m4,_⟩:=D3 hs hm (fun p dj=>hp p (by simp[dj])) eF Nz (EX KQ (ls:=[]) AZ hm) (iL.1 d2)
    have kw:∀{k':Key}{b:Nat},((cI σ).aw k').isSome=true->b∈fp k'->¬F1 b/\(b∈ls.flatten\/w.heap.size<=b)/\b<w'.heap.size:=by
     intro k' b aG hb
     obtain⟨e,he⟩:=eD.1 aG
     exact hs.bt k' e b he hb
    have y5:∀b∈bL.flatten,b∈ls.flatten\/(w.heap.size<=b/\b<w'.heap.size):=by
     intro b hb
     obtain⟨k',aG,hb⟩:=m3 b hb
     have:=kw (m4 k' aG) hb
     rcases this.2.1 with g|g
     ·exact .inl g
     ·exact .inr ⟨g,this.2.2⟩
    have hG:∀own:List Nat,(∀b∈own,¬F1 b)->∀b,F1 b->fJ F w w' own ls.flatten b:=fun own ho b hb=>by
     rcases hs.iy b hb with g|g|g
     ·exact .inl g
     ·exact .inr ⟨.inr g,hs.iz b hb,fun Ck=>ho b Ck hb⟩
     ·exact .inr ⟨.inl g,hs.iz b hb,fun Ck=>ho b Ck hb⟩
    obtain⟨us,dz,o1,o2,o3,o4,o5⟩:=Io hs ho (fun p dj=>hp p (by simp[dj])) (iL.1 d1)
    have NB:=hG (dz.flatten++bL.flatten) fun b Ck=>by
     rcases cY.1 Ck with g|g
     ·obtain⟨k',aG,g⟩:=o4 b g;exact(kw (o5 k' aG) g).1
     ·obtain⟨k',aG,g⟩:=m3 b g;exact(kw (m4 k' aG) g).1
    refine⟨_,Ie o1,_,dz,bL,rfl,hs.upto,o2 _ NB (fun k' e b OI he hb=> ?_),m1.mono NB,?_,fun b hb=> ?_,y5⟩
    ·have:=kw (by rw[he];rfl) hb
     refine .inr ⟨this.2.1.symm,this.2.2,fun Cl=> ?_⟩
     have uy:∀k2 e2,k2∈ks++ks'->(cI σ).aw k2=some e2->b∉fp k2:=fun k2 e2 eH iw il=>by
      refine hs.apart k' k2 e e2 b (fun e=> ?_) he iw hb il
      have:meet (fY E (cI σ) (k.fZ x).fresh fn.results.toList) (ks++ks')=true:=jI.2 ⟨k',OI,gX.2 (by rw[e];exact eH)⟩
      rw[c3] at this;cases this
     rcases cY.1 Cl with g|g
     ·obtain⟨k2,eH,il⟩:=o4 b g
      obtain⟨e2,iw⟩:=eD.1 (o5 k2 eH)
      exact uy k2 e2 (fV _ eH) iw il
     ·obtain⟨k2,eH,il⟩:=m3 b g
      obtain⟨e2,iw⟩:=eD.1 (m4 k2 eH)
      exact uy k2 e2 (fD _ eH) iw il
    ·rw[gz]
     refine⟨o3,m2,fun b hb c hc e=> ?_⟩
     subst e
     obtain⟨k1,ll,hM⟩:=o4 b hb
     obtain⟨k2,eH,il⟩:=m3 b hc
     obtain⟨e1,Br⟩:=eD.1 (o5 k1 ll)
     obtain⟨e2,iw⟩:=eD.1 (m4 k2 eH)
     exact hs.apart k1 k2 e1 e2 b (fun e=>d3 k1 ll (by rw[e];exact eH)) Br iw hM il
    ·obtain⟨k',aG,hb⟩:=o4 b hb
     exact(kw (o5 k' aG) hb).2
   ·exact iu.elim
  ·exact iu.elim
 obtain⟨τ,rC,GO⟩:=hw x r_ eF.bd rest Ky Nm vs (by omega)
 refine GO (rC h0 (fun i hi=>by simp[Array.getD,cB,hi,BZ hi (Nat.le_add_right _ _)])) (fun o ho F1 kv fp a' w' hs=> ?_)
 cases o with
 |normal σ=>exact key σ ho F1 kv fp a' w' hs
 |ret σ=>exact key σ ho F1 kv fp a' w' hs
 |exit id σ=>exact ho.elim
theorem Jk(hE:E.Good){f:FuncId}{fn:Func}{c:Code}(hf:E.P.funcs[f]? =some fn)(hb:fn.body=some c)(k:eg U)(fa:k.α->Nat->Option (iC U))(Cb:k.md.length<=fn.ntmps)(jf:fn.ntmps<=1000000)(hM:gw k.md=true\/k.qu=0)
  (hw:∀x,(∀p∈k.pre x,p)->(∀d∈k.ds x,gQ d)->∀rest,(k.md.any dl=true->rest.length=k.qu)->(k.md.any dl=false->rest=[])->
   AM.wp E (fa x) c (entry rest fn.ntmps k.md (k.ds x)) (leave E fn.results.toList fn.resultTypes.toList rest fn.params.toList k.md (k.ds x) (k.fZ x))):aV E f k:=
 lr hE hf hb k Cb jf hM fun x hp hd rest hr hn _ _=>⟨_,fun h _=>h,rL hE (hw x hp hd rest hr hn)⟩
theorem aE.over{F:Nat->Prop}{kv:Key->Value}{fp:Key->List Nat}{σ:aa U}{a:Act}{w:World}{pm:Pm}(h:aE E pm F kv fp σ a w)(s:Nat)(x:SV U)(hx:RS E w F kv fp (ay σ) x (a.tmps.getD s undef)):
  aE E pm F kv fp {σ with au:=(s,some x)::σ.au} a w:=by
 refine{h with au:=fun t y hy=> ?_}
 unfold aa.get at hy
 simp only[look] at hy
 cases hb:Nat.beq s t<;>rw[hb] at hy<;>simp only[cond_true,cond_false] at hy
 ·exact h.au t y hy
 ·cases hy
  rw[<-eI hb]
  exact hx
def pz(n:Nat)(b:Bool)(τ:U.Ty)(xs:List (U.T τ)):aa U:={entry [] n [.ro] [.one (.sl τ xs)] with au:=(0,some (one (.kn b τ xs)))::(entry [] n [.ro] [.one (.sl τ xs)]).au}
theorem Jj(hE:E.Good){f:FuncId}{fn:Func}{c:Code}(hf:E.P.funcs[f]? =some fn)(hb:fn.body=some c)(k:eg U)(fa:k.α->Nat->Option (iC U))(Cb:k.md.length<=fn.ntmps)(jf:fn.ntmps<=1000000)(hM:gw k.md=true\/k.qu=0)
  (A6:k.md=[.ro]) (τ:U.Ty) (xs:k.α->List (U.T τ)) (po:∀x,k.ds x=[.one (.sl τ (xs x))])
  (hw:∀x,(∀p∈k.pre x,p)->(∀d∈k.ds x,gQ d)->∀b:Bool,(b=true->xs x=[])->
   AM.wp E (fa x) c (pz fn.ntmps b τ (xs x)) (leave E fn.results.toList fn.resultTypes.toList [] fn.params.toList k.md (k.ds x) (k.fZ x))):aV E f k:=by
 refine lr hE hf hb k Cb jf hM fun x hp hd rest hr hn vs oc=> ?_
 have kt:rest=[]:=hn (by rw[A6];rfl)
 subst kt
 have oc:0<vs.length:=by rw[oc,A6];decide
 by_cases hv:iP (vs.getD 0 undef)=true->xs x=[]
 ·refine⟨pz fn.ntmps (iP (vs.getD 0 undef)) τ (xs x),fun{pm F kv fp a w} h ha=> ?_,rL hE (hw x hp hd _ hv)⟩
  rw[A6,po] at h
  have h0:=h.au 0 (one (.c (.sl τ (xs x)))) rfl
  have h1:Rp E w F false (.sl τ (xs x)) (a.tmps.getD 0 undef) []:=aA (du h0 rfl) rfl
  rw[ha 0 oc] at h1
  have h2:=h.over 0 (one (.kn (iP (vs.getD 0 undef)) τ (xs x))) (bY (x:=.kn (iP (vs.getD 0 undef)) τ (xs x)) (by rw[ha 0 oc];exact⟨by rw[<-ha 0 oc];exact(du (h.au 0 (one (.c (.sl τ (xs x)))) rfl) rfl).1,.inr ⟨h1,rfl⟩⟩))
  exact h2
 ·refine⟨pz fn.ntmps false τ (xs x),fun{pm F kv fp a w} h ha=> ?_,rL hE (hw x hp hd _ (by simp))⟩
  rw[A6,po] at h
  have h0:=h.au 0 (one (.c (.sl τ (xs x)))) rfl
  have h1:Rp E w F false (.sl τ (xs x)) (a.tmps.getD 0 undef) []:=aA (du h0 rfl) rfl
  rw[ha 0 oc] at h1
  refine absurd (fun hn=> ?_) hv
  rcases h1.inv with⟨h3,_⟩|⟨b,off,cap,jJ,h3,_⟩
  ·exact h3
  ·rw[h3] at hn;simp[iP] at hn
end
theorem Rp.env{E E':Env U}(ht:E'.tid=E.tid){w:World}{F:Nat->Prop}{m:Bool}{c:U.C}{v:Value}{l:List Nat}(h:Rp E w F m c v l):Rp E' w F m c v l:=by
 induction h with
 |lit m v h=>exact .lit m v h
 |nil m τ a c h=>exact .nil m τ a c h
 |shr τ xs b off cap vs uh hc hm hv hr ih=>exact .shr τ xs b off cap vs uh hc hm hv ih
 |own τ xs b cap cur vs bM hb hc hm hs hv hr ih=>exact .own τ xs b cap cur vs bM (by rw[ht];exact hb) hc hm hs hv ih
section
variable{E E':Env U}{w:World}{F:Nat->Prop}
theorem aZ.env(ht:E'.tid=E.tid){d:Bool}{a:fx U}{v:Value}{l:List Nat}(h:aZ E w F d a v l):aZ E' w F d a v l:=by
 rcases h with h|⟨b,cap,cur,vs,bM,h1,h2,h3,h4,h5,h6,h7,h8⟩
 ·exact .inl h
 ·exact .inr ⟨b,cap,cur,vs,bM,h1,by rw[ht];exact h2,h3,h4,h5,h6,fun i x j c hx hj=>(h7 i x j c hx hj).env ht,h8⟩
theorem gP.env(ht:E'.tid=E.tid){own:Bool}{cs:List U.C}{rest:List Value}{v:Value}{l:List Nat}(h:gP E w F own cs rest v l):gP E' w F own cs rest v l:=by
 obtain⟨b,cur,e,fl,h1,h2,h3,h4,h5,h6,h7,h8⟩:=h
 exact⟨b,cur,e,fl,h1,h2,h3,h4,h5,h6,fun i c hc=>(h7 i c hc).env ht,h8⟩
theorem ee.env(ht:E'.tid=E.tid){cs:List U.C}{v:Value}{l:List Nat}(h:ee E w F cs v l):ee E' w F cs v l:=by
 obtain⟨vs,fl,h1,h2,h3,h4,h5⟩:=h
 exact⟨vs,fl,h1,h2,h3,fun i c hc=>(h4 i c hc).env ht,h5⟩
theorem Cs.env(ht:E'.tid=E.tid){d:DA U}{v:Value}(h:Cs E w F d v):Cs E' w F d v:=by
 obtain⟨vs,h1,h2,h3⟩:=h
 exact⟨vs,h1,fun i c hc=>(h2 i c hc).env ht,h3⟩
theorem eU.env(hP:E'.P=E.P)(ht:E'.tid=E.tid){p:List (DA U)->Option Value}{v:Value}(h:eU E w F p v):eU E' w F p v:=by
 obtain⟨g,h_,h1,h2,h3⟩:=h
 refine⟨g,h_,h1,by rw[hP];exact h2,fun ds r hr w' F' h4 h5 vs h6=> ?_⟩
 rw[hP]
 exact h3 ds r hr w' F' h4 h5 vs ⟨h6.1,fun i d v hd hv=>(h6.2 i d v hd hv).env ht.symm⟩
theorem eo.env(hP:E'.P=E.P)(ht:E'.tid=E.tid){m:Mode}{d:DV U}{v:Value}{l:List Nat}(h:eo E w F m d v l):eo E' w F m d v l:=by
 cases m with
 |ro=>
  cases d with
  |one c=>exact⟨h.1.env ht,h.2⟩
  |agg cs=>obtain⟨vs,h1,h2,h3,h4⟩:=h;exact⟨vs,h1,h2,fun i c hc=>(h3 i c hc).env ht,h4⟩
  |ptr cs=>
   obtain⟨⟨b,o,h1,h2,h3⟩,h4⟩:=h
   exact⟨⟨b,o,h1,h2,fun i c hc=>by obtain⟨u,g1,g2⟩:=h3 i c hc;exact⟨u,g1,g2.env ht⟩⟩,h4⟩
  |fn _=>exact⟨h.1.env hP ht,h.2⟩
  |box _=>exact h.elim
 |wr=>
  cases d with
  |one c=>cases c with
   |lit _=>exact h.elim
   |sl τ xs=>exact aZ.env ht h
  |agg _=>exact ee.env ht h
  |box _=>exact h.elim
  |ptr _=>exact h.elim
  |fn _=>exact h.elim
 |mv=>
  cases d with
  |one c=>exact Rp.env ht h
  |agg _=>exact ee.env ht h
  |box _=>exact h.elim
  |ptr _=>exact h.elim
  |fn _=>exact h.elim
 |box own=>
  cases d with
  |box cs=>exact gP.env ht h
  |one _=>exact h.elim
  |agg _=>exact h.elim
  |ptr _=>exact h.elim
  |fn _=>exact h.elim
theorem cA.env(hP:E'.P=E.P)(ht:E'.tid=E.tid):∀{ms:List Mode}{ds:List (DV U)}{vs:List Value}{ls:List (List Nat)},cA E w F ms ds vs ls->cA E' w F ms ds vs ls
 |[],[],[],[],_=>trivial
 |m::ms,d0::ds,v::vs,l::ls,h=>⟨h.1.env hP ht,cA.env hP ht h.2⟩
 |[],_::_,_,_,h=>h.elim
 |[],[],_::_,_,h=>h.elim
 |[],[],[],_::_,h=>h.elim
 |_::_,[],_,_,h=>h.elim
 |_::_,_::_,[],_,h=>h.elim
 |_::_,_::_,_::_,[],h=>h.elim
theorem dk.env(ht:E'.tid=E.tid){fresh:Bool}{d:DV U}{v:Value}{l:List Nat}(h:dk E w F fresh d v l):dk E' w F fresh d v l:=by
 cases d with
 |ptr _=>exact h
 |fn _=>exact h
 |one c=>cases fresh with
  |true=>exact Rp.env ht h
  |false=>exact⟨h.1.env ht,h.2⟩
 |agg cs=>cases fresh with
  |true=>exact ee.env ht h
  |false=>obtain⟨vs,h1,h2,h3,h4⟩:=h;exact⟨vs,h1,h2,fun i c hc=>(h3 i c hc).env ht,h4⟩
 |box cs=>obtain⟨g,b,cur,e,h1,h2,h3,h4,h5⟩:=h;exact⟨g,b,cur,e,h1,h2,h3,h4,fun i c hc=>(h5 i c hc).env ht⟩
theorem dH.env(ht:E'.tid=E.tid):∀{fs:List Bool}{ds:List (DV U)}{us:List Value}{ls:List (List Nat)},dH E w F fs ds us ls->dH E' w F fs ds us ls
 |_,[],[],[],_=>trivial
 |_,d::ds,u::us,l::ls,h=>⟨h.1.env ht,dH.env ht h.2⟩
 |_,[],_::_,_,h=>h.elim
 |_,[],[],_::_,h=>h.elim
 |_,_::_,[],_,h=>h.elim
 |_,_::_,_::_,[],h=>h.elim
theorem bh.env(ht:E'.tid=E.tid){w0:World}:∀{ms:List Mode}{vs:List Value}{dm:List (DV U)}{ls:List (List Nat)},bh E w F w0 ms vs dm ls->bh E' w F w0 ms vs dm ls:=by
 intro ms
 induction ms with
 |nil=>intro vs dm ls h;cases vs<;>cases dm<;>cases ls<;>first|trivial|exact h.elim
 |cons m ms ih=>
  intro vs dm ls h
  cases m with
  |ro=>cases vs with
   |nil=>cases dm<;>cases ls<;>exact h.elim
   |cons v vs=>simp only[bh] at h⊢;exact ih h
  |mv=>cases vs with
   |nil=>cases dm<;>cases ls<;>exact h.elim
   |cons v vs=>simp only[bh] at h⊢;exact ih h
  |wr=>cases vs with
   |nil=>cases dm<;>cases ls<;>exact h.elim
   |cons v vs=>cases dm with
    |nil=>cases ls<;>exact h.elim
    |cons d dm=>cases d with
     |one c=>cases c with
      |lit _=>cases ls<;>exact h.elim
      |sl τ ys=>cases ls with
       |nil=>exact h.elim
       |cons l ls=>exact⟨h.1.env ht,ih h.2⟩
     |agg cs=>cases ls with
       |nil=>exact h.elim
       |cons l ls=>exact⟨h.1.env ht,ih h.2⟩
     |box _=>cases ls<;>exact h.elim
     |ptr _=>cases ls<;>exact h.elim
     |fn _=>cases ls<;>exact h.elim
  |box own=>cases vs with
   |nil=>cases dm<;>cases ls<;>exact h.elim
   |cons v vs=>cases dm with
    |nil=>cases ls<;>exact h.elim
    |cons d dm=>cases d with
     |box cs=>cases ls with
       |nil=>exact h.elim
       |cons l ls=>exact⟨h.1.env ht,ih h.2⟩
     |one _=>cases ls<;>exact h.elim
     |agg _=>cases ls<;>exact h.elim
     |ptr _=>cases ls<;>exact h.elim
     |fn _=>cases ls<;>exact h.elim
end
theorem aV.env{E E':Env U}(hP:E'.P=E.P)(ht:E'.tid=E.tid)(hT:E'.zC=E.zC){f:FuncId}{k:eg U}(h:aV E f k):aV E' f k:=by
 intro x hp w F vs ls h1 hL h2 r9 h3 h4
 have:=h x hp w F vs ls h1 (by unfold wP;rw[<-hT];exact hL) (h2.env hP.symm ht.symm) r9 h3 h4
 rw[hP]
 refine this.mono ?_
 rintro e w' ⟨us,dz,bL,g1,g2,g3,g4,g5⟩
 exact⟨us,dz,bL,g1,g2,g3.env ht,g4.env ht,g5⟩
def rl:List (FuncId×eg U)->FuncId->Option (eg U)
 |[],_=>none
 |(g,k)::r,f=>bif Nat.beq g f then some k else rl r f
def pB:List (FuncId×eg U)->FuncId->Option (eg U)
 |[],_=>none
 |(g,k)::r,f=>bif Nat.beq g f then rl r f else pB r f
def Env.add(E:Env U)(l:List (FuncId×eg U)):Env U:={E with ul:=rl l,uk:=pB l}
def ef(E:Env U)(p:FuncId×eg U):Prop:=kM E.P p.1/\aV E p.1 p.2
theorem xk{E:Env U}(hE:E.Ok){l:List (FuncId×eg U)}(h:∀p∈l,ef E p):(E.add l).Good:=by
 have one:∀{f:FuncId}{k:eg U}{l:List (FuncId×eg U)},rl l f=some k->(f,k)∈l:=by
  intro f k l
  induction l with
  |nil=>intro h;cases h
  |cons p l ih=>
   obtain⟨g,k'⟩:=p
   intro h
   simp only[rl] at h
   cases hb:Nat.beq g f<;>rw[hb] at h<;>simp only[cond_true,cond_false] at h
   ·exact d_ _ (ih h)
   ·cases h
    rw[eI hb]
    exact gp
 have two:∀{f:FuncId}{k:eg U}{l:List (FuncId×eg U)},pB l f=some k->(f,k)∈l:=by
  intro f k l
  induction l with
  |nil=>intro h;cases h
  |cons p l ih=>
   obtain⟨g,k'⟩:=p
   intro h
   simp only[pB] at h
   cases hb:Nat.beq g f<;>rw[hb] at h<;>simp only[cond_true,cond_false] at h
   ·exact d_ _ (ih h)
   ·exact d_ _ (one h)
 have go:∀{f:FuncId}{k:eg U},(f,k)∈l->kM (E.add l).P f/\aV (E.add l) f k:=fun hm=>⟨(h _ hm).1,aV.env (E:=E) (E':=E.add l) rfl rfl rfl (h _ hm).2⟩
 exact⟨⟨hE.code,hE.mixed⟩,fun f k hk=>go (one hk),fun f k hk=>go (two hk)⟩
def eQ(fn:Func):Code:=match fn.body with|some c=>c|none=> .skip
def v5(rest:List Value)(E:Env U)(l:List (FuncId×eg U))(fn:Func)(k:eg U)(fa:k.α->Nat->Option (iC U))(x:k.α):Prop:=
 AM.wp (E.add l) (fa x) (eQ fn) (entry rest fn.ntmps k.md (k.ds x)) (leave (E.add l) fn.results.toList fn.resultTypes.toList rest fn.params.toList k.md (k.ds x) (k.fZ x))
def Fy(E:Env U)(l:List (FuncId×eg U))(fn:Func)(k:eg U)(fa:k.α->Nat->Option (iC U))(x:k.α):Prop:=v5 [] E l fn k fa x
def mR(P:Program)(f:FuncId)(fn:Func)(ms:List Mode):Bool:=
 fn.body.isSome&& !(fn.name== "runtime.NumGoroutine")&&Nat.ble ms.length fn.ntmps&&Nat.ble fn.ntmps 1000000
theorem DR{E:Env U}(hE:E.Ok){f:FuncId}{fn:Func}(hf:E.P.funcs[f]? =some fn)(k:eg U)(hc:mR E.P f fn k.md=true)(l:List (FuncId×eg U))(hl:∀p∈l,ef E p)
  (fa:k.α->Nat->Option (iC U)) (hw:∀x,(∀p∈k.pre x,p)->(∀d∈k.ds x,gQ d)->∀rest,(k.md.any dl=true->rest.length=k.qu)->(k.md.any dl=false->rest=[])->v5 rest E l fn k fa x) (hM:gw k.md=true\/k.qu=0):ef E (f,k):=by
 unfold mR at hc
 simp only[c9,l6,wC] at hc
 obtain⟨⟨⟨c1,c2⟩,c3⟩,c4⟩:=hc
 refine⟨⟨fn,hf,c1,c2⟩,?_⟩
 have hb:fn.body=some (eQ fn):=by
  unfold eQ
  cases h:fn.body with
  |none=>rw[h] at c1;cases c1
  |some c=>rfl
 have:=Jk (E:=E.add l) (xk hE hl) hf hb k fa c3 c4 hM hw
 exact aV.env (E:=E.add l) (E':=E) rfl rfl rfl this
theorem holds_of{E:Env U}(hE:E.Ok){f:FuncId}{fn:Func}(hf:E.P.funcs[f]? =some fn)(k:eg U)(hc:mR E.P f fn k.md=true)(l:List (FuncId×eg U))(hl:∀p∈l,ef E p)
  (fa:k.α->Nat->Option (iC U)) (hw:∀x,(∀p∈k.pre x,p)->(∀d∈k.ds x,gQ d)->Fy E l fn k fa x) (h0:k.qu=0:=by rfl):ef E (f,k):=
 DR hE hf k hc l hl fa (fun x hp hb rest hr hn=>by
  have e:rest=[]:=by
   cases x8:k.md.any dl with
   |false=>exact hn x8
   |true=>exact qk ((hr x8).trans h0)
  rw[e];exact hw x hp hb) (.inr h0)
theorem B'{E:Env U}(hE:E.Ok){f:FuncId}{fn:Func}(hf:E.P.funcs[f]? =some fn)(k:eg U)(hc:mR E.P f fn k.md=true)(x8:k.md.any dl=true)(l:List (FuncId×eg U))(hl:∀p∈l,ef E p)
  (fa:k.α->Nat->Option (iC U)) (hw:∀x,(∀p∈k.pre x,p)->(∀d∈k.ds x,gQ d)->∀rest:List Value,rest.length=k.qu->v5 rest E l fn k fa x) (hM:gw k.md=true:=by rfl):ef E (f,k):=
 DR hE hf k hc l hl fa (fun x hp hb rest hr _=>hw x hp hb rest (hr x8)) (.inl hM)
def sW(E:Env U)(l:List (FuncId×eg U))(fn:Func)(k:eg U)(fa:k.α->Nat->Option (iC U))(x:k.α)(τ:U.Ty)(xs:List (U.T τ))(b:Bool):Prop:=
 AM.wp (E.add l) (fa x) (eQ fn) (pz fn.ntmps b τ xs) (leave (E.add l) fn.results.toList fn.resultTypes.toList [] fn.params.toList k.md (k.ds x) (k.fZ x))
theorem tS{E:Env U}(hE:E.Ok){f:FuncId}{fn:Func}(hf:E.P.funcs[f]? =some fn)(k:eg U)(hc:mR E.P f fn k.md=true)(A6:k.md=[.ro])(τ:U.Ty)(xs:k.α->List (U.T τ))(po:∀x,k.ds x=[.one (.sl τ (xs x))])
  (l:List (FuncId×eg U)) (hl:∀p∈l,ef E p)
  (fa:k.α->Nat->Option (iC U)) (hw:∀x,(∀p∈k.pre x,p)->(∀d∈k.ds x,gQ d)->sW E l fn k fa x τ (xs x) false/\(xs x=[]->sW E l fn k fa x τ (xs x) true)):ef E (f,k):=by
 unfold mR at hc
 simp only[c9,l6,wC] at hc
 obtain⟨⟨⟨c1,c2⟩,c3⟩,c4⟩:=hc
 refine⟨⟨fn,hf,c1,c2⟩,?_⟩
 have hb:fn.body=some (eQ fn):=by
  unfold eQ
  cases h:fn.body with
  |none=>rw[h] at c1;cases c1
  |some c=>rfl
 have:=Jj (E:=E.add l) (xk hE hl) hf hb k fa c3 c4 (.inl (by rw[A6];rfl)) A6 τ xs po (fun x hp hd b hb=>by
  cases b with
  |false=>exact(hw x hp hd).1
  |true=>exact(hw x hp hd).2 (hb rfl))
 exact aV.env (E:=E.add l) (E':=E) rfl rfl rfl this
def pt(E:Env U)(l:List (FuncId×eg U))(fn:Func)(k:eg U)(fa:k.α->Nat->Option (iC U))(x:k.α)(r:Nat)(A:iC U):Prop:=
 AM.wp (E.add l) (fa x) (BP r (eQ fn)) (entry [] fn.ntmps k.md (k.ds x)) (FI A (leave (E.add l) fn.results.toList fn.resultTypes.toList [] fn.params.toList k.md (k.ds x) (k.fZ x)))
def nc(E:Env U)(l:List (FuncId×eg U))(fn:Func)(k:eg U)(fa:k.α->Nat->Option (iC U))(x:k.α)(r:Nat)(A:iC U)(y:A.X):Prop:=
 AM.wp (E.add l) (fa x) (BO r (eQ fn)) (dZ A [] ⟨fn.ntmps,[],[],[]⟩ y) (leave (E.add l) fn.results.toList fn.resultTypes.toList [] fn.params.toList k.md (k.ds x) (k.fZ x))
theorem tT{E:Env U}(hE:E.Ok){f:FuncId}{fn:Func}(hf:E.P.funcs[f]? =some fn)(k:eg U)(hc:mR E.P f fn k.md=true)(l:List (FuncId×eg U))(hl:∀p∈l,ef E p)
  (fa:k.α->Nat->Option (iC U)) (r:Nat) (A:k.α->iC U) (hr:(uj r (eQ fn)).isSome=true)
  (hw:∀x,(∀p∈k.pre x,p)->(∀d∈k.ds x,gQ d)->pt E l fn k fa x r (A x)/\∀y,(A x).I y y->nc E l fn k fa x r (A x) y) (h0:k.qu=0:=by rfl):ef E (f,k):=by
 unfold mR at hc
 simp only[c9,l6,wC] at hc
 obtain⟨⟨⟨c1,c2⟩,c3⟩,c4⟩:=hc
 refine⟨⟨fn,hf,c1,c2⟩,?_⟩
 have hb:fn.body=some (eQ fn):=by
  unfold eQ
  cases h:fn.body with
  |none=>rw[h] at c1;cases c1
  |some c=>rfl
 obtain⟨p,hp⟩:=eD.1 hr
 have eA:BP r (eQ fn)=p.1:=by simp only[BP,hp]
 have eB:BO r (eQ fn)=p.2:=by simp only[BO,hp]
 have:=lr (E:=E.add l) (xk hE hl) hf hb k c3 c4 (.inr h0) (fun x hx hd rest AR xR _ _=>by
  have e:rest=[]:=by
   cases x8:k.md.any dl with
   |false=>exact xR x8
   |true=>exact qk ((AR x8).trans h0)
  subst e
  obtain⟨g1,g2⟩:=hw x hx hd
  unfold pt at g1
  unfold nc at g2
  rw[eA] at g1
  rw[eB] at g2
  exact⟨_,fun h _=>h,JK (xk hE hl) hp rfl g1 g2⟩)
 exact aV.env (E:=E.add l) (E':=E) rfl rfl rfl this
def eg.below(k:eg U)(μ:k.α->Nat)(n:Nat):eg U:={k with pre:=fun x=>(μ x<n)::k.pre x}
theorem B9{E:Env U}{f:FuncId}{fn:Func}(hf:E.P.funcs[f]? =some fn){k:eg U}(hc:mR E.P f fn k.md=true)(μ:k.α->Nat)(h:∀n,ef E (f,k.below μ n)->ef E (f,k.below μ (n+1))):ef E (f,k):=by
 have vz:kM E.P f:=by
  unfold mR at hc
  simp only[c9,l6] at hc
  exact⟨fn,hf,hc.1.1.1,hc.1.1.2⟩
 have all:∀n,ef E (f,k.below μ n):=by
  intro n
  induction n with
  |zero=>exact⟨vz,fun x hp=>absurd (hp _ gp) (Nat.not_lt_zero _)⟩
  |succ n ih=>exact h n ih
 refine⟨vz,fun x hp=>(all (μ x+1)).2 x fun p EW=> ?_⟩
 rcases dJ.1 EW with rfl|EW
 ·exact Nat.lt_succ_self _
 ·exact hp p EW
theorem all_nil{α:Type 1}{p:α->Prop}:∀x∈([]:List α),p x:=fun x hx=>by cases hx
theorem all_cons{α:Type 1}{p:α->Prop}{a:α}{l:List α}(h:p a)(hl:∀x∈l,p x):∀x∈a::l,p x:=by
 intro x hx
 rcases dJ.1 hx with rfl|hx
 ·exact h
 ·exact hl x hx
end AM
