/- THE ABSTRACT MACHINE: functions: a contract holds where the weakest precondition of the body does. -/
import Derived.Test.YtceiiofmelhipaaGreatAmCode
namespace AM
set_option linter.unusedVariables false
open Go
variable{U:Uni}
def entry1(i:Nat)(rest:List Value):Mode→DV U→SV U×List (Nat×Ent U)
 | .ro,.one c=>(one (.c c),[])
 | .ro,.agg cs=>(.v ⟨true,cs.map .c⟩,[])
 | .ro,.ptr cs=>(one (.ia cs),[])
 | .ro,.fn p=>(.fn p,[])
 | .wr,.one (.sl τ xs)=>(one (.ref (2000000+i,0) []),[(0,.arr ⟨τ,xs⟩ true)])
 | .wr,.agg cs=>(.v ⟨true,(putCells (2000000+i) true 0 cs).1⟩,(putCells (2000000+i) true 0 cs).2)
 | .mv,.one c=>(.v ⟨false,(putCells (2000000+i) true 4096 [c]).1⟩,(putCells (2000000+i) true 4096 [c]).2)
 | .mv,.agg cs=>(.v ⟨true,(putCells (2000000+i) true 4096 cs).1⟩,(putCells (2000000+i) true 4096 cs).2)
 | .box true,.box cs=>(one (.bptr (2000000+i,0) 0),(0,.box ((putCells (2000000+i) true 4096 cs).1++rest.map fun v=> .c (.lit v)))::(putCells (2000000+i) true 4096 cs).2)
 | .box false,.box cs=>(one (.bptr (2000000+i,0) 0),[(0,.box (cs.map .c++rest.map fun v=> .c (.lit v)))])
 |_,_=>(.tup [],[])
def entSlots(rest:List Value):Nat→List Mode→List (DV U)→List (Nat×Option (SV U))
 |i,m::ms,d::ds=>(i,some (entry1 i rest m d).1)::entSlots rest (i+1) ms ds
 |_,_,_=>[]
def entTab(rest:List Value):Nat→List Mode→List (DV U)→List (Key×Option (Ent U))
 |i,m::ms,d::ds=>mkAdds (2000000+i) (entry1 i rest m d).2++entTab rest (i+1) ms ds
 |_,_,_=>[]
def entry(rest:List Value)(n:Nat)(ms:List Mode)(ds:List (DV U)):AState U:={n,slots:=entSlots rest 0 ms ds,tab:=entTab rest 0 ms ds,dirty:=[]}
def resAV(E:Env U)(σ:AState U):ResultVar→Option (AV U)
 | .tmp t=>match σ.get t with
  |some (.v x)=>some x
  |_=>none
 | .cell a t=>match σ.get a with
  |some (.v ⟨false,[.bptr k 0]⟩)=>match σ.ent k,E.size t,E.isAgg t with
   |some (.box cs),some n,some g=>bif Nat.beq n cs.length&&(g||Nat.beq n 1) then some ⟨g,cs⟩ else none
   |_,_,_=>none
  |_=>none
def hasPtr(ds:List (DV U)):Bool:=ds.any fun| .box _=>true|_=>false
def ptrOf(fresh:Bool)(σ:AState U):AV U→Option (List U.C×Key)
 |⟨false,[.bptr k 0]⟩=>bif fresh then(match σ.ent k with|some (.box bs)=>(match plain bs with|some l=>some (l,k)|none=>none)|_=>none) else none
 |_=>none
def outs(E:Env U)(fresh:Bool)(σ:AState U):List ResultVar→List TypeId→Option (List Prop×List (DV U)×List Key)
 |[],_=>some ([],[],[])
 |r::rs,ts=>match resAV E σ r with
  |some x=>
   match ptrOf fresh σ x with
   |some (l,k)=>match outs E fresh σ rs ts.tail with
    |some (qs,ds,ks')=>some (qs,.box l::ds,k::ks')
    |none=>none
   |none=>
   let want:=match ts with|t::_=>E.shape 8 t|[]=>[]
   let tb:=restrict σ.ent (SV.v x).keys
   match(bif fresh then(match takeCells tb want x.cs with|some (ps,cs,ks,true)=>some (ps,cs,ks)|_=>none) else(match cellsOf tb σ.dirty want x.cs with|some (ps,cs)=>some (ps,cs,[])|none=>none)) with
   |some (ps,cs,ks)=>match dvOf x cs,outs E fresh σ rs ts.tail with
    |some d,some (qs,ds,ks')=>some (ps++qs,d::ds,ks++ks')
    |_,_=>none
   |none=>none
  |none=>none
def finCells(σ:AState U)(i:Nat):Nat→List U.C→Option (List U.C×List Key)
 |_,[]=>some ([],[])
 |j,.lit v::r=>match finCells σ i (j+1) r with|some (cs,ks)=>some (.lit v::cs,ks)|none=>none
 |j,.sl _ _::r=>match σ.ent (2000000+i,j),finCells σ i (j+1) r with
  |some (.arr a true),some (cs,ks)=>some (.sl a.τ a.xs::cs,(2000000+i,j)::ks)
  |_,_=>none
def restP(bs:List (AC U))(rest:List Value):List Prop:=(bs.length=rest.length)::(match rest with
 |[]=>[]
 |r=>[bs=r.map fun v=> .c (.lit v)])
theorem qalb{bs:List (AC U)}{rest:List Value}(h:∀p∈restP bs rest,p):bs=rest.map fun v=> .c (.lit v):=by
 cases rest with
 |nil=>exact zbh (h _ zab)
 |cons r rs=>exact h _ (zaa _ zab)
def fin1(σ:AState U)(rest:List Value)(i:Nat)(want:List (Option U.Ty)):Mode→DV U→Option (List Prop×List (DV U)×List Key)
 | .ro,_=>some ([],[],[])
 | .mv,_=>some ([],[],[])
 | .wr,.one (.sl _ _)=>match σ.ent (2000000+i,0) with
  |some (.arr a true)=>some ([],[.one (.sl a.τ a.xs)],[(2000000+i,0)])
  |_=>none
 | .wr,.agg cs=>bif Nat.ble cs.length 1024 then(match finCells σ i 0 cs with|some (ds,ks)=>some ([],[.agg ds],ks)|none=>none) else none
 | .box true,.box cs=>match σ.ent (2000000+i,0) with
  |some (.box bs)=>match takeCells (restrict σ.ent (SV.v ⟨true,bs⟩).keys) want (bs.take cs.length) with
   |some (ps,l,ks,true)=>bif Nat.beq l.length cs.length then some (ps++restP (bs.drop cs.length) rest,[.box l],(2000000+i,0)::ks) else none
   |_=>none
  |_=>none
 | .box false,.box cs=>match σ.ent (2000000+i,0) with
  |some (.box bs)=>match plain (bs.take cs.length) with
   |some l=>bif Nat.beq l.length cs.length then some (restP (bs.drop cs.length) rest,[.box l],[(2000000+i,0)]) else none
   |none=>none
  |_=>none
 |_,_=>none
def finMuts(σ:AState U)(rest:List Value):Nat→List (List (Option U.Ty))→List Mode→List (DV U)→Option (List Prop×List (DV U)×List Key)
 |i,ws,m::ms,d::ds=>match fin1 σ rest i (ws.headD []) m d,finMuts σ rest (i+1) ws.tail ms ds with
  |some (ps,xs,ks),some (qs,ys,ks')=>some (ps++qs,xs++ys,ks++ks')
  |_,_=>none
 |_,_,_,_=>some ([],[],[])
def hasOwn(ms:List Mode):Bool:=ms.any fun m=>match m with| .wr=>true| .mv=>true| .box true=>true|_=>false
def allRoB(ms:List Mode):Bool:=ms.all fun| .ro=>true|_=>false
def fin(E:Env U)(rs:List ResultVar)(ts:List TypeId)(rest:List Value)(ps:List TypeId)(ms:List Mode)(ds:List (DV U))(r:Res U)(σ:AState U):Prop:=
 match outs E r.fresh (purge0 σ) rs ts,finMuts (purge0 σ) rest 0 (ps.map E.shapeA) ms ds with
 |some (ps,vs,ks),some (qs,mu,ks')=>bif distinct (ks++ks')&&(r.fresh||allRoB ms)&&(!(hasBox ms)|| !(hasOwn ms))&&(!(hasPtr r.val)||allRoB ms) then andP (ps++qs) (vs=r.val∧mu=r.muts) else False
 |_,_=>False
def leave(E:Env U)(rs:List ResultVar)(ts:List TypeId)(rest:List Value)(ps:List TypeId)(ms:List Mode)(ds:List (DV U))(r:Res U):Out U→Prop
 | .ret σ=>fin E rs ts rest ps ms ds r σ
 | .normal σ=>fin E rs ts rest ps ms ds r σ
 | .exit _ _=>False
section
variable{E:Env U}{w:World}{F:Nat→Prop}
theorem RArgs.len:∀{ms:List Mode}{ds:List (DV U)}{vs:List Value}{ls:List (List Nat)},RArgs E w F ms ds vs ls→ds.length=ms.length∧vs.length=ms.length∧ls.length=ms.length
 |[],[],[],[],_=>⟨rfl,rfl,rfl⟩
 |m::ms,d::ds,v::vs,l::ls,h=>by
  obtain⟨h1,h2,h3⟩:=RArgs.len h.2
  simp[h1,h2,h3]
 |[],_::_,_,_,h=>h.elim
 |[],[],_::_,_,h=>h.elim
 |[],[],[],_::_,h=>h.elim
 |_::_,[],_,_,h=>h.elim
 |_::_,_::_,[],_,h=>h.elim
 |_::_,_::_,_::_,[],h=>h.elim
theorem nodup_flatten'{ls:List (List Nat)}:ls.flatten.Nodup↔(∀l∈ls,l.Nodup)∧ls.Pairwise (fun a b=>∀x∈a,∀y∈b,x≠y):=List.pairwise_flatten
theorem qaeq{ls:List (List Nat)}(h:ls.flatten.Nodup){i j:Nat}(hij:i≠j){b:Nat}(hb:b∈ls.getD i []):b∉ls.getD j []:=by
 intro hb'
 rw[nodup_flatten'] at h
 have hlt:∀{k:Nat},b∈ls.getD k []→∃hk:k<ls.length,b∈ls[k]:=by
  intro k hk
  rcases zba k ls.length with g|g
  ·exact⟨g,by rwa[zac,zad g] at hk⟩
  ·rw[zac,zaj g] at hk;cases hk
 obtain⟨hi,hb⟩:=hlt hb
 obtain⟨hj,hb'⟩:=hlt hb'
 have hp:=zdv.1 h.2
 rcases Nat.lt_or_gt_of_ne hij with g|g
 ·exact hp i j hi hj g _ hb _ hb' rfl
 ·exact hp j i hj hi g _ hb' _ hb rfl
theorem qail{ls:List (List Nat)}{j b:Nat}(hb:b∈ls.getD j []):b∈ls.flatten:=by
 rcases zba j ls.length with g|g
 ·rw[zac,zad g] at hb
  exact zdq.2 ⟨_,zda g,hb⟩
 ·rw[zac,zaj g] at hb;cases hb
theorem qajf{ls:List (List Nat)}(h:ls.flatten.Nodup)(j:Nat):(ls.getD j []).Nodup:=by
 rcases zba j ls.length with g|g
 ·rw[zac,zad g]
  exact(nodup_flatten'.1 h).1 _ (zda g)
 ·rw[zac,zaj g];exact zdu
theorem qadd{a b:List Key}(h:distinct (a++b)=true):distinct a=true∧distinct b=true∧∀k∈a,k∉b:=by
 rw[qade,zav] at h
 exact⟨qade.2 h.1,qade.2 h.2.1,fun k hk hk'=>h.2.2 k hk k hk' rfl⟩
theorem qadg{x:AV U}{cs:List U.C}{d:DV U}{v:Value}{vs:List Value}{fl:List (List Nat)}(hd:dvOf x cs=some d)(hv:if x.agg then v=.agg vs.toArray else vs=[v])(hl:vs.length=cs.length)(hf:fl.length=cs.length)
  (h:∀(i:Nat)(c:U.C),cs[i]? =some c→Rp E w F true c (vs.getD i undef) (fl.getD i [])):RRes E w F true d v fl.flatten:=by
 unfold dvOf at hd
 cases hag:x.agg<;>rw[hag] at hd hv<;>simp only[cond_true,cond_false,zbg,if_false,if_true] at hd hv
 ·split at hd
  ·rename_i c
   cases hd
   subst hv
   simp only[zbq,zbo] at hf
   obtain⟨l,rfl⟩:=List.length_eq_one_iff.1 hf
   simpa[RRes] using h 0 c rfl
  ·cases hd
 ·cases hd
  simp only[RRes,if_true]
  exact⟨vs,fl,hv,hl,hf,h,rfl⟩
theorem qadh{x:AV U}{cs:List U.C}{d:DV U}{v:Value}{vs:List Value}(hd:dvOf x cs=some d)(hv:if x.agg then v=.agg vs.toArray else vs=[v])(hl:vs.length=cs.length)
  (h:∀(i:Nat)(c:U.C),cs[i]? =some c→Rp E w F false c (vs.getD i undef) []):RRes E w F false d v []:=by
 unfold dvOf at hd
 cases hag:x.agg<;>rw[hag] at hd hv<;>simp only[cond_true,cond_false,zbg,if_false,if_true] at hd hv
 ·split at hd
  ·rename_i c
   cases hd
   subst hv
   simpa[RRes] using h 0 c rfl
  ·cases hd
 ·cases hd
  simp only[RRes,zbg,if_false]
  exact⟨vs,hv,hl,h,trivial⟩
def PinOk(i:Nat)(m:Mode)(d:DV U)(v:Value)(kv:Key→Value):Prop:=
 match m,d with
 | .wr,.one _=>kv (2000000+i,0)=v
 | .wr,.agg cs=>∃vs:List Value,v=.agg vs.toArray∧vs.length=cs.length∧(∀(j:Nat)(τ:U.Ty)(xs:List (U.T τ)),cs[j]? =some (.sl τ xs)→kv (2000000+i,j)=vs.getD j undef)∧(∀(j:Nat)(u:Value),cs[j]? =some (.lit u)→vs.getD j undef=u∧LitOk u)
 | .box _,.box _=>kv (2000000+i,0)=v
 |_,_=>True
def PinsOk(kv:Key→Value):Nat→List Mode→List (DV U)→List Value→Prop
 |i,m::ms,d::ds,v::vs=>PinOk i m d v kv∧PinsOk kv (i+1) ms ds vs
 |_,_,_,_=>True
def isBox:Mode→Bool
 | .box _=>true
 |_=>false
def AllRest(w:World)(rest:List Value):List Mode→List (DV U)→List Value→Prop
 |m::ms,d::ds,v::vs=>(∀cs,isBox m=true→d=.box cs→rest=restAt w v cs.length)∧AllRest w rest ms ds vs
 |_,_,_=>True
def restOf(w:World):List Mode→List (DV U)→List Value→List Value
 |m::ms,d::ds,v::vs=>bif isBox m then(match d with| .box cs=>restAt w v cs.length|_=>[]) else restOf w ms ds vs
 |_,_,_=>[]
def boxes1:List Mode→Bool
 |[]=>true
 |m::r=>bif isBox m then !(r.any isBox) else boxes1 r
theorem qaaq{w:World}{rest:List Value}:∀{ms:List Mode}{ds:List (DV U)}{vs:List Value},ms.any isBox=false→AllRest w rest ms ds vs
 |[],_,_,_=>trivial
 |m::ms,[],_,_=>trivial
 |m::ms,d::ds,[],_=>trivial
 |m::ms,d::ds,v::vs,h=>by
  simp only[zeg,zcp] at h
  exact⟨fun cs hb _=>(by rw[h.1] at hb;cases hb),qaaq h.2⟩
theorem qaar{w:World}:∀{ms:List Mode}{ds:List (DV U)}{vs:List Value},boxes1 ms=true→AllRest w (restOf w ms ds vs) ms ds vs
 |[],_,_,_=>trivial
 |m::ms,[],_,_=>trivial
 |m::ms,d::ds,[],_=>trivial
 |m::ms,d::ds,v::vs,h=>by
  unfold boxes1 at h
  unfold restOf
  cases hb:isBox m<;>rw[hb] at h<;>simp only[cond_true,cond_false] at h⊢
  ·exact⟨fun cs hb' _=>(by rw[hb] at hb';cases hb'),qaar h⟩
  ·exact⟨fun cs _ hd=>by rw[hd],qaaq (by simpa using h)⟩
theorem qala{w:World}:∀{ms:List Mode}{ds:List (DV U)}{vs:List Value},ms.any isBox=false→restOf w ms ds vs=[]
 |[],_,_,_=>rfl
 |m::ms,[],_,_=>rfl
 |m::ms,d::ds,[],_=>rfl
 |m::ms,d::ds,v::vs,h=>by
  simp only[zeg,zcp] at h
  unfold restOf
  rw[h.1]
  exact qala h.2
theorem qakz{n:Nat}:∀{ms:List Mode}{ds:List (DV U)}{vs:List Value}{ls:List (List Nat)},RArgs E w F ms ds vs ls→RestLen w n ms ds vs→boxes1 ms=true→ms.any isBox=true→(restOf w ms ds vs).length=n
 |[],[],[],[],_,_,_,hb=>by simp at hb
 |m::ms,d::ds,v::vs,l::ls,h,hr,h1,hb=>by
  unfold boxes1 at h1
  unfold restOf
  cases hm:isBox m<;>rw[hm] at h1<;>simp only[cond_true,cond_false] at h1⊢
  ·exact qakz h.2 hr.2 h1 (by simpa[hm] using hb)
  ·cases m with
   |box own=>
    cases d with
    |box cs=>exact hr.1 own cs rfl rfl
    |one _=>exact h.1.elim
    |agg _=>exact h.1.elim
    |ptr _=>exact h.1.elim
    |fn _=>exact h.1.elim
   |ro=>cases hm
   |wr=>cases hm
   |mv=>cases hm
 |[],_::_,_,_,h,_,_,_=>h.elim
 |[],[],_::_,_,h,_,_,_=>h.elim
 |[],[],[],_::_,h,_,_,_=>h.elim
 |_::_,[],_,_,h,_,_,_=>h.elim
 |_::_,_::_,[],_,h,_,_,_=>h.elim
 |_::_,_::_,_::_,[],h,_,_,_=>h.elim
theorem qakm{dst:Nat}:∀{cs:List U.C}{base:Nat},(((putCells dst true base cs).2).map (·.1)).Nodup∧∀p∈(putCells dst true base cs).2,base≤p.1
 |[],base=>⟨by simp[putCells],fun p hp=>by simp[putCells] at hp⟩
 | .lit v::r,base=>by
  obtain⟨h1,h2⟩:=qakm (dst:=dst) (cs:=r) (base:=base+1)
  exact⟨by simpa[putCells] using h1,fun p hp=>by have:=h2 p (by simpa[putCells] using hp);omega⟩
 | .sl τ xs::r,base=>by
  obtain⟨h1,h2⟩:=qakm (dst:=dst) (cs:=r) (base:=base+1)
  refine⟨?_,fun p hp=> ?_⟩
  ·simp only[putCells,cond_true,zbt,zbe]
   refine⟨fun hm=> ?_,h1⟩
   obtain⟨p,hp,e⟩:=zaz.1 hm
   have:=h2 p hp
   omega
  ·simp only[putCells,cond_true,zak] at hp
   rcases hp with rfl|hp
   ·exact zca _
   ·have:=h2 p hp;omega
theorem qakk{dst:Nat}:∀{cs:List U.C}{base j:Nat}{τ:U.Ty}{xs:List (U.T τ)},cs[j]? =some (.sl τ xs)→(putCells dst true base cs).1[j]? =some (.ref (dst,base+j) [])
 |[],base,j,τ,xs,h=>by simp at h
 |c::r,base,j,τ,xs,h=>by
  cases j with
  |zero=>
   simp only[zam,zae] at h
   subst h
   rfl
  |succ j=>
   have:=qakk (dst:=dst) (cs:=r) (base:=base+1) (j:=j) (by simpa using h)
   cases c<;>simpa[putCells,zdl,zew 1 j] using this
theorem qakl{dst:Nat}{fresh:Bool}:∀{cs:List U.C}{base:Nat},(putCells dst fresh base cs).1.length=cs.length
 |[],base=>rfl
 | .lit v::r,base=>by simp[putCells,qakl]
 | .sl τ xs::r,base=>by cases fresh<;>simp[putCells,qakl]
theorem qadv{i:Nat}{rest:List Value}{m:Mode}{d:DV U}{v:Value}{l:List Nat}(h:RArg E w F m d v l)(hrest:∀cs,isBox m=true→d=.box cs→rest=restAt w v cs.length):
  ∃t:Dat U,(entry1 i rest m d).2=t.es∧(t.map (·.1)).Nodup∧t.bl=l∧∀kv fp bad,(∀s∈t,kv (2000000+i,s.1)=s.2.2.1)→
   RS E w F kv fp bad (entry1 i rest m d).1 v∧(∀s∈t,REnt E w F kv fp bad s.2.1 s.2.2.1 s.2.2.2)∧PinOk i m d v kv:=by
 have agg:∀(bs:Nat){cs:List U.C}{v:Value}{l:List Nat},RAggO E w F cs v l→∃t:Dat U,(putCells (2000000+i) true bs cs).2=t.es∧(t.map (·.1)).Nodup∧t.bl=l∧∃vs:List Value,v=.agg vs.toArray∧vs.length=cs.length∧(∀(j:Nat)(u:Value),cs[j]? =some (.lit u)→vs.getD j undef=u∧LitOk u)∧
   ∀kv fp bad,(∀s∈t,kv (2000000+i,s.1)=s.2.2.1)→RDs E w F kv fp bad (putCells (2000000+i) true bs cs).1 vs∧(∀s∈t,REnt E w F kv fp bad s.2.1 s.2.2.1 s.2.2.2):=by
  rintro bs cs v l ⟨vs,fl,h1,h2,h3,h4,h5⟩
  obtain⟨t,t1,t2,t3,t4⟩:=qakj (dst:=2000000+i) (base:=bs) h2 h3 h4
  refine⟨t,t1,?_,by rw[t3,h5],vs,h1,h2,fun j u hj=> ?_,fun kv fp bad hk=>⟨t4 kv fp bad hk,fun s hs=>t2 s hs kv fp bad⟩⟩
  ·have:=(qakm (dst:=2000000+i) (cs:=cs) (base:=bs)).1
   rw[t1] at this
   simpa[Dat.es,Function.comp_def] using this
  ·obtain⟨_,g2,g3⟩:=(h4 j _ hj).lit_all
   exact⟨g2,g3⟩
 cases m with
 |ro=>
  cases d with
  |one c=>exact⟨[],rfl,by simp,h.2.symm,fun kv fp bad _=>⟨RV_one ⟨h.1.oneCell,.inr h.1⟩,by simp,trivial⟩⟩
  |agg cs=>
   obtain⟨vs,rfl,h2,h3,h4⟩:=h
   exact⟨[],rfl,by simp,h4.symm,fun kv fp bad _=>⟨⟨vs,qaae h2 h3,rfl⟩,by simp,trivial⟩⟩
  |ptr cs=>
   obtain⟨⟨b,o,rfl,h2,h3⟩,h4⟩:=h
   exact⟨[],rfl,by simp,h4.symm,fun kv fp bad _=>⟨RV_one ⟨⟨rfl,trivial⟩,.inr ⟨b,o,rfl,h2,h3⟩⟩,by simp,trivial⟩⟩
  |fn p=>exact⟨[],rfl,by simp,h.2.symm,fun kv fp bad _=>⟨h.1,by simp,trivial⟩⟩
  |box cs=>exact h.elim
 |wr=>
  cases d with
  |one c=>
   cases c with
   |lit _=>exact h.elim
   |sl τ xs=>
    refine⟨[(0,.arr ⟨τ,xs⟩ true,v,l)],rfl,by simp,by simp[Dat.bl],fun kv fp bad hk=> ?_⟩
    have hk0:kv (2000000+i,0)=v:=hk _ (zau.2 rfl)
    refine⟨RV_one ⟨?_,.inr (by simp only[RA];rw[hk0];rfl)⟩,fun s hs=>by rw[zau.1 hs];exact h,hk0⟩
    rcases h with⟨_,⟨ad,rfl⟩,_⟩|⟨b,cap,cur,vs,fps,rfl,_⟩<;>exact⟨rfl,trivial⟩
  |agg cs=>
   obtain⟨t,t1,t2,t3,vs,t4,t5,t6,t7⟩:=agg 0 h
   refine⟨t,t1,t2,t3,fun kv fp bad hk=> ?_⟩
   obtain⟨g1,g2⟩:=t7 kv fp bad hk
   refine⟨⟨vs,g1,t4⟩,g2,vs,t4,t5,fun j τ xs hj=> ?_,t6⟩
   have hr:=qakk (dst:=2000000+i) (base:=0) hj
   have hlt:j<vs.length:=by
    rw[t5]
    rcases zba j cs.length with g|g
    ·exact g
    ·rw[zaj g] at hj;cases hj
   have:=RA_of (g1.2 j _ _ hr (getD_of_lt (d:=undef) hlt)) rfl
   simp only[RA,zbw] at this
   exact this.symm
  |box _=>exact h.elim
  |ptr _=>exact h.elim
  |fn _=>exact h.elim
 |mv=>
  cases d with
  |one c=>
   obtain⟨t,t1,t2,t3,t4⟩:=qakj (E:=E) (w:=w) (F:=F) (dst:=2000000+i) (base:=4096) (cs:=[c]) (vs:=[v]) (fl:=[l]) rfl rfl (fun j c' hc=>by
    cases j with
    |zero=>simp only[zam,zae] at hc;subst hc;exact h
    |succ j=>simp at hc)
   refine⟨t,t1,?_,by simpa using t3,fun kv fp bad hk=>⟨⟨[v],t4 kv fp bad hk,by simp⟩,fun s hs=>t2 s hs kv fp bad,trivial⟩⟩
   have:=(qakm (dst:=2000000+i) (cs:=[c]) (base:=4096)).1
   rw[t1] at this
   simpa[Dat.es,Function.comp_def] using this
  |agg cs=>
   obtain⟨t,t1,t2,t3,vs,t4,t5,t6,t7⟩:=agg 4096 h
   refine⟨t,t1,t2,t3,fun kv fp bad hk=> ?_⟩
   obtain⟨g1,g2⟩:=t7 kv fp bad hk
   exact⟨⟨vs,g1,t4⟩,g2,trivial⟩
  |box _=>exact h.elim
  |ptr _=>exact h.elim
  |fn _=>exact h.elim
 |box own=>
  cases d with
  |box cs=>
   have hrs:=hrest cs rfl rfl
   obtain⟨b,cur,e,fl,h1,h2,h3,h4,h5,h6,h7,h8⟩:=h
   rw[←hrs] at h4 h5
   have hcl:cur.toList.take cs.length++cur.toList.drop cs.length=cur.toList:=zcq _ _
   have hget:∀(j:Nat)(c:U.C),cs[j]? =some c→(cur.toList.take cs.length).getD j undef=cur.toList.getD j undef:=by
    intro j c hc
    have hj:j<cs.length:=by
     rcases zba j cs.length with g|g
     ·exact g
     ·rw[zaj g] at hc;cases hc
    simp only[zac,zan,if_pos hj]
   have hlits:∀kv fp bad,RDs E w F kv fp bad (rest.map fun v=> .c (.lit v)) rest:=by
    intro kv fp bad
    refine⟨by simp,fun j x u hx hu=> ?_⟩
    rw[zal,hu] at hx
    cases hx
    exact RD_lit (h5 u (zbl hu))
   cases own with
   |true=>
    obtain⟨t,t1,t2,t3,t4⟩:=qakj (E:=E) (w:=w) (F:=F) (dst:=2000000+i) (base:=4096) (cs:=cs) (vs:=cur.toList.take cs.length) (fl:=fl) (by simp;omega) h6 (fun j c hc=>by rw[hget j c hc];exact h7 j c hc)
    have hnums:=qakm (dst:=2000000+i) (cs:=cs) (base:=4096)
    refine⟨(0,.box ((putCells (2000000+i) true 4096 cs).1++rest.map fun v=> .c (.lit v)),v,[b])::t,by simp[entry1,Dat.es,t1],?_,by rw[h8];simp only[Dat.bl,zbm,List.singleton_append] at t3⊢;rw[t3],fun kv fp bad hk=> ?_⟩
    ·rw[zbt,zbe]
     have h0:(t.map (·.1))=((putCells (2000000+i) true 4096 cs).2).map (·.1):=by rw[t1];simp[Dat.es,Function.comp_def]
     rw[h0]
     refine⟨fun hm=> ?_,hnums.1⟩
     obtain⟨p,hp,e⟩:=zaz.1 hm
     have:=hnums.2 p hp
     simp only at e
     omega
    ·have hk0:kv (2000000+i,0)=v:=hk _ zab
     have hk1:=fun s hs=>hk s (zaa _ hs)
     refine⟨RV_one ⟨by rw[h1];exact⟨rfl,trivial⟩,.inr ⟨b,by rw[hk0,h1],h1⟩⟩,fun s hs=> ?_,hk0⟩
     rcases zak.1 hs with rfl|hs
     ·refine⟨b,cur,e,h1,h2,rfl,?_⟩
      rw[←hcl,h4]
      exact(t4 kv fp bad hk1).append (hlits kv fp bad)
     ·exact t2 s hs kv fp bad
   |false=>
    have hfl:fl.flatten=[]:=by
     rw[zdm]
     intro b' hb'
     obtain⟨l',hl',hb''⟩:=zdq.1 hb'
     obtain⟨j,hj,rfl⟩:=zbk hl'
     have hj':j<cs.length:=by omega
     have:=h7 j _ (zad hj')
     rw[zac (l:=fl),zad hj] at this
     exact this.noFp (F':=fun _=>False) hb''
    rw[hfl] at h8
    refine⟨[(0,.box (cs.map .c++rest.map fun v=> .c (.lit v)),v,[b])],rfl,by simp,by simp[Dat.bl,h8],fun kv fp bad hk=> ?_⟩
    have hk0:kv (2000000+i,0)=v:=hk _ zab
    refine⟨RV_one ⟨by rw[h1];exact⟨rfl,trivial⟩,.inr ⟨b,by rw[hk0,h1],h1⟩⟩,fun s hs=> ?_,hk0⟩
    rw[zau.1 hs]
    refine⟨b,cur,e,h1,h2,rfl,?_⟩
    rw[←hcl,h4]
    refine(qaae (by simp;omega) (fun j c hc=> ?_)).append (hlits kv fp bad)
    rw[hget j c hc]
    have:=h7 j c hc
    exact this.share (fun _ hb=>hb) (fun b' hb'=>this.noFp hb')
  |one _=>exact h.elim
  |agg _=>exact h.elim
  |ptr _=>exact h.elim
  |fn _=>exact h.elim
theorem qaio{dst:Nat}{t:Dat U}{k:Key}{e:Ent U}(h:lookK (mkAdds dst t.es) k=some e):∃s∈t,k=(dst,s.1)∧e=s.2.1:=by
 have:=qaha h
 simp only[mkAdds,Dat.es,List.map_map,zaz,Function.comp,zax,zae] at this
 obtain⟨s,hs,h1,h2⟩:=this
 exact⟨s,hs,h1.symm,h2.symm⟩
theorem qadx{rest:List Value}:∀{ms:List Mode}{ds:List (DV U)}{vs:List Value}{ls:List (List Nat)}{i:Nat},RArgs E w F ms ds vs ls→AllRest w rest ms ds vs→
  ∃ts:List (Dat U),ts.map Dat.bl=ls∧(∀t∈ts,(t.map (·.1)).Nodup)∧
   (∀k e,lookK (entTab rest i ms ds) k=some e→∃j s,s∈ts.getD j []∧k=(2000000+(i+j),s.1)∧e=s.2.1)∧
   ∀kv fp bad,(∀j s,s∈ts.getD j []→kv (2000000+(i+j),s.1)=s.2.2.1)→
    (∀s x,look (entSlots rest i ms ds) s=some x→∃j,s=i+j∧j<vs.length∧RS E w F kv fp bad x (vs.getD j undef))∧
    (∀j s,s∈ts.getD j []→REnt E w F kv fp bad s.2.1 s.2.2.1 s.2.2.2)∧PinsOk kv i ms ds vs
 |[],[],[],[],i,_,_=>⟨[],rfl,by simp,fun k e he=>(by cases he),fun kv fp bad _=>⟨fun s x hs=>(by cases hs),by simp,trivial⟩⟩
 |m::ms,d::ds,v::vs,l::ls,i,h,hr=>by
  obtain⟨ts,i1,i2,i3,i4⟩:=qadx (rest:=rest) (i:=i+1) h.2 hr.2
  obtain⟨t,t1,t2,t3,t4⟩:=qadv (i:=i) h.1 hr.1
  refine⟨t::ts,by rw[zbt,t3,i1],fun t' ht=> ?_,fun k e he=> ?_,fun kv fp bad hk=> ?_⟩
  ·rcases zak.1 ht with rfl|ht
   ·exact t2
   ·exact i2 t' ht
  ·have he:=(qagx _ _ _).symm.trans he
   split at he
   ·rw[t1] at he
    obtain⟨s,hs,h1,h2⟩:=qaio he
    exact⟨0,s,by simpa using hs,by simpa using h1,h2⟩
   ·obtain⟨j,s,hs,h1,h2⟩:=i3 k e he
    exact⟨j+1,s,by simpa using hs,by rw[h1];simp only[zax,and_true];omega,h2⟩
  ·obtain⟨g1,g2,g3⟩:=t4 kv fp bad (fun s hs=>by have:=hk 0 s (by simpa using hs);simpa using this)
   obtain⟨k1,k2,k3⟩:=i4 kv fp bad (fun j s hs=>by have:=hk (j+1) s (by simpa using hs);simpa[zdl,zew 1 j] using this)
   refine⟨fun s x hs=> ?_,fun j s hs=> ?_,g3,k3⟩
   ·have hs:=(qahd _ _ _ _).symm.trans hs
    split at hs
    ·rename_i e;cases hs;exact⟨0,by simp[e],by simp,by simpa using g1⟩
    ·obtain⟨j,rfl,h2,h3⟩:=k1 s x hs
     exact⟨j+1,by omega,by simpa using h2,by simpa using h3⟩
   ·cases j with
    |zero=>exact g2 s (by simpa using hs)
    |succ j=>exact k2 j s (by simpa using hs)
 |[],_::_,_,_,_,h,_=>h.elim
 |[],[],_::_,_,_,h,_=>h.elim
 |[],[],[],_::_,_,h,_=>h.elim
 |_::_,[],_,_,_,h,_=>h.elim
 |_::_,_::_,[],_,_,h,_=>h.elim
 |_::_,_::_,_::_,[],_,h,_=>h.elim
def pmOf(w:World)(F:Nat→Prop)(kv:Key→Value)(ls:List (List Nat)):Pm:=
 ⟨w,fun b=>b∈ls.flatten,F,fun k=>if 2000000≤k.1∧k.2<1024 then some (kv k) else none⟩
theorem qafp{ts:List (Dat U)}{j:Nat}:(ts.map Dat.bl).getD j []=(ts.getD j []).bl:=by
 rw[zac,zac,zal]
 cases ts[j]? <;>rfl
theorem qadw{n:Nat}{rest:List Value}{ms:List Mode}{ds:List (DV U)}{vs:List Value}{ls:List (List Nat)}(hF:∀b,F b→b<w.heap.size)(hlay:Lay E w F)(h:RArgs E w F ms ds vs ls)(hr:AllRest w rest ms ds vs)(hn:ls.flatten.Nodup)(hl:∀b∈ls.flatten,b<w.heap.size∧¬F b)
  (hms:ms.length≤n) (hsz:n≤1000000):
  ∃kv0 fp0,Sim E (pmOf w F kv0 ls) F kv0 fp0 (entry rest n ms ds) {tmps:=vs.toArray++Array.replicate (n-vs.length) undef,defers:=[]} w∧PinsOk kv0 0 ms ds vs:=by
 obtain⟨l1,l2,l3⟩:=h.len
 obtain⟨ts,i1,i2,i3,i4⟩:=qadx (rest:=rest) (i:=0) h hr
 have hnd:∀{j:Nat},((ts.getD j []).map (·.1)).Nodup:=by
  intro j
  rcases zba j ts.length with g|g
  ·rw[zac,zad g];exact i2 _ (zda g)
  ·rw[zac,zaj g];exact zdu
 let kv0:Key→Value:=fun k=>(ts.getD (k.1-2000000) []).kvOf k.1 (fun _=>undef) k
 let fp0:Key→List Nat:=fun k=>(ts.getD (k.1-2000000) []).fpOf k.1 (fun _=>[]) k
 have hkv:∀j s,s∈ts.getD j []→kv0 (2000000+(0+j),s.1)=s.2.2.1:=by
  intro j s hs
  simp only[kv0,zbw,Nat.add_sub_cancel_left]
  exact Dat.kvOf_of hnd hs
 have hfp:∀j s,s∈ts.getD j []→fp0 (2000000+(0+j),s.1)=s.2.2.2:=by
  intro j s hs
  simp only[fp0,zbw,Nat.add_sub_cancel_left]
  exact Dat.fpOf_of hnd hs
 obtain⟨g1,g2,g3⟩:=i4 kv0 fp0 (badK (entry rest n ms ds)) hkv
 have hbl:∀{j:Nat},(ts.getD j []).bl=ls.getD j []:=fun{j}=>by rw[←i1,qafp]
 have hblm:∀{j:Nat}{s:Nat×Ent U×Value×List Nat}{b:Nat},s∈ts.getD j []→b∈s.2.2.2→b∈ls.getD j []:=fun{j s b} hs hb=>by rw[←hbl];exact Dat.bl_mem.2 ⟨s,hs,hb⟩
 refine⟨kv0,fp0,⟨by simp[entry];omega,rfl,fun s x hs=> ?_,fun k e he=> ?_,fun k k' e e' b hne h1 h2 hb=> ?_,fun k e he=> ?_,fun k e b he hb=> ?_,hF,fun b hb=> .inl hb,Upto.refl _ _,fun k v hk=> ?_,hlay⟩,g3⟩
 ·obtain⟨j,rfl,hj,h3⟩:=g1 s x hs
  have:(vs.toArray++Array.replicate (n-vs.length) undef).getD (0+j) undef=vs.getD j undef:=by
   rw[zbw,zby,Array.getElem?_append_left (by simpa using hj)]
   simp[zac]
  show RS E w F _ _ _ x ((vs.toArray++Array.replicate (n-vs.length) undef).getD (0+j) undef)
  rw[this];exact h3
 ·obtain⟨j,s,hs,rfl,rfl⟩:=i3 k e he
  rw[hkv j s hs,hfp j s hs]
  exact g2 j s hs
 ·obtain⟨j,s,hs,rfl,rfl⟩:=i3 k e h1
  obtain⟨j',s',hs',rfl,rfl⟩:=i3 k' e' h2
  rw[hfp j s hs] at hb
  rw[hfp j' s' hs']
  by_cases hj:j=j'
  ·subst hj
   have hn':(ts.getD j []).bl.Nodup:=by rw[hbl];exact qajf hn j
   exact Dat.bl_apart hn' hs hs' (fun e=>hne (by rw[e])) hb
  ·exact fun hb'=>qaeq hn hj (hblm hs hb) (hblm hs' hb')
 ·obtain⟨j,s,hs,rfl,rfl⟩:=i3 k e he
  rw[hfp j s hs]
  have hn':(ts.getD j []).bl.Nodup:=by rw[hbl];exact qajf hn j
  exact Dat.bl_nodup hn' hs
 ·obtain⟨j,s,hs,rfl,rfl⟩:=i3 k e he
  rw[hfp j s hs] at hb
  have:=qail (hblm hs hb)
  exact⟨(hl b this).2,.inl this,(hl b this).1⟩
 ·simp only[pmOf] at hk
  split at hk
  ·rename_i hc
   cases hk
   exact⟨hc.1,hc.2,hsz,rfl⟩
  ·cases hk
variable{pm:Pm}{kv:Key→Value}{fp:Key→List Nat}{σ:AState U}{a:Act}
def resG(tmps:Array Value):ResultVar→Sem Value
 | .tmp t=>pure (tmps.getD t undef)
 | .cell a t=>do loadVar t (←asAddr (tmps.getD a undef))
def RunAll(P:Program)(tmps:Array Value)(w:World):List ResultVar→List Value→Prop
 |[],[]=>True
 |r::rs,u::us=>(resG tmps r).run P w=.ok u w∧RunAll P tmps w rs us
 |_,_=>False
theorem qaij{P:Program}{tmps:Array Value}{w:World}:∀{rs:List ResultVar}{us:List Value},RunAll P tmps w rs us→(List.mapM (resG tmps) rs).run P w=.ok us w
 |[],[],_=>rfl
 |r::rs,u::us,h=>by
  rw[List.mapM_cons,Sem.run_bind,h.1]
  simp only[Result.andThen,Sem.run_bind,qaij h.2]
  rfl
 |[],_::_,h=>h.elim
 |_::_,[],h=>h.elim
theorem qale{P:Program}{fn:Func}{tmps:Array Value}{w:World}{us:List Value}(h:RunAll P tmps w fn.results.toList us):
  (results fn tmps).run P w=.ok (retV us) w:=by
 have hg:(fun x=>match x with
   |ResultVar.tmp t=>(pure (tmps.getD t undef):Sem Value)
   |ResultVar.cell a t=>do loadVar t (←asAddr (tmps.getD a undef)))=resG tmps:=by
  funext x;cases x<;>rfl
 unfold results
 have hr:fn.results=fn.results.toList.toArray:=rfl
 rw[hr,List.mapM_toArray]
 show Sem.run P (do
  let vs←Functor.map List.toArray (List.mapM (fun x=>match x with
   |ResultVar.tmp t=>(pure (tmps.getD t undef):Sem Value)
   |ResultVar.cell a t=>do loadVar t (←asAddr (tmps.getD a undef))) fn.results.toList)
  pure (if h:vs.size=1 then vs[0] else Value.tuple vs)) w=_
 rw[hg,Sem.run_bind]
 have hm:(Functor.map List.toArray (List.mapM (resG tmps) fn.results.toList)).run P w=.ok us.toArray w:=by
  rw[map_eq_pure_bind,Sem.run_bind,qaij h]
  rfl
 rw[hm]
 show Result.ok _ w=_
 congr 1
 match us with
 |[]=>rfl
 |[t]=>rfl
 |t::u::r=>
  rw[dif_neg (by simp)]
  rfl
theorem qakx(h:Sim E pm F kv fp σ a w){r:ResultVar}{x:AV U}(hr:resAV E σ r=some x):∃u,(resG a.tmps r).run E.P w=.ok u w∧RV E w F kv fp (badK σ) x u:=by
 unfold resAV at hr
 split at hr
 ·rename_i t
  split at hr
  ·rename_i y hy
   cases hr
   exact⟨_,rfl,h.slots t _ hy⟩
  ·cases hr
 ·rename_i s t
  split at hr
  ·rename_i k hk
   split at hr
   ·rename_i cs n g he hn hg
    rw[zah] at hr
    split at hr
    ·rename_i hc
     cases hr
     simp only[zaf] at hc
     obtain⟨b,h1,h2⟩:=RA_of (qaak (h.slots s _ hk)) rfl
     obtain⟨b',cur,e,h3,h4,h5,h6⟩:=h.ents k _ he
     rw[h1] at h3;cases h3
     have hlen:n=cur.toList.length:=(zai hc.1).trans h6.1
     obtain⟨v,hv1,hv2⟩:=qagw (E:=E) (w:=w) (us:=cur.toList) (off:=0) (b:=b) hn hg hc.2 hlen.symm (fun j v hj=>by
      simp only[World.cell?,h4,zbw]
      simpa using hj)
     refine⟨v,?_,cur.toList,h6,hv2⟩
     have he':(resG a.tmps (.cell s t)).run E.P w=(Instr.loadAt t (.pointer (some ⟨b,0,none⟩))).run E.P w:=by
      simp only[resG,h2,asAddr,Instr.loadAt,Instr.sureAddr,pure_bind]
     rw[he'];exact hv1
    ·cases hr
   ·cases hr
  ·cases hr
theorem qajp(h:Sim E pm F kv fp σ a w):∀{rs:List ResultVar}{ts:List TypeId}{ps:List Prop}{ds:List (DV U)}{ks:List Key},outs E true σ rs ts=some (ps,ds,ks)→(∀p∈ps,p)→ks.Nodup→
  ∃(us:List Value)(rls:List (List Nat)),RunAll E.P a.tmps w rs us∧RRess E w F true ds us rls∧rls.flatten.Nodup∧(∀b∈rls.flatten,∃k∈ks,b∈fp k)∧(∀k∈ks,(σ.ent k).isSome=true)∧(hasPtr ds=false→ds.all (DV.safe true)=true):=by
 intro rs
 induction rs with
 |nil=>
  intro ts ps ds ks ho hp hn
  simp only[outs,zae,zax] at ho
  obtain⟨rfl,rfl,rfl⟩:=ho
  exact⟨[],[],trivial,trivial,by simp,by simp,by simp,fun _=>rfl⟩
 |cons r rs ih=>
  intro ts ps ds ks ho hp hn
  simp only[outs] at ho
  split at ho
  ·rename_i x hx
   split at ho
   ·rename_i l k hptr
    split at ho
    ·rename_i qs ds2 ks2 ho2
     cases ho
     unfold ptrOf at hptr
     split at hptr
     ·rename_i k0
      simp only[cond_true] at hptr
      split at hptr
      ·rename_i bs he
       split at hptr
       ·rename_i l' hl
        cases hptr
        obtain⟨hkn,n2⟩:=zbe.1 hn
        obtain⟨us,rls,i1,i2,i3,i4,i5,i6⟩:=ih ho2 hp n2
        obtain⟨u,hu,vs,r1,r2⟩:=qakx h hx
        simp only[zbg,if_false] at r2
        subst r2
        obtain⟨b,hkv,rfl⟩:=RA_of (r1.2 0 _ u rfl rfl) rfl
        obtain⟨b',cur,e',g1,g2,g3,g4⟩:=h.ents k _ he
        rw[hkv] at g1
        simp only[Value.pointer.injEq,zae,Addr.mk.injEq] at g1
        obtain⟨rfl,_,_⟩:=g1
        have hcs:=qaka hl
        have hll:bs.length=l.length:=by rw[hcs];simp
        refine⟨_::us,[b]::rls,⟨hu,i1⟩,⟨⟨rfl,b,cur,e',rfl,g2,rfl,by rw[←hll,g4.1];simp,fun i c hc=> ?_⟩,i2⟩,?_,fun b' hb'=> ?_,fun k' hk'=> ?_,?_⟩
        ·have hbc:bs[i]? =some (.c c):=by rw[hcs,zal,hc];rfl
         have hlt:i<cur.toList.length:=by
          rw[←g4.1]
          rcases zba i bs.length with g|g
          ·exact g
          ·rw[zaj g] at hbc;cases hbc
         have hu':cur.toList[i]? =some (cur.toList[i]):=zad hlt
         rw[zac,hu']
         exact(RA_of (g4.2 i _ _ hbc hu') rfl:Rp E w F false _ _ _)
        ·rw[zbz,zav]
         refine⟨by simp,i3,fun b' hb' c hc e=> ?_⟩
         rw[zau.1 hb'] at e
         subst e
         obtain⟨k2,hk2,hb2⟩:=i4 b hc
         obtain⟨e2,he2⟩:=zag.1 (i5 k2 hk2)
         exact h.apart k k2 _ e2 b (fun e=>hkn (e▸hk2)) he he2 (by rw[g3];exact zau.2 rfl) hb2
        ·rw[zbz,zao] at hb'
         rcases hb' with hb'|hb'
         ·rw[zau.1 hb']
          exact⟨k,zab,by rw[g3];exact zau.2 rfl⟩
         ·obtain⟨k2,hk2,hb2⟩:=i4 b' hb'
          exact⟨k2,zaa _ hk2,hb2⟩
        ·rcases zak.1 hk' with rfl|hk'
         ·rw[he];rfl
         ·exact i5 k' hk'
        ·intro hf
         simp[hasPtr] at hf
       ·cases hptr
      ·cases hptr
     ·cases hptr
    ·cases ho
   split at ho
   ·rename_i ps1 cs ks1 htk
    split at ho
    ·rename_i d qs ds2 ks2 hd ho2
     simp only[zae,zax] at ho
     obtain⟨rfl,rfl,rfl⟩:=ho
     simp only[cond_true] at htk
     split at htk
     ·rename_i ps' cs' ks' htk'
      cases htk
      rw[zav] at hn
      obtain⟨n1,n2,n3⟩:=hn
      obtain⟨u,hu,vs,r1,r2⟩:=qakx h hx
      obtain⟨g1,g2,g3,g4⟩:=qang h htk' (fun p hp'=>hp p (by simp[hp'])) r1 n1
      obtain⟨fl,f1,f2,f3,f4⟩:=g3 rfl
      obtain⟨us,rls,i1,i2,i3,i4,i5,i6⟩:=ih ho2 (fun p hp'=>hp p (by simp[hp'])) n2
      refine⟨u::us,fl.flatten::rls,⟨hu,i1⟩,⟨qadg hd r2 (by rw[g1];exact r1.1.symm) f1 f2,i2⟩,?_,fun b hb=> ?_,fun k hk=> ?_,?_⟩
      ·rw[zbz,zav]
       refine⟨f3,i3,fun b hb c hc e=> ?_⟩
       subst e
       obtain⟨k1,hk1,hb1⟩:=f4 b hb
       obtain⟨k2,hk2,hb2⟩:=i4 b hc
       obtain⟨e1,he1⟩:=zag.1 (g2 k1 hk1)
       obtain⟨e2,he2⟩:=zag.1 (i5 k2 hk2)
       exact h.apart k1 k2 e1 e2 b (n3 k1 hk1 k2 hk2) he1 he2 hb1 hb2
      ·rw[zbz,zao] at hb
       rcases hb with hb|hb
       ·obtain⟨k,hk,hb⟩:=f4 b hb;exact⟨k,zar _ hk,hb⟩
       ·obtain⟨k,hk,hb⟩:=i4 b hb;exact⟨k,zas _ hk,hb⟩
      ·rcases zao.1 hk with hk|hk
       ·exact g2 k hk
       ·exact i5 k hk
      ·intro hf
       rw[zdr,i6 (by simp only[hasPtr,zeg,zcp] at hf;exact hf.2),zdb]
       unfold dvOf at hd
       cases hag:x.agg<;>rw[hag] at hd<;>simp only[cond_true,cond_false] at hd
       ·split at hd<;>cases hd;rfl
       ·cases hd;rfl
     ·cases htk
    ·cases ho
   ·cases ho
  ·cases ho
theorem qajq(h:Sim E pm F kv fp σ a w){F':Nat→Prop}(hF':∀b,F b→F' b)(hk':∀k e b,σ.ent k=some e→b∈fp k→F' b):∀{rs:List ResultVar}{ts:List TypeId}{ps:List Prop}{ds:List (DV U)}{ks:List Key},outs E false σ rs ts=some (ps,ds,ks)→(∀p∈ps,p)→
  ∃(us:List Value)(rls:List (List Nat)),RunAll E.P a.tmps w rs us∧RRess E w F' false ds us rls∧rls.flatten=[]:=by
 intro rs
 induction rs with
 |nil=>
  intro ts ps ds ks ho hp
  simp only[outs,zae,zax] at ho
  obtain⟨rfl,rfl,rfl⟩:=ho
  exact⟨[],[],trivial,trivial,rfl⟩
 |cons r rs ih=>
  intro ts ps ds ks ho hp
  simp only[outs] at ho
  split at ho
  ·rename_i x hx
   have hnp:ptrOf false σ x=none:=by
    unfold ptrOf
    split<;>rfl
   rw[hnp] at ho
   simp only at ho
   split at ho
   ·rename_i ps1 cs ks1 htk
    split at ho
    ·rename_i d qs ds2 ks2 hd ho2
     simp only[zae,zax] at ho
     obtain⟨rfl,rfl,rfl⟩:=ho
     simp only[cond_false] at htk
     split at htk
     ·rename_i ps' cs' htk'
      cases htk
      obtain⟨u,hu,vs,r1,r2⟩:=qakx h hx
      obtain⟨g1,g2⟩:=qacl h htk' (fun p hp'=>hp p (by simp[hp'])) r1
      obtain⟨us,rls,i1,i2,i3⟩:=ih ho2 (fun p hp'=>hp p (by simp[hp']))
      refine⟨u::us,[]::rls,⟨hu,i1⟩,⟨qadh hd r2 (by rw[g1];exact r1.1.symm) (fun i c hc=>(g2 i c hc).widen (fun b hb=> ?_)),i2⟩,by simpa using i3⟩
      rcases hb with hb|⟨k,hk,hb⟩
      ·exact hF' b hb
      ·rw[zcg] at hk
       obtain⟨e,he⟩:=zag.1 hk.2
       exact hk' k e b he hb
     ·cases htk
    ·cases ho
   ·cases ho
  ·cases ho
theorem qaej(h:Sim E pm F kv fp σ a w){i:Nat}:∀{cs:List U.C}{j:Nat}{vs:List Value}{ds:List U.C}{ks:List Key},finCells σ i j cs=some (ds,ks)→vs.length=cs.length→
  (∀(n:Nat)(τ:U.Ty)(xs:List (U.T τ)),cs[n]? =some (.sl τ xs)→kv (2000000+i,j+n)=vs.getD n undef)→(∀(n:Nat)(u:Value),cs[n]? =some (.lit u)→vs.getD n undef=u∧LitOk u)→
  ds.length=cs.length∧∃fl:List (List Nat),fl.length=ds.length∧(∀(n:Nat)(c:U.C),ds[n]? =some c→Rp E w F true c (vs.getD n undef) (fl.getD n []))∧fl.flatten=ks.flatMap fp∧(∀k∈ks,(σ.ent k).isSome=true∧j≤k.2)∧ks.Nodup
 |[],j,vs,ds,ks,hf,hl,h1,h2=>by
  simp only[finCells,zae,zax] at hf
  obtain⟨rfl,rfl⟩:=hf
  exact⟨rfl,[],rfl,fun n c hc=>by simp at hc,rfl,by simp,by simp⟩
 |c::cs,j,[],ds,ks,hf,hl,h1,h2=>by simp at hl
 |c::cs,j,v::vs,ds,ks,hf,hl,h1,h2=>by
  have h1':∀(n:Nat)(τ:U.Ty)(xs:List (U.T τ)),cs[n]? =some (.sl τ xs)→kv (2000000+i,j+1+n)=vs.getD n undef:=fun n τ xs hn=>by
   have:=h1 (n+1) τ xs (by simpa using hn)
   simpa[zdl,zew 1 n] using this
  have h2':∀(n:Nat)(u:Value),cs[n]? =some (.lit u)→vs.getD n undef=u∧LitOk u:=fun n u hn=>by simpa using h2 (n+1) u (by simpa using hn)
  cases c with
  |lit u=>
   simp only[finCells] at hf
   split at hf
   ·rename_i ds' ks' hf'
    cases hf
    obtain⟨i1,fl,i2,i3,i4,i5,i6⟩:=qaej h hf' (by simpa using hl) h1' h2'
    obtain⟨g1,g2⟩:=h2 0 u rfl
    have hvu:v=u:=by simpa using g1
    subst hvu
    refine⟨by simp[i1],[]::fl,by simp[i2],fun n c hc=> ?_,by simpa using i4,fun k hk=>⟨(i5 k hk).1,by have:=(i5 k hk).2;omega⟩,i6⟩
    cases n with
    |zero=>simp only[zam,zae] at hc;subst hc;exact .lit _ _ g2
    |succ n=>simpa using i3 n c (by simpa using hc)
   ·cases hf
  |sl τ xs=>
   simp only[finCells] at hf
   split at hf
   ·rename_i y ds' ks' he hf'
    cases hf
    obtain⟨i1,fl,i2,i3,i4,i5,i6⟩:=qaej h hf' (by simpa using hl) h1' h2'
    have hv:kv (2000000+i,j)=v:=by simpa using h1 0 τ xs rfl
    have ho:ROwn E w F true y (kv (2000000+i,j)) (fp (2000000+i,j)):=h.ents _ _ he
    refine⟨by simp[i1],fp (2000000+i,j)::fl,by simp[i2],fun n c hc=> ?_,by simp[i4],fun k hk=> ?_,?_⟩
    ·cases n with
     |zero=>simp only[zam,zae] at hc;subst hc;rw[hv] at ho;exact ho.rp
     |succ n=>simpa using i3 n c (by simpa using hc)
    ·rcases zak.1 hk with rfl|hk
     ·exact⟨by rw[he];rfl,zca _⟩
     ·exact⟨(i5 k hk).1,by have:=(i5 k hk).2;omega⟩
    ·rw[zbe]
     exact⟨fun hm=>by have:=(i5 _ hm).2;simp only at this;omega,i6⟩
   ·cases hf
theorem qaei(h:Sim E pm F kv fp σ a w){w0:World}{F0:Nat→Prop}{rest:List Value}{i:Nat}{want:List (Option U.Ty)}{m:Mode}{d:DV U}{v:Value}{l:List Nat}{ps:List Prop}{mu:List (DV U)}{ks:List Key}
  (hf:fin1 σ rest i want m d=some (ps,mu,ks)) (hp:∀p∈ps,p) (hra:RArg E w0 F0 m d v l) (hrest:∀cs,isBox m=true→d=.box cs→rest=restAt w0 v cs.length) (hpin:PinOk i m d v kv) (hn:ks.Nodup):
  ∃mls,RMuts E w F w0 [m] [v] mu mls∧mls.flatten.Nodup∧(∀b∈mls.flatten,∃k∈ks,b∈fp k)∧(∀k∈ks,(σ.ent k).isSome=true)∧(m=.box false→∀b∈l,∃k∈ks,b∈fp k):=by
 cases m with
 |ro=>
  simp only[fin1,zae,zax] at hf
  obtain⟨_,rfl,rfl⟩:=hf
  exact⟨[],trivial,by simp,by simp,by simp,fun e=>by cases e⟩
 |mv=>
  simp only[fin1,zae,zax] at hf
  obtain⟨_,rfl,rfl⟩:=hf
  exact⟨[],trivial,by simp,by simp,by simp,fun e=>by cases e⟩
 |wr=>
  cases d with
  |one c=>
   cases c with
   |lit _=>exact hra.elim
   |sl τ xs=>
    simp only[fin1] at hf
    split at hf
    ·rename_i y he
     cases hf
     have hv:kv (2000000+i,0)=v:=hpin
     have ho:ROwn E w F true y (kv (2000000+i,0)) (fp (2000000+i,0)):=h.ents _ _ he
     rw[hv] at ho
     exact⟨[fp (2000000+i,0)],⟨ho,trivial⟩,by simpa using h.nodup _ _ he,by simp,by simp[he],fun e=>by cases e⟩
    ·cases hf
  |agg cs=>
   simp only[fin1] at hf
   rw[zah] at hf
   split at hf
   ·split at hf
    ·rename_i ds ks' hfc
     cases hf
     obtain⟨vs,p1,p2,p3,p4⟩:=hpin
     obtain⟨i1,fl,i2,i3,i4,i5,i6⟩:=qaej h hfc p2 (by simpa using p3) p4
     refine⟨[fl.flatten],⟨⟨vs,fl,p1,by rw[p2,i1],i2,i3,rfl⟩,trivial⟩,?_,fun b hb=> ?_,fun k hk=>(i5 k hk).1,fun e=>by cases e⟩
     ·simp only[zbz,zey,zch]
      rw[i4]
      exact qaen h i6 (fun k hk=>(i5 k hk).1)
     ·simp only[zbz,zey,zch] at hb
      rw[i4] at hb
      exact zat.1 hb
    ·cases hf
   ·cases hf
  |box _=>exact hra.elim
  |ptr _=>exact hra.elim
  |fn _=>exact hra.elim
 |box own=>
  cases d with
  |one _=>exact hra.elim
  |agg _=>exact hra.elim
  |ptr _=>exact hra.elim
  |fn _=>exact hra.elim
  |box cs=>
   have hrs:=hrest cs rfl rfl
   have hv:kv (2000000+i,0)=v:=hpin
   obtain⟨b0,cur0,e0,fl0,z1,z2,z3,z4,z5,z6,z7,z8⟩:=hra
   have hrl:∀{bs:List (AC U)}{cur:Array Value}{n:Nat},RDs E w F kv fp (badK σ) bs cur.toList→bs.drop n=rest.map (fun v=> .c (.lit v))→cur.toList.drop n=rest:=by
    intro bs cur n hd he
    have h1:=hd.drop n
    rw[he] at h1
    refine zcx fun j=> ?_
    cases hj:rest[j]? with
    |none=>
     rw[List.getElem?_eq_none_iff] at hj⊢
     rw[←h1.1];simpa using hj
    |some u=>
     have hlt:j<(cur.toList.drop n).length:=by
      rw[←h1.1,zco]
      rcases zba j rest.length with g|g
      ·exact g
      ·rw[zaj g] at hj;cases hj
     rw[zad hlt]
     have:=qaac (h1.2 j (.c (.lit u)) _ (by rw[zal,hj];rfl) (zad hlt))
     rw[this]
   cases own with
   |true=>
    simp only[fin1] at hf
    split at hf
    ·rename_i bs he
     split at hf
     ·rename_i ps' l0 ks' ht
      rw[zah] at hf
      split at hf
      ·rename_i hln
       cases hf
       have hln:=zai hln
       obtain⟨b,cur,e,h3,h4,h5,h6⟩:=h.ents _ _ he
       rw[hv] at h3
       obtain⟨g1,g2,g3,_⟩:=qang h ht (fun p hp'=>hp p (by simp[hp'])) (h6.take cs.length) (zbe.1 hn).2
       obtain⟨fl,f1,f2,f3,f4⟩:=g3 rfl
       have hreq:bs.drop cs.length=rest.map fun v=> .c (.lit v):=qalb fun p hp'=>hp p (zas _ hp')
       have hdrop:=hrl h6 hreq
       have hbl:cs.length≤cur.size:=by
        have h8:bs.length=cur.size:=by have:=h6.1;simpa using this
        rw[g1,zaw] at hln
        omega
       have hbfl:b∉fl.flatten:=by
        intro hb
        obtain⟨k',hk',hb'⟩:=f4 b hb
        obtain⟨e2,he2⟩:=zag.1 (g2 k' hk')
        exact h.apart _ k' _ e2 b (fun e=>(zbe.1 hn).1 (by rw[e];exact hk')) he he2 (by rw[h5];simp) hb'
       refine⟨[b::fl.flatten],⟨⟨b,cur,e,fl,h3,h4,by omega,by rw[hln,hdrop,hrs],by rw[hln];exact z5,f1,fun j c hc=> ?_,rfl⟩,trivial⟩,(by rw[zbz,zey,zch,zbe];exact⟨hbfl,f3⟩),fun c hc=> ?_,fun k hk=> ?_,fun e=>by cases e⟩
       ·have hj:j<cs.length:=by
         rw[←hln]
         rcases zba j l0.length with g|g
         ·exact g
         ·rw[zaj g] at hc;cases hc
        have:=f2 j c hc
        rw[zac,zan,if_pos hj,←zac] at this
        exact this
       ·simp only[zbz,zey,zch,zak] at hc
        rcases hc with rfl|hc
        ·exact⟨_,zab,by rw[h5];simp⟩
        ·obtain⟨k',hk',hc⟩:=f4 c hc;exact⟨k',zaa _ hk',hc⟩
       ·rcases zak.1 hk with rfl|hk
        ·rw[he];rfl
        ·exact g2 k hk
      ·cases hf
     ·cases hf
    ·cases hf
   |false=>
    simp only[fin1] at hf
    split at hf
    ·rename_i bs he
     split at hf
     ·rename_i l0 hpl
      rw[zah] at hf
      split at hf
      ·rename_i hln
       cases hf
       have hln:=zai hln
       have hcs:=qaka hpl
       obtain⟨b,cur,e,h3,h4,h5,h6⟩:=h.ents _ _ he
       rw[hv] at h3
       have hreq:bs.drop cs.length=rest.map fun v=> .c (.lit v):=qalb fun p hp'=>hp p hp'
       have hdrop:=hrl h6 hreq
       have h8:bs.length=cur.size:=by have:=h6.1;simpa using this
       have hbl:cs.length≤cur.size:=by
        have:=congrArg List.length hcs
        rw[zaw,zco,hln] at this
        omega
       refine⟨[[b]],⟨⟨b,cur,e,List.replicate l0.length [],h3,h4,by omega,by rw[hln,hdrop,hrs],by rw[hln];exact z5,by simp,fun j c hc=> ?_,by rw[qaer]⟩,trivial⟩,by simp,fun c hc=>⟨_,zab,by rw[h5];simpa using hc⟩,by simp[he],fun _ c hc=> ?_⟩
       ·have hj:j<cs.length:=by
         rw[←hln]
         rcases zba j l0.length with g|g
         ·exact g
         ·rw[zaj g] at hc;cases hc
        have hci:bs[j]? =some (.c c):=by
         have:(bs.take cs.length)[j]? =some (.c c):=by rw[hcs,zal,hc];rfl
         rwa[zan,if_pos hj] at this
        have h7:=RA_of (h6.2 j (.c c) (cur.toList.getD j undef) hci (getD_of_lt (by simp;omega))) rfl
        rw[qafs]
        exact h7
       ·refine⟨_,zab,?_⟩
        rw[h5]
        rw[z1] at h3
        cases h3
        rw[z8,zak] at hc
        rcases hc with rfl|hc
        ·simp
        ·exfalso
         obtain⟨l',hl',hb''⟩:=zdq.1 hc
         obtain⟨j,hj,rfl⟩:=zbk hl'
         have hj':j<cs.length:=by omega
         have:=z7 j _ (zad hj')
         rw[zac (l:=fl0),zad hj] at this
         exact this.noFp (F':=fun _=>False) hb''
      ·cases hf
     ·cases hf
    ·cases hf
theorem RMuts.cons{w0:World}{m:Mode}{v:Value}{mu1:List (DV U)}{ml1:List (List Nat)}{ms:List Mode}{vs:List Value}{mu2:List (DV U)}{ml2:List (List Nat)}(h:RMuts E w F w0 [m] [v] mu1 ml1)(h':RMuts E w F w0 ms vs mu2 ml2):
  RMuts E w F w0 (m::ms) (v::vs) (mu1++mu2) (ml1++ml2):=by
 cases m with
 |ro=>cases mu1<;>cases ml1<;>first|exact h.elim|exact h'
 |mv=>cases mu1<;>cases ml1<;>first|exact h.elim|exact h'
 |wr=>
  cases mu1 with
  |nil=>cases ml1<;>exact h.elim
  |cons d mu1=>
   cases ml1 with
   |nil=>cases d<;>first|exact h.elim|(rename_i c;cases c<;>exact h.elim)
   |cons l ml1=>
    cases d with
    |one c=>cases c with
     |lit _=>exact h.elim
     |sl τ ys=>
      obtain⟨h1,h2⟩:=h
      cases mu1<;>cases ml1<;>first|exact h2.elim|exact⟨h1,h'⟩
    |agg cs=>
     obtain⟨h1,h2⟩:=h
     cases mu1<;>cases ml1<;>first|exact h2.elim|exact⟨h1,h'⟩
    |box _=>exact h.elim
    |ptr _=>exact h.elim
    |fn _=>exact h.elim
 |box own=>
  cases mu1 with
  |nil=>cases ml1<;>exact h.elim
  |cons d mu1=>
   cases ml1 with
   |nil=>cases d<;>exact h.elim
   |cons l ml1=>
    cases d with
    |box cs=>
     obtain⟨h1,h2⟩:=h
     cases mu1<;>cases ml1<;>first|exact h2.elim|exact⟨h1,h'⟩
    |one _=>exact h.elim
    |agg _=>exact h.elim
    |ptr _=>exact h.elim
    |fn _=>exact h.elim
theorem qaek(h:Sim E pm F kv fp σ a w){w0:World}{F0:Nat→Prop}{rest:List Value}:∀{ms:List Mode}{i:Nat}{ws:List (List (Option U.Ty))}{ds:List (DV U)}{vs:List Value}{ls:List (List Nat)}{ps:List Prop}{mu:List (DV U)}{ks:List Key},
  finMuts σ rest i ws ms ds=some (ps,mu,ks)→(∀p∈ps,p)→RArgs E w0 F0 ms ds vs ls→AllRest w0 rest ms ds vs→PinsOk kv i ms ds vs→ks.Nodup→
  ∃mls,RMuts E w F w0 ms vs mu mls∧mls.flatten.Nodup∧(∀b∈mls.flatten,∃k∈ks,b∈fp k)∧(∀k∈ks,(σ.ent k).isSome=true)∧(hasOwn ms=false→∀b∈ls.flatten,∃k∈ks,b∈fp k)
 |[],i,ws,[],[],[],ps,mu,ks,hf,hp,hra,hr,hpin,hn=>by
  simp only[finMuts,zae,zax] at hf
  obtain⟨_,rfl,rfl⟩:=hf
  exact⟨[],trivial,by simp,by simp,by simp,by simp⟩
 |m::ms,i,ws,d::ds,v::vs,l::ls,ps,mu,ks,hf,hp,hra,hr,hpin,hn=>by
  simp only[finMuts] at hf
  split at hf
  ·rename_i ps1 xs ks1 qs ys ks2 h1 h2
   cases hf
   rw[zav] at hn
   obtain⟨n1,n2,n3⟩:=hn
   obtain⟨ml1,i1,i2,i3,i4,i5⟩:=qaei h h1 (fun p hp'=>hp p (by simp[hp'])) hra.1 hr.1 hpin.1 n1
   obtain⟨ml2,j1,j2,j3,j4,j5⟩:=qaek h h2 (fun p hp'=>hp p (by simp[hp'])) hra.2 hr.2 hpin.2 n2
   refine⟨ml1++ml2,i1.cons j1,?_,fun b hb=> ?_,fun k hk=>(zao.1 hk).elim (i4 k) (j4 k),fun ho b hb=> ?_⟩
   ·rw[zcc,zav]
    refine⟨i2,j2,fun b hb c hc e=> ?_⟩
    subst e
    obtain⟨k1,hk1,hb1⟩:=i3 b hb
    obtain⟨k2,hk2,hb2⟩:=j3 b hc
    obtain⟨e1,he1⟩:=zag.1 (i4 k1 hk1)
    obtain⟨e2,he2⟩:=zag.1 (j4 k2 hk2)
    exact h.apart k1 k2 e1 e2 b (n3 k1 hk1 k2 hk2) he1 he2 hb1 hb2
   ·rw[zcc,zao] at hb
    rcases hb with hb|hb
    ·obtain⟨k,hk,hb⟩:=i3 b hb;exact⟨k,zar _ hk,hb⟩
    ·obtain⟨k,hk,hb⟩:=j3 b hb;exact⟨k,zas _ hk,hb⟩
   ·simp only[hasOwn,zeg,zcp] at ho
    rw[zbz,zao] at hb
    rcases hb with hb|hb
    ·have:m=.ro∨m=.box false:=by
      cases m with
      |ro=>exact .inl rfl
      |wr=>simp at ho
      |mv=>simp at ho
      |box own=>cases own with
       |true=>simp at ho
       |false=>exact .inr rfl
     rcases this with rfl|rfl
     ·have:l=[]:=by cases d<;>first|exact hra.1.2|(obtain⟨_,_,_,_,h⟩:=hra.1;exact h)|exact hra.1.elim
      rw[this] at hb;cases hb
     ·obtain⟨k,hk,hb⟩:=i5 rfl b hb;exact⟨k,zar _ hk,hb⟩
    ·obtain⟨k,hk,hb⟩:=j5 ho.2 b hb;exact⟨k,zas _ hk,hb⟩
  ·cases hf
 |[],_,_,_::_,_,_,_,_,_,_,_,hra,_,_,_=>hra.elim
 |[],_,_,[],_::_,_,_,_,_,_,_,hra,_,_,_=>hra.elim
 |[],_,_,[],[],_::_,_,_,_,_,_,hra,_,_,_=>hra.elim
 |_::_,_,_,[],_,_,_,_,_,_,_,hra,_,_,_=>hra.elim
 |_::_,_,_,_::_,[],_,_,_,_,_,_,hra,_,_,_=>hra.elim
 |_::_,_,_,_::_,_::_,[],_,_,_,_,_,hra,_,_,_=>hra.elim
theorem RMuts.mono{w0:World}{F':Nat→Prop}(hF:∀b,F b→F' b):∀{ms:List Mode}{vs:List Value}{dm:List (DV U)}{ls:List (List Nat)},RMuts E w F w0 ms vs dm ls→RMuts E w F' w0 ms vs dm ls:=by
 intro ms
 induction ms with
 |nil=>intro vs dm ls h;cases vs<;>cases dm<;>cases ls<;>first|trivial|exact h.elim
 |cons m ms ih=>
  intro vs dm ls h
  cases m with
  |ro=>cases vs with
   |nil=>cases dm<;>cases ls<;>exact h.elim
   |cons v vs=>simp only[RMuts] at h⊢;exact ih h
  |mv=>cases vs with
   |nil=>cases dm<;>cases ls<;>exact h.elim
   |cons v vs=>simp only[RMuts] at h⊢;exact ih h
  |wr=>cases vs with
   |nil=>cases dm<;>cases ls<;>exact h.elim
   |cons v vs=>cases dm with
    |nil=>cases ls<;>exact h.elim
    |cons d dm=>cases d with
     |one c=>cases c with
      |lit _=>cases ls<;>exact h.elim
      |sl τ ys=>cases ls with
       |nil=>exact h.elim
       |cons l ls=>exact⟨ROwn.any h.1,ih h.2⟩
     |agg cs=>cases ls with
       |nil=>exact h.elim
       |cons l ls=>exact⟨h.1.any,ih h.2⟩
     |box _=>cases ls<;>exact h.elim
     |ptr _=>cases ls<;>exact h.elim
     |fn _=>cases ls<;>exact h.elim
  |box own=>cases vs with
   |nil=>cases dm<;>cases ls<;>exact h.elim
   |cons v vs=>cases dm with
    |nil=>cases ls<;>exact h.elim
    |cons d dm=>cases d with
     |box cs=>cases ls with
       |nil=>exact h.elim
       |cons l ls=>exact⟨h.1.widen hF,ih h.2⟩
     |one _=>cases ls<;>exact h.elim
     |agg _=>cases ls<;>exact h.elim
     |ptr _=>cases ls<;>exact h.elim
     |fn _=>cases ls<;>exact h.elim
theorem ro_flat:∀{ms:List Mode}{ds:List (DV U)}{vs:List Value}{ls:List (List Nat)},RArgs E w F ms ds vs ls→allRoB ms=true→ls.flatten=[]
 |[],[],[],[],_,_=>rfl
 |m::ms,d::ds,v::vs,l::ls,h,hr=>by
  simp only[allRoB,zdr,zaf] at hr
  have h2:=ro_flat h.2 hr.2
  have h1:l=[]:=by
   cases m with
   |ro=>cases d<;>first|exact h.1.2|(obtain⟨_,_,_,_,h⟩:=h.1;exact h)|exact h.1.elim
   |wr=>simp at hr
   |mv=>simp at hr
   |box _=>simp at hr
  simp[h1,h2]
 |[],_::_,_,_,h,_=>h.elim
 |[],[],_::_,_,h,_=>h.elim
 |[],[],[],_::_,h,_=>h.elim
 |_::_,[],_,_,h,_=>h.elim
 |_::_,_::_,[],_,h,_=>h.elim
 |_::_,_::_,_::_,[],h,_=>h.elim
inductive Bd:U.C→Prop
 |lit (v:Value) (h:LitOk v):Bd (.lit v)
 |sl (τ:U.Ty) (xs:List (U.T τ)) (hl:xs.length≤maxLen) (h:∀(i:Nat)(x:U.T τ)(j:Nat)(c:U.C),xs[i]? =some x→(U.enc τ x)[j]? =some c→Bd c):Bd (.sl τ xs)
theorem Rp.bd{m:Bool}{c:U.C}{v:Value}{l:List Nat}(h:Rp E w F m c v l):Bd c:=by
 induction h with
 |lit m v h=>exact .lit v h
 |nil m τ a c h=>exact .sl τ [] (by simp) (fun i x j c hx=>by simp at hx)
 |shr τ xs b off cap vs hFb hc hm hv hr ih=>exact .sl τ xs hm ih
 |own τ xs b cap cur vs fps hb hc hm hs hv hr ih=>exact .sl τ xs (zde hc hm) ih
def BdDV:DV U→Prop
 | .one c=>Bd c
 | .agg cs=>∀c∈cs,Bd c
 | .box cs=>∀c∈cs,Bd c
 | .ptr cs=>∀c∈cs,Bd c
 | .fn _=>True
theorem bd_all{cs:List U.C}(hh:∀(i:Nat)(c:U.C),cs[i]? =some c→Bd c):∀c∈cs,Bd c:=by
 intro c hc
 obtain⟨i,hi,rfl⟩:=zbk hc
 exact hh i _ (zad hi)
theorem RAggO.bd{cs:List U.C}{v:Value}{l:List Nat}(h:RAggO E w F cs v l):∀c∈cs,Bd c:=by
 obtain⟨vs,fl,_,_,_,h4,_⟩:=h
 exact bd_all fun i c hc=>(h4 i c hc).bd
theorem RArg.bd{m:Mode}{d:DV U}{v:Value}{l:List Nat}(h:RArg E w F m d v l):BdDV d:=by
 cases m with
 |ro=>
  cases d with
  |one c=>exact h.1.bd
  |agg cs=>obtain⟨vs,_,_,h3,_⟩:=h;exact bd_all fun i c hc=>(h3 i c hc).bd
  |ptr cs=>
   obtain⟨⟨b,o,_,_,h3⟩,_⟩:=h
   exact bd_all fun i c hc=>by obtain⟨u,_,h5⟩:=h3 i c hc;exact h5.bd
  |fn _=>trivial
  |box _=>exact h.elim
 |wr=>
  cases d with
  |one c=>
   cases c with
   |lit _=>exact h.elim
   |sl τ xs=>exact(h.share (F':=fun _=>True) (fun _ _=>trivial) (fun _ _=>trivial)).bd
  |agg _=>exact RAggO.bd h
  |box _=>exact h.elim
  |ptr _=>exact h.elim
  |fn _=>exact h.elim
 |mv=>
  cases d with
  |one c=>exact Rp.bd h
  |agg _=>exact RAggO.bd h
  |box _=>exact h.elim
  |ptr _=>exact h.elim
  |fn _=>exact h.elim
 |box own=>
  cases d with
  |box cs=>obtain⟨b,cur,e,fl,_,_,_,_,_,_,h7,_⟩:=h;exact bd_all fun i c hc=>(h7 i c hc).bd
  |one _=>exact h.elim
  |agg _=>exact h.elim
  |ptr _=>exact h.elim
  |fn _=>exact h.elim
theorem RArgs.bd:∀{ms:List Mode}{ds:List (DV U)}{vs:List Value}{ls:List (List Nat)},RArgs E w F ms ds vs ls→∀d∈ds,BdDV d
 |[],[],[],[],_,d,hd=>by simp at hd
 |m::ms,d0::ds,v::vs,l::ls,h,d,hd=>by
  rcases zak.1 hd with rfl|hd
  ·exact h.1.bd
  ·exact RArgs.bd h.2 d hd
 |[],_::_,_,_,h,_,_=>h.elim
 |[],[],_::_,_,h,_,_=>h.elim
 |[],[],[],_::_,h,_,_=>h.elim
 |_::_,[],_,_,h,_,_=>h.elim
 |_::_,_::_,[],_,h,_,_=>h.elim
 |_::_,_::_,_::_,[],h,_,_=>h.elim
theorem fn_sound'(hE:E.Good){f:FuncId}{fn:Func}{c:Code}(hf:E.P.funcs[f]? =some fn)(hb:fn.body=some c)(k:Con U)(hms:k.md.length≤fn.ntmps)(hsz:fn.ntmps≤1000000)(hb1:boxes1 k.md=true)
  (hw:∀x,(∀p∈k.pre x,p)→(∀d∈k.ds x,BdDV d)→∀rest,(k.md.any isBox=true→rest.length=k.rst)→(k.md.any isBox=false→rest=[])→
   ∀vs:List Value,vs.length=k.md.length→∃τ,(∀{pm:Pm}{F:Nat→Prop}{kv:Key→Value}{fp:Key→List Nat}{a:Act}{w:World},Sim E pm F kv fp (entry rest fn.ntmps k.md (k.ds x)) a w→(∀i,i<vs.length→a.tmps.getD i undef=vs.getD i undef)→Sim E pm F kv fp τ a w)∧
    WpS E c τ (leave E fn.results.toList fn.resultTypes.toList rest fn.params.toList k.md (k.ds x) (k.res x))):SoundCon E f k:=by
 intro x hpre w F vs ls hF hlay hra hrls hnd hld
 obtain⟨l1,l2,l3⟩:=hra.len
 refine calls_of_wp hf hb ?_
 generalize hrest:restOf w k.md (k.ds x) vs=rest
 have hrok:k.md.any isBox=true→rest.length=k.rst:=fun h=>by rw[←hrest];exact qakz hra hrls hb1 h
 have har:AllRest w rest k.md (k.ds x) vs:=by rw[←hrest];exact qaar hb1
 have hrn:k.md.any isBox=false→rest=[]:=fun h=>by rw[←hrest];exact qala h
 obtain⟨kv0,fp0,h0,hpins0⟩:=qadw (n:=fn.ntmps) (rest:=rest) hF hlay hra har hnd hld hms hsz
 have hsize:(vs.toArray).size=vs.length:=by simp
 rw[hsize]
 have hpins:∀{kv:Key→Value},(∀i j,j<1024→kv (2000000+i,j)=kv0 (2000000+i,j))→∀{i:Nat}{ms:List Mode}{ds:List (DV U)}{vs:List Value}{ls:List (List Nat)}{mu:List Prop×List (DV U)×List Key}{σ:AState U}{ws:List (List (Option U.Ty))},PinsOk kv0 i ms ds vs→finMuts σ rest i ws ms ds=some mu→PinsOk kv i ms ds vs:=by
  intro kv hk i ms
  induction ms generalizing i with
  |nil=>intro ds vs ls mu σ ws _ _;cases ds<;>trivial
  |cons m ms ih=>
   intro ds vs ls mu σ ws hp hfm
   cases ds with
   |nil=>trivial
   |cons d ds=>
    cases vs with
    |nil=>trivial
    |cons v vs=>
     simp only[finMuts] at hfm
     split at hfm
     ·rename_i h1 h2
      refine⟨?_,ih (ls:=[]) hp.2 h2⟩
      have hp1:=hp.1
      cases m with
      |ro=>trivial
      |mv=>trivial
      |box own=>
       cases d with
       |box cs=>exact(hk i 0 (by decide)).trans hp1
       |one _=>trivial
       |agg _=>trivial
       |ptr _=>trivial
       |fn _=>trivial
      |wr=>
       cases d with
       |one c=>exact(hk i 0 (by decide)).trans hp1
       |agg cs=>
        simp only[fin1] at h1
        rw[zah] at h1
        split at h1
        ·rename_i hlen
         rw[zeq] at hlen
         obtain⟨us,q1,q2,q3,q4⟩:=hp1
         refine⟨us,q1,q2,fun j τ xs hj=> ?_,q4⟩
         have hjl:j<cs.length:=by
          rcases zba j cs.length with g|g
          ·exact g
          ·rw[zaj g] at hj;cases hj
         exact(hk i j (by omega)).trans (q3 j τ xs hj)
        ·cases h1
       |box _=>trivial
       |ptr _=>trivial
       |fn _=>trivial
     ·cases hfm
 have key:∀(σ:AState U),fin E fn.results.toList fn.resultTypes.toList rest fn.params.toList k.md (k.ds x) (k.res x) σ→∀F1 kv fp a' w',Sim E (pmOf w F kv0 ls) F1 kv fp σ a' w'→a'.defers=[]∧∃v,(results fn a'.tmps).run E.P w'=.ok v w'∧∃(us:List Value)(rls mls:List (List Nat)),Ending.returned v=.returned (retV us)∧Upto (·∈ls.flatten) w w'∧
   RRess E w' (grownF F w w' (rls.flatten++mls.flatten)) (k.res x).fresh (k.res x).val us rls∧
   RMuts E w' (grownF F w w' (rls.flatten++mls.flatten)) w k.md vs (k.res x).muts mls∧
   (rls.flatten++mls.flatten).Nodup∧(∀b∈rls.flatten,(b∈ls.flatten∨w.heap.size≤b)∧b<w'.heap.size)∧(∀b∈mls.flatten,b∈ls.flatten∨(w.heap.size≤b∧b<w'.heap.size)):=by
  intro σ hfin F1 kv fp a' w' hs0
  refine⟨hs0.defers,?_⟩
  have hs:Sim E (pmOf w F kv0 ls) F1 kv fp (purge0 σ) a' w':=qakg hs0 _
  unfold fin at hfin
  split at hfin
  ·rename_i ps ds ks qs mu ks' ho hm
   rw[zah] at hfin
   split at hfin
   ·rename_i hc
    simp only[zaf,zcn,zbd] at hc
    obtain⟨⟨⟨c1,c3⟩,c4⟩,c5⟩:=hc
    obtain⟨hp,rfl,rfl⟩:=qaav.1 hfin
    obtain⟨d1,d2,d3⟩:=qadd c1
    have hkvp:∀i j,j<1024→kv (2000000+i,j)=kv0 (2000000+i,j):=fun i j hj=>(hs.pin (2000000+i,j) (kv0 (2000000+i,j)) (by simp[pmOf,hj])).2.2.2
    obtain⟨mls,m1,m2,m3,m4,m5⟩:=qaek hs hm (fun p hp'=>hp p (by simp[hp'])) hra har (hpins hkvp (ls:=[]) hpins0 hm) (qade.1 d2)
    have hmine:∀{k':Key}{b:Nat},((purge0 σ).ent k').isSome=true→b∈fp k'→¬F1 b∧(b∈ls.flatten∨w.heap.size≤b)∧b<w'.heap.size:=by
     intro k' b hk' hb
     obtain⟨e,he⟩:=zag.1 hk'
     exact hs.mine k' e b he hb
    have hml:∀b∈mls.flatten,b∈ls.flatten∨(w.heap.size≤b∧b<w'.heap.size):=by
     intro b hb
     obtain⟨k',hk',hb⟩:=m3 b hb
     have:=hmine (m4 k' hk') hb
     rcases this.2.1 with g|g
     ·exact .inl g
     ·exact .inr ⟨g,this.2.2⟩
    cases hfr:(k.res x).fresh with
    |true=>
     rw[hfr] at ho
     obtain⟨us,rls,o1,o2,o3,o4,o5,o6⟩:=qajp hs ho (fun p hp'=>hp p (by simp[hp'])) (qade.1 d1)
     refine⟨_,qale o1,_,rls,mls,rfl,hs.upto,?_,?_,?_,fun b hb=> ?_,hml⟩
     ·cases hpt:hasPtr (k.res x).val with
      |false=>exact o2.any (o6 hpt)
      |true=>
       have hro:allRoB k.md=true:=c5.resolve_left (by simp[hpt])
       have hls:=ro_flat hra hro
       refine o2.widen fun b hb=> ?_
       rcases hs.Fsub b hb with g|g|g
       ·exact .inl g
       ·simp only[pmOf] at g;rw[hls] at g;cases g
       ·refine .inr ⟨g,hs.Flt b hb,fun hbo=> ?_⟩
        rcases zao.1 hbo with g|g
        ·obtain⟨k',hk',g⟩:=o4 b g;exact(hmine (o5 k' hk') g).1 hb
        ·obtain⟨k',hk',g⟩:=m3 b g;exact(hmine (m4 k' hk') g).1 hb
     ·rcases c4 with c4|c4
      ·exact m1.any c4
      ·refine m1.mono fun b hb=> ?_
       have hnW:b∉ls.flatten:=fun hbl=>by
        obtain⟨k',g1,g2⟩:=m5 c4 b hbl
        exact(hmine (m4 k' g1) g2).1 hb
       have hown:b∉rls.flatten++mls.flatten:=fun hbo=>by
        rcases zao.1 hbo with g|g
        ·obtain⟨k',hk',g⟩:=o4 b g;exact(hmine (o5 k' hk') g).1 hb
        ·obtain⟨k',hk',g⟩:=m3 b g;exact(hmine (m4 k' hk') g).1 hb
       rcases hs.Fsub b hb with g|g|g
       ·exact .inl g
       ·exact absurd g hnW
       ·exact .inr ⟨g,hs.Flt b hb,hown⟩
     ·rw[zav]
      refine⟨o3,m2,fun b hb c hc e=> ?_⟩
      subst e
      obtain⟨k1,hk1,hb1⟩:=o4 b hb
      obtain⟨k2,hk2,hb2⟩:=m3 b hc
      obtain⟨e1,he1⟩:=zag.1 (o5 k1 hk1)
      obtain⟨e2,he2⟩:=zag.1 (m4 k2 hk2)
      exact hs.apart k1 k2 e1 e2 b (fun e=>d3 k1 hk1 (by rw[e];exact hk2)) he1 he2 hb1 hb2
     ·obtain⟨k',hk',hb⟩:=o4 b hb
      exact(hmine (o5 k' hk') hb).2
    |false=>
     have hro:allRoB k.md=true:=c3.resolve_left (by simp[hfr])
     have hls:=ro_flat hra hro
     rw[hfr] at ho
     have hmls:mls.flatten=[]:=by
      have:∀{ms:List Mode}{vs:List Value}{mu:List (DV U)}{mls:List (List Nat)},RMuts E w' F1 w ms vs mu mls→allRoB ms=true→mls.flatten=[]:=by
       intro ms
       induction ms with
       |nil=>intro vs mu mls h _;cases vs<;>cases mu<;>cases mls<;>first|rfl|exact h.elim
       |cons m ms ih=>
        intro vs mu mls h hr
        simp only[allRoB,zdr,zaf] at hr
        cases m with
        |ro=>cases vs with
         |nil=>cases mu<;>cases mls<;>exact h.elim
         |cons v vs=>exact ih (by simpa[RMuts] using h) hr.2
        |wr=>simp at hr
        |mv=>simp at hr
        |box _=>simp at hr
      exact this m1 hro
     obtain⟨us,rls,o1,o2,o3⟩:=qajq hs (F':=grownF F w w' []) (fun b hb=>by
       rcases hs.Fsub b hb with g|g|g
       ·exact .inl g
       ·simp only[pmOf] at g;rw[hls] at g;cases g
       ·exact .inr ⟨g,hs.Flt b hb,by simp⟩) (fun k' e b he hb=>by
       have:=hmine (by rw[he];rfl) hb
       rw[hls] at this
       exact .inr ⟨this.2.1.resolve_left (by simp),this.2.2,by simp⟩) ho (fun p hp'=>hp p (by simp[hp']))
     refine⟨_,qale o1,_,rls,mls,rfl,hs.upto,by rw[o3,hmls];exact o2,m1.any ?_,by rw[o3,hmls];exact zdu,by rw[o3];simp,hml⟩
     rw[←zbj]
     intro hbx
     unfold hasBox at hbx
     obtain⟨m,hm1,hm2⟩:=zbb.1 hbx
     have:=zcb.1 hro m hm1
     cases m<;>simp at hm2 this
   ·exact hfin.elim
  ·exact hfin.elim
 obtain⟨τ,hτ,hwp⟩:=hw x hpre hra.bd rest hrok hrn vs (by omega)
 refine hwp (hτ h0 (fun i hi=>by simp[Array.getD,zac,hi,zds hi (Nat.le_add_right _ _)])) (fun o ho F1 kv fp a' w' hs=> ?_)
 cases o with
 |normal σ=>exact key σ ho F1 kv fp a' w' hs
 |ret σ=>exact key σ ho F1 kv fp a' w' hs
 |exit id σ=>exact ho.elim
theorem qaeu(hE:E.Good){f:FuncId}{fn:Func}{c:Code}(hf:E.P.funcs[f]? =some fn)(hb:fn.body=some c)(k:Con U)(ann:k.α→Nat→Option (Ann U))(hms:k.md.length≤fn.ntmps)(hsz:fn.ntmps≤1000000)(hb1:boxes1 k.md=true)
  (hw:∀x,(∀p∈k.pre x,p)→(∀d∈k.ds x,BdDV d)→∀rest,(k.md.any isBox=true→rest.length=k.rst)→(k.md.any isBox=false→rest=[])→
   AM.wp E (ann x) c (entry rest fn.ntmps k.md (k.ds x)) (leave E fn.results.toList fn.resultTypes.toList rest fn.params.toList k.md (k.ds x) (k.res x))):SoundCon E f k:=
 fn_sound' hE hf hb k hms hsz hb1 fun x hp hd rest hr hn _ _=>⟨_,fun h _=>h,wpS_of hE (hw x hp hd rest hr hn)⟩
theorem Sim.over{F:Nat→Prop}{kv:Key→Value}{fp:Key→List Nat}{σ:AState U}{a:Act}{w:World}{pm:Pm}(h:Sim E pm F kv fp σ a w)(s:Nat)(x:SV U)(hx:RS E w F kv fp (badK σ) x (a.tmps.getD s undef)):
  Sim E pm F kv fp {σ with slots:=(s,some x)::σ.slots} a w:=by
 refine{h with slots:=fun t y hy=> ?_}
 unfold AState.get at hy
 simp only[look] at hy
 cases hb:Nat.beq s t<;>rw[hb] at hy<;>simp only[cond_true,cond_false] at hy
 ·exact h.slots t y hy
 ·cases hy
  rw[←zai hb]
  exact hx
def entryN(n:Nat)(b:Bool)(τ:U.Ty)(xs:List (U.T τ)):AState U:={entry [] n [.ro] [.one (.sl τ xs)] with slots:=(0,some (one (.kn b τ xs)))::(entry [] n [.ro] [.one (.sl τ xs)]).slots}
theorem qaev(hE:E.Good){f:FuncId}{fn:Func}{c:Code}(hf:E.P.funcs[f]? =some fn)(hb:fn.body=some c)(k:Con U)(ann:k.α→Nat→Option (Ann U))(hms:k.md.length≤fn.ntmps)(hsz:fn.ntmps≤1000000)(hb1:boxes1 k.md=true)
  (hmd:k.md=[.ro]) (τ:U.Ty) (xs:k.α→List (U.T τ)) (hds:∀x,k.ds x=[.one (.sl τ (xs x))])
  (hw:∀x,(∀p∈k.pre x,p)→(∀d∈k.ds x,BdDV d)→∀b:Bool,(b=true→xs x=[])→
   AM.wp E (ann x) c (entryN fn.ntmps b τ (xs x)) (leave E fn.results.toList fn.resultTypes.toList [] fn.params.toList k.md (k.ds x) (k.res x))):SoundCon E f k:=by
 refine fn_sound' hE hf hb k hms hsz hb1 fun x hp hd rest hr hn vs hvl=> ?_
 have hrest:rest=[]:=hn (by rw[hmd];rfl)
 subst hrest
 have hvl:0<vs.length:=by rw[hvl,hmd];decide
 by_cases hv:isNilV (vs.getD 0 undef)=true→xs x=[]
 ·refine⟨entryN fn.ntmps (isNilV (vs.getD 0 undef)) τ (xs x),fun{pm F kv fp a w} h ha=> ?_,wpS_of hE (hw x hp hd _ hv)⟩
  rw[hmd,hds] at h
  have h0:=h.slots 0 (one (.c (.sl τ (xs x)))) rfl
  have h1:Rp E w F false (.sl τ (xs x)) (a.tmps.getD 0 undef) []:=RA_of (qaaf h0 rfl) rfl
  rw[ha 0 hvl] at h1
  have h2:=h.over 0 (one (.kn (isNilV (vs.getD 0 undef)) τ (xs x))) (RS_one (x:=.kn (isNilV (vs.getD 0 undef)) τ (xs x)) (by rw[ha 0 hvl];exact⟨by rw[←ha 0 hvl];exact(qaaf (h.slots 0 (one (.c (.sl τ (xs x)))) rfl) rfl).1,.inr ⟨h1,rfl⟩⟩))
  exact h2
 ·refine⟨entryN fn.ntmps false τ (xs x),fun{pm F kv fp a w} h ha=> ?_,wpS_of hE (hw x hp hd _ (by simp))⟩
  rw[hmd,hds] at h
  have h0:=h.slots 0 (one (.c (.sl τ (xs x)))) rfl
  have h1:Rp E w F false (.sl τ (xs x)) (a.tmps.getD 0 undef) []:=RA_of (qaaf h0 rfl) rfl
  rw[ha 0 hvl] at h1
  refine absurd (fun hn=> ?_) hv
  rcases h1.inv with⟨h3,_⟩|⟨b,off,cap,vs',h3,_⟩
  ·exact h3
  ·rw[h3] at hn;simp[isNilV] at hn
end
theorem Rp.env{E E':Env U}(ht:E'.tid=E.tid){w:World}{F:Nat→Prop}{m:Bool}{c:U.C}{v:Value}{l:List Nat}(h:Rp E w F m c v l):Rp E' w F m c v l:=by
 induction h with
 |lit m v h=>exact .lit m v h
 |nil m τ a c h=>exact .nil m τ a c h
 |shr τ xs b off cap vs hFb hc hm hv hr ih=>exact .shr τ xs b off cap vs hFb hc hm hv ih
 |own τ xs b cap cur vs fps hb hc hm hs hv hr ih=>exact .own τ xs b cap cur vs fps (by rw[ht];exact hb) hc hm hs hv ih
section
variable{E E':Env U}{w:World}{F:Nat→Prop}
theorem ROwn.env(ht:E'.tid=E.tid){d:Bool}{a:Arr U}{v:Value}{l:List Nat}(h:ROwn E w F d a v l):ROwn E' w F d a v l:=by
 rcases h with h|⟨b,cap,cur,vs,fps,h1,h2,h3,h4,h5,h6,h7,h8⟩
 ·exact .inl h
 ·exact .inr ⟨b,cap,cur,vs,fps,h1,by rw[ht];exact h2,h3,h4,h5,h6,fun i x j c hx hj=>(h7 i x j c hx hj).env ht,h8⟩
theorem RBoxD.env(ht:E'.tid=E.tid){own:Bool}{cs:List U.C}{rest:List Value}{v:Value}{l:List Nat}(h:RBoxD E w F own cs rest v l):RBoxD E' w F own cs rest v l:=by
 obtain⟨b,cur,e,fl,h1,h2,h3,h4,h5,h6,h7,h8⟩:=h
 exact⟨b,cur,e,fl,h1,h2,h3,h4,h5,h6,fun i c hc=>(h7 i c hc).env ht,h8⟩
theorem RAggO.env(ht:E'.tid=E.tid){cs:List U.C}{v:Value}{l:List Nat}(h:RAggO E w F cs v l):RAggO E' w F cs v l:=by
 obtain⟨vs,fl,h1,h2,h3,h4,h5⟩:=h
 exact⟨vs,fl,h1,h2,h3,fun i c hc=>(h4 i c hc).env ht,h5⟩
theorem RDA.env(ht:E'.tid=E.tid){d:DA U}{v:Value}(h:RDA E w F d v):RDA E' w F d v:=by
 obtain⟨vs,h1,h2,h3⟩:=h
 exact⟨vs,h1,fun i c hc=>(h2 i c hc).env ht,h3⟩
theorem FnSpec.env(hP:E'.P=E.P)(ht:E'.tid=E.tid){p:List (DA U)→Option Value}{v:Value}(h:FnSpec E w F p v):FnSpec E' w F p v:=by
 obtain⟨g,caps,h1,h2,h3⟩:=h
 refine⟨g,caps,h1,by rw[hP];exact h2,fun ds r hr w' F' h4 h5 vs h6=> ?_⟩
 rw[hP]
 exact h3 ds r hr w' F' h4 h5 vs ⟨h6.1,fun i d v hd hv=>(h6.2 i d v hd hv).env ht.symm⟩
theorem RArg.env(hP:E'.P=E.P)(ht:E'.tid=E.tid){m:Mode}{d:DV U}{v:Value}{l:List Nat}(h:RArg E w F m d v l):RArg E' w F m d v l:=by
 cases m with
 |ro=>
  cases d with
  |one c=>exact⟨h.1.env ht,h.2⟩
  |agg cs=>obtain⟨vs,h1,h2,h3,h4⟩:=h;exact⟨vs,h1,h2,fun i c hc=>(h3 i c hc).env ht,h4⟩
  |ptr cs=>
   obtain⟨⟨b,o,h1,h2,h3⟩,h4⟩:=h
   exact⟨⟨b,o,h1,h2,fun i c hc=>by obtain⟨u,g1,g2⟩:=h3 i c hc;exact⟨u,g1,g2.env ht⟩⟩,h4⟩
  |fn _=>exact⟨h.1.env hP ht,h.2⟩
  |box _=>exact h.elim
 |wr=>
  cases d with
  |one c=>cases c with
   |lit _=>exact h.elim
   |sl τ xs=>exact ROwn.env ht h
  |agg _=>exact RAggO.env ht h
  |box _=>exact h.elim
  |ptr _=>exact h.elim
  |fn _=>exact h.elim
 |mv=>
  cases d with
  |one c=>exact Rp.env ht h
  |agg _=>exact RAggO.env ht h
  |box _=>exact h.elim
  |ptr _=>exact h.elim
  |fn _=>exact h.elim
 |box own=>
  cases d with
  |box cs=>exact RBoxD.env ht h
  |one _=>exact h.elim
  |agg _=>exact h.elim
  |ptr _=>exact h.elim
  |fn _=>exact h.elim
theorem RArgs.env(hP:E'.P=E.P)(ht:E'.tid=E.tid):∀{ms:List Mode}{ds:List (DV U)}{vs:List Value}{ls:List (List Nat)},RArgs E w F ms ds vs ls→RArgs E' w F ms ds vs ls
 |[],[],[],[],_=>trivial
 |m::ms,d0::ds,v::vs,l::ls,h=>⟨h.1.env hP ht,RArgs.env hP ht h.2⟩
 |[],_::_,_,_,h=>h.elim
 |[],[],_::_,_,h=>h.elim
 |[],[],[],_::_,h=>h.elim
 |_::_,[],_,_,h=>h.elim
 |_::_,_::_,[],_,h=>h.elim
 |_::_,_::_,_::_,[],h=>h.elim
theorem RRes.env(ht:E'.tid=E.tid){fresh:Bool}{d:DV U}{v:Value}{l:List Nat}(h:RRes E w F fresh d v l):RRes E' w F fresh d v l:=by
 cases d with
 |ptr _=>exact h
 |fn _=>exact h
 |one c=>cases fresh with
  |true=>exact Rp.env ht h
  |false=>exact⟨h.1.env ht,h.2⟩
 |agg cs=>cases fresh with
  |true=>exact RAggO.env ht h
  |false=>obtain⟨vs,h1,h2,h3,h4⟩:=h;exact⟨vs,h1,h2,fun i c hc=>(h3 i c hc).env ht,h4⟩
 |box cs=>obtain⟨g,b,cur,e,h1,h2,h3,h4,h5⟩:=h;exact⟨g,b,cur,e,h1,h2,h3,h4,fun i c hc=>(h5 i c hc).env ht⟩
theorem RRess.env(ht:E'.tid=E.tid){fresh:Bool}:∀{ds:List (DV U)}{us:List Value}{ls:List (List Nat)},RRess E w F fresh ds us ls→RRess E' w F fresh ds us ls
 |[],[],[],_=>trivial
 |d::ds,u::us,l::ls,h=>⟨h.1.env ht,RRess.env ht h.2⟩
 |[],_::_,_,h=>h.elim
 |[],[],_::_,h=>h.elim
 |_::_,[],_,h=>h.elim
 |_::_,_::_,[],h=>h.elim
theorem RMuts.env(ht:E'.tid=E.tid){w0:World}:∀{ms:List Mode}{vs:List Value}{dm:List (DV U)}{ls:List (List Nat)},RMuts E w F w0 ms vs dm ls→RMuts E' w F w0 ms vs dm ls:=by
 intro ms
 induction ms with
 |nil=>intro vs dm ls h;cases vs<;>cases dm<;>cases ls<;>first|trivial|exact h.elim
 |cons m ms ih=>
  intro vs dm ls h
  cases m with
  |ro=>cases vs with
   |nil=>cases dm<;>cases ls<;>exact h.elim
   |cons v vs=>simp only[RMuts] at h⊢;exact ih h
  |mv=>cases vs with
   |nil=>cases dm<;>cases ls<;>exact h.elim
   |cons v vs=>simp only[RMuts] at h⊢;exact ih h
  |wr=>cases vs with
   |nil=>cases dm<;>cases ls<;>exact h.elim
   |cons v vs=>cases dm with
    |nil=>cases ls<;>exact h.elim
    |cons d dm=>cases d with
     |one c=>cases c with
      |lit _=>cases ls<;>exact h.elim
      |sl τ ys=>cases ls with
       |nil=>exact h.elim
       |cons l ls=>exact⟨h.1.env ht,ih h.2⟩
     |agg cs=>cases ls with
       |nil=>exact h.elim
       |cons l ls=>exact⟨h.1.env ht,ih h.2⟩
     |box _=>cases ls<;>exact h.elim
     |ptr _=>cases ls<;>exact h.elim
     |fn _=>cases ls<;>exact h.elim
  |box own=>cases vs with
   |nil=>cases dm<;>cases ls<;>exact h.elim
   |cons v vs=>cases dm with
    |nil=>cases ls<;>exact h.elim
    |cons d dm=>cases d with
     |box cs=>cases ls with
       |nil=>exact h.elim
       |cons l ls=>exact⟨h.1.env ht,ih h.2⟩
     |one _=>cases ls<;>exact h.elim
     |agg _=>cases ls<;>exact h.elim
     |ptr _=>cases ls<;>exact h.elim
     |fn _=>cases ls<;>exact h.elim
end
theorem SoundCon.env{E E':Env U}(hP:E'.P=E.P)(ht:E'.tid=E.tid)(hT:E'.tabs=E.tabs){f:FuncId}{k:Con U}(h:SoundCon E f k):SoundCon E' f k:=by
 intro x hp w F vs ls h1 hL h2 hrl h3 h4
 have:=h x hp w F vs ls h1 (by unfold Lay;rw[←hT];exact hL) (h2.env hP.symm ht.symm) hrl h3 h4
 rw[hP]
 refine this.mono ?_
 rintro e w' ⟨us,rls,mls,g1,g2,g3,g4,g5⟩
 exact⟨us,rls,mls,g1,g2,g3.env ht,g4.env ht,g5⟩
def conOf:List (FuncId×Con U)→FuncId→Option (Con U)
 |[],_=>none
 |(g,k)::r,f=>bif Nat.beq g f then some k else conOf r f
def Env.add(E:Env U)(l:List (FuncId×Con U)):Env U:={E with con:=conOf l}
def Holds(E:Env U)(p:FuncId×Con U):Prop:=FnOk E.P p.1∧SoundCon E p.1 p.2
theorem qafv{E:Env U}(hE:E.Ok){l:List (FuncId×Con U)}(h:∀p∈l,Holds E p):(E.add l).Good:=by
 refine⟨⟨hE.code,hE.mixed⟩,fun f k hk=> ?_⟩
 have:∀{l:List (FuncId×Con U)},conOf l f=some k→(f,k)∈l:=by
  intro l
  induction l with
  |nil=>intro h;cases h
  |cons p l ih=>
   obtain⟨g,k'⟩:=p
   intro h
   simp only[conOf] at h
   cases hb:Nat.beq g f<;>rw[hb] at h<;>simp only[cond_true,cond_false] at h
   ·exact zaa _ (ih h)
   ·cases h
    rw[zai hb]
    exact zab
 have h1:=h _ (this hk)
 exact⟨h1.1,SoundCon.env (E:=E) (E':=E.add l) rfl rfl rfl h1.2⟩
def bodyOf(fn:Func):Code:=match fn.body with|some c=>c|none=> .skip
def goalR(rest:List Value)(E:Env U)(l:List (FuncId×Con U))(fn:Func)(k:Con U)(ann:k.α→Nat→Option (Ann U))(x:k.α):Prop:=
 AM.wp (E.add l) (ann x) (bodyOf fn) (entry rest fn.ntmps k.md (k.ds x)) (leave (E.add l) fn.results.toList fn.resultTypes.toList rest fn.params.toList k.md (k.ds x) (k.res x))
def goal(E:Env U)(l:List (FuncId×Con U))(fn:Func)(k:Con U)(ann:k.α→Nat→Option (Ann U))(x:k.α):Prop:=goalR [] E l fn k ann x
def okFn(P:Program)(f:FuncId)(fn:Func)(ms:List Mode):Bool:=
 fn.body.isSome&& !(fn.name== "runtime.NumGoroutine")&&Nat.ble ms.length fn.ntmps&&Nat.ble fn.ntmps 1000000&&boxes1 ms
theorem qagb{E:Env U}(hE:E.Ok){f:FuncId}{fn:Func}(hf:E.P.funcs[f]? =some fn)(k:Con U)(hc:okFn E.P f fn k.md=true)(l:List (FuncId×Con U))(hl:∀p∈l,Holds E p)
  (ann:k.α→Nat→Option (Ann U)) (hw:∀x,(∀p∈k.pre x,p)→(∀d∈k.ds x,BdDV d)→∀rest,(k.md.any isBox=true→rest.length=k.rst)→(k.md.any isBox=false→rest=[])→goalR rest E l fn k ann x):Holds E (f,k):=by
 unfold okFn at hc
 simp only[zaf,zbd,zeq] at hc
 obtain⟨⟨⟨⟨c1,c2⟩,c3⟩,c4⟩,c5⟩:=hc
 refine⟨⟨fn,hf,c1,c2⟩,?_⟩
 have hb:fn.body=some (bodyOf fn):=by
  unfold bodyOf
  cases h:fn.body with
  |none=>rw[h] at c1;cases c1
  |some c=>rfl
 have:=qaeu (E:=E.add l) (qafv hE hl) hf hb k ann c3 c4 c5 hw
 exact SoundCon.env (E:=E.add l) (E':=E) rfl rfl rfl this
theorem holds_of{E:Env U}(hE:E.Ok){f:FuncId}{fn:Func}(hf:E.P.funcs[f]? =some fn)(k:Con U)(hc:okFn E.P f fn k.md=true)(l:List (FuncId×Con U))(hl:∀p∈l,Holds E p)
  (ann:k.α→Nat→Option (Ann U)) (hw:∀x,(∀p∈k.pre x,p)→(∀d∈k.ds x,BdDV d)→goal E l fn k ann x) (h0:k.rst=0:=by rfl):Holds E (f,k):=
 qagb hE hf k hc l hl ann (fun x hp hb rest hr hn=>by
  have e:rest=[]:=by
   cases hbx:k.md.any isBox with
   |false=>exact hn hbx
   |true=>exact zbh ((hr hbx).trans h0)
  rw[e];exact hw x hp hb)
theorem holds_ofX{E:Env U}(hE:E.Ok){f:FuncId}{fn:Func}(hf:E.P.funcs[f]? =some fn)(k:Con U)(hc:okFn E.P f fn k.md=true)(hbx:k.md.any isBox=true)(l:List (FuncId×Con U))(hl:∀p∈l,Holds E p)
  (ann:k.α→Nat→Option (Ann U)) (hw:∀x,(∀p∈k.pre x,p)→(∀d∈k.ds x,BdDV d)→∀rest:List Value,rest.length=k.rst→goalR rest E l fn k ann x):Holds E (f,k):=
 qagb hE hf k hc l hl ann (fun x hp hb rest hr _=>hw x hp hb rest (hr hbx))
def goalN(E:Env U)(l:List (FuncId×Con U))(fn:Func)(k:Con U)(ann:k.α→Nat→Option (Ann U))(x:k.α)(τ:U.Ty)(xs:List (U.T τ))(b:Bool):Prop:=
 AM.wp (E.add l) (ann x) (bodyOf fn) (entryN fn.ntmps b τ xs) (leave (E.add l) fn.results.toList fn.resultTypes.toList [] fn.params.toList k.md (k.ds x) (k.res x))
theorem holds_ofN{E:Env U}(hE:E.Ok){f:FuncId}{fn:Func}(hf:E.P.funcs[f]? =some fn)(k:Con U)(hc:okFn E.P f fn k.md=true)(hmd:k.md=[.ro])(τ:U.Ty)(xs:k.α→List (U.T τ))(hds:∀x,k.ds x=[.one (.sl τ (xs x))])
  (l:List (FuncId×Con U)) (hl:∀p∈l,Holds E p)
  (ann:k.α→Nat→Option (Ann U)) (hw:∀x,(∀p∈k.pre x,p)→(∀d∈k.ds x,BdDV d)→goalN E l fn k ann x τ (xs x) false∧(xs x=[]→goalN E l fn k ann x τ (xs x) true)):Holds E (f,k):=by
 unfold okFn at hc
 simp only[zaf,zbd,zeq] at hc
 obtain⟨⟨⟨⟨c1,c2⟩,c3⟩,c4⟩,c5⟩:=hc
 refine⟨⟨fn,hf,c1,c2⟩,?_⟩
 have hb:fn.body=some (bodyOf fn):=by
  unfold bodyOf
  cases h:fn.body with
  |none=>rw[h] at c1;cases c1
  |some c=>rfl
 have:=qaev (E:=E.add l) (qafv hE hl) hf hb k ann c3 c4 c5 hmd τ xs hds (fun x hp hd b hb=>by
  cases b with
  |false=>exact(hw x hp hd).1
  |true=>exact(hw x hp hd).2 (hb rfl))
 exact SoundCon.env (E:=E.add l) (E':=E) rfl rfl rfl this
def goalCA(E:Env U)(l:List (FuncId×Con U))(fn:Func)(k:Con U)(ann:k.α→Nat→Option (Ann U))(x:k.α)(r:Nat)(A:Ann U):Prop:=
 AM.wp (E.add l) (ann x) (cutA r (bodyOf fn)) (entry [] fn.ntmps k.md (k.ds x)) (cutQ A (leave (E.add l) fn.results.toList fn.resultTypes.toList [] fn.params.toList k.md (k.ds x) (k.res x)))
def goalCB(E:Env U)(l:List (FuncId×Con U))(fn:Func)(k:Con U)(ann:k.α→Nat→Option (Ann U))(x:k.α)(r:Nat)(A:Ann U)(y:A.X):Prop:=
 AM.wp (E.add l) (ann x) (cutB r (bodyOf fn)) (headAt A [] ⟨fn.ntmps,[],[],[]⟩ y) (leave (E.add l) fn.results.toList fn.resultTypes.toList [] fn.params.toList k.md (k.ds x) (k.res x))
theorem holds_cut{E:Env U}(hE:E.Ok){f:FuncId}{fn:Func}(hf:E.P.funcs[f]? =some fn)(k:Con U)(hc:okFn E.P f fn k.md=true)(l:List (FuncId×Con U))(hl:∀p∈l,Holds E p)
  (ann:k.α→Nat→Option (Ann U)) (r:Nat) (A:k.α→Ann U) (hr:(cutC r (bodyOf fn)).isSome=true)
  (hw:∀x,(∀p∈k.pre x,p)→(∀d∈k.ds x,BdDV d)→goalCA E l fn k ann x r (A x)∧∀y,(A x).I y y→goalCB E l fn k ann x r (A x) y) (h0:k.rst=0:=by rfl):Holds E (f,k):=by
 unfold okFn at hc
 simp only[zaf,zbd,zeq] at hc
 obtain⟨⟨⟨⟨c1,c2⟩,c3⟩,c4⟩,c5⟩:=hc
 refine⟨⟨fn,hf,c1,c2⟩,?_⟩
 have hb:fn.body=some (bodyOf fn):=by
  unfold bodyOf
  cases h:fn.body with
  |none=>rw[h] at c1;cases c1
  |some c=>rfl
 obtain⟨p,hp⟩:=zag.1 hr
 have eA:cutA r (bodyOf fn)=p.1:=by simp only[cutA,hp]
 have eB:cutB r (bodyOf fn)=p.2:=by simp only[cutB,hp]
 have:=fn_sound' (E:=E.add l) (qafv hE hl) hf hb k c3 c4 c5 (fun x hx hd rest hrr hnn _ _=>by
  have e:rest=[]:=by
   cases hbx:k.md.any isBox with
   |false=>exact hnn hbx
   |true=>exact zbh ((hrr hbx).trans h0)
  subst e
  obtain⟨g1,g2⟩:=hw x hx hd
  unfold goalCA at g1
  unfold goalCB at g2
  rw[eA] at g1
  rw[eB] at g2
  exact⟨_,fun h _=>h,qacw (qafv hE hl) hp rfl g1 g2⟩)
 exact SoundCon.env (E:=E.add l) (E':=E) rfl rfl rfl this
def Con.below(k:Con U)(μ:k.α→Nat)(n:Nat):Con U:={k with pre:=fun x=>(μ x<n)::k.pre x}
theorem holds_rec{E:Env U}{f:FuncId}{fn:Func}(hf:E.P.funcs[f]? =some fn){k:Con U}(hc:okFn E.P f fn k.md=true)(μ:k.α→Nat)(h:∀n,Holds E (f,k.below μ n)→Holds E (f,k.below μ (n+1))):Holds E (f,k):=by
 have hok:FnOk E.P f:=by
  unfold okFn at hc
  simp only[zaf,zbd] at hc
  exact⟨fn,hf,hc.1.1.1.1,hc.1.1.1.2⟩
 have all:∀n,Holds E (f,k.below μ n):=by
  intro n
  induction n with
  |zero=>exact⟨hok,fun x hp=>absurd (hp _ zab) (Nat.not_lt_zero _)⟩
  |succ n ih=>exact h n ih
 refine⟨hok,fun x hp=>(all (μ x+1)).2 x fun p hpp=> ?_⟩
 rcases zak.1 hpp with rfl|hpp
 ·exact Nat.lt_succ_self _
 ·exact hp p hpp
theorem all_nil{α:Type 1}{p:α→Prop}:∀x∈([]:List α),p x:=fun x hx=>by cases hx
theorem all_cons{α:Type 1}{p:α→Prop}{a:α}{l:List α}(h:p a)(hl:∀x∈l,p x):∀x∈a::l,p x:=by
 intro x hx
 rcases zak.1 hx with rfl|hx
 ·exact h
 ·exact hl x hx
end AM
