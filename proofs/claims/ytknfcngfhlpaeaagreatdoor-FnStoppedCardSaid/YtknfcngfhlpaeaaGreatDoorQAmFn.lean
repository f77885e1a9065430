import Derived.Test.YtknfcngfhlpaeaaGreatDoorQAmCode
namespace AM
set_option linter.unusedVariables false
open Go
variable{U:kz}
def Dg(i:Nat)(rest:List Value):Mode->DV U->SV U×List (Nat×ie U)
 | .ro,.one c=>(one (.c c),[])
 | .ro,.agg cs=>(.v ⟨true,cs.map .c⟩,[])
 | .ro,.ptr cs=>(one (.ia cs),[])
 | .ro,.fn p=>(.fn p,[])
 | .wr,.one (.sl τ xs)=>(one (.ref (2000000+i,0) []),[(0,.arr ⟨τ,xs⟩ true)])
 | .wr,.agg cs=>(.v ⟨true,(putCells (2000000+i) true 0 cs).1⟩,(putCells (2000000+i) true 0 cs).2)
 | .mv,.one c=>(.v ⟨false,(putCells (2000000+i) true 4096 [c]).1⟩,(putCells (2000000+i) true 4096 [c]).2)
 | .mv,.agg cs=>(.v ⟨true,(putCells (2000000+i) true 4096 cs).1⟩,(putCells (2000000+i) true 4096 cs).2)
 | .box true,.box cs=>(one (.jU (2000000+i,0) 0),(0,.box ((putCells (2000000+i) true 4096 cs).1++rest.map fun v=> .c (.lit v)))::(putCells (2000000+i) true 4096 cs).2)
 | .box false,.box cs=>(one (.jU (2000000+i,0) 0),[(0,.box (cs.map .c++rest.map fun v=> .c (.lit v)))])
 |_,_=>(.uZ [],[])
def Di(rest:List Value):Nat->List Mode->List (DV U)->List (Nat×Option (SV U))
 |i,m::ms,d::ds=>(i,some (Dg i rest m d).1)::Di rest (i+1) ms ds
 |_,_,_=>[]
def Ku(rest:List Value):Nat->List Mode->List (DV U)->List (Key×Option (ie U))
 |i,m::ms,d::ds=>ol (2000000+i) (Dg i rest m d).2++Ku rest (i+1) ms ds
 |_,_,_=>[]
def entry(rest:List Value)(n:Nat)(ms:List Mode)(ds:List (DV U)):ak U:={n,bx:=Di rest 0 ms ds,nG:=Ku rest 0 ms ds,aR:=[]}
def K9(E:Env U)(σ:ak U):ResultVar->Option (AV U)
 | .tmp t=>match σ.get t with
  |some (.v x)=>some x
  |_=>none
 | .cell a t=>match σ.get a with
  |some (.v ⟨false,[.jU k 0]⟩)=>match σ.bH k,E.size t,E.isAgg t with
   |some (.box cs),some n,some g=>bif Nat.beq n cs.length&&(g||Nat.beq n 1) then some ⟨g,cs⟩ else none
   |_,_,_=>none
  |_=>none
def Yu(ds:List (DV U)):Bool:=ds.any fun| .box _=>true|_=>false
def Oa(fresh:Bool)(σ:ak U):AV U->Option (List U.C×Key)
 |⟨false,[.jU k 0]⟩=>bif fresh then(match σ.bH k with|some (.box bs)=>(match plain bs with|some l=>some (l,k)|none=>none)|_=>none) else none
 |_=>none
def outs(E:Env U)(σ:ak U):List Bool->List ResultVar->List TypeId->Option (List Prop×List (DV U)×List Key)
 |_,[],_=>some ([],[],[])
 |fs,r::rs,ts=>match K9 E σ r with
  |some x=>
   match Oa (fs.headD true) σ x with
   |some (l,k)=>match outs E σ fs.tail rs ts.tail with
    |some (qs,ds,ks')=>some (qs,.box l::ds,k::ks')
    |none=>none
   |none=>
   let want:=match ts with|t::_=>E.shape 8 t|[]=>[]
   let tb:=restrict σ.bH (SV.v x).keys
   match(bif fs.headD true then(match eE tb want x.cs with|some (ps,cs,ks,true)=>some (ps,cs,ks)|_=>none) else(match cellsOf tb σ.aR want x.cs with|some (ps,cs)=>some (ps,cs,[])|none=>none)) with
   |some (ps,cs,ks)=>match Kv x cs,outs E σ fs.tail rs ts.tail with
    |some d,some (qs,ds,ks')=>some (ps++qs,d::ds,ks++ks')
    |_,_=>none
   |none=>none
  |none=>none
def oz(σ:ak U)(i:Nat):Nat->List U.C->Option (List U.C×List Key)
 |_,[]=>some ([],[])
 |j,.lit v::r=>match oz σ i (j+1) r with|some (cs,ks)=>some (.lit v::cs,ks)|none=>none
 |j,.sl _ _::r=>match σ.bH (2000000+i,j),oz σ i (j+1) r with
  |some (.arr a true),some (cs,ks)=>some (.sl a.τ a.xs::cs,(2000000+i,j)::ks)
  |_,_=>none
def NY(bs:List (AC U))(rest:List Value):List Prop:=(bs.length=rest.length)::(match rest with
 |[]=>[]
 |r=>[bs=r.map fun v=> .c (.lit v)])
theorem aax{bs:List (AC U)}{rest:List Value}(h:∀p∈NY bs rest,p):bs=rest.map fun v=> .c (.lit v):=by
 cases rest with
 |nil=>exact Fy (h _ gS)
 |cons r rs=>exact h _ (e8 _ gS)
def Gs(σ:ak U)(rest:List Value)(i:Nat)(want:List (Option U.Ty)):Mode->DV U->Option (List Prop×List (DV U)×List Key)
 | .ro,_=>some ([],[],[])
 | .mv,_=>some ([],[],[])
 | .wr,.one (.sl _ _)=>match σ.bH (2000000+i,0) with
  |some (.arr a true)=>some ([],[.one (.sl a.τ a.xs)],[(2000000+i,0)])
  |_=>none
 | .wr,.agg cs=>bif Nat.ble cs.length 1024 then(match oz σ i 0 cs with|some (ds,ks)=>some ([],[.agg ds],ks)|none=>none) else none
 | .box true,.box cs=>match σ.bH (2000000+i,0) with
  |some (.box bs)=>match eE (restrict σ.bH (SV.v ⟨true,bs⟩).keys) want (bs.take cs.length) with
   |some (ps,l,ks,true)=>bif Nat.beq l.length cs.length then some (ps++NY (bs.drop cs.length) rest,[.box l],(2000000+i,0)::ks) else none
   |_=>none
  |_=>none
 | .box false,.box cs=>match σ.bH (2000000+i,0) with
  |some (.box bs)=>match plain (bs.take cs.length) with
   |some l=>bif Nat.beq l.length cs.length then some (NY (bs.drop cs.length) rest,[.box l],[(2000000+i,0)]) else none
   |none=>none
  |_=>none
 |_,_=>none
def rD(σ:ak U)(rest:List Value):Nat->List (List (Option U.Ty))->List Mode->List (DV U)->Option (List Prop×List (DV U)×List Key)
 |i,ws,m::ms,d::ds=>match Gs σ rest i (ws.headD []) m d,rD σ rest (i+1) ws.tail ms ds with
  |some (ps,xs,ks),some (qs,ys,ks')=>some (ps++qs,xs++ys,ks++ks')
  |_,_=>none
 |_,_,_,_=>some ([],[],[])
def Px(ms:List Mode):Bool:=ms.any fun m=>match m with| .wr=>true| .mv=>true| .box true=>true|_=>false
def rM(ms:List Mode):Bool:=ms.all fun| .ro=>true|_=>false
def pk(E:Env U)(σ:ak U):List Bool->List ResultVar->List Key
 |_,[]=>[]
 |fs,r::rs=>(bif fs.headD true then[] else match K9 E σ r with|some x=>(SV.v x).keys|none=>[])++pk E σ fs.tail rs
def fin(E:Env U)(rs:List ResultVar)(ts:List TypeId)(rest:List Value)(ps:List TypeId)(ms:List Mode)(ds:List (DV U))(r:Res U)(σ:ak U):Prop:=
 match outs E (iY σ) r.fresh rs ts,rD (iY σ) rest 0 (ps.map E.yi) ms ds with
 |some (ps,vs,ks),some (qs,mu,ks')=>bif distinct (ks++ks')&& !(meet (pk E (iY σ) r.fresh rs) (ks++ks'))&&(!(Yu r.val)||rM ms) then Nf (ps++qs) (vs=r.val/\mu=r.Ip) else False
 |_,_=>False
def leave(E:Env U)(rs:List ResultVar)(ts:List TypeId)(rest:List Value)(ps:List TypeId)(ms:List Mode)(ds:List (DV U))(r:Res U):Out U->Prop
 | .ret σ=>fin E rs ts rest ps ms ds r σ
 | .normal σ=>fin E rs ts rest ps ms ds r σ
 | .exit _ _=>False
section
variable{E:Env U}{w:World}{F:Nat->Prop}
theorem iP.len:∀{ms:List Mode}{ds:List (DV U)}{vs:List Value}{ls:List (List Nat)},iP E w F ms ds vs ls->ds.length=ms.length/\vs.length=ms.length/\ls.length=ms.length
 |[],[],[],[],_=>⟨rfl,rfl,rfl⟩
 |m::ms,d::ds,v::vs,l::ls,h=>by
  obtain⟨h1,h2,h3⟩:=iP.len h.2
  simp[h1,h2,h3]
 |[],_::_,_,_,h=>h.elim
 |[],[],_::_,_,h=>h.elim
 |[],[],[],_::_,h=>h.elim
 |_::_,[],_,_,h=>h.elim
 |_::_,_::_,[],_,h=>h.elim
 |_::_,_::_,_::_,[],h=>h.elim
theorem tn{ls:List (List Nat)}:ls.flatten.Nodup↔(∀l∈ls,l.Nodup)/\ls.Pairwise (fun a b=>∀x∈a,∀y∈b,x≠y):=List.pairwise_flatten
theorem ai2{ls:List (List Nat)}(h:ls.flatten.Nodup){i j:Nat}(D2:i≠j){b:Nat}(hb:b∈ls.getD i []):b∉ls.getD j []:=by
 intro bg
 rw[tn] at h
 have fU:∀{k:Nat},b∈ls.getD k []->∃hk:k<ls.length,b∈ls[k]:=by
  intro k hk
  rcases nL k ls.length with g|g
  ·exact⟨g,by rwa[dB,eW g] at hk⟩
  ·rw[dB,nb g] at hk;cases hk
 obtain⟨hi,hb⟩:=fU hb
 obtain⟨hj,bg⟩:=fU bg
 have hp:=Q7.1 h.2
 rcases Nat.lt_or_gt_of_ne D2 with g|g
 ·exact hp i j hi hj g _ hb _ bg rfl
 ·exact hp j i hj hi g _ bg _ hb rfl
theorem aij{ls:List (List Nat)}{j b:Nat}(hb:b∈ls.getD j []):b∈ls.flatten:=by
 rcases nL j ls.length with g|g
 ·rw[dB,eW g] at hb
  exact VW.2 ⟨_,DU g,hb⟩
 ·rw[dB,nb g] at hb;cases hb
theorem aaM{ls:List (List Nat)}(h:ls.flatten.Nodup)(j:Nat):(ls.getD j []).Nodup:=by
 rcases nL j ls.length with g|g
 ·rw[dB,eW g]
  exact(tn.1 h).1 _ (DU g)
 ·rw[dB,nb g];exact VV
theorem ajj{a b:List Key}(h:distinct (a++b)=true):distinct a=true/\distinct b=true/\∀k∈a,k∉b:=by
 rw[tf,p8] at h
 exact⟨tf.2 h.1,tf.2 h.2.1,fun k hk cK=>h.2.2 k hk k cK rfl⟩
theorem ajh{x:AV U}{cs:List U.C}{d:DV U}{v:Value}{vs:List Value}{fl:List (List Nat)}(hd:Kv x cs=some d)(hv:if x.agg then v=.agg vs.toArray else vs=[v])(hl:vs.length=cs.length)(hf:fl.length=cs.length)
  (h:∀(i:Nat)(c:U.C),cs[i]? =some c->Rp E w F true c (vs.getD i undef) (fl.getD i [])):kf E w F true d v fl.flatten:=by
 unfold Kv at hd
 cases Q2:x.agg<;>rw[Q2] at hd hv<;>simp only[cond_true,cond_false,wb,if_false,if_true] at hd hv
 ·split at hd
  ·rename_i c
   cases hd
   subst hv
   simp only[ir,ig] at hf
   obtain⟨l,rfl⟩:=List.length_eq_one_iff.1 hf
   simpa[kf] using h 0 c rfl
  ·cases hd
 ·cases hd
  simp only[kf,if_true]
  exact⟨vs,fl,hv,hl,hf,h,rfl⟩
theorem ajg{x:AV U}{cs:List U.C}{d:DV U}{v:Value}{vs:List Value}(hd:Kv x cs=some d)(hv:if x.agg then v=.agg vs.toArray else vs=[v])(hl:vs.length=cs.length)
  (h:∀(i:Nat)(c:U.C),cs[i]? =some c->Rp E w F false c (vs.getD i undef) []):kf E w F false d v []:=by
 unfold Kv at hd
 cases Q2:x.agg<;>rw[Q2] at hd hv<;>simp only[cond_true,cond_false,wb,if_false,if_true] at hd hv
 ·split at hd
  ·rename_i c
   cases hd
   subst hv
   simpa[kf] using h 0 c rfl
  ·cases hd
 ·cases hd
  simp only[kf,wb,if_false]
  exact⟨vs,hv,hl,h,trivial⟩
def QI(i:Nat)(m:Mode)(d:DV U)(v:Value)(kv:Key->Value):Prop:=
 match m,d with
 | .wr,.one _=>kv (2000000+i,0)=v
 | .wr,.agg cs=>∃vs:List Value,v=.agg vs.toArray/\vs.length=cs.length/\(∀(j:Nat)(τ:U.Ty)(xs:List (U.T τ)),cs[j]? =some (.sl τ xs)->kv (2000000+i,j)=vs.getD j undef)/\(∀(j:Nat)(u:Value),cs[j]? =some (.lit u)->vs.getD j undef=u/\fI u)
 | .box _,.box _=>kv (2000000+i,0)=v
 |_,_=>True
def zc(kv:Key->Value):Nat->List Mode->List (DV U)->List Value->Prop
 |i,m::ms,d::ds,v::vs=>QI i m d v kv/\zc kv (i+1) ms ds vs
 |_,_,_,_=>True
def kg:Mode->Bool
 | .box _=>true
 |_=>false
def pO(w:World)(rest:List Value):List Mode->List (DV U)->List Value->Prop
 |m::ms,d::ds,v::vs=>(∀cs,kg m=true->d=.box cs->rest=qV w v cs.length)/\pO w rest ms ds vs
 |_,_,_=>True
def ta(w:World):List Mode->List (DV U)->List Value->List Value
 |m::ms,d::ds,v::vs=>bif kg m then(match d with| .box cs=>qV w v cs.length|_=>[]) else ta w ms ds vs
 |_,_,_=>[]
def pZ:List Mode->Bool
 |[]=>true
 |m::r=>bif kg m then !(r.any kg) else pZ r
theorem abo{w:World}{rest:List Value}:∀{ms:List Mode}{ds:List (DV U)}{vs:List Value},ms.any kg=false->pO w rest ms ds vs
 |[],_,_,_=>trivial
 |m::ms,[],_,_=>trivial
 |m::ms,d::ds,[],_=>trivial
 |m::ms,d::ds,v::vs,h=>by
  simp only[Q5,Nl] at h
  exact⟨fun cs hb _=>(by rw[h.1] at hb;cases hb),abo h.2⟩
theorem abn{w:World}:∀{ms:List Mode}{ds:List (DV U)}{vs:List Value},pZ ms=true->pO w (ta w ms ds vs) ms ds vs
 |[],_,_,_=>trivial
 |m::ms,[],_,_=>trivial
 |m::ms,d::ds,[],_=>trivial
 |m::ms,d::ds,v::vs,h=>by
  unfold pZ at h
  unfold ta
  cases hb:kg m<;>rw[hb] at h<;>simp only[cond_true,cond_false] at h⊢
  ·exact⟨fun cs bg _=>(by rw[hb] at bg;cases bg),abn h⟩
  ·exact⟨fun cs _ hd=>by rw[hd],abo (by simpa using h)⟩
theorem abm{w:World}:∀{ms:List Mode}{ds:List (DV U)}{vs:List Value},sf w 0 ms ds vs->pO w [] ms ds vs
 |[],_,_,_=>trivial
 |m::ms,[],_,_=>trivial
 |m::ms,d::ds,[],_=>trivial
 |m::ms,d::ds,v::vs,h=>by
  refine⟨fun cs hb hd=> ?_,abm h.2⟩
  cases m with
  |box own=>exact(Fy (h.1 own cs rfl hd)).symm
  |ro=>cases hb
  |wr=>cases hb
  |mv=>cases hb
theorem aay{w:World}:∀{ms:List Mode}{ds:List (DV U)}{vs:List Value},ms.any kg=false->ta w ms ds vs=[]
 |[],_,_,_=>rfl
 |m::ms,[],_,_=>rfl
 |m::ms,d::ds,[],_=>rfl
 |m::ms,d::ds,v::vs,h=>by
  simp only[Q5,Nl] at h
  unfold ta
  rw[h.1]
  exact aay h.2
theorem aaz{n:Nat}:∀{ms:List Mode}{ds:List (DV U)}{vs:List Value}{ls:List (List Nat)},iP E w F ms ds vs ls->sf w n ms ds vs->pZ ms=true->ms.any kg=true->(ta w ms ds vs).length=n
 |[],[],[],[],_,_,_,hb=>by simp at hb
 |m::ms,d::ds,v::vs,l::ls,h,hr,h1,hb=>by
  unfold pZ at h1
  unfold ta
  cases hm:kg m<;>rw[hm] at h1<;>simp only[cond_true,cond_false] at h1⊢
  ·exact aaz h.2 hr.2 h1 (by simpa[hm] using hb)
  ·cases m with
   |box own=>
    cases d with
    |box cs=>exact hr.1 own cs rfl rfl
    |one _=>exact h.1.elim
    |agg _=>exact h.1.elim
    |ptr _=>exact h.1.elim
    |fn _=>exact h.1.elim
   |ro=>cases hm
   |wr=>cases hm
   |mv=>cases hm
 |[],_::_,_,_,h,_,_,_=>h.elim
 |[],[],_::_,_,h,_,_,_=>h.elim
 |[],[],[],_::_,h,_,_,_=>h.elim
 |_::_,[],_,_,h,_,_,_=>h.elim
 |_::_,_::_,[],_,h,_,_,_=>h.elim
 |_::_,_::_,_::_,[],h,_,_,_=>h.elim
theorem N1{dst:Nat}:∀{cs:List U.C}{base:Nat},(((putCells dst true base cs).2).map (·.1)).Nodup/\∀p∈(putCells dst true base cs).2,base<=p.1
 |[],base=>⟨by simp[putCells],fun p hp=>by simp[putCells] at hp⟩
 | .lit v::r,base=>by
  obtain⟨h1,h2⟩:=N1 (dst:=dst) (cs:=r) (base:=base+1)
  exact⟨by simpa[putCells] using h1,fun p hp=>by have:=h2 p (by simpa[putCells] using hp);omega⟩
 | .sl τ xs::r,base=>by
  obtain⟨h1,h2⟩:=N1 (dst:=dst) (cs:=r) (base:=base+1)
  refine⟨?_,fun p hp=> ?_⟩
  ·simp only[putCells,cond_true,sS,sC]
   refine⟨fun hm=> ?_,h1⟩
   obtain⟨p,hp,e⟩:=kW.1 hm
   have:=h2 p hp
   omega
  ·simp only[putCells,cond_true,jF] at hp
   rcases hp with rfl|hp
   ·exact sB _
   ·have:=h2 p hp;omega
theorem aaD{dst:Nat}:∀{cs:List U.C}{base j:Nat}{τ:U.Ty}{xs:List (U.T τ)},cs[j]? =some (.sl τ xs)->(putCells dst true base cs).1[j]? =some (.ref (dst,base+j) [])
 |[],base,j,τ,xs,h=>by simp at h
 |c::r,base,j,τ,xs,h=>by
  cases j with
  |zero=>
   simp only[tJ,fM] at h
   subst h
   rfl
  |succ j=>
   have:=aaD (dst:=dst) (cs:=r) (base:=base+1) (j:=j) (by simpa using h)
   cases c<;>simpa[putCells,Ny,Y5 1 j] using this
theorem ajc{i:Nat}{rest:List Value}{m:Mode}{d:DV U}{v:Value}{l:List Nat}(h:nC E w F m d v l)(jn:∀cs,kg m=true->d=.box cs->rest=qV w v cs.length):
  ∃t:eX U,(Dg i rest m d).2=t.es/\(t.map (·.1)).Nodup/\t.bl=l/\∀kv fp bad,(∀s∈t,kv (2000000+i,s.1)=s.2.2.1)->
   RS E w F kv fp bad (Dg i rest m d).1 v/\(∀s∈t,sg E w F kv fp bad s.2.1 s.2.2.1 s.2.2.2)/\QI i m d v kv:=by
 have agg:∀(bs:Nat){cs:List U.C}{v:Value}{l:List Nat},lr E w F cs v l->∃t:eX U,(putCells (2000000+i) true bs cs).2=t.es/\(t.map (·.1)).Nodup/\t.bl=l/\∃vs:List Value,v=.agg vs.toArray/\vs.length=cs.length/\(∀(j:Nat)(u:Value),cs[j]? =some (.lit u)->vs.getD j undef=u/\fI u)/\
   ∀kv fp bad,(∀s∈t,kv (2000000+i,s.1)=s.2.2.1)->kU E w F kv fp bad (putCells (2000000+i) true bs cs).1 vs/\(∀s∈t,sg E w F kv fp bad s.2.1 s.2.2.1 s.2.2.2):=by
  rintro bs cs v l ⟨vs,fl,h1,h2,h3,h4,h5⟩
  obtain⟨t,t1,t2,t3,t4⟩:=H4 (dst:=2000000+i) (base:=bs) h2 h3 h4
  refine⟨t,t1,?_,by rw[t3,h5],vs,h1,h2,fun j u hj=> ?_,fun kv fp bad hk=>⟨t4 kv fp bad hk,fun s hs=>t2 s hs kv fp bad⟩⟩
  ·have:=(N1 (dst:=2000000+i) (cs:=cs) (base:=bs)).1
   rw[t1] at this
   simpa[eX.es,Function.comp_def] using this
  ·obtain⟨_,g2,g3⟩:=(h4 j _ hj).jI
   exact⟨g2,g3⟩
 cases m with
 |ro=>
  cases d with
  |one c=>exact⟨[],rfl,by simp,h.2.symm,fun kv fp bad _=>⟨zb ⟨h.1.fJ,.inr h.1⟩,by simp,trivial⟩⟩
  |agg cs=>
   obtain⟨vs,rfl,h2,h3,h4⟩:=h
   exact⟨[],rfl,by simp,h4.symm,fun kv fp bad _=>⟨⟨vs,J4 h2 h3,rfl⟩,by simp,trivial⟩⟩
  |ptr cs=>
   obtain⟨⟨b,o,rfl,h2,h3⟩,h4⟩:=h
   exact⟨[],rfl,by simp,h4.symm,fun kv fp bad _=>⟨zb ⟨⟨rfl,trivial⟩,.inr ⟨b,o,rfl,h2,h3⟩⟩,by simp,trivial⟩⟩
  |fn p=>exact⟨[],rfl,by simp,h.2.symm,fun kv fp bad _=>⟨h.1,by simp,trivial⟩⟩
  |box cs=>exact h.elim
 |wr=>
  cases d with
  |one c=>
   cases c with
   |lit _=>exact h.elim
   |sl τ xs=>
    refine⟨[(0,.arr ⟨τ,xs⟩ true,v,l)],rfl,by simp,by simp[eX.bl],fun kv fp bad hk=> ?_⟩
    have Am:kv (2000000+i,0)=v:=hk _ (mb.2 rfl)
    refine⟨zb ⟨?_,.inr (by simp only[RA];rw[Am];rfl)⟩,fun s hs=>by rw[mb.1 hs];exact h,Am⟩
    rcases h with⟨_,⟨ad,rfl⟩,_⟩|⟨b,cap,cur,vs,gr,rfl,_⟩<;>exact⟨rfl,trivial⟩
  |agg cs=>
   obtain⟨t,t1,t2,t3,vs,t4,t5,t6,t7⟩:=agg 0 h
   refine⟨t,t1,t2,t3,fun kv fp bad hk=> ?_⟩
   obtain⟨g1,g2⟩:=t7 kv fp bad hk
   refine⟨⟨vs,g1,t4⟩,g2,vs,t4,t5,fun j τ xs hj=> ?_,t6⟩
   have hr:=aaD (dst:=2000000+i) (base:=0) hj
   have fU:j<vs.length:=by
    rw[t5]
    rcases nL j cs.length with g|g
    ·exact g
    ·rw[nb g] at hj;cases hj
   have:=ca (g1.2 j _ _ hr (ff (d:=undef) fU)) rfl
   simp only[RA,tH] at this
   exact this.symm
  |box _=>exact h.elim
  |ptr _=>exact h.elim
  |fn _=>exact h.elim
 |mv=>
  cases d with
  |one c=>
   obtain⟨t,t1,t2,t3,t4⟩:=H4 (E:=E) (w:=w) (F:=F) (dst:=2000000+i) (base:=4096) (cs:=[c]) (vs:=[v]) (fl:=[l]) rfl rfl (fun j c' hc=>by
    cases j with
    |zero=>simp only[tJ,fM] at hc;subst hc;exact h
    |succ j=>simp at hc)
   refine⟨t,t1,?_,by simpa using t3,fun kv fp bad hk=>⟨⟨[v],t4 kv fp bad hk,by simp⟩,fun s hs=>t2 s hs kv fp bad,trivial⟩⟩
   have:=(N1 (dst:=2000000+i) (cs:=[c]) (base:=4096)).1
   rw[t1] at this
   simpa[eX.es,Function.comp_def] using this
  |agg cs=>
   obtain⟨t,t1,t2,t3,vs,t4,t5,t6,t7⟩:=agg 4096 h
   refine⟨t,t1,t2,t3,fun kv fp bad hk=> ?_⟩
   obtain⟨g1,g2⟩:=t7 kv fp bad hk
   exact⟨⟨vs,g1,t4⟩,g2,trivial⟩
  |box _=>exact h.elim
  |ptr _=>exact h.elim
  |fn _=>exact h.elim
 |box own=>
  cases d with
  |box cs=>
   have Xt:=jn cs rfl rfl
   obtain⟨b,cur,e,fl,h1,h2,h3,h4,h5,h6,h7,h8⟩:=h
   rw[<-Xt] at h4 h5
   have gB:cur.toList.take cs.length++cur.toList.drop cs.length=cur.toList:=QP _ _
   have rk:∀(j:Nat)(c:U.C),cs[j]? =some c->(cur.toList.take cs.length).getD j undef=cur.toList.getD j undef:=by
    intro j c hc
    have hj:j<cs.length:=by
     rcases nL j cs.length with g|g
     ·exact g
     ·rw[nb g] at hc;cases hc
    simp only[dB,oT,if_pos hj]
   have TU:∀kv fp bad,kU E w F kv fp bad (rest.map fun v=> .c (.lit v)) rest:=by
    intro kv fp bad
    refine⟨by simp,fun j x u hx hu=> ?_⟩
    rw[mw,hu] at hx
    cases hx
    exact v_ (h5 u (Em hu))
   cases own with
   |true=>
    obtain⟨t,t1,t2,t3,t4⟩:=H4 (E:=E) (w:=w) (F:=F) (dst:=2000000+i) (base:=4096) (cs:=cs) (vs:=cur.toList.take cs.length) (fl:=fl) (by simp;omega) h6 (fun j c hc=>by rw[rk j c hc];exact h7 j c hc)
    have TR:=N1 (dst:=2000000+i) (cs:=cs) (base:=4096)
    refine⟨(0,.box ((putCells (2000000+i) true 4096 cs).1++rest.map fun v=> .c (.lit v)),v,[b])::t,by simp[Dg,eX.es,t1],?_,by rw[h8];simp only[eX.bl,yb,List.singleton_append] at t3⊢;rw[t3],fun kv fp bad hk=> ?_⟩
    ·rw[sS,sC]
     have h0:(t.map (·.1))=((putCells (2000000+i) true 4096 cs).2).map (·.1):=by rw[t1];simp[eX.es,Function.comp_def]
     rw[h0]
     refine⟨fun hm=> ?_,TR.1⟩
     obtain⟨p,hp,e⟩:=kW.1 hm
     have:=TR.2 p hp
     simp only at e
     omega
    ·have Am:kv (2000000+i,0)=v:=hk _ gS
     have yH:=fun s hs=>hk s (e8 _ hs)
     refine⟨zb ⟨by rw[h1];exact⟨rfl,trivial⟩,.inr ⟨b,by rw[Am,h1],h1⟩⟩,fun s hs=> ?_,Am⟩
     rcases jF.1 hs with rfl|hs
     ·refine⟨b,cur,e,h1,h2,rfl,?_⟩
      rw[<-gB,h4]
      exact(t4 kv fp bad yH).append (TU kv fp bad)
     ·exact t2 s hs kv fp bad
   |false=>
    have An:fl.flatten=[]:=by
     rw[zdm]
     intro b' bg
     obtain⟨l',Gf,Ei⟩:=VW.1 bg
     obtain⟨j,hj,rfl⟩:=qD Gf
     have sI:j<cs.length:=by omega
     have:=h7 j _ (eW sI)
     rw[dB (l:=fl),eW hj] at this
     exact this.R3 (F':=fun _=>False) Ei
    rw[An] at h8
    refine⟨[(0,.box (cs.map .c++rest.map fun v=> .c (.lit v)),v,[b])],rfl,by simp,by simp[eX.bl,h8],fun kv fp bad hk=> ?_⟩
    have Am:kv (2000000+i,0)=v:=hk _ gS
    refine⟨zb ⟨by rw[h1];exact⟨rfl,trivial⟩,.inr ⟨b,by rw[Am,h1],h1⟩⟩,fun s hs=> ?_,Am⟩
    rw[mb.1 hs]
    refine⟨b,cur,e,h1,h2,rfl,?_⟩
    rw[<-gB,h4]
    refine(J4 (by simp;omega) (fun j c hc=> ?_)).append (TU kv fp bad)
    rw[rk j c hc]
    have:=h7 j c hc
    exact this.kB (fun _ hb=>hb) (fun b' bg=>this.R3 bg)
  |one _=>exact h.elim
  |agg _=>exact h.elim
  |ptr _=>exact h.elim
  |fn _=>exact h.elim
theorem aii{dst:Nat}{t:eX U}{k:Key}{e:ie U}(h:dW (ol dst t.es) k=some e):∃s∈t,k=(dst,s.1)/\e=s.2.1:=by
 have:=D6 h
 simp only[ol,eX.es,List.map_map,kW,Function.comp,nT,fM] at this
 obtain⟨s,hs,h1,h2⟩:=this
 exact⟨s,hs,h1.symm,h2.symm⟩
theorem aa8{rest:List Value}:∀{ms:List Mode}{ds:List (DV U)}{vs:List Value}{ls:List (List Nat)}{i:Nat},iP E w F ms ds vs ls->pO w rest ms ds vs->
  ∃ts:List (eX U),ts.map eX.bl=ls/\(∀t∈ts,(t.map (·.1)).Nodup)/\
   (∀k e,dW (Ku rest i ms ds) k=some e->∃j s,s∈ts.getD j []/\k=(2000000+(i+j),s.1)/\e=s.2.1)/\
   ∀kv fp bad,(∀j s,s∈ts.getD j []->kv (2000000+(i+j),s.1)=s.2.2.1)->
    (∀s x,look (Di rest i ms ds) s=some x->∃j,s=i+j/\j<vs.length/\RS E w F kv fp bad x (vs.getD j undef))/\
    (∀j s,s∈ts.getD j []->sg E w F kv fp bad s.2.1 s.2.2.1 s.2.2.2)/\zc kv i ms ds vs
 |[],[],[],[],i,_,_=>⟨[],rfl,by simp,fun k e he=>(by cases he),fun kv fp bad _=>⟨fun s x hs=>(by cases hs),by simp,trivial⟩⟩
 |m::ms,d::ds,v::vs,l::ls,i,h,hr=>by
  obtain⟨ts,i1,i2,i3,i4⟩:=aa8 (rest:=rest) (i:=i+1) h.2 hr.2
  obtain⟨t,t1,t2,t3,t4⟩:=ajc (i:=i) h.1 hr.1
  refine⟨t::ts,by rw[sS,t3,i1],fun t' ht=> ?_,fun k e he=> ?_,fun kv fp bad hk=> ?_⟩
  ·rcases jF.1 ht with rfl|ht
   ·exact t2
   ·exact i2 t' ht
  ·have he:=(D7 _ _ _).symm.trans he
   split at he
   ·rw[t1] at he
    obtain⟨s,hs,h1,h2⟩:=aii he
    exact⟨0,s,by simpa using hs,by simpa using h1,h2⟩
   ·obtain⟨j,s,hs,h1,h2⟩:=i3 k e he
    exact⟨j+1,s,by simpa using hs,by rw[h1];simp only[nT,and_true];omega,h2⟩
  ·obtain⟨g1,g2,g3⟩:=t4 kv fp bad (fun s hs=>by have:=hk 0 s (by simpa using hs);simpa using this)
   obtain⟨k1,k2,k3⟩:=i4 kv fp bad (fun j s hs=>by have:=hk (j+1) s (by simpa using hs);simpa[Ny,Y5 1 j] using this)
   refine⟨fun s x hs=> ?_,fun j s hs=> ?_,g3,k3⟩
   ·have hs:=(J1 _ _ _ _).symm.trans hs
    split at hs
    ·rename_i e;cases hs;exact⟨0,by simp[e],by simp,by simpa using g1⟩
    ·obtain⟨j,rfl,h2,h3⟩:=k1 s x hs
     exact⟨j+1,by omega,by simpa using h2,by simpa using h3⟩
   ·cases j with
    |zero=>exact g2 s (by simpa using hs)
    |succ j=>exact k2 j s (by simpa using hs)
 |[],_::_,_,_,_,h,_=>h.elim
 |[],[],_::_,_,_,h,_=>h.elim
 |[],[],[],_::_,_,h,_=>h.elim
 |_::_,[],_,_,_,h,_=>h.elim
 |_::_,_::_,[],_,_,h,_=>h.elim
 |_::_,_::_,_::_,[],_,h,_=>h.elim
def Oc(w:World)(F:Nat->Prop)(kv:Key->Value)(ls:List (List Nat)):Pm:=
 ⟨w,fun b=>b∈ls.flatten,F,fun k=>if 2000000<=k.1/\k.2<1024 then some (kv k) else none⟩
theorem aiV{ts:List (eX U)}{j:Nat}:(ts.map eX.bl).getD j []=(ts.getD j []).bl:=by
 rw[dB,dB,mw]
 cases ts[j]? <;>rfl
theorem ajb{n:Nat}{rest:List Value}{ms:List Mode}{ds:List (DV U)}{vs:List Value}{ls:List (List Nat)}(hF:∀b,F b->b<w.heap.size)(zV:Ns E w F)(h:iP E w F ms ds vs ls)(hr:pO w rest ms ds vs)(hn:ls.flatten.Nodup)(hl:∀b∈ls.flatten,b<w.heap.size/\¬F b)
  (Zk:ms.length<=n) (tU:n<=1000000):
  ∃Is SG,cG E (Oc w F Is ls) F Is SG (entry rest n ms ds) {tmps:=vs.toArray++Array.replicate (n-vs.length) undef,defers:=[]} w/\zc Is 0 ms ds vs:=by
 obtain⟨l1,l2,l3⟩:=h.len
 obtain⟨ts,i1,i2,i3,i4⟩:=aa8 (rest:=rest) (i:=0) h hr
 have o9:∀{j:Nat},((ts.getD j []).map (·.1)).Nodup:=by
  intro j
  rcases nL j ts.length with g|g
  ·rw[dB,eW g];exact i2 _ (DU g)
  ·rw[dB,nb g];exact VV
 let Is:Key->Value:=fun k=>(ts.getD (k.1-2000000) []).zT k.1 (fun _=>undef) k
 let SG:Key->List Nat:=fun k=>(ts.getD (k.1-2000000) []).yN k.1 (fun _=>[]) k
 have MR:∀j s,s∈ts.getD j []->Is (2000000+(0+j),s.1)=s.2.2.1:=by
  intro j s hs
  simp only[Is,tH,Nat.add_sub_cancel_left]
  exact eX.wT o9 hs
 have rl:∀j s,s∈ts.getD j []->SG (2000000+(0+j),s.1)=s.2.2.2:=by
  intro j s hs
  simp only[SG,tH,Nat.add_sub_cancel_left]
  exact eX.tZ o9 hs
 obtain⟨g1,g2,g3⟩:=i4 Is SG (bR (entry rest n ms ds)) MR
 have MZ:∀{j:Nat},(ts.getD j []).bl=ls.getD j []:=fun{j}=>by rw[<-i1,aiV]
 have Yo:∀{j:Nat}{s:Nat×ie U×Value×List Nat}{b:Nat},s∈ts.getD j []->b∈s.2.2.2->b∈ls.getD j []:=fun{j s b} hs hb=>by rw[<-MZ];exact eX.oJ.2 ⟨s,hs,hb⟩
 refine⟨Is,SG,⟨by simp[entry];omega,rfl,fun s x hs=> ?_,fun k e he=> ?_,fun k k' e e' b d_ h1 h2 hb=> ?_,fun k e he=> ?_,fun k e b he hb=> ?_,hF,fun b hb=> .inl hb,gq.refl _ _,fun k v hk=> ?_,zV⟩,g3⟩
 ·obtain⟨j,rfl,hj,h3⟩:=g1 s x hs
  have:(vs.toArray++Array.replicate (n-vs.length) undef).getD (0+j) undef=vs.getD j undef:=by
   rw[tH,NB,Array.getElem?_append_left (by simpa using hj)]
   simp[dB]
  show RS E w F _ _ _ x ((vs.toArray++Array.replicate (n-vs.length) undef).getD (0+j) undef)
  rw[this];exact h3
 ·obtain⟨j,s,hs,rfl,rfl⟩:=i3 k e he
  rw[MR j s hs,rl j s hs]
  exact g2 j s hs
 ·obtain⟨j,s,hs,rfl,rfl⟩:=i3 k e h1
  obtain⟨j',s',jK,rfl,rfl⟩:=i3 k' e' h2
  rw[rl j s hs] at hb
  rw[rl j' s' jK]
  by_cases hj:j=j'
  ·subst hj
   have uS:(ts.getD j []).bl.Nodup:=by rw[MZ];exact aaM hn j
   exact eX.qv uS hs jK (fun e=>d_ (by rw[e])) hb
  ·exact fun bg=>ai2 hn hj (Yo hs hb) (Yo jK bg)
 ·obtain⟨j,s,hs,rfl,rfl⟩:=i3 k e he
  rw[rl j s hs]
  have uS:(ts.getD j []).bl.Nodup:=by rw[MZ];exact aaM hn j
  exact eX.xo uS hs
 ·obtain⟨j,s,hs,rfl,rfl⟩:=i3 k e he
  rw[rl j s hs] at hb
  have:=aij (Yo hs hb)
  exact⟨(hl b this).2,.inl this,(hl b this).1⟩
 ·simp only[Oc] at hk
  split at hk
  ·rename_i hc
   cases hk
   exact⟨hc.1,hc.2,tU,rfl⟩
  ·cases hk
variable{pm:Pm}{kv:Key->Value}{fp:Key->List Nat}{σ:ak U}{a:Act}
def JW(tmps:Array Value):ResultVar->Sem Value
 | .tmp t=>pure (tmps.getD t undef)
 | .cell a t=>do loadVar t (<-asAddr (tmps.getD a undef))
def HA(P:Program)(tmps:Array Value)(w:World):List ResultVar->List Value->Prop
 |[],[]=>True
 |r::rs,u::us=>(JW tmps r).run P w=.ok u w/\HA P tmps w rs us
 |_,_=>False
theorem aaP{P:Program}{tmps:Array Value}{w:World}:∀{rs:List ResultVar}{us:List Value},HA P tmps w rs us->(List.mapM (JW tmps) rs).run P w=.ok us w
 |[],[],_=>rfl
 |r::rs,u::us,h=>by
  rw[List.mapM_cons,Sem.run_bind,h.1]
  simp only[Result.andThen,Sem.run_bind,aaP h.2]
  rfl
 |[],_::_,h=>h.elim
 |_::_,[],h=>h.elim
theorem ahV{P:Program}{fn:Func}{tmps:Array Value}{w:World}{us:List Value}(h:HA P tmps w fn.results.toList us):
  (results fn tmps).run P w=.ok (Ma us) w:=by
 have hg:(fun x=>match x with
   |ResultVar.tmp t=>(pure (tmps.getD t undef):Sem Value)
   |ResultVar.cell a t=>do loadVar t (<-asAddr (tmps.getD a undef)))=JW tmps:=by
  funext x;cases x<;>rfl
 unfold results
 have hr:fn.results=fn.results.toList.toArray:=rfl
 rw[hr,List.mapM_toArray]
 show Sem.run P (do
  let vs←Functor.map List.toArray (List.mapM (fun x=>match x with
   |ResultVar.tmp t=>(pure (tmps.getD t undef):Sem Value)
   |ResultVar.cell a t=>do loadVar t (<-asAddr (tmps.getD a undef))) fn.results.toList)
  pure (if h:vs.size=1 then vs[0] else Value.tuple vs)) w=_
 rw[hg,Sem.run_bind]
 have hm:(Functor.map List.toArray (List.mapM (JW tmps) fn.results.toList)).run P w=.ok us.toArray w:=by
  rw[map_eq_pure_bind,Sem.run_bind,aaP h]
  rfl
 rw[hm]
 show Result.ok _ w=_
 congr 1
 match us with
 |[]=>rfl
 |[t]=>rfl
 |t::u::r=>
  rw[dif_neg (by simp)]
  rfl
theorem aaA(h:cG E pm F kv fp σ a w){r:ResultVar}{x:AV U}(hr:K9 E σ r=some x):∃u,(JW a.tmps r).run E.P w=.ok u w/\RV E w F kv fp (bR σ) x u:=by
 unfold K9 at hr
 split at hr
 ·rename_i t
  split at hr
  ·rename_i y hy
   cases hr
   exact⟨_,rfl,h.bx t _ hy⟩
  ·cases hr
 ·rename_i s t
  split at hr
  ·rename_i k hk
   split at hr
   ·rename_i cs n g he hn hg
    rw[gI] at hr
    split at hr
    ·rename_i hc
     cases hr
     simp only[cH] at hc
     obtain⟨b,h1,h2⟩:=ca (FO (h.bx s _ hk)) rfl
     obtain⟨b',cur,e,h3,h4,h5,h6⟩:=h.cW k _ he
     rw[h1] at h3;cases h3
     have hlen:n=cur.toList.length:=(mc hc.1).trans h6.1
     obtain⟨v,Xj,Xi⟩:=Ry (E:=E) (w:=w) (us:=cur.toList) (off:=0) (b:=b) hn hg hc.2 hlen.symm (fun j v hj=>by
      simp only[World.cell?,h4,tH]
      simpa using hj)
     refine⟨v,?_,cur.toList,h6,Xi⟩
     have ew:(JW a.tmps (.cell s t)).run E.P w=(Instr.loadAt t (.pointer (some ⟨b,0,none⟩))).run E.P w:=by
      simp only[JW,h2,asAddr,Instr.loadAt,Instr.sureAddr,pure_bind]
     rw[ew];exact Xj
    ·cases hr
   ·cases hr
  ·cases hr
theorem ah5(h:cG E pm F kv fp σ a w):∀{rs:List ResultVar}{fs:List Bool}{ts:List TypeId}{ps:List Prop}{ds:List (DV U)}{ks:List Key},outs E σ fs rs ts=some (ps,ds,ks)->(∀p∈ps,p)->ks.Nodup->
  ∃(us:List Value)(qz:List (List Nat)),HA E.P a.tmps w rs us/\(∀F':Nat->Prop,(∀b,F b->F' b)->(∀k e b,k∈pk E σ fs rs->σ.bH k=some e->b∈fp k->F' b)->mr E w F' fs ds us qz)/\qz.flatten.Nodup/\(∀b∈qz.flatten,∃k∈ks,b∈fp k)/\(∀k∈ks,(σ.bH k).isSome=true):=by
 intro rs
 induction rs with
 |nil=>
  intro fs ts ps ds ks ho hp hn
  simp only[outs,fM,nT] at ho
  obtain⟨rfl,rfl,rfl⟩:=ho
  exact⟨[],[],trivial,fun _ _ _=>trivial,by simp,by simp,by simp⟩
 |cons r rs ih=>
  intro fs ts ps ds ks ho hp hn
  have Gg:∀k,k∈pk E σ fs.tail rs->k∈pk E σ fs (r::rs):=fun k hk=>by
   simp only[pk,jE];exact .inr hk
  simp only[outs] at ho
  split at ho
  ·rename_i x hx
   split at ho
   ·rename_i l k wY
    split at ho
    ·rename_i qs ZA ks2 Iz
     cases ho
     have hh:fs.headD true=true:=by
      cases hh:fs.headD true with
      |true=>rfl
      |false=>
       rw[hh] at wY
       unfold Oa at wY
       split at wY<;>cases wY
     rw[hh] at wY
     unfold Oa at wY
     split at wY
     ·rename_i k0
      simp only[cond_true] at wY
      split at wY
      ·rename_i bs he
       split at wY
       ·rename_i l' hl
        cases wY
        obtain⟨sP,n2⟩:=sC.1 hn
        obtain⟨us,qz,i1,i2,i3,i4,i5⟩:=ih Iz hp n2
        obtain⟨u,hu,vs,r1,r2⟩:=aaA h hx
        simp only[wb,if_false] at r2
        subst r2
        obtain⟨b,MR,rfl⟩:=ca (r1.2 0 _ u rfl rfl) rfl
        obtain⟨b',cur,e',g1,g2,g3,g4⟩:=h.cW k _ he
        rw[MR] at g1
        simp only[Value.pointer.injEq,fM,Addr.mk.injEq] at g1
        obtain⟨rfl,_,_⟩:=g1
        have tY:=Mc hl
        have D1:bs.length=l.length:=by rw[tY];simp
        have sK:kf E w F true (.box l:DV U) (.pointer (some ⟨b,0,none⟩)) [b]:=by
         refine⟨rfl,b,cur,e',rfl,g2,rfl,by rw[<-D1,g4.1];simp,fun i c hc=> ?_⟩
         have hbc:bs[i]? =some (.c c):=by rw[tY,mw,hc];rfl
         have fU:i<cur.toList.length:=by
          rw[<-g4.1]
          rcases nL i bs.length with g|g
          ·exact g
          ·rw[nb g] at hbc;cases hbc
         have rf:cur.toList[i]? =some (cur.toList[i]):=eW fU
         rw[dB,rf]
         exact(ca (g4.2 i _ _ hbc rf) rfl:Rp E w F false _ _ _)
        refine⟨_::us,[b]::qz,⟨hu,i1⟩,fun F' uT Zw=>⟨by rw[hh];exact kf.fq uT sK,i2 F' uT fun k e b hk=>Zw k e b (Gg k hk)⟩,?_,fun b' bg=> ?_,fun k' cK=> ?_⟩
        ·rw[JD,p8]
         refine⟨by simp,i3,fun b' bg c hc e=> ?_⟩
         rw[mb.1 bg] at e
         subst e
         obtain⟨k2,kx,sL⟩:=i4 b hc
         obtain⟨e2,sJ⟩:=l6.1 (i5 k2 kx)
         exact h.apart k k2 _ e2 b (fun e=>sP (e▸kx)) he sJ (by rw[g3];exact mb.2 rfl) sL
        ·rw[JD,jE] at bg
         rcases bg with bg|bg
         ·rw[mb.1 bg]
          exact⟨k,gS,by rw[g3];exact mb.2 rfl⟩
         ·obtain⟨k2,kx,sL⟩:=i4 b' bg
          exact⟨k2,e8 _ kx,sL⟩
        ·rcases jF.1 cK with rfl|cK
         ·rw[he];rfl
         ·exact i5 k' cK
       ·cases wY
      ·cases wY
     ·cases wY
    ·cases ho
   split at ho
   ·rename_i QR cs ks1 zu
    split at ho
    ·rename_i d qs ZA ks2 hd Iz
     simp only[fM,nT] at ho
     obtain⟨rfl,rfl,rfl⟩:=ho
     rw[p8] at hn
     obtain⟨n1,n2,n3⟩:=hn
     obtain⟨us,qz,i1,i2,i3,i4,i5⟩:=ih Iz (fun p j6=>hp p (by simp[j6])) n2
     obtain⟨u,hu,vs,r1,r2⟩:=aaA h hx
     cases hh:fs.headD true with
     |true=>
      rw[hh] at zu
      simp only[cond_true] at zu
      split at zu
      ·rename_i H_ uy ks' Xn
       cases zu
       obtain⟨g1,g2,g3,g4⟩:=JZ h Xn (fun p j6=>hp p (by simp[j6])) r1 n1
       obtain⟨fl,f1,f2,f3,f4⟩:=g3 rfl
       refine⟨u::us,fl.flatten::qz,⟨hu,i1⟩,fun F' uT Zw=>⟨by rw[hh];exact kf.fq uT (ajh hd r2 (by rw[g1];exact r1.1.symm) f1 f2),i2 F' uT fun k e b hk=>Zw k e b (Gg k hk)⟩,?_,fun b hb=> ?_,fun k hk=> ?_⟩
       ·rw[JD,p8]
        refine⟨f3,i3,fun b hb c hc e=> ?_⟩
        subst e
        obtain⟨k1,yH,sM⟩:=f4 b hb
        obtain⟨k2,kx,sL⟩:=i4 b hc
        obtain⟨e1,Sy⟩:=l6.1 (g2 k1 yH)
        obtain⟨e2,sJ⟩:=l6.1 (i5 k2 kx)
        exact h.apart k1 k2 e1 e2 b (n3 k1 yH k2 kx) Sy sJ sM sL
       ·rw[JD,jE] at hb
        rcases hb with hb|hb
        ·obtain⟨k,hk,hb⟩:=f4 b hb;exact⟨k,pP _ hk,hb⟩
        ·obtain⟨k,hk,hb⟩:=i4 b hb;exact⟨k,pd _ hk,hb⟩
       ·rcases jE.1 hk with hk|hk
        ·exact g2 k hk
        ·exact i5 k hk
      ·cases zu
     |false=>
      rw[hh] at zu
      simp only[cond_false] at zu
      split at zu
      ·rename_i H_ uy Xn
       cases zu
       obtain⟨g1,g2⟩:=abd h Xn (fun p j6=>hp p (by simp[j6])) r1
       refine⟨u::us,[]::qz,⟨hu,i1⟩,fun F' uT Zw=>⟨by
        rw[hh]
        refine ajg hd r2 (by rw[g1];exact r1.1.symm) (fun i c hc=>(g2 i c hc).fq (fun b hb=> ?_))
        rcases hb with hb|⟨k,hk,hb⟩
        ·exact uT b hb
        ·rw[wc] at hk
         obtain⟨e,he⟩:=l6.1 hk.2
         exact Zw k e b (by simp only[pk,hh,cond_false,jE,hx];exact .inl hk.1) he hb,i2 F' uT fun k e b hk=>Zw k e b (Gg k hk)⟩,by simpa using i3,by simpa using i4,by simpa using i5⟩
      ·cases zu
    ·cases ho
   ·cases ho
  ·cases ho
theorem WW(h:cG E pm F kv fp σ a w){i:Nat}:∀{cs:List U.C}{j:Nat}{vs:List Value}{ds:List U.C}{ks:List Key},oz σ i j cs=some (ds,ks)->vs.length=cs.length->
  (∀(n:Nat)(τ:U.Ty)(xs:List (U.T τ)),cs[n]? =some (.sl τ xs)->kv (2000000+i,j+n)=vs.getD n undef)->(∀(n:Nat)(u:Value),cs[n]? =some (.lit u)->vs.getD n undef=u/\fI u)->
  ds.length=cs.length/\∃fl:List (List Nat),fl.length=ds.length/\(∀(n:Nat)(c:U.C),ds[n]? =some c->Rp E w F true c (vs.getD n undef) (fl.getD n []))/\fl.flatten=ks.flatMap fp/\(∀k∈ks,(σ.bH k).isSome=true/\j<=k.2)/\ks.Nodup
 |[],j,vs,ds,ks,hf,hl,h1,h2=>by
  simp only[oz,fM,nT] at hf
  obtain⟨rfl,rfl⟩:=hf
  exact⟨rfl,[],rfl,fun n c hc=>by simp at hc,rfl,by simp,by simp⟩
 |c::cs,j,[],ds,ks,hf,hl,h1,h2=>by simp at hl
 |c::cs,j,v::vs,ds,ks,hf,hl,h1,h2=>by
  have JB:∀(n:Nat)(τ:U.Ty)(xs:List (U.T τ)),cs[n]? =some (.sl τ xs)->kv (2000000+i,j+1+n)=vs.getD n undef:=fun n τ xs hn=>by
   have:=h1 (n+1) τ xs (by simpa using hn)
   simpa[Ny,Y5 1 n] using this
  have SF:∀(n:Nat)(u:Value),cs[n]? =some (.lit u)->vs.getD n undef=u/\fI u:=fun n u hn=>by simpa using h2 (n+1) u (by simpa using hn)
  cases c with
  |lit u=>
   simp only[oz] at hf
   split at hf
   ·rename_i ds' ks' Zt
    cases hf
    obtain⟨i1,fl,i2,i3,i4,i5,i6⟩:=WW h Zt (by simpa using hl) JB SF
    obtain⟨g1,g2⟩:=h2 0 u rfl
    have hvu:v=u:=by simpa using g1
    subst hvu
    refine⟨by simp[i1],[]::fl,by simp[i2],fun n c hc=> ?_,by simpa using i4,fun k hk=>⟨(i5 k hk).1,by have:=(i5 k hk).2;omega⟩,i6⟩
    cases n with
    |zero=>simp only[tJ,fM] at hc;subst hc;exact .lit _ _ g2
    |succ n=>simpa using i3 n c (by simpa using hc)
   ·cases hf
  |sl τ xs=>
   simp only[oz] at hf
   split at hf
   ·rename_i y ds' ks' he Zt
    cases hf
    obtain⟨i1,fl,i2,i3,i4,i5,i6⟩:=WW h Zt (by simpa using hl) JB SF
    have hv:kv (2000000+i,j)=v:=by simpa using h1 0 τ xs rfl
    have ho:eo E w F true y (kv (2000000+i,j)) (fp (2000000+i,j)):=h.cW _ _ he
    refine⟨by simp[i1],fp (2000000+i,j)::fl,by simp[i2],fun n c hc=> ?_,by simp[i4],fun k hk=> ?_,?_⟩
    ·cases n with
     |zero=>simp only[tJ,fM] at hc;subst hc;rw[hv] at ho;exact ho.rp
     |succ n=>simpa using i3 n c (by simpa using hc)
    ·rcases jF.1 hk with rfl|hk
     ·exact⟨by rw[he];rfl,sB _⟩
     ·exact⟨(i5 k hk).1,by have:=(i5 k hk).2;omega⟩
    ·rw[sC]
     exact⟨fun hm=>by have:=(i5 _ hm).2;simp only at this;omega,i6⟩
   ·cases hf
theorem ai4(h:cG E pm F kv fp σ a w){w0:World}{F0:Nat->Prop}{rest:List Value}{i:Nat}{want:List (Option U.Ty)}{m:Mode}{d:DV U}{v:Value}{l:List Nat}{ps:List Prop}{mu:List (DV U)}{ks:List Key}
  (hf:Gs σ rest i want m d=some (ps,mu,ks)) (hp:∀p∈ps,p) (mV:nC E w0 F0 m d v l) (jn:∀cs,kg m=true->d=.box cs->rest=qV w0 v cs.length) (Ee:QI i m d v kv) (hn:ks.Nodup):
  ∃iw,eQ E w F w0 [m] [v] mu iw/\iw.flatten.Nodup/\(∀b∈iw.flatten,∃k∈ks,b∈fp k)/\(∀k∈ks,(σ.bH k).isSome=true)/\(m=.box false->∀b∈l,∃k∈ks,b∈fp k):=by
 cases m with
 |ro=>
  simp only[Gs,fM,nT] at hf
  obtain⟨_,rfl,rfl⟩:=hf
  exact⟨[],trivial,by simp,by simp,by simp,fun e=>by cases e⟩
 |mv=>
  simp only[Gs,fM,nT] at hf
  obtain⟨_,rfl,rfl⟩:=hf
  exact⟨[],trivial,by simp,by simp,by simp,fun e=>by cases e⟩
 |wr=>
  cases d with
  |one c=>
   cases c with
   |lit _=>exact mV.elim
   |sl τ xs=>
    simp only[Gs] at hf
    split at hf
    ·rename_i y he
     cases hf
     have hv:kv (2000000+i,0)=v:=Ee
     have ho:eo E w F true y (kv (2000000+i,0)) (fp (2000000+i,0)):=h.cW _ _ he
     rw[hv] at ho
     exact⟨[fp (2000000+i,0)],⟨ho,trivial⟩,by simpa using h.nodup _ _ he,by simp,by simp[he],fun e=>by cases e⟩
    ·cases hf
  |agg cs=>
   simp only[Gs] at hf
   rw[gI] at hf
   split at hf
   ·split at hf
    ·rename_i ds ks' hfc
     cases hf
     obtain⟨vs,p1,p2,p3,p4⟩:=Ee
     obtain⟨i1,fl,i2,i3,i4,i5,i6⟩:=WW h hfc p2 (by simpa using p3) p4
     refine⟨[fl.flatten],⟨⟨vs,fl,p1,by rw[p2,i1],i2,i3,rfl⟩,trivial⟩,?_,fun b hb=> ?_,fun k hk=>(i5 k hk).1,fun e=>by cases e⟩
     ·simp only[JD,zey,sR]
      rw[i4]
      exact WV h i6 (fun k hk=>(i5 k hk).1)
     ·simp only[JD,zey,sR] at hb
      rw[i4] at hb
      exact nF.1 hb
    ·cases hf
   ·cases hf
  |box _=>exact mV.elim
  |ptr _=>exact mV.elim
  |fn _=>exact mV.elim
 |box own=>
  cases d with
  |one _=>exact mV.elim
  |agg _=>exact mV.elim
  |ptr _=>exact mV.elim
  |fn _=>exact mV.elim
  |box cs=>
   have Xt:=jn cs rfl rfl
   have hv:kv (2000000+i,0)=v:=Ee
   obtain⟨b0,aky,e0,fl0,z1,z2,z3,z4,z5,z6,z7,z8⟩:=mV
   have Kf:∀{bs:List (AC U)}{cur:Array Value}{n:Nat},kU E w F kv fp (bR σ) bs cur.toList->bs.drop n=rest.map (fun v=> .c (.lit v))->cur.toList.drop n=rest:=by
    intro bs cur n hd he
    have h1:=hd.drop n
    rw[he] at h1
    refine QO fun j=> ?_
    cases hj:rest[j]? with
    |none=>
     rw[List.getElem?_eq_none_iff] at hj⊢
     rw[<-h1.1];simpa using hj
    |some u=>
     have fU:j<(cur.toList.drop n).length:=by
      rw[<-h1.1,uW]
      rcases nL j rest.length with g|g
      ·exact g
      ·rw[nb g] at hj;cases hj
     rw[eW fU]
     have:=W7 (h1.2 j (.c (.lit u)) _ (by rw[mw,hj];rfl) (eW fU))
     rw[this]
   cases own with
   |true=>
    simp only[Gs] at hf
    split at hf
    ·rename_i bs he
     split at hf
     ·rename_i H_ l0 ks' ht
      rw[gI] at hf
      split at hf
      ·rename_i ID
       cases hf
       have ID:=mc ID
       obtain⟨b,cur,e,h3,h4,h5,h6⟩:=h.cW _ _ he
       rw[hv] at h3
       obtain⟨g1,g2,g3,_⟩:=JZ h ht (fun p j6=>hp p (by simp[j6])) (h6.take cs.length) (sC.1 hn).2
       obtain⟨fl,f1,f2,f3,f4⟩:=g3 rfl
       have Xy:bs.drop cs.length=rest.map fun v=> .c (.lit v):=aax fun p j6=>hp p (pd _ j6)
       have Po:=Kf h6 Xy
       have MZ:cs.length<=cur.size:=by
        have h8:bs.length=cur.size:=by have:=h6.1;simpa using this
        rw[g1,nE] at ID
        omega
       have Yq:b∉fl.flatten:=by
        intro hb
        obtain⟨k',cK,bg⟩:=f4 b hb
        obtain⟨e2,sJ⟩:=l6.1 (g2 k' cK)
        exact h.apart _ k' _ e2 b (fun e=>(sC.1 hn).1 (by rw[e];exact cK)) he sJ (by rw[h5];simp) bg
       refine⟨[b::fl.flatten],⟨⟨b,cur,e,fl,h3,h4,by omega,by rw[ID,Po,Xt],by rw[ID];exact z5,f1,fun j c hc=> ?_,rfl⟩,trivial⟩,(by rw[JD,zey,sR,sC];exact⟨Yq,f3⟩),fun c hc=> ?_,fun k hk=> ?_,fun e=>by cases e⟩
       ·have hj:j<cs.length:=by
         rw[<-ID]
         rcases nL j l0.length with g|g
         ·exact g
         ·rw[nb g] at hc;cases hc
        have:=f2 j c hc
        rw[dB,oT,if_pos hj,<-dB] at this
        exact this
       ·simp only[JD,zey,sR,jF] at hc
        rcases hc with rfl|hc
        ·exact⟨_,gS,by rw[h5];simp⟩
        ·obtain⟨k',cK,hc⟩:=f4 c hc;exact⟨k',e8 _ cK,hc⟩
       ·rcases jF.1 hk with rfl|hk
        ·rw[he];rfl
        ·exact g2 k hk
      ·cases hf
     ·cases hf
    ·cases hf
   |false=>
    simp only[Gs] at hf
    split at hf
    ·rename_i bs he
     split at hf
     ·rename_i l0 zU
      rw[gI] at hf
      split at hf
      ·rename_i ID
       cases hf
       have ID:=mc ID
       have tY:=Mc zU
       obtain⟨b,cur,e,h3,h4,h5,h6⟩:=h.cW _ _ he
       rw[hv] at h3
       have Xy:bs.drop cs.length=rest.map fun v=> .c (.lit v):=aax fun p j6=>hp p j6
       have Po:=Kf h6 Xy
       have h8:bs.length=cur.size:=by have:=h6.1;simpa using this
       have MZ:cs.length<=cur.size:=by
        have:=congrArg List.length tY
        rw[nE,uW,ID] at this
        omega
       refine⟨[[b]],⟨⟨b,cur,e,List.replicate l0.length [],h3,h4,by omega,by rw[ID,Po,Xt],by rw[ID];exact z5,by simp,fun j c hc=> ?_,by rw[ym]⟩,trivial⟩,by simp,fun c hc=>⟨_,gS,by rw[h5];simpa using hc⟩,by simp[he],fun _ c hc=> ?_⟩
       ·have hj:j<cs.length:=by
         rw[<-ID]
         rcases nL j l0.length with g|g
         ·exact g
         ·rw[nb g] at hc;cases hc
        have hci:bs[j]? =some (.c c):=by
         have:(bs.take cs.length)[j]? =some (.c c):=by rw[tY,mw,hc];rfl
         rwa[oT,if_pos hj] at this
        have h7:=ca (h6.2 j (.c c) (cur.toList.getD j undef) hci (ff (by simp;omega))) rfl
        rw[FJ]
        exact h7
       ·refine⟨_,gS,?_⟩
        rw[h5]
        rw[z1] at h3
        cases h3
        rw[z8,jF] at hc
        rcases hc with rfl|hc
        ·simp
        ·exfalso
         obtain⟨l',Gf,Ei⟩:=VW.1 hc
         obtain⟨j,hj,rfl⟩:=qD Gf
         have sI:j<cs.length:=by omega
         have:=z7 j _ (eW sI)
         rw[dB (l:=fl0),eW hj] at this
         exact this.R3 (F':=fun _=>False) Ei
      ·cases hf
     ·cases hf
    ·cases hf
theorem eQ.cons{w0:World}{m:Mode}{v:Value}{OD:List (DV U)}{EI:List (List Nat)}{ms:List Mode}{vs:List Value}{mu2:List (DV U)}{R4:List (List Nat)}(h:eQ E w F w0 [m] [v] OD EI)(h':eQ E w F w0 ms vs mu2 R4):
  eQ E w F w0 (m::ms) (v::vs) (OD++mu2) (EI++R4):=by
 cases m with
 |ro=>cases OD<;>cases EI<;>first|exact h.elim|exact h'
 |mv=>cases OD<;>cases EI<;>first|exact h.elim|exact h'
 |wr=>
  cases OD with
  |nil=>cases EI<;>exact h.elim
  |cons d OD=>
   cases EI with
   |nil=>cases d<;>first|exact h.elim|(rename_i c;cases c<;>exact h.elim)
   |cons l EI=>
    cases d with
    |one c=>cases c with
     |lit _=>exact h.elim
     |sl τ ys=>
      obtain⟨h1,h2⟩:=h
      cases OD<;>cases EI<;>first|exact h2.elim|exact⟨h1,h'⟩
    |agg cs=>
     obtain⟨h1,h2⟩:=h
     cases OD<;>cases EI<;>first|exact h2.elim|exact⟨h1,h'⟩
    |box _=>exact h.elim
    |ptr _=>exact h.elim
    |fn _=>exact h.elim
 |box own=>
  cases OD with
  |nil=>cases EI<;>exact h.elim
  |cons d OD=>
   cases EI with
   |nil=>cases d<;>exact h.elim
   |cons l EI=>
    cases d with
    |box cs=>
     obtain⟨h1,h2⟩:=h
     cases OD<;>cases EI<;>first|exact h2.elim|exact⟨h1,h'⟩
    |one _=>exact h.elim
    |agg _=>exact h.elim
    |ptr _=>exact h.elim
    |fn _=>exact h.elim
theorem aa6(h:cG E pm F kv fp σ a w){w0:World}{F0:Nat->Prop}{rest:List Value}:∀{ms:List Mode}{i:Nat}{ws:List (List (Option U.Ty))}{ds:List (DV U)}{vs:List Value}{ls:List (List Nat)}{ps:List Prop}{mu:List (DV U)}{ks:List Key},
  rD σ rest i ws ms ds=some (ps,mu,ks)->(∀p∈ps,p)->iP E w0 F0 ms ds vs ls->pO w0 rest ms ds vs->zc kv i ms ds vs->ks.Nodup->
  ∃iw,eQ E w F w0 ms vs mu iw/\iw.flatten.Nodup/\(∀b∈iw.flatten,∃k∈ks,b∈fp k)/\(∀k∈ks,(σ.bH k).isSome=true)/\(Px ms=false->∀b∈ls.flatten,∃k∈ks,b∈fp k)
 |[],i,ws,[],[],[],ps,mu,ks,hf,hp,mV,hr,Ee,hn=>by
  simp only[rD,fM,nT] at hf
  obtain⟨_,rfl,rfl⟩:=hf
  exact⟨[],trivial,by simp,by simp,by simp,by simp⟩
 |m::ms,i,ws,d::ds,v::vs,l::ls,ps,mu,ks,hf,hp,mV,hr,Ee,hn=>by
  simp only[rD] at hf
  split at hf
  ·rename_i QR xs ks1 qs ys ks2 h1 h2
   cases hf
   rw[p8] at hn
   obtain⟨n1,n2,n3⟩:=hn
   obtain⟨EI,i1,i2,i3,i4,i5⟩:=ai4 h h1 (fun p j6=>hp p (by simp[j6])) mV.1 hr.1 Ee.1 n1
   obtain⟨R4,j1,j2,j3,j4,j5⟩:=aa6 h h2 (fun p j6=>hp p (by simp[j6])) mV.2 hr.2 Ee.2 n2
   refine⟨EI++R4,i1.cons j1,?_,fun b hb=> ?_,fun k hk=>(jE.1 hk).elim (i4 k) (j4 k),fun ho b hb=> ?_⟩
   ·rw[Ju,p8]
    refine⟨i2,j2,fun b hb c hc e=> ?_⟩
    subst e
    obtain⟨k1,yH,sM⟩:=i3 b hb
    obtain⟨k2,kx,sL⟩:=j3 b hc
    obtain⟨e1,Sy⟩:=l6.1 (i4 k1 yH)
    obtain⟨e2,sJ⟩:=l6.1 (j4 k2 kx)
    exact h.apart k1 k2 e1 e2 b (n3 k1 yH k2 kx) Sy sJ sM sL
   ·rw[Ju,jE] at hb
    rcases hb with hb|hb
    ·obtain⟨k,hk,hb⟩:=i3 b hb;exact⟨k,pP _ hk,hb⟩
    ·obtain⟨k,hk,hb⟩:=j3 b hb;exact⟨k,pd _ hk,hb⟩
   ·simp only[Px,Q5,Nl] at ho
    rw[JD,jE] at hb
    rcases hb with hb|hb
    ·have:m=.ro\/m=.box false:=by
      cases m with
      |ro=>exact .inl rfl
      |wr=>simp at ho
      |mv=>simp at ho
      |box own=>cases own with
       |true=>simp at ho
       |false=>exact .inr rfl
     rcases this with rfl|rfl
     ·have:l=[]:=by cases d<;>first|exact mV.1.2|(obtain⟨_,_,_,_,h⟩:=mV.1;exact h)|exact mV.1.elim
      rw[this] at hb;cases hb
     ·obtain⟨k,hk,hb⟩:=i5 rfl b hb;exact⟨k,pP _ hk,hb⟩
    ·obtain⟨k,hk,hb⟩:=j5 ho.2 b hb;exact⟨k,pd _ hk,hb⟩
  ·cases hf
 |[],_,_,_::_,_,_,_,_,_,_,_,mV,_,_,_=>mV.elim
 |[],_,_,[],_::_,_,_,_,_,_,_,mV,_,_,_=>mV.elim
 |[],_,_,[],[],_::_,_,_,_,_,_,mV,_,_,_=>mV.elim
 |_::_,_,_,[],_,_,_,_,_,_,_,mV,_,_,_=>mV.elim
 |_::_,_,_,_::_,[],_,_,_,_,_,_,mV,_,_,_=>mV.elim
 |_::_,_,_,_::_,_::_,[],_,_,_,_,_,mV,_,_,_=>mV.elim
theorem eQ.mono{w0:World}{F':Nat->Prop}(hF:∀b,F b->F' b):∀{ms:List Mode}{vs:List Value}{dm:List (DV U)}{ls:List (List Nat)},eQ E w F w0 ms vs dm ls->eQ E w F' w0 ms vs dm ls:=by
 intro ms
 induction ms with
 |nil=>intro vs dm ls h;cases vs<;>cases dm<;>cases ls<;>first|trivial|exact h.elim
 |cons m ms ih=>
  intro vs dm ls h
  cases m with
  |ro=>cases vs with
   |nil=>cases dm<;>cases ls<;>exact h.elim
   |cons v vs=>simp only[eQ] at h⊢;exact ih h
  |mv=>cases vs with
   |nil=>cases dm<;>cases ls<;>exact h.elim
   |cons v vs=>simp only[eQ] at h⊢;exact ih h
  |wr=>cases vs with
   |nil=>cases dm<;>cases ls<;>exact h.elim
   |cons v vs=>cases dm with
    |nil=>cases ls<;>exact h.elim
    |cons d dm=>cases d with
     |one c=>cases c with
      |lit _=>cases ls<;>exact h.elim
      |sl τ ys=>cases ls with
       |nil=>exact h.elim
       |cons l ls=>exact⟨eo.any h.1,ih h.2⟩
     |agg cs=>cases ls with
       |nil=>exact h.elim
       |cons l ls=>exact⟨h.1.any,ih h.2⟩
     |box _=>cases ls<;>exact h.elim
     |ptr _=>cases ls<;>exact h.elim
     |fn _=>cases ls<;>exact h.elim
  |box own=>cases vs with
   |nil=>cases dm<;>cases ls<;>exact h.elim
   |cons v vs=>cases dm with
    |nil=>cases ls<;>exact h.elim
    |cons d dm=>cases d with
     |box cs=>cases ls with
       |nil=>exact h.elim
       |cons l ls=>exact⟨h.1.fq hF,ih h.2⟩
     |one _=>cases ls<;>exact h.elim
     |agg _=>cases ls<;>exact h.elim
     |ptr _=>cases ls<;>exact h.elim
     |fn _=>cases ls<;>exact h.elim
theorem K8:∀{ms:List Mode}{ds:List (DV U)}{vs:List Value}{ls:List (List Nat)},iP E w F ms ds vs ls->rM ms=true->ls.flatten=[]
 |[],[],[],[],_,_=>rfl
 |m::ms,d::ds,v::vs,l::ls,h,hr=>by
  simp only[rM,Nw,cH] at hr
  have h2:=K8 h.2 hr.2
  have h1:l=[]:=by
   cases m with
   |ro=>cases d<;>first|exact h.1.2|(obtain⟨_,_,_,_,h⟩:=h.1;exact h)|exact h.1.elim
   |wr=>simp at hr
   |mv=>simp at hr
   |box _=>simp at hr
  simp[h1,h2]
 |[],_::_,_,_,h,_=>h.elim
 |[],[],_::_,_,h,_=>h.elim
 |[],[],[],_::_,h,_=>h.elim
 |_::_,[],_,_,h,_=>h.elim
 |_::_,_::_,[],_,h,_=>h.elim
 |_::_,_::_,_::_,[],h,_=>h.elim
inductive Bd:U.C->Prop
 |lit (v:Value) (h:fI v):Bd (.lit v)
 |sl (τ:U.Ty) (xs:List (U.T τ)) (hl:xs.length<=maxLen) (h:∀(i:Nat)(x:U.T τ)(j:Nat)(c:U.C),xs[i]? =some x->(U.enc τ x)[j]? =some c->Bd c):Bd (.sl τ xs)
theorem Rp.bd{m:Bool}{c:U.C}{v:Value}{l:List Nat}(h:Rp E w F m c v l):Bd c:=by
 induction h with
 |lit m v h=>exact .lit v h
 |nil m τ a c h=>exact .sl τ [] (by simp) (fun i x j c hx=>by simp at hx)
 |shr τ xs b off cap vs M1 hc hm hv hr ih=>exact .sl τ xs hm ih
 |own τ xs b cap cur vs gr hb hc hm hs hv hr ih=>exact .sl τ xs (vg hc hm) ih
def gz:DV U->Prop
 | .one c=>Bd c
 | .agg cs=>∀c∈cs,Bd c
 | .box cs=>∀c∈cs,Bd c
 | .ptr cs=>∀c∈cs,Bd c
 | .fn _=>True
theorem GC{cs:List U.C}(hh:∀(i:Nat)(c:U.C),cs[i]? =some c->Bd c):∀c∈cs,Bd c:=by
 intro c hc
 obtain⟨i,hi,rfl⟩:=qD hc
 exact hh i _ (eW hi)
theorem lr.bd{cs:List U.C}{v:Value}{l:List Nat}(h:lr E w F cs v l):∀c∈cs,Bd c:=by
 obtain⟨vs,fl,_,_,_,h4,_⟩:=h
 exact GC fun i c hc=>(h4 i c hc).bd
theorem nC.bd{m:Mode}{d:DV U}{v:Value}{l:List Nat}(h:nC E w F m d v l):gz d:=by
 cases m with
 |ro=>
  cases d with
  |one c=>exact h.1.bd
  |agg cs=>obtain⟨vs,_,_,h3,_⟩:=h;exact GC fun i c hc=>(h3 i c hc).bd
  |ptr cs=>
   obtain⟨⟨b,o,_,_,h3⟩,_⟩:=h
   exact GC fun i c hc=>by obtain⟨u,_,h5⟩:=h3 i c hc;exact h5.bd
  |fn _=>trivial
  |box _=>exact h.elim
 |wr=>
  cases d with
  |one c=>
   cases c with
   |lit _=>exact h.elim
   |sl τ xs=>exact(h.kB (F':=fun _=>True) (fun _ _=>trivial) (fun _ _=>trivial)).bd
  |agg _=>exact lr.bd h
  |box _=>exact h.elim
  |ptr _=>exact h.elim
  |fn _=>exact h.elim
 |mv=>
  cases d with
  |one c=>exact Rp.bd h
  |agg _=>exact lr.bd h
  |box _=>exact h.elim
  |ptr _=>exact h.elim
  |fn _=>exact h.elim
 |box own=>
  cases d with
  |box cs=>obtain⟨b,cur,e,fl,_,_,_,_,_,_,h7,_⟩:=h;exact GC fun i c hc=>(h7 i c hc).bd
  |one _=>exact h.elim
  |agg _=>exact h.elim
  |ptr _=>exact h.elim
  |fn _=>exact h.elim
theorem iP.bd:∀{ms:List Mode}{ds:List (DV U)}{vs:List Value}{ls:List (List Nat)},iP E w F ms ds vs ls->∀d∈ds,gz d
 |[],[],[],[],_,d,hd=>by simp at hd
 |m::ms,d0::ds,v::vs,l::ls,h,d,hd=>by
  rcases jF.1 hd with rfl|hd
  ·exact h.1.bd
  ·exact iP.bd h.2 d hd
 |[],_::_,_,_,h,_,_=>h.elim
 |[],[],_::_,_,h,_,_=>h.elim
 |[],[],[],_::_,h,_,_=>h.elim
 |_::_,[],_,_,h,_,_=>h.elim
 |_::_,_::_,[],_,h,_,_=>h.elim
 |_::_,_::_,_::_,[],h,_,_=>h.elim
theorem yO(hE:E.Good){f:FuncId}{fn:Func}{c:Code}(hf:E.P.funcs[f]? =some fn)(hb:fn.body=some c)(k:jw U)(Zk:k.md.length<=fn.ntmps)(tU:fn.ntmps<=1000000)(sM:pZ k.md=true\/k.HX=0)
  (hw:∀x,(∀p∈k.pre x,p)->(∀d∈k.ds x,gz d)->∀rest,(k.md.any kg=true->rest.length=k.HX)->(k.md.any kg=false->rest=[])->
   ∀vs:List Value,vs.length=k.md.length->∃τ,(∀{pm:Pm}{F:Nat->Prop}{kv:Key->Value}{fp:Key->List Nat}{a:Act}{w:World},cG E pm F kv fp (entry rest fn.ntmps k.md (k.ds x)) a w->(∀i,i<vs.length->a.tmps.getD i undef=vs.getD i undef)->cG E pm F kv fp τ a w)/\
    WpS E c τ (leave E fn.results.toList fn.resultTypes.toList rest fn.params.toList k.md (k.ds x) (k.mS x))):dR E f k:=by
 intro x Kg w F vs ls hF zV mV Xx o9 hld
 obtain⟨l1,l2,l3⟩:=mV.len
 refine calls_of_wp hf hb ?_
 obtain⟨rest,aj4,har,hrn⟩:∃rest:List Value,(k.md.any kg=true->rest.length=k.HX)/\pO w rest k.md (k.ds x) vs/\(k.md.any kg=false->rest=[]):=by
  rcases sM with sM|sM
  ·exact⟨ta w k.md (k.ds x) vs,fun h=>aaz mV Xx sM h,abn sM,fun h=>aay h⟩
  ·rw[sM] at Xx
   exact⟨[],fun _=>sM.symm,abm Xx,fun _=>rfl⟩
 obtain⟨Is,SG,h0,XA⟩:=ajb (n:=fn.ntmps) (rest:=rest) hF zV mV har o9 hld Zk tU
 have iL:(vs.toArray).size=vs.length:=by simp
 rw[iL]
 have abI:∀{kv:Key->Value},(∀i j,j<1024->kv (2000000+i,j)=Is (2000000+i,j))->∀{i:Nat}{ms:List Mode}{ds:List (DV U)}{vs:List Value}{ls:List (List Nat)}{mu:List Prop×List (DV U)×List Key}{σ:ak U}{ws:List (List (Option U.Ty))},zc Is i ms ds vs->rD σ rest i ws ms ds=some mu->zc kv i ms ds vs:=by
  intro kv hk i ms
  induction ms generalizing i with
  |nil=>intro ds vs ls mu σ ws _ _;cases ds<;>trivial
  |cons m ms ih=>
   intro ds vs ls mu σ ws hp hfm
   cases ds with
   |nil=>trivial
   |cons d ds=>
    cases vs with
    |nil=>trivial
    |cons v vs=>
     simp only[rD] at hfm
     split at hfm
     ·rename_i h1 h2
      refine⟨?_,ih (ls:=[]) hp.2 h2⟩
      have eh:=hp.1
      cases m with
      |ro=>trivial
      |mv=>trivial
      |box own=>
       cases d with
       |box cs=>exact(hk i 0 (by decide)).trans eh
       |one _=>trivial
       |agg _=>trivial
       |ptr _=>trivial
       |fn _=>trivial
      |wr=>
       cases d with
       |one c=>exact(hk i 0 (by decide)).trans eh
       |agg cs=>
        simp only[Gs] at h1
        rw[gI] at h1
        split at h1
        ·rename_i hlen
         rw[Nt] at hlen
         obtain⟨us,q1,q2,q3,q4⟩:=eh
         refine⟨us,q1,q2,fun j τ xs hj=> ?_,q4⟩
         have Ya:j<cs.length:=by
          rcases nL j cs.length with g|g
          ·exact g
          ·rw[nb g] at hj;cases hj
         exact(hk i j (by omega)).trans (q3 j τ xs hj)
        ·cases h1
       |box _=>trivial
       |ptr _=>trivial
       |fn _=>trivial
     ·cases hfm
 have key:∀(σ:ak U),fin E fn.results.toList fn.resultTypes.toList rest fn.params.toList k.md (k.ds x) (k.mS x) σ->∀F1 kv fp a' w',cG E (Oc w F Is ls) F1 kv fp σ a' w'->a'.defers=[]/\∃v,(results fn a'.tmps).run E.P w'=.ok v w'/\∃(us:List Value)(qz iw:List (List Nat)),Ending.returned v=.returned (Ma us)/\gq (·∈ls.flatten) w w'/\
   mr E w' (Dc F w w' (qz.flatten++iw.flatten) ls.flatten) (k.mS x).fresh (k.mS x).val us qz/\
   eQ E w' (Dc F w w' (qz.flatten++iw.flatten) ls.flatten) w k.md vs (k.mS x).Ip iw/\
   (qz.flatten++iw.flatten).Nodup/\(∀b∈qz.flatten,(b∈ls.flatten\/w.heap.size<=b)/\b<w'.heap.size)/\(∀b∈iw.flatten,b∈ls.flatten\/(w.heap.size<=b/\b<w'.heap.size)):=by
  intro σ qk F1 kv fp a' w' hs0
  refine⟨hs0.defers,?_⟩
  have hs:cG E (Oc w F Is ls) F1 kv fp (iY σ) a' w':=FH hs0 _
  unfold fin at qk
  split at qk
  ·rename_i ps ds ks qs mu ks' ho hm
   rw[gI] at qk
   split at qk
   ·rename_i hc
    simp only[cH,DW,pc] at hc
    obtain⟨⟨c1,c3⟩,c5⟩:=hc
    obtain⟨hp,rfl,rfl⟩:=abj.1 qk
    obtain⟨d1,d2,d3⟩:=ajj c1
    have akd:∀i j,j<1024->kv (2000000+i,j)=Is (2000000+i,j):=fun i j hj=>(hs.Lg (2000000+i,j) (Is (2000000+i,j)) (by simp[Oc,hj])).2.2.2
    obtain⟨iw,m1,m2,m3,m4,_⟩:=aa6 hs hm (fun p j6=>hp p (by simp[j6])) mV har (abI akd (ls:=[]) XA hm) (tf.1 d2)
    have wZ:∀{k':Key}{b:Nat},((iY σ).bH k').isSome=true->b∈fp k'->¬F1 b/\(b∈ls.flatten\/w.heap.size<=b)/\b<w'.heap.size:=by
     intro k' b cK hb
     obtain⟨e,he⟩:=l6.1 cK
     exact hs.fj k' e b he hb
    have TT:∀b∈iw.flatten,b∈ls.flatten\/(w.heap.size<=b/\b<w'.heap.size):=by
     intro b hb
     obtain⟨k',cK,hb⟩:=m3 b hb
     have:=wZ (m4 k' cK) hb
     rcases this.2.1 with g|g
     ·exact .inl g
     ·exact .inr ⟨g,this.2.2⟩
    have hG:∀own:List Nat,(∀b∈own,¬F1 b)->∀b,F1 b->Dc F w w' own ls.flatten b:=fun own ho b hb=>by
     rcases hs.sN b hb with g|g|g
     ·exact .inl g
     ·exact .inr ⟨.inr g,hs.sO b hb,fun Zv=>ho b Zv hb⟩
     ·exact .inr ⟨.inl g,hs.sO b hb,fun Zv=>ho b Zv hb⟩
    obtain⟨us,qz,o1,o2,o3,o4,o5⟩:=ah5 hs ho (fun p j6=>hp p (by simp[j6])) (tf.1 d1)
    have hG1:=hG (qz.flatten++iw.flatten) fun b Zv=>by
     rcases jE.1 Zv with g|g
     ·obtain⟨k',cK,g⟩:=o4 b g;exact(wZ (o5 k' cK) g).1
     ·obtain⟨k',cK,g⟩:=m3 b g;exact(wZ (m4 k' cK) g).1
    refine⟨_,ahV o1,_,qz,iw,rfl,hs.upto,o2 _ hG1 (fun k' e b hkr he hb=> ?_),m1.mono hG1,?_,fun b hb=> ?_,TT⟩
    ·have:=wZ (by rw[he];rfl) hb
     refine .inr ⟨this.2.1.symm,this.2.2,fun hbm=> ?_⟩
     have IB:∀k2 e2,k2∈ks++ks'->(iY σ).bH k2=some e2->b∉fp k2:=fun k2 e2 kx sJ sL=>by
      refine hs.apart k' k2 e e2 b (fun e=> ?_) he sJ hb sL
      have:meet (pk E (iY σ) (k.mS x).fresh fn.results.toList) (ks++ks')=true:=tI.2 ⟨k',hkr,q_.2 (by rw[e];exact kx)⟩
      rw[c3] at this;cases this
     rcases jE.1 hbm with g|g
     ·obtain⟨k2,kx,sL⟩:=o4 b g
      obtain⟨e2,sJ⟩:=l6.1 (o5 k2 kx)
      exact IB k2 e2 (pP _ kx) sJ sL
     ·obtain⟨k2,kx,sL⟩:=m3 b g
      obtain⟨e2,sJ⟩:=l6.1 (m4 k2 kx)
      exact IB k2 e2 (pd _ kx) sJ sL
    ·rw[p8]
     refine⟨o3,m2,fun b hb c hc e=> ?_⟩
     subst e
     obtain⟨k1,yH,sM⟩:=o4 b hb
     obtain⟨k2,kx,sL⟩:=m3 b hc
     obtain⟨e1,Sy⟩:=l6.1 (o5 k1 yH)
     obtain⟨e2,sJ⟩:=l6.1 (m4 k2 kx)
     exact hs.apart k1 k2 e1 e2 b (fun e=>d3 k1 yH (by rw[e];exact kx)) Sy sJ sM sL
    ·obtain⟨k',cK,hb⟩:=o4 b hb
     exact(wZ (o5 k' cK) hb).2
   ·exact qk.elim
  ·exact qk.elim
 obtain⟨τ,Jw,hwp⟩:=hw x Kg mV.bd rest aj4 hrn vs (by omega)
 refine hwp (Jw h0 (fun i hi=>by simp[Array.getD,dB,hi,Y8 hi (Nat.le_add_right _ _)])) (fun o ho F1 kv fp a' w' hs=> ?_)
 cases o with
 |normal σ=>exact key σ ho F1 kv fp a' w' hs
 |ret σ=>exact key σ ho F1 kv fp a' w' hs
 |exit id σ=>exact ho.elim
theorem ai0(hE:E.Good){f:FuncId}{fn:Func}{c:Code}(hf:E.P.funcs[f]? =some fn)(hb:fn.body=some c)(k:jw U)(nA:k.α->Nat->Option (sA U))(Zk:k.md.length<=fn.ntmps)(tU:fn.ntmps<=1000000)(sM:pZ k.md=true\/k.HX=0)
  (hw:∀x,(∀p∈k.pre x,p)->(∀d∈k.ds x,gz d)->∀rest,(k.md.any kg=true->rest.length=k.HX)->(k.md.any kg=false->rest=[])->
   AM.wp E (nA x) c (entry rest fn.ntmps k.md (k.ds x)) (leave E fn.results.toList fn.resultTypes.toList rest fn.params.toList k.md (k.ds x) (k.mS x))):dR E f k:=
 yO hE hf hb k Zk tU sM fun x hp hd rest hr hn _ _=>⟨_,fun h _=>h,JG hE (hw x hp hd rest hr hn)⟩
theorem cG.over{F:Nat->Prop}{kv:Key->Value}{fp:Key->List Nat}{σ:ak U}{a:Act}{w:World}{pm:Pm}(h:cG E pm F kv fp σ a w)(s:Nat)(x:SV U)(hx:RS E w F kv fp (bR σ) x (a.tmps.getD s undef)):
  cG E pm F kv fp {σ with bx:=(s,some x)::σ.bx} a w:=by
 refine{h with bx:=fun t y hy=> ?_}
 unfold ak.get at hy
 simp only[look] at hy
 cases hb:Nat.beq s t<;>rw[hb] at hy<;>simp only[cond_true,cond_false] at hy
 ·exact h.bx t y hy
 ·cases hy
  rw[<-mc hb]
  exact hx
def Gv(n:Nat)(b:Bool)(τ:U.Ty)(xs:List (U.T τ)):ak U:={entry [] n [.ro] [.one (.sl τ xs)] with bx:=(0,some (one (.kn b τ xs)))::(entry [] n [.ro] [.one (.sl τ xs)]).bx}
theorem aiZ(hE:E.Good){f:FuncId}{fn:Func}{c:Code}(hf:E.P.funcs[f]? =some fn)(hb:fn.body=some c)(k:jw U)(nA:k.α->Nat->Option (sA U))(Zk:k.md.length<=fn.ntmps)(tU:fn.ntmps<=1000000)(sM:pZ k.md=true\/k.HX=0)
  (XH:k.md=[.ro]) (τ:U.Ty) (xs:k.α->List (U.T τ)) (Gj:∀x,k.ds x=[.one (.sl τ (xs x))])
  (hw:∀x,(∀p∈k.pre x,p)->(∀d∈k.ds x,gz d)->∀b:Bool,(b=true->xs x=[])->
   AM.wp E (nA x) c (Gv fn.ntmps b τ (xs x)) (leave E fn.results.toList fn.resultTypes.toList [] fn.params.toList k.md (k.ds x) (k.mS x))):dR E f k:=by
 refine yO hE hf hb k Zk tU sM fun x hp hd rest hr hn vs Ec=> ?_
 have jn:rest=[]:=hn (by rw[XH];rfl)
 subst jn
 have Ec:0<vs.length:=by rw[Ec,XH];decide
 by_cases hv:tr (vs.getD 0 undef)=true->xs x=[]
 ·refine⟨Gv fn.ntmps (tr (vs.getD 0 undef)) τ (xs x),fun{pm F kv fp a w} h ha=> ?_,JG hE (hw x hp hd _ hv)⟩
  rw[XH,Gj] at h
  have h0:=h.bx 0 (one (.c (.sl τ (xs x)))) rfl
  have h1:Rp E w F false (.sl τ (xs x)) (a.tmps.getD 0 undef) []:=ca (kr h0 rfl) rfl
  rw[ha 0 Ec] at h1
  have h2:=h.over 0 (one (.kn (tr (vs.getD 0 undef)) τ (xs x))) (gP (x:=.kn (tr (vs.getD 0 undef)) τ (xs x)) (by rw[ha 0 Ec];exact⟨by rw[<-ha 0 Ec];exact(kr (h.bx 0 (one (.c (.sl τ (xs x)))) rfl) rfl).1,.inr ⟨h1,rfl⟩⟩))
  exact h2
 ·refine⟨Gv fn.ntmps false τ (xs x),fun{pm F kv fp a w} h ha=> ?_,JG hE (hw x hp hd _ (by simp))⟩
  rw[XH,Gj] at h
  have h0:=h.bx 0 (one (.c (.sl τ (xs x)))) rfl
  have h1:Rp E w F false (.sl τ (xs x)) (a.tmps.getD 0 undef) []:=ca (kr h0 rfl) rfl
  rw[ha 0 Ec] at h1
  refine absurd (fun hn=> ?_) hv
  rcases h1.inv with⟨h3,_⟩|⟨b,off,cap,uP,h3,_⟩
  ·exact h3
  ·rw[h3] at hn;simp[tr] at hn
end
theorem Rp.env{E E':Env U}(ht:E'.tid=E.tid){w:World}{F:Nat->Prop}{m:Bool}{c:U.C}{v:Value}{l:List Nat}(h:Rp E w F m c v l):Rp E' w F m c v l:=by
 induction h with
 |lit m v h=>exact .lit m v h
 |nil m τ a c h=>exact .nil m τ a c h
 |shr τ xs b off cap vs M1 hc hm hv hr ih=>exact .shr τ xs b off cap vs M1 hc hm hv ih
 |own τ xs b cap cur vs gr hb hc hm hs hv hr ih=>exact .own τ xs b cap cur vs gr (by rw[ht];exact hb) hc hm hs hv ih
section
variable{E E':Env U}{w:World}{F:Nat->Prop}
theorem eo.env(ht:E'.tid=E.tid){d:Bool}{a:cC U}{v:Value}{l:List Nat}(h:eo E w F d a v l):eo E' w F d a v l:=by
 rcases h with h|⟨b,cap,cur,vs,gr,h1,h2,h3,h4,h5,h6,h7,h8⟩
 ·exact .inl h
 ·exact .inr ⟨b,cap,cur,vs,gr,h1,by rw[ht];exact h2,h3,h4,h5,h6,fun i x j c hx hj=>(h7 i x j c hx hj).env ht,h8⟩
theorem qx.env(ht:E'.tid=E.tid){own:Bool}{cs:List U.C}{rest:List Value}{v:Value}{l:List Nat}(h:qx E w F own cs rest v l):qx E' w F own cs rest v l:=by
 obtain⟨b,cur,e,fl,h1,h2,h3,h4,h5,h6,h7,h8⟩:=h
 exact⟨b,cur,e,fl,h1,h2,h3,h4,h5,h6,fun i c hc=>(h7 i c hc).env ht,h8⟩
theorem lr.env(ht:E'.tid=E.tid){cs:List U.C}{v:Value}{l:List Nat}(h:lr E w F cs v l):lr E' w F cs v l:=by
 obtain⟨vs,fl,h1,h2,h3,h4,h5⟩:=h
 exact⟨vs,fl,h1,h2,h3,fun i c hc=>(h4 i c hc).env ht,h5⟩
theorem ZC.env(ht:E'.tid=E.tid){d:DA U}{v:Value}(h:ZC E w F d v):ZC E' w F d v:=by
 obtain⟨vs,h1,h2,h3⟩:=h
 exact⟨vs,h1,fun i c hc=>(h2 i c hc).env ht,h3⟩
theorem mP.env(hP:E'.P=E.P)(ht:E'.tid=E.tid){p:List (DA U)->Option Value}{v:Value}(h:mP E w F p v):mP E' w F p v:=by
 obtain⟨g,oG,h1,h2,h3⟩:=h
 refine⟨g,oG,h1,by rw[hP];exact h2,fun ds r hr w' F' h4 h5 vs h6=> ?_⟩
 rw[hP]
 exact h3 ds r hr w' F' h4 h5 vs ⟨h6.1,fun i d v hd hv=>(h6.2 i d v hd hv).env ht.symm⟩
theorem nC.env(hP:E'.P=E.P)(ht:E'.tid=E.tid){m:Mode}{d:DV U}{v:Value}{l:List Nat}(h:nC E w F m d v l):nC E' w F m d v l:=by
 cases m with
 |ro=>
  cases d with
  |one c=>exact⟨h.1.env ht,h.2⟩
  |agg cs=>obtain⟨vs,h1,h2,h3,h4⟩:=h;exact⟨vs,h1,h2,fun i c hc=>(h3 i c hc).env ht,h4⟩
  |ptr cs=>
   obtain⟨⟨b,o,h1,h2,h3⟩,h4⟩:=h
   exact⟨⟨b,o,h1,h2,fun i c hc=>by obtain⟨u,g1,g2⟩:=h3 i c hc;exact⟨u,g1,g2.env ht⟩⟩,h4⟩
  |fn _=>exact⟨h.1.env hP ht,h.2⟩
  |box _=>exact h.elim
 |wr=>
  cases d with
  |one c=>cases c with
   |lit _=>exact h.elim
   |sl τ xs=>exact eo.env ht h
  |agg _=>exact lr.env ht h
  |box _=>exact h.elim
  |ptr _=>exact h.elim
  |fn _=>exact h.elim
 |mv=>
  cases d with
  |one c=>exact Rp.env ht h
  |agg _=>exact lr.env ht h
  |box _=>exact h.elim
  |ptr _=>exact h.elim
  |fn _=>exact h.elim
 |box own=>
  cases d with
  |box cs=>exact qx.env ht h
  |one _=>exact h.elim
  |agg _=>exact h.elim
  |ptr _=>exact h.elim
  |fn _=>exact h.elim
theorem iP.env(hP:E'.P=E.P)(ht:E'.tid=E.tid):∀{ms:List Mode}{ds:List (DV U)}{vs:List Value}{ls:List (List Nat)},iP E w F ms ds vs ls->iP E' w F ms ds vs ls
 |[],[],[],[],_=>trivial
 |m::ms,d0::ds,v::vs,l::ls,h=>⟨h.1.env hP ht,iP.env hP ht h.2⟩
 |[],_::_,_,_,h=>h.elim
 |[],[],_::_,_,h=>h.elim
 |[],[],[],_::_,h=>h.elim
 |_::_,[],_,_,h=>h.elim
 |_::_,_::_,[],_,h=>h.elim
 |_::_,_::_,_::_,[],h=>h.elim
theorem kf.env(ht:E'.tid=E.tid){fresh:Bool}{d:DV U}{v:Value}{l:List Nat}(h:kf E w F fresh d v l):kf E' w F fresh d v l:=by
 cases d with
 |ptr _=>exact h
 |fn _=>exact h
 |one c=>cases fresh with
  |true=>exact Rp.env ht h
  |false=>exact⟨h.1.env ht,h.2⟩
 |agg cs=>cases fresh with
  |true=>exact lr.env ht h
  |false=>obtain⟨vs,h1,h2,h3,h4⟩:=h;exact⟨vs,h1,h2,fun i c hc=>(h3 i c hc).env ht,h4⟩
 |box cs=>obtain⟨g,b,cur,e,h1,h2,h3,h4,h5⟩:=h;exact⟨g,b,cur,e,h1,h2,h3,h4,fun i c hc=>(h5 i c hc).env ht⟩
theorem mr.env(ht:E'.tid=E.tid):∀{fs:List Bool}{ds:List (DV U)}{us:List Value}{ls:List (List Nat)},mr E w F fs ds us ls->mr E' w F fs ds us ls
 |_,[],[],[],_=>trivial
 |_,d::ds,u::us,l::ls,h=>⟨h.1.env ht,mr.env ht h.2⟩
 |_,[],_::_,_,h=>h.elim
 |_,[],[],_::_,h=>h.elim
 |_,_::_,[],_,h=>h.elim
 |_,_::_,_::_,[],h=>h.elim
theorem eQ.env(ht:E'.tid=E.tid){w0:World}:∀{ms:List Mode}{vs:List Value}{dm:List (DV U)}{ls:List (List Nat)},eQ E w F w0 ms vs dm ls->eQ E' w F w0 ms vs dm ls:=by
 intro ms
 induction ms with
 |nil=>intro vs dm ls h;cases vs<;>cases dm<;>cases ls<;>first|trivial|exact h.elim
 |cons m ms ih=>
  intro vs dm ls h
  cases m with
  |ro=>cases vs with
   |nil=>cases dm<;>cases ls<;>exact h.elim
   |cons v vs=>simp only[eQ] at h⊢;exact ih h
  |mv=>cases vs with
   |nil=>cases dm<;>cases ls<;>exact h.elim
   |cons v vs=>simp only[eQ] at h⊢;exact ih h
  |wr=>cases vs with
   |nil=>cases dm<;>cases ls<;>exact h.elim
   |cons v vs=>cases dm with
    |nil=>cases ls<;>exact h.elim
    |cons d dm=>cases d with
     |one c=>cases c with
      |lit _=>cases ls<;>exact h.elim
      |sl τ ys=>cases ls with
       |nil=>exact h.elim
       |cons l ls=>exact⟨h.1.env ht,ih h.2⟩
     |agg cs=>cases ls with
       |nil=>exact h.elim
       |cons l ls=>exact⟨h.1.env ht,ih h.2⟩
     |box _=>cases ls<;>exact h.elim
     |ptr _=>cases ls<;>exact h.elim
     |fn _=>cases ls<;>exact h.elim
  |box own=>cases vs with
   |nil=>cases dm<;>cases ls<;>exact h.elim
   |cons v vs=>cases dm with
    |nil=>cases ls<;>exact h.elim
    |cons d dm=>cases d with
     |box cs=>cases ls with
       |nil=>exact h.elim
       |cons l ls=>exact⟨h.1.env ht,ih h.2⟩
     |one _=>cases ls<;>exact h.elim
     |agg _=>cases ls<;>exact h.elim
     |ptr _=>cases ls<;>exact h.elim
     |fn _=>cases ls<;>exact h.elim
end
theorem dR.env{E E':Env U}(hP:E'.P=E.P)(ht:E'.tid=E.tid)(hT:E'.Rd=E.Rd){f:FuncId}{k:jw U}(h:dR E f k):dR E' f k:=by
 intro x hp w F vs ls h1 hL h2 Kf h3 h4
 have:=h x hp w F vs ls h1 (by unfold Ns;rw[<-hT];exact hL) (h2.env hP.symm ht.symm) Kf h3 h4
 rw[hP]
 refine this.mono ?_
 rintro e w' ⟨us,qz,iw,g1,g2,g3,g4,g5⟩
 exact⟨us,qz,iw,g1,g2,g3.env ht,g4.env ht,g5⟩
def I2:List (FuncId×jw U)->FuncId->Option (jw U)
 |[],_=>none
 |(g,k)::r,f=>bif Nat.beq g f then some k else I2 r f
def Gz:List (FuncId×jw U)->FuncId->Option (jw U)
 |[],_=>none
 |(g,k)::r,f=>bif Nat.beq g f then I2 r f else Gz r f
def Env.add(E:Env U)(l:List (FuncId×jw U)):Env U:={E with Na:=I2 l,M_:=Gz l}
def Holds(E:Env U)(p:FuncId×jw U):Prop:=xY E.P p.1/\dR E p.1 p.2
theorem RE{E:Env U}(hE:E.Ok){l:List (FuncId×jw U)}(h:∀p∈l,Holds E p):(E.add l).Good:=by
 have one:∀{f:FuncId}{k:jw U}{l:List (FuncId×jw U)},I2 l f=some k->(f,k)∈l:=by
  intro f k l
  induction l with
  |nil=>intro h;cases h
  |cons p l ih=>
   obtain⟨g,k'⟩:=p
   intro h
   simp only[I2] at h
   cases hb:Nat.beq g f<;>rw[hb] at h<;>simp only[cond_true,cond_false] at h
   ·exact e8 _ (ih h)
   ·cases h
    rw[mc hb]
    exact gS
 have two:∀{f:FuncId}{k:jw U}{l:List (FuncId×jw U)},Gz l f=some k->(f,k)∈l:=by
  intro f k l
  induction l with
  |nil=>intro h;cases h
  |cons p l ih=>
   obtain⟨g,k'⟩:=p
   intro h
   simp only[Gz] at h
   cases hb:Nat.beq g f<;>rw[hb] at h<;>simp only[cond_true,cond_false] at h
   ·exact e8 _ (ih h)
   ·exact e8 _ (one h)
 have go:∀{f:FuncId}{k:jw U},(f,k)∈l->xY (E.add l).P f/\dR (E.add l) f k:=fun hm=>⟨(h _ hm).1,dR.env (E:=E) (E':=E.add l) rfl rfl rfl (h _ hm).2⟩
 exact⟨⟨hE.code,hE.mixed⟩,fun f k hk=>go (one hk),fun f k hk=>go (two hk)⟩
def mJ(fn:Func):Code:=match fn.body with|some c=>c|none=> .skip
def PA(rest:List Value)(E:Env U)(l:List (FuncId×jw U))(fn:Func)(k:jw U)(nA:k.α->Nat->Option (sA U))(x:k.α):Prop:=
 AM.wp (E.add l) (nA x) (mJ fn) (entry rest fn.ntmps k.md (k.ds x)) (leave (E.add l) fn.results.toList fn.resultTypes.toList rest fn.params.toList k.md (k.ds x) (k.mS x))
def ab'(E:Env U)(l:List (FuncId×jw U))(fn:Func)(k:jw U)(nA:k.α->Nat->Option (sA U))(x:k.α):Prop:=PA [] E l fn k nA x
def CP(P:Program)(f:FuncId)(fn:Func)(ms:List Mode):Bool:=
 fn.body.isSome&& !(fn.name== "runtime.NumGoroutine")&&Nat.ble ms.length fn.ntmps&&Nat.ble fn.ntmps 1000000
theorem aaV{E:Env U}(hE:E.Ok){f:FuncId}{fn:Func}(hf:E.P.funcs[f]? =some fn)(k:jw U)(hc:CP E.P f fn k.md=true)(l:List (FuncId×jw U))(hl:∀p∈l,Holds E p)
  (nA:k.α->Nat->Option (sA U)) (hw:∀x,(∀p∈k.pre x,p)->(∀d∈k.ds x,gz d)->∀rest,(k.md.any kg=true->rest.length=k.HX)->(k.md.any kg=false->rest=[])->PA rest E l fn k nA x) (sM:pZ k.md=true\/k.HX=0):Holds E (f,k):=by
 unfold CP at hc
 simp only[cH,pc,Nt] at hc
 obtain⟨⟨⟨c1,c2⟩,c3⟩,c4⟩:=hc
 refine⟨⟨fn,hf,c1,c2⟩,?_⟩
 have hb:fn.body=some (mJ fn):=by
  unfold mJ
  cases h:fn.body with
  |none=>rw[h] at c1;cases c1
  |some c=>rfl
 have:=ai0 (E:=E.add l) (RE hE hl) hf hb k nA c3 c4 sM hw
 exact dR.env (E:=E.add l) (E':=E) rfl rfl rfl this
theorem holds_of{E:Env U}(hE:E.Ok){f:FuncId}{fn:Func}(hf:E.P.funcs[f]? =some fn)(k:jw U)(hc:CP E.P f fn k.md=true)(l:List (FuncId×jw U))(hl:∀p∈l,Holds E p)
  (nA:k.α->Nat->Option (sA U)) (hw:∀x,(∀p∈k.pre x,p)->(∀d∈k.ds x,gz d)->ab' E l fn k nA x) (h0:k.HX=0:=by rfl):Holds E (f,k):=
 aaV hE hf k hc l hl nA (fun x hp hb rest hr hn=>by
  have e:rest=[]:=by
   cases sK:k.md.any kg with
   |false=>exact hn sK
   |true=>exact Fy ((hr sK).trans h0)
  rw[e];exact hw x hp hb) (.inr h0)
theorem tV{E:Env U}(hE:E.Ok){f:FuncId}{fn:Func}(hf:E.P.funcs[f]? =some fn)(k:jw U)(hc:CP E.P f fn k.md=true)(sK:k.md.any kg=true)(l:List (FuncId×jw U))(hl:∀p∈l,Holds E p)
  (nA:k.α->Nat->Option (sA U)) (hw:∀x,(∀p∈k.pre x,p)->(∀d∈k.ds x,gz d)->∀rest:List Value,rest.length=k.HX->PA rest E l fn k nA x) (sM:pZ k.md=true:=by rfl):Holds E (f,k):=
 aaV hE hf k hc l hl nA (fun x hp hb rest hr _=>hw x hp hb rest (hr sK)) (.inl sM)
def zz(E:Env U)(l:List (FuncId×jw U))(fn:Func)(k:jw U)(nA:k.α->Nat->Option (sA U))(x:k.α)(τ:U.Ty)(xs:List (U.T τ))(b:Bool):Prop:=
 AM.wp (E.add l) (nA x) (mJ fn) (Gv fn.ntmps b τ xs) (leave (E.add l) fn.results.toList fn.resultTypes.toList [] fn.params.toList k.md (k.ds x) (k.mS x))
theorem yB{E:Env U}(hE:E.Ok){f:FuncId}{fn:Func}(hf:E.P.funcs[f]? =some fn)(k:jw U)(hc:CP E.P f fn k.md=true)(XH:k.md=[.ro])(τ:U.Ty)(xs:k.α->List (U.T τ))(Gj:∀x,k.ds x=[.one (.sl τ (xs x))])
  (l:List (FuncId×jw U)) (hl:∀p∈l,Holds E p)
  (nA:k.α->Nat->Option (sA U)) (hw:∀x,(∀p∈k.pre x,p)->(∀d∈k.ds x,gz d)->zz E l fn k nA x τ (xs x) false/\(xs x=[]->zz E l fn k nA x τ (xs x) true)):Holds E (f,k):=by
 unfold CP at hc
 simp only[cH,pc,Nt] at hc
 obtain⟨⟨⟨c1,c2⟩,c3⟩,c4⟩:=hc
 refine⟨⟨fn,hf,c1,c2⟩,?_⟩
 have hb:fn.body=some (mJ fn):=by
  unfold mJ
  cases h:fn.body with
  |none=>rw[h] at c1;cases c1
  |some c=>rfl
 have:=aiZ (E:=E.add l) (RE hE hl) hf hb k nA c3 c4 (.inl (by rw[XH];rfl)) XH τ xs Gj (fun x hp hd b hb=>by
  cases b with
  |false=>exact(hw x hp hd).1
  |true=>exact(hw x hp hd).2 (hb rfl))
 exact dR.env (E:=E.add l) (E':=E) rfl rfl rfl this
def tu(E:Env U)(l:List (FuncId×jw U))(fn:Func)(k:jw U)(nA:k.α->Nat->Option (sA U))(x:k.α)(r:Nat)(A:sA U):Prop:=
 AM.wp (E.add l) (nA x) (YM r (mJ fn)) (entry [] fn.ntmps k.md (k.ds x)) (ach A (leave (E.add l) fn.results.toList fn.resultTypes.toList [] fn.params.toList k.md (k.ds x) (k.mS x)))
def ov(E:Env U)(l:List (FuncId×jw U))(fn:Func)(k:jw U)(nA:k.α->Nat->Option (sA U))(x:k.α)(r:Nat)(A:sA U)(y:A.X):Prop:=
 AM.wp (E.add l) (nA x) (YL r (mJ fn)) (la A [] ⟨fn.ntmps,[],[],[]⟩ y) (leave (E.add l) fn.results.toList fn.resultTypes.toList [] fn.params.toList k.md (k.ds x) (k.mS x))
theorem yC{E:Env U}(hE:E.Ok){f:FuncId}{fn:Func}(hf:E.P.funcs[f]? =some fn)(k:jw U)(hc:CP E.P f fn k.md=true)(l:List (FuncId×jw U))(hl:∀p∈l,Holds E p)
  (nA:k.α->Nat->Option (sA U)) (r:Nat) (A:k.α->sA U) (hr:(M8 r (mJ fn)).isSome=true)
  (hw:∀x,(∀p∈k.pre x,p)->(∀d∈k.ds x,gz d)->tu E l fn k nA x r (A x)/\∀y,(A x).I y y->ov E l fn k nA x r (A x) y) (h0:k.HX=0:=by rfl):Holds E (f,k):=by
 unfold CP at hc
 simp only[cH,pc,Nt] at hc
 obtain⟨⟨⟨c1,c2⟩,c3⟩,c4⟩:=hc
 refine⟨⟨fn,hf,c1,c2⟩,?_⟩
 have hb:fn.body=some (mJ fn):=by
  unfold mJ
  cases h:fn.body with
  |none=>rw[h] at c1;cases c1
  |some c=>rfl
 obtain⟨p,hp⟩:=l6.1 hr
 have eA:YM r (mJ fn)=p.1:=by simp only[YM,hp]
 have eB:YL r (mJ fn)=p.2:=by simp only[YL,hp]
 have:=yO (E:=E.add l) (RE hE hl) hf hb k c3 c4 (.inr h0) (fun x hx hd rest Xu TS _ _=>by
  have e:rest=[]:=by
   cases sK:k.md.any kg with
   |false=>exact TS sK
   |true=>exact Fy ((Xu sK).trans h0)
  subst e
  obtain⟨g1,g2⟩:=hw x hx hd
  unfold tu at g1
  unfold ov at g2
  rw[eA] at g1
  rw[eB] at g2
  exact⟨_,fun h _=>h,ajo (RE hE hl) hp rfl g1 g2⟩)
 exact dR.env (E:=E.add l) (E':=E) rfl rfl rfl this
def jw.below(k:jw U)(μ:k.α->Nat)(n:Nat):jw U:={k with pre:=fun x=>(μ x<n)::k.pre x}
theorem EP{E:Env U}{f:FuncId}{fn:Func}(hf:E.P.funcs[f]? =some fn){k:jw U}(hc:CP E.P f fn k.md=true)(μ:k.α->Nat)(h:∀n,Holds E (f,k.below μ n)->Holds E (f,k.below μ (n+1))):Holds E (f,k):=by
 have QV:xY E.P f:=by
  unfold CP at hc
  simp only[cH,pc] at hc
  exact⟨fn,hf,hc.1.1.1,hc.1.1.2⟩
 have all:∀n,Holds E (f,k.below μ n):=by
  intro n
  induction n with
  |zero=>exact⟨QV,fun x hp=>absurd (hp _ gS) (Nat.not_lt_zero _)⟩
  |succ n ih=>exact h n ih
 refine⟨QV,fun x hp=>(all (μ x+1)).2 x fun p hpp=> ?_⟩
 rcases jF.1 hpp with rfl|hpp
 ·exact Nat.lt_succ_self _
 ·exact hp p hpp
theorem all_nil{α:Type 1}{p:α->Prop}:∀x∈([]:List α),p x:=fun x hx=>by cases hx
theorem all_cons{α:Type 1}{p:α->Prop}{a:α}{l:List α}(h:p a)(hl:∀x∈l,p x):∀x∈a::l,p x:=by
 intro x hx
 rcases jF.1 hx with rfl|hx
 ·exact h
 ·exact hl x hx
end AM
