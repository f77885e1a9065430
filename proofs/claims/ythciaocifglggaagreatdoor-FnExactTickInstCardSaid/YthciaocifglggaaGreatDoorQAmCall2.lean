import Derived.Test.YthciaocifglggaaGreatDoorQAmCall
namespace AM
set_option linter.unusedVariables false
open Go
variable{U:kz}{E:Env U}{pm:Pm}
variable{F F':Nat->Prop}{kv:Key->Value}{fp:Key->List Nat}{σ:af U}{a:Act}{w w':World}{bad:Key->Bool}
abbrev eZ(U:kz):=List (Nat×ir U×Value×List Nat)
def eZ.es(d:eZ U):List (Nat×ir U):=d.map fun t=>(t.1,t.2.1)
def eZ.bl(d:eZ U):List Nat:=d.flatMap fun t=>t.2.2.2
def eZ.yi(d:eZ U)(dst:Nat)(kv:Key->Value)(k:Key):Value:=match d.find? (fun t=>iw (dst,t.1) k) with|some t=>t.2.2.1|none=>kv k
def eZ.xb(d:eZ U)(dst:Nat)(fp:Key->List Nat)(k:Key):List Nat:=match d.find? (fun t=>iw (dst,t.1) k) with|some t=>t.2.2.2|none=>fp k
variable(E) in
def OK(w:World)(F:Nat->Prop)(dst:Nat)(d:eZ U)(l:List Nat)(P:(Key->Value)->(Key->List Nat)->(Key->Bool)->Prop):Prop:=
 (∀t∈d,∀kv fp bad,ri E w F kv fp bad t.2.1 t.2.2.1 t.2.2.2)/\d.bl=l/\∀kv fp bad,(∀t∈d,kv (dst,t.1)=t.2.2.1)->P kv fp bad
theorem F5{dst:Nat}:∀{cs:List U.C}{base:Nat}{vs:List Value}{fl:List (List Nat)},vs.length=cs.length->fl.length=cs.length->(∀(i:Nat)(c:U.C),cs[i]? =some c->Rp E w F true c (vs.getD i undef) (fl.getD i []))->
  ∃d:eZ U,(putCells dst true base cs).2=d.es/\OK E w F dst d fl.flatten (fun kv fp bad=>kX E w F kv fp bad (putCells dst true base cs).1 vs)
 |[],base,vs,fl,hv,hf,h=>by
  have:vs=[]:=Du hv
  have:fl=[]:=Du hf
  subst_vars
  exact⟨[],rfl,by simp,rfl,fun _ _ _ _=>⟨rfl,fun i x v hx=>by simp[putCells] at hx⟩⟩
 |c::cs,base,[],fl,hv,hf,h=>by simp at hv
 |c::cs,base,v::vs,[],hv,hf,h=>by simp at hf
 |c::cs,base,v::vs,l::fl,hv,hf,h=>by
  obtain⟨d,h1,h2,h3,h4⟩:=F5 (dst:=dst) (base:=base+1) (cs:=cs) (vs:=vs) (fl:=fl) (by simpa using hv) (by simpa using hf) (fun i c hc=>by simpa using h (i+1) c (by simpa using hc))
  have h0:Rp E w F true c v l:=by simpa using h 0 c rfl
  cases c with
  |lit u=>
   obtain⟨rfl,rfl,ho⟩:=h0.jC
   refine⟨d,by simpa[putCells] using h1,h2,by simpa using h3,fun kv fp bad hk=> ?_⟩
   obtain⟨g1,g2⟩:=h4 kv fp bad hk
   refine⟨by simp[putCells,g1],fun i x u hx hu=> ?_⟩
   cases i with
   |zero=>simp only[putCells,sB,fJ] at hx hu;subst hx hu;exact uI ho
   |succ i=>exact g2 i x u (by simpa[putCells] using hx) (by simpa using hu)
  |sl τ xs=>
   refine⟨(base,.arr ⟨τ,xs⟩ true,v,l)::d,by simp[putCells,eZ.es,h1],?_,by simp[eZ.bl] at h3⊢;rw[h3],fun kv fp bad hk=> ?_⟩
   ·intro t ht kv fp bad
    rcases jw.1 ht with rfl|ht
    ·exact h0.DY
    ·exact h2 t ht kv fp bad
   ·obtain⟨g1,g2⟩:=h4 kv fp bad (fun t ht=>hk t (bi _ ht))
    have yC:=hk _ (dw)
    refine⟨by simp[putCells,g1],fun i x u hx hu=> ?_⟩
    cases i with
    |zero=>
     simp only[putCells,cond_true,sB,fJ] at hx hu;subst hx hu
     exact⟨h0.fB,.inr (by simp only[RA];rw[yC];rfl)⟩
    |succ i=>exact g2 i x u (by simpa[putCells] using hx) (by simpa using hu)
theorem Pq{dst:Nat}:∀{cs:List U.C}{base:Nat},(putCells dst false base cs).2=[]/\(putCells dst false base cs).1=cs.map .c
 |[],base=>⟨rfl,rfl⟩
 | .lit v::r,base=>by obtain⟨h1,h2⟩:=Pq (dst:=dst) (cs:=r) (base:=base+1);simp[putCells,h1,h2]
 | .sl τ xs::r,base=>by obtain⟨h1,h2⟩:=Pq (dst:=dst) (cs:=r) (base:=base+1);simp[putCells,h1,h2]
theorem H0{cs:List U.C}{vs:List Value}(hl:vs.length=cs.length)(h:∀(i:Nat)(c:U.C),cs[i]? =some c->Rp E w F false c (vs.getD i undef) []):kX E w F kv fp bad (cs.map .c) vs:=by
 refine⟨by simp[hl],fun i x u hx hu=> ?_⟩
 rw[lZ] at hx
 cases hc:cs[i]? with
 |none=>rw[hc] at hx;cases hx
 |some c=>
  rw[hc] at hx;cases hx
  have:=h i c hc
  rw[fY,hu] at this
  exact⟨this.fB,.inr this⟩
theorem aj9{dst base:Nat}{fresh:Bool}{d:DV U}{x:AV U}{es:List (Nat×ir U)}{v:Value}{l:List Nat}(h:F_ dst fresh base d=some (x,es))(hr:kc E w F fresh d v l):
  ∃t:eZ U,es=t.es/\OK E w F dst t l (fun kv fp bad=>RV E w F kv fp bad x v):=by
 cases d with
 |ptr _=>exact hr.elim
 |fn _=>exact hr.elim
 |one c=>
  simp only[F_,fJ,nE] at h
  obtain⟨rfl,rfl⟩:=h
  cases fresh with
  |true=>
   simp only[kc,if_true] at hr
   obtain⟨t,h1,h2,h3,h4⟩:=F5 (dst:=dst) (base:=base) (cs:=[c]) (vs:=[v]) (fl:=[l]) rfl rfl (fun i c' hc=>by
    cases i with
    |zero=>simp only[sB,fJ] at hc;subst hc;exact hr
    |succ i=>simp at hc)
   exact⟨t,h1,h2,by simpa using h3,fun kv fp bad hk=>⟨[v],h4 kv fp bad hk,by simp⟩⟩
  |false=>
   simp only[kc,wE,if_false] at hr
   obtain⟨hr,rfl⟩:=hr
   obtain⟨g1,g2⟩:=Pq (dst:=dst) (cs:=[c]) (base:=base)
   refine⟨[],by rw[g1];rfl,by simp,rfl,fun kv fp bad _=>⟨[v],?_,by simp⟩⟩
   simp only[g2]
   exact H0 (cs:=[c]) rfl (fun i c' hc=>by
    cases i with
    |zero=>simp only[sB,fJ] at hc;subst hc;exact hr
    |succ i=>simp at hc)
 |agg cs=>
  simp only[F_,fJ,nE] at h
  obtain⟨rfl,rfl⟩:=h
  cases fresh with
  |true=>
   simp only[kc,if_true] at hr
   obtain⟨vs,fl,rfl,Jq,yk,hc,rfl⟩:=hr
   obtain⟨t,h1,h2,h3,h4⟩:=F5 (dst:=dst) (base:=base) Jq yk hc
   exact⟨t,h1,h2,h3,fun kv fp bad hk=>⟨vs,h4 kv fp bad hk,by simp⟩⟩
  |false=>
   simp only[kc,wE,if_false] at hr
   obtain⟨vs,rfl,Jq,hc,rfl⟩:=hr
   obtain⟨g1,g2⟩:=Pq (dst:=dst) (cs:=cs) (base:=base)
   refine⟨[],by rw[g1];rfl,by simp,rfl,fun kv fp bad _=>⟨vs,?_,by simp⟩⟩
   simp only[g2]
   exact H0 Jq hc
 |box cs=>
  obtain⟨rfl,b,cur,e,rfl,h1,rfl,h2,h3⟩:=hr
  simp only[F_,cond_true,fJ,nE] at h
  obtain⟨rfl,rfl⟩:=h
  have yA:∀kv fp bad,kX E w F kv fp bad (cs.map .c) cur.toList:=fun kv fp bad=>H0 (by rw[B6];exact h2) h3
  refine⟨[(base,.box (cs.map .c),.pointer (some ⟨b,0,none⟩),[b])],rfl,fun t ht kv fp bad=> ?_,by simp[eZ.bl],fun kv fp bad hk=>⟨[.pointer (some ⟨b,0,none⟩)],⟨rfl,fun i y u hy hu=> ?_⟩,by simp⟩⟩
  ·rw[oa.1 ht]
   exact⟨b,cur,e,rfl,h1,rfl,yA kv fp bad⟩
  ·cases i with
   |zero=>
    simp only[sB,fJ] at hy hu
    subst hy hu
    exact⟨⟨rfl,trivial⟩,.inr ⟨b,hk _ (oa.2 rfl),rfl⟩⟩
   |succ i=>simp at hy
theorem eZ.CX{d e:eZ U}:(d++e:eZ U).es=d.es++e.es:=by simp[eZ.es]
theorem eZ.tu{d e:eZ U}:(d++e:eZ U).bl=d.bl++e.bl:=by simp[eZ.bl]
theorem aaF{dst:Nat}:∀{fs:List Bool}{ds:List (DV U)}{base:Nat}{xs:List (AV U)}{es:List (Nat×ir U)}{us:List Value}{ls:List (List Nat)},AN dst fs base ds=some (xs,es)->lW E w F fs ds us ls->
  ∃t:eZ U,es=t.es/\OK E w F dst t ls.flatten (fun kv fp bad=>xs.length=us.length/\∀(i:Nat)(x:AV U)(u:Value),xs[i]? =some x->us[i]? =some u->RV E w F kv fp bad x u)
 |fs,[],base,xs,es,us,ls,h,hr=>by
  simp only[AN,fJ,nE] at h
  obtain⟨rfl,rfl⟩:=h
  cases us with
  |cons _ _=>exact hr.elim
  |nil=>cases ls with
   |cons _ _=>exact hr.elim
   |nil=>exact⟨[],rfl,by simp,rfl,fun _ _ _ _=>⟨rfl,fun i x u hx=>by simp at hx⟩⟩
 |fs,d::ds,base,xs,es,us,ls,h,hr=>by
  cases us with
  |nil=>exact hr.elim
  |cons u us=>cases ls with
   |nil=>exact hr.elim
   |cons l ls=>
    obtain⟨Cj,hr2⟩:=hr
    simp only[AN] at h
    split at h
    ·rename_i x e xs' Yb h1 h2
     cases h
     obtain⟨t1,a1,a2,a3,a4⟩:=aj9 h1 Cj
     obtain⟨t2,b1,b2,b3,b4⟩:=aaF h2 hr2
     refine⟨t1++t2,by rw[eZ.CX,a1,b1],fun t ht=>(kA.1 ht).elim (a2 t) (b2 t),by rw[eZ.tu,a3,b3];simp,fun kv fp bad hk=> ?_⟩
     have g1:=a4 kv fp bad (fun t ht=>hk t (pw _ ht))
     obtain⟨g2,g3⟩:=b4 kv fp bad (fun t ht=>hk t (oq _ ht))
     refine⟨by simp[g2],fun i y v hy hv=> ?_⟩
     cases i with
     |zero=>simp only[sB,fJ] at hy hv;subst hy hv;exact g1
     |succ i=>exact g3 i y v (by simpa using hy) (by simpa using hv)
    ·cases h
theorem Pr:∀{cs:List U.C},ud cs=true->∀(i:Nat)(c:U.C),cs[i]? =some c->∃v,c=.lit v
 |[],_,i,c,hc=>by simp at hc
 | .lit v::r,h,i,c,hc=>by
  cases i with
  |zero=>simp only[sB,fJ] at hc;exact⟨v,hc.symm⟩
  |succ i=>exact Pr (by simpa[ud] using h) i c (by simpa using hc)
 | .sl _ _::r,h,i,c,hc=>by simp[ud] at h
theorem Rp.DW{F F':Nat->Prop}{m m':Bool}{u v:Value}{l:List Nat}(h:Rp E w F m (.lit u) v l):Rp E w F' m' (.lit u) v []:=by
 generalize hc:(Cell.lit u:U.C)=c at h
 cases h with
 |lit _ _ ho=>cases hc;exact .lit _ _ ho
 |nil=>cases hc
 |shr=>cases hc
 |own=>cases hc
theorem kc.fh{fresh:Bool}{d:DV U}{v:Value}{l:List Nat}(hF:∀b,F b->F' b)(h:kc E w F fresh d v l):kc E w F' fresh d v l:=by
 cases d with
 |ptr _=>exact h
 |fn _=>exact h
 |one c=>
  cases fresh with
  |true=>simp only[kc,if_true] at h⊢;exact h.rr (fun _ _=>rfl)
  |false=>
   simp only[kc,wE,if_false] at h⊢
   exact⟨h.1.fh hF,h.2⟩
 |agg cs=>
  cases fresh with
  |true=>
   simp only[kc,if_true] at h⊢
   obtain⟨vs,fl,h1,h2,h3,h4,h5⟩:=h
   exact⟨vs,fl,h1,h2,h3,fun i c hc=>(h4 i c hc).rr (fun _ _=>rfl),h5⟩
  |false=>
   simp only[kc,wE,if_false] at h⊢
   obtain⟨vs,h1,h2,h3,h4⟩:=h
   exact⟨vs,h1,h2,fun i c hc=>(h3 i c hc).fh hF,h4⟩
 |box cs=>
  obtain⟨g,b,cur,e,h1,h2,h3,h4,h5⟩:=h
  exact⟨g,b,cur,e,h1,h2,h3,h4,fun i c hc=>(h5 i c hc).fh hF⟩
theorem lW.fh(hF:∀b,F b->F' b):∀{fs:List Bool}{ds:List (DV U)}{us:List Value}{ls:List (List Nat)},lW E w F fs ds us ls->lW E w F' fs ds us ls
 |_,[],[],[],_=>trivial
 |_,d::ds,u::us,l::ls,h=>⟨h.1.fh hF,lW.fh hF h.2⟩
 |_,[],_::_,_,h=>h.elim
 |_,[],[],_::_,h=>h.elim
 |_,_::_,[],_,h=>h.elim
 |_,_::_,_::_,[],h=>h.elim
theorem kc.any{fresh:Bool}{d:DV U}{v:Value}{l:List Nat}(hs:d.safe fresh=true)(h:kc E w F fresh d v l):kc E w F' fresh d v l:=by
 cases d with
 |ptr _=>exact h
 |fn _=>exact h
 |one c=>
  cases fresh with
  |true=>simp only[kc,if_true] at h⊢;exact h.rr (fun _ _=>rfl)
  |false=>
   simp only[kc,wE,if_false] at h⊢
   simp only[DV.safe,Hv] at hs
   obtain⟨u,rfl⟩:=Pr hs 0 c rfl
   exact⟨h.1.DW,h.2⟩
 |agg cs=>
  cases fresh with
  |true=>
   simp only[kc,if_true] at h⊢
   obtain⟨vs,fl,h1,h2,h3,h4,h5⟩:=h
   exact⟨vs,fl,h1,h2,h3,fun i c hc=>(h4 i c hc).rr (fun _ _=>rfl),h5⟩
  |false=>
   simp only[kc,wE,if_false] at h⊢
   simp only[DV.safe,Hv] at hs
   obtain⟨vs,h1,h2,h3,h4⟩:=h
   exact⟨vs,h1,h2,fun i c hc=>by obtain⟨u,rfl⟩:=Pr hs i c hc;exact(h3 i _ hc).DW,h4⟩
 |box _=>cases hs
theorem lW.any:∀{fs:List Bool}{ds:List (DV U)}{us:List Value}{ls:List (List Nat)},sE fs ds=true->lW E w F fs ds us ls->lW E w F' fs ds us ls
 |_,[],[],[],_,_=>trivial
 |_,[],_::_,_,_,h=>h.elim
 |_,[],[],_::_,_,h=>h.elim
 |_,_::_,[],_,_,h=>h.elim
 |_,_::_,_::_,[],_,h=>h.elim
 |fs,d::ds,u::us,l::ls,hs,h=>by
  simp only[sE,eE] at hs
  exact⟨h.1.any hs.1,lW.any hs.2 h.2⟩
theorem lp.any{cs:List U.C}{v:Value}{l:List Nat}(h:lp E w F cs v l):lp E w F' cs v l:=by
 obtain⟨vs,fl,h1,h2,h3,h4,h5⟩:=h
 exact⟨vs,fl,h1,h2,h3,fun i c hc=>(h4 i c hc).rr (fun _ _=>rfl),h5⟩
theorem eu.any{a:eK U}{v:Value}{l:List Nat}(h:eu E w F true a v l):eu E w F' true a v l:=by
 rcases h with h1|⟨b,cap,cur,vs,gA,h1,h2,h3,h4,h5,h6,h7,h8⟩
 ·exact .inl h1
 ·exact .inr ⟨b,cap,cur,vs,gA,h1,h2,h3,h4,h5,h6,fun i x j c hx hj=>(h7 i x j c hx hj).rr (fun _ _=>rfl),h8⟩
theorem pW.amQ{cs:List U.C}{rest:List Value}{v:Value}{l:List Nat}(h:pW E w F true cs rest v l):pW E w F' true cs rest v l:=by
 obtain⟨b,cur,e,fl,h1,h2,h3,h4,h5,h6,h7,h8⟩:=h
 exact⟨b,cur,e,fl,h1,h2,h3,h4,h5,h6,fun i c hc=>(h7 i c hc).rr (fun _ _=>rfl),h8⟩
theorem eR.any{w0:World}:∀{ms:List Mode}{vs:List Value}{dm:List (DV U)}{ls:List (List Nat)},w9 ms=false->eR E w F w0 ms vs dm ls->eR E w F' w0 ms vs dm ls:=by
 intro ms
 induction ms with
 |nil=>intro vs dm ls _ h;cases vs<;>cases dm<;>cases ls<;>first|trivial|exact h.elim
 |cons m ms ih=>
  intro vs dm ls hb h
  simp only[w9,UO,Ld] at hb
  cases m with
  |ro=>cases vs with
   |nil=>cases dm<;>cases ls<;>exact h.elim
   |cons v vs=>simp only[eR] at h⊢;exact ih hb.2 h
  |mv=>cases vs with
   |nil=>cases dm<;>cases ls<;>exact h.elim
   |cons v vs=>simp only[eR] at h⊢;exact ih hb.2 h
  |wr=>cases vs with
   |nil=>cases dm<;>cases ls<;>exact h.elim
   |cons v vs=>cases dm with
    |nil=>cases ls<;>exact h.elim
    |cons d dm=>cases d with
     |one c=>cases c with
      |lit _=>cases ls<;>exact h.elim
      |sl τ ys=>cases ls with
       |nil=>exact h.elim
       |cons l ls=>exact⟨h.1.any,ih hb.2 h.2⟩
     |agg cs=>cases ls with
       |nil=>exact h.elim
       |cons l ls=>exact⟨h.1.any,ih hb.2 h.2⟩
     |box _=>cases ls<;>exact h.elim
     |ptr _=>cases ls<;>exact h.elim
     |fn _=>cases ls<;>exact h.elim
  |box own=>cases vs with
   |nil=>cases dm<;>cases ls<;>exact h.elim
   |cons v vs=>cases dm with
    |nil=>cases ls<;>exact h.elim
    |cons d dm=>cases d with
     |box cs=>cases ls with
       |nil=>exact h.elim
       |cons l ls=>
        cases own with
        |false=>simp at hb
        |true=>exact⟨h.1.amQ,ih hb.2 h.2⟩
     |one _=>cases ls<;>exact h.elim
     |agg _=>cases ls<;>exact h.elim
     |ptr _=>cases ls<;>exact h.elim
     |fn _=>cases ls<;>exact h.elim
end AM
