import Derived.Test.YtknfcngfhlpaeaaGreatDoorQAmCall
namespace AM
set_option linter.unusedVariables false
open Go
variable{U:kz}{E:Env U}{pm:Pm}
variable{F F':Nat->Prop}{kv:Key->Value}{fp:Key->List Nat}{σ:ak U}{a:Act}{w w':World}{bad:Key->Bool}
abbrev eX(U:kz):=List (Nat×ie U×Value×List Nat)
def eX.es(d:eX U):List (Nat×ie U):=d.map fun t=>(t.1,t.2.1)
def eX.bl(d:eX U):List Nat:=d.flatMap fun t=>t.2.2.2
def eX.zT(d:eX U)(dst:Nat)(kv:Key->Value)(k:Key):Value:=match d.find? (fun t=>ik (dst,t.1) k) with|some t=>t.2.2.1|none=>kv k
def eX.yN(d:eX U)(dst:Nat)(fp:Key->List Nat)(k:Key):List Nat:=match d.find? (fun t=>ik (dst,t.1) k) with|some t=>t.2.2.2|none=>fp k
variable(E) in
def QL(w:World)(F:Nat->Prop)(dst:Nat)(d:eX U)(l:List Nat)(P:(Key->Value)->(Key->List Nat)->(Key->Bool)->Prop):Prop:=
 (∀t∈d,∀kv fp bad,sg E w F kv fp bad t.2.1 t.2.2.1 t.2.2.2)/\d.bl=l/\∀kv fp bad,(∀t∈d,kv (dst,t.1)=t.2.2.1)->P kv fp bad
theorem H4{dst:Nat}:∀{cs:List U.C}{base:Nat}{vs:List Value}{fl:List (List Nat)},vs.length=cs.length->fl.length=cs.length->(∀(i:Nat)(c:U.C),cs[i]? =some c->Rp E w F true c (vs.getD i undef) (fl.getD i []))->
  ∃d:eX U,(putCells dst true base cs).2=d.es/\QL E w F dst d fl.flatten (fun kv fp bad=>kU E w F kv fp bad (putCells dst true base cs).1 vs)
 |[],base,vs,fl,hv,hf,h=>by
  have:vs=[]:=Fy hv
  have:fl=[]:=Fy hf
  subst_vars
  exact⟨[],rfl,by simp,rfl,fun _ _ _ _=>⟨rfl,fun i x v hx=>by simp[putCells] at hx⟩⟩
 |c::cs,base,[],fl,hv,hf,h=>by simp at hv
 |c::cs,base,v::vs,[],hv,hf,h=>by simp at hf
 |c::cs,base,v::vs,l::fl,hv,hf,h=>by
  obtain⟨d,h1,h2,h3,h4⟩:=H4 (dst:=dst) (base:=base+1) (cs:=cs) (vs:=vs) (fl:=fl) (by simpa using hv) (by simpa using hf) (fun i c hc=>by simpa using h (i+1) c (by simpa using hc))
  have h0:Rp E w F true c v l:=by simpa using h 0 c rfl
  cases c with
  |lit u=>
   obtain⟨rfl,rfl,ho⟩:=h0.jI
   refine⟨d,by simpa[putCells] using h1,h2,by simpa using h3,fun kv fp bad hk=> ?_⟩
   obtain⟨g1,g2⟩:=h4 kv fp bad hk
   refine⟨by simp[putCells,g1],fun i x u hx hu=> ?_⟩
   cases i with
   |zero=>simp only[putCells,tJ,fM] at hx hu;subst hx hu;exact v_ ho
   |succ i=>exact g2 i x u (by simpa[putCells] using hx) (by simpa using hu)
  |sl τ xs=>
   refine⟨(base,.arr ⟨τ,xs⟩ true,v,l)::d,by simp[putCells,eX.es,h1],?_,by simp[eX.bl] at h3⊢;rw[h3],fun kv fp bad hk=> ?_⟩
   ·intro t ht kv fp bad
    rcases jF.1 ht with rfl|ht
    ·exact h0.F9
    ·exact h2 t ht kv fp bad
   ·obtain⟨g1,g2⟩:=h4 kv fp bad (fun t ht=>hk t (e8 _ ht))
    have Am:=hk _ (gS)
    refine⟨by simp[putCells,g1],fun i x u hx hu=> ?_⟩
    cases i with
    |zero=>
     simp only[putCells,cond_true,tJ,fM] at hx hu;subst hx hu
     exact⟨h0.fJ,.inr (by simp only[RA];rw[Am];rfl)⟩
    |succ i=>exact g2 i x u (by simpa[putCells] using hx) (by simpa using hu)
theorem Rr{dst:Nat}:∀{cs:List U.C}{base:Nat},(putCells dst false base cs).2=[]/\(putCells dst false base cs).1=cs.map .c
 |[],base=>⟨rfl,rfl⟩
 | .lit v::r,base=>by obtain⟨h1,h2⟩:=Rr (dst:=dst) (cs:=r) (base:=base+1);simp[putCells,h1,h2]
 | .sl τ xs::r,base=>by obtain⟨h1,h2⟩:=Rr (dst:=dst) (cs:=r) (base:=base+1);simp[putCells,h1,h2]
theorem J4{cs:List U.C}{vs:List Value}(hl:vs.length=cs.length)(h:∀(i:Nat)(c:U.C),cs[i]? =some c->Rp E w F false c (vs.getD i undef) []):kU E w F kv fp bad (cs.map .c) vs:=by
 refine⟨by simp[hl],fun i x u hx hu=> ?_⟩
 rw[mw] at hx
 cases hc:cs[i]? with
 |none=>rw[hc] at hx;cases hx
 |some c=>
  rw[hc] at hx;cases hx
  have:=h i c hc
  rw[dB,hu] at this
  exact⟨this.fJ,.inr this⟩
theorem ah2{dst base:Nat}{fresh:Bool}{d:DV U}{x:AV U}{es:List (Nat×ie U)}{v:Value}{l:List Nat}(h:H9 dst fresh base d=some (x,es))(hr:kf E w F fresh d v l):
  ∃t:eX U,es=t.es/\QL E w F dst t l (fun kv fp bad=>RV E w F kv fp bad x v):=by
 cases d with
 |ptr _=>exact hr.elim
 |fn _=>exact hr.elim
 |one c=>
  simp only[H9,fM,nT] at h
  obtain⟨rfl,rfl⟩:=h
  cases fresh with
  |true=>
   simp only[kf,if_true] at hr
   obtain⟨t,h1,h2,h3,h4⟩:=H4 (dst:=dst) (base:=base) (cs:=[c]) (vs:=[v]) (fl:=[l]) rfl rfl (fun i c' hc=>by
    cases i with
    |zero=>simp only[tJ,fM] at hc;subst hc;exact hr
    |succ i=>simp at hc)
   exact⟨t,h1,h2,by simpa using h3,fun kv fp bad hk=>⟨[v],h4 kv fp bad hk,by simp⟩⟩
  |false=>
   simp only[kf,wb,if_false] at hr
   obtain⟨hr,rfl⟩:=hr
   obtain⟨g1,g2⟩:=Rr (dst:=dst) (cs:=[c]) (base:=base)
   refine⟨[],by rw[g1];rfl,by simp,rfl,fun kv fp bad _=>⟨[v],?_,by simp⟩⟩
   simp only[g2]
   exact J4 (cs:=[c]) rfl (fun i c' hc=>by
    cases i with
    |zero=>simp only[tJ,fM] at hc;subst hc;exact hr
    |succ i=>simp at hc)
 |agg cs=>
  simp only[H9,fM,nT] at h
  obtain⟨rfl,rfl⟩:=h
  cases fresh with
  |true=>
   simp only[kf,if_true] at hr
   obtain⟨vs,fl,rfl,Ls,zv,hc,rfl⟩:=hr
   obtain⟨t,h1,h2,h3,h4⟩:=H4 (dst:=dst) (base:=base) Ls zv hc
   exact⟨t,h1,h2,h3,fun kv fp bad hk=>⟨vs,h4 kv fp bad hk,by simp⟩⟩
  |false=>
   simp only[kf,wb,if_false] at hr
   obtain⟨vs,rfl,Ls,hc,rfl⟩:=hr
   obtain⟨g1,g2⟩:=Rr (dst:=dst) (cs:=cs) (base:=base)
   refine⟨[],by rw[g1];rfl,by simp,rfl,fun kv fp bad _=>⟨vs,?_,by simp⟩⟩
   simp only[g2]
   exact J4 Ls hc
 |box cs=>
  obtain⟨rfl,b,cur,e,rfl,h1,rfl,h2,h3⟩:=hr
  simp only[H9,cond_true,fM,nT] at h
  obtain⟨rfl,rfl⟩:=h
  have Aj:∀kv fp bad,kU E w F kv fp bad (cs.map .c) cur.toList:=fun kv fp bad=>J4 (by rw[D4];exact h2) h3
  refine⟨[(base,.box (cs.map .c),.pointer (some ⟨b,0,none⟩),[b])],rfl,fun t ht kv fp bad=> ?_,by simp[eX.bl],fun kv fp bad hk=>⟨[.pointer (some ⟨b,0,none⟩)],⟨rfl,fun i y u hy hu=> ?_⟩,by simp⟩⟩
  ·rw[mb.1 ht]
   exact⟨b,cur,e,rfl,h1,rfl,Aj kv fp bad⟩
  ·cases i with
   |zero=>
    simp only[tJ,fM] at hy hu
    subst hy hu
    exact⟨⟨rfl,trivial⟩,.inr ⟨b,hk _ (mb.2 rfl),rfl⟩⟩
   |succ i=>simp at hy
theorem eX.E0{d e:eX U}:(d++e:eX U).es=d.es++e.es:=by simp[eX.es]
theorem eX.uz{d e:eX U}:(d++e:eX U).bl=d.bl++e.bl:=by simp[eX.bl]
theorem aaC{dst:Nat}:∀{fs:List Bool}{ds:List (DV U)}{base:Nat}{xs:List (AV U)}{es:List (Nat×ie U)}{us:List Value}{ls:List (List Nat)},CJ dst fs base ds=some (xs,es)->mr E w F fs ds us ls->
  ∃t:eX U,es=t.es/\QL E w F dst t ls.flatten (fun kv fp bad=>xs.length=us.length/\∀(i:Nat)(x:AV U)(u:Value),xs[i]? =some x->us[i]? =some u->RV E w F kv fp bad x u)
 |fs,[],base,xs,es,us,ls,h,hr=>by
  simp only[CJ,fM,nT] at h
  obtain⟨rfl,rfl⟩:=h
  cases us with
  |cons _ _=>exact hr.elim
  |nil=>cases ls with
   |cons _ _=>exact hr.elim
   |nil=>exact⟨[],rfl,by simp,rfl,fun _ _ _ _=>⟨rfl,fun i x u hx=>by simp at hx⟩⟩
 |fs,d::ds,base,xs,es,us,ls,h,hr=>by
  cases us with
  |nil=>exact hr.elim
  |cons u us=>cases ls with
   |nil=>exact hr.elim
   |cons l ls=>
    obtain⟨Ed,hr2⟩:=hr
    simp only[CJ] at h
    split at h
    ·rename_i x e xs' YE h1 h2
     cases h
     obtain⟨t1,a1,a2,a3,a4⟩:=ah2 h1 Ed
     obtain⟨t2,b1,b2,b3,b4⟩:=aaC h2 hr2
     refine⟨t1++t2,by rw[eX.E0,a1,b1],fun t ht=>(jE.1 ht).elim (a2 t) (b2 t),by rw[eX.uz,a3,b3];simp,fun kv fp bad hk=> ?_⟩
     have g1:=a4 kv fp bad (fun t ht=>hk t (pP _ ht))
     obtain⟨g2,g3⟩:=b4 kv fp bad (fun t ht=>hk t (pd _ ht))
     refine⟨by simp[g2],fun i y v hy hv=> ?_⟩
     cases i with
     |zero=>simp only[tJ,fM] at hy hv;subst hy hv;exact g1
     |succ i=>exact g3 i y v (by simpa using hy) (by simpa using hv)
    ·cases h
theorem Rs:∀{cs:List U.C},vv cs=true->∀(i:Nat)(c:U.C),cs[i]? =some c->∃v,c=.lit v
 |[],_,i,c,hc=>by simp at hc
 | .lit v::r,h,i,c,hc=>by
  cases i with
  |zero=>simp only[tJ,fM] at hc;exact⟨v,hc.symm⟩
  |succ i=>exact Rs (by simpa[vv] using h) i c (by simpa using hc)
 | .sl _ _::r,h,i,c,hc=>by simp[vv] at h
theorem Rp.F7{F F':Nat->Prop}{m m':Bool}{u v:Value}{l:List Nat}(h:Rp E w F m (.lit u) v l):Rp E w F' m' (.lit u) v []:=by
 generalize hc:(Cell.lit u:U.C)=c at h
 cases h with
 |lit _ _ ho=>cases hc;exact .lit _ _ ho
 |nil=>cases hc
 |shr=>cases hc
 |own=>cases hc
theorem kf.fq{fresh:Bool}{d:DV U}{v:Value}{l:List Nat}(hF:∀b,F b->F' b)(h:kf E w F fresh d v l):kf E w F' fresh d v l:=by
 cases d with
 |ptr _=>exact h
 |fn _=>exact h
 |one c=>
  cases fresh with
  |true=>simp only[kf,if_true] at h⊢;exact h.sw (fun _ _=>rfl)
  |false=>
   simp only[kf,wb,if_false] at h⊢
   exact⟨h.1.fq hF,h.2⟩
 |agg cs=>
  cases fresh with
  |true=>
   simp only[kf,if_true] at h⊢
   obtain⟨vs,fl,h1,h2,h3,h4,h5⟩:=h
   exact⟨vs,fl,h1,h2,h3,fun i c hc=>(h4 i c hc).sw (fun _ _=>rfl),h5⟩
  |false=>
   simp only[kf,wb,if_false] at h⊢
   obtain⟨vs,h1,h2,h3,h4⟩:=h
   exact⟨vs,h1,h2,fun i c hc=>(h3 i c hc).fq hF,h4⟩
 |box cs=>
  obtain⟨g,b,cur,e,h1,h2,h3,h4,h5⟩:=h
  exact⟨g,b,cur,e,h1,h2,h3,h4,fun i c hc=>(h5 i c hc).fq hF⟩
theorem mr.fq(hF:∀b,F b->F' b):∀{fs:List Bool}{ds:List (DV U)}{us:List Value}{ls:List (List Nat)},mr E w F fs ds us ls->mr E w F' fs ds us ls
 |_,[],[],[],_=>trivial
 |_,d::ds,u::us,l::ls,h=>⟨h.1.fq hF,mr.fq hF h.2⟩
 |_,[],_::_,_,h=>h.elim
 |_,[],[],_::_,h=>h.elim
 |_,_::_,[],_,h=>h.elim
 |_,_::_,_::_,[],h=>h.elim
theorem kf.any{fresh:Bool}{d:DV U}{v:Value}{l:List Nat}(hs:d.safe fresh=true)(h:kf E w F fresh d v l):kf E w F' fresh d v l:=by
 cases d with
 |ptr _=>exact h
 |fn _=>exact h
 |one c=>
  cases fresh with
  |true=>simp only[kf,if_true] at h⊢;exact h.sw (fun _ _=>rfl)
  |false=>
   simp only[kf,wb,if_false] at h⊢
   simp only[DV.safe,Fw] at hs
   obtain⟨u,rfl⟩:=Rs hs 0 c rfl
   exact⟨h.1.F7,h.2⟩
 |agg cs=>
  cases fresh with
  |true=>
   simp only[kf,if_true] at h⊢
   obtain⟨vs,fl,h1,h2,h3,h4,h5⟩:=h
   exact⟨vs,fl,h1,h2,h3,fun i c hc=>(h4 i c hc).sw (fun _ _=>rfl),h5⟩
  |false=>
   simp only[kf,wb,if_false] at h⊢
   simp only[DV.safe,Fw] at hs
   obtain⟨vs,h1,h2,h3,h4⟩:=h
   exact⟨vs,h1,h2,fun i c hc=>by obtain⟨u,rfl⟩:=Rs hs i c hc;exact(h3 i _ hc).F7,h4⟩
 |box _=>cases hs
theorem mr.any:∀{fs:List Bool}{ds:List (DV U)}{us:List Value}{ls:List (List Nat)},tP fs ds=true->mr E w F fs ds us ls->mr E w F' fs ds us ls
 |_,[],[],[],_,_=>trivial
 |_,[],_::_,_,_,h=>h.elim
 |_,[],[],_::_,_,h=>h.elim
 |_,_::_,[],_,_,h=>h.elim
 |_,_::_,_::_,[],_,h=>h.elim
 |fs,d::ds,u::us,l::ls,hs,h=>by
  simp only[tP,cH] at hs
  exact⟨h.1.any hs.1,mr.any hs.2 h.2⟩
theorem lr.any{cs:List U.C}{v:Value}{l:List Nat}(h:lr E w F cs v l):lr E w F' cs v l:=by
 obtain⟨vs,fl,h1,h2,h3,h4,h5⟩:=h
 exact⟨vs,fl,h1,h2,h3,fun i c hc=>(h4 i c hc).sw (fun _ _=>rfl),h5⟩
theorem eo.any{a:cC U}{v:Value}{l:List Nat}(h:eo E w F true a v l):eo E w F' true a v l:=by
 rcases h with h1|⟨b,cap,cur,vs,gr,h1,h2,h3,h4,h5,h6,h7,h8⟩
 ·exact .inl h1
 ·exact .inr ⟨b,cap,cur,vs,gr,h1,h2,h3,h4,h5,h6,fun i x j c hx hj=>(h7 i x j c hx hj).sw (fun _ _=>rfl),h8⟩
theorem qx.akz{cs:List U.C}{rest:List Value}{v:Value}{l:List Nat}(h:qx E w F true cs rest v l):qx E w F' true cs rest v l:=by
 obtain⟨b,cur,e,fl,h1,h2,h3,h4,h5,h6,h7,h8⟩:=h
 exact⟨b,cur,e,fl,h1,h2,h3,h4,h5,h6,fun i c hc=>(h7 i c hc).sw (fun _ _=>rfl),h8⟩
theorem eQ.any{w0:World}:∀{ms:List Mode}{vs:List Value}{dm:List (DV U)}{ls:List (List Nat)},yK ms=false->eQ E w F w0 ms vs dm ls->eQ E w F' w0 ms vs dm ls:=by
 intro ms
 induction ms with
 |nil=>intro vs dm ls _ h;cases vs<;>cases dm<;>cases ls<;>first|trivial|exact h.elim
 |cons m ms ih=>
  intro vs dm ls hb h
  simp only[yK,Q5,Nl] at hb
  cases m with
  |ro=>cases vs with
   |nil=>cases dm<;>cases ls<;>exact h.elim
   |cons v vs=>simp only[eQ] at h⊢;exact ih hb.2 h
  |mv=>cases vs with
   |nil=>cases dm<;>cases ls<;>exact h.elim
   |cons v vs=>simp only[eQ] at h⊢;exact ih hb.2 h
  |wr=>cases vs with
   |nil=>cases dm<;>cases ls<;>exact h.elim
   |cons v vs=>cases dm with
    |nil=>cases ls<;>exact h.elim
    |cons d dm=>cases d with
     |one c=>cases c with
      |lit _=>cases ls<;>exact h.elim
      |sl τ ys=>cases ls with
       |nil=>exact h.elim
       |cons l ls=>exact⟨h.1.any,ih hb.2 h.2⟩
     |agg cs=>cases ls with
       |nil=>exact h.elim
       |cons l ls=>exact⟨h.1.any,ih hb.2 h.2⟩
     |box _=>cases ls<;>exact h.elim
     |ptr _=>cases ls<;>exact h.elim
     |fn _=>cases ls<;>exact h.elim
  |box own=>cases vs with
   |nil=>cases dm<;>cases ls<;>exact h.elim
   |cons v vs=>cases dm with
    |nil=>cases ls<;>exact h.elim
    |cons d dm=>cases d with
     |box cs=>cases ls with
       |nil=>exact h.elim
       |cons l ls=>
        cases own with
        |false=>simp at hb
        |true=>exact⟨h.1.akz,ih hb.2 h.2⟩
     |one _=>cases ls<;>exact h.elim
     |agg _=>cases ls<;>exact h.elim
     |ptr _=>cases ls<;>exact h.elim
     |fn _=>cases ls<;>exact h.elim
end AM
