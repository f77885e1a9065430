import Derived.Test.YtnndcpncmmcaaaaGreatQAmCall
namespace AM
set_option linter.unusedVariables false
open Go
variable{U:jO}{E:Env U}{pm:Pm}
variable{F F':Nat->Prop}{kv:Key->Value}{fp:Key->List Nat}{σ:ah U}{a:Act}{w w':World}{bad:Key->Bool}
abbrev eV(U:jO):=List (Nat×eX U×Value×List Nat)
def eV.es(d:eV U):List (Nat×eX U):=d.map fun t=>(t.1,t.2.1)
def eV.bl(d:eV U):List Nat:=d.flatMap fun t=>t.2.2.2
def eV.An(d:eV U)(dst:Nat)(kv:Key->Value)(k:Key):Value:=match d.find? (fun t=>fU (dst,t.1) k) with|some t=>t.2.2.1|none=>kv k
def eV.zm(d:eV U)(dst:Nat)(fp:Key->List Nat)(k:Key):List Nat:=match d.find? (fun t=>fU (dst,t.1) k) with|some t=>t.2.2.2|none=>fp k
variable(E) in
def Rn(w:World)(F:Nat->Prop)(dst:Nat)(d:eV U)(l:List Nat)(P:(Key->Value)->(Key->List Nat)->(Key->Bool)->Prop):Prop:=
 (∀t∈d,∀kv fp bad,lm E w F kv fp bad t.2.1 t.2.2.1 t.2.2.2)/\d.bl=l/\∀kv fp bad,(∀t∈d,kv (dst,t.1)=t.2.2.1)->P kv fp bad
theorem Ik{dst:Nat}:∀{cs:List U.C}{base:Nat}{vs:List Value}{fl:List (List Nat)},vs.length=cs.length->fl.length=cs.length->(∀(i:Nat)(c:U.C),cs[i]? =some c->Rp E w F true c (vs.getD i undef) (fl.getD i []))->
  ∃d:eV U,(putCells dst true base cs).2=d.es/\Rn E w F dst d fl.flatten (fun kv fp bad=>kS E w F kv fp bad (putCells dst true base cs).1 vs)
 |[],base,vs,fl,hv,hf,h=>by
  have:vs=[]:=yG hv
  have:fl=[]:=yG hf
  subst_vars
  exact⟨[],rfl,by simp,rfl,fun _ _ _ _=>⟨rfl,fun i x v hx=>by simp[putCells] at hx⟩⟩
 |c::cs,base,[],fl,hv,hf,h=>by simp at hv
 |c::cs,base,v::vs,[],hv,hf,h=>by simp at hf
 |c::cs,base,v::vs,l::fl,hv,hf,h=>by
  obtain⟨d,h1,h2,h3,h4⟩:=Ik (dst:=dst) (base:=base+1) (cs:=cs) (vs:=vs) (fl:=fl) (by simpa using hv) (by simpa using hf) (fun i c hc=>by simpa using h (i+1) c (by simpa using hc))
  have h0:Rp E w F true c v l:=by simpa using h 0 c rfl
  cases c with
  |lit u=>
   obtain⟨rfl,rfl,ho⟩:=h0.kL
   refine⟨d,by simpa[putCells] using h1,h2,by simpa using h3,fun kv fp bad hk=> ?_⟩
   obtain⟨g1,g2⟩:=h4 kv fp bad hk
   refine⟨by simp[putCells,g1],fun i x u hx hu=> ?_⟩
   cases i with
   |zero=>simp only[putCells,sT,eZ] at hx hu;subst hx hu;exact wh ho
   |succ i=>exact g2 i x u (by simpa[putCells] using hx) (by simpa using hu)
  |sl τ xs=>
   refine⟨(base,.arr ⟨τ,xs⟩ true,v,l)::d,by simp[putCells,eV.es,h1],?_,by simp[eV.bl] at h3⊢;rw[h3],fun kv fp bad hk=> ?_⟩
   ·intro t ht kv fp bad
    rcases h_.1 ht with rfl|ht
    ·exact h0.ud
    ·exact h2 t ht kv fp bad
   ·obtain⟨g1,g2⟩:=h4 kv fp bad (fun t ht=>hk t (aJ _ ht))
    have qu:=hk _ (cH)
    refine⟨by simp[putCells,g1],fun i x u hx hu=> ?_⟩
    cases i with
    |zero=>
     simp only[putCells,cond_true,sT,eZ] at hx hu;subst hx hu
     exact⟨h0.dQ,.inr (by simp only[RA];rw[qu];rfl)⟩
    |succ i=>exact g2 i x u (by simpa[putCells] using hx) (by simpa using hu)
theorem R'{dst:Nat}:∀{cs:List U.C}{base:Nat},(putCells dst false base cs).2=[]/\(putCells dst false base cs).1=cs.map .c
 |[],base=>⟨rfl,rfl⟩
 | .lit v::r,base=>by obtain⟨h1,h2⟩:=R' (dst:=dst) (cs:=r) (base:=base+1);simp[putCells,h1,h2]
 | .sl τ xs::r,base=>by obtain⟨h1,h2⟩:=R' (dst:=dst) (cs:=r) (base:=base+1);simp[putCells,h1,h2]
theorem Kp{cs:List U.C}{vs:List Value}(hl:vs.length=cs.length)(h:∀(i:Nat)(c:U.C),cs[i]? =some c->Rp E w F false c (vs.getD i undef) []):kS E w F kv fp bad (cs.map .c) vs:=by
 refine⟨by simp[hl],fun i x u hx hu=> ?_⟩
 rw[mE] at hx
 cases hc:cs[i]? with
 |none=>rw[hc] at hx;cases hx
 |some c=>
  rw[hc] at hx;cases hx
  have:=h i c hc
  rw[gh,hu] at this
  exact⟨this.dQ,.inr this⟩
theorem amY{dst base:Nat}{fresh:Bool}{d:DV U}{x:AV U}{es:List (Nat×eX U)}{v:Value}{l:List Nat}(h:sL dst fresh base d=some (x,es))(hr:kp E w F fresh d v l):
  ∃t:eV U,es=t.es/\Rn E w F dst t l (fun kv fp bad=>RV E w F kv fp bad x v):=by
 cases d with
 |ptr _=>exact hr.elim
 |fn _=>exact hr.elim
 |one c=>
  simp only[sL,eZ,kG] at h
  obtain⟨rfl,rfl⟩:=h
  cases fresh with
  |true=>
   simp only[kp,if_true] at hr
   obtain⟨t,h1,h2,h3,h4⟩:=Ik (dst:=dst) (base:=base) (cs:=[c]) (vs:=[v]) (fl:=[l]) rfl rfl (fun i c' hc=>by
    cases i with
    |zero=>simp only[sT,eZ] at hc;subst hc;exact hr
    |succ i=>simp at hc)
   exact⟨t,h1,h2,by simpa using h3,fun kv fp bad hk=>⟨[v],h4 kv fp bad hk,by simp⟩⟩
  |false=>
   simp only[kp,yN,if_false] at hr
   obtain⟨hr,rfl⟩:=hr
   obtain⟨g1,g2⟩:=R' (dst:=dst) (cs:=[c]) (base:=base)
   refine⟨[],by rw[g1];rfl,by simp,rfl,fun kv fp bad _=>⟨[v],?_,by simp⟩⟩
   simp only[g2]
   exact Kp (cs:=[c]) rfl (fun i c' hc=>by
    cases i with
    |zero=>simp only[sT,eZ] at hc;subst hc;exact hr
    |succ i=>simp at hc)
 |agg cs=>
  simp only[sL,eZ,kG] at h
  obtain⟨rfl,rfl⟩:=h
  cases fresh with
  |true=>
   simp only[kp,if_true] at hr
   obtain⟨vs,fl,rfl,zS,pf,hc,rfl⟩:=hr
   obtain⟨t,h1,h2,h3,h4⟩:=Ik (dst:=dst) (base:=base) zS pf hc
   exact⟨t,h1,h2,h3,fun kv fp bad hk=>⟨vs,h4 kv fp bad hk,by simp⟩⟩
  |false=>
   simp only[kp,yN,if_false] at hr
   obtain⟨vs,rfl,zS,hc,rfl⟩:=hr
   obtain⟨g1,g2⟩:=R' (dst:=dst) (cs:=cs) (base:=base)
   refine⟨[],by rw[g1];rfl,by simp,rfl,fun kv fp bad _=>⟨vs,?_,by simp⟩⟩
   simp only[g2]
   exact Kp zS hc
 |box cs=>
  obtain⟨rfl,b,cur,e,rfl,h1,rfl,h2,h3⟩:=hr
  simp only[sL,cond_true,eZ,kG] at h
  obtain⟨rfl,rfl⟩:=h
  have AB:∀kv fp bad,kS E w F kv fp bad (cs.map .c) cur.toList:=fun kv fp bad=>Kp (by rw[yM];exact h2) h3
  refine⟨[(base,.box (cs.map .c),.pointer (some ⟨b,0,none⟩),[b])],rfl,fun t ht kv fp bad=> ?_,by simp[eV.bl],fun kv fp bad hk=>⟨[.pointer (some ⟨b,0,none⟩)],⟨rfl,fun i y u hy hu=> ?_⟩,by simp⟩⟩
  ·rw[g_.1 ht]
   exact⟨b,cur,e,rfl,h1,rfl,AB kv fp bad⟩
  ·cases i with
   |zero=>
    simp only[sT,eZ] at hy hu
    subst hy hu
    exact⟨⟨rfl,trivial⟩,.inr ⟨b,hk _ (g_.2 rfl),rfl⟩⟩
   |succ i=>simp at hy
theorem eV.Fk{d e:eV U}:(d++e:eV U).es=d.es++e.es:=by simp[eV.es]
theorem eV.uM{d e:eV U}:(d++e:eV U).bl=d.bl++e.bl:=by simp[eV.bl]
theorem adm{dst:Nat}:∀{fs:List Bool}{ds:List (DV U)}{base:Nat}{xs:List (AV U)}{es:List (Nat×eX U)}{us:List Value}{ls:List (List Nat)},tg dst fs base ds=some (xs,es)->lG E w F fs ds us ls->
  ∃t:eV U,es=t.es/\Rn E w F dst t ls.flatten (fun kv fp bad=>xs.length=us.length/\∀(i:Nat)(x:AV U)(u:Value),xs[i]? =some x->us[i]? =some u->RV E w F kv fp bad x u)
 |fs,[],base,xs,es,us,ls,h,hr=>by
  simp only[tg,eZ,kG] at h
  obtain⟨rfl,rfl⟩:=h
  cases us with
  |cons _ _=>exact hr.elim
  |nil=>cases ls with
   |cons _ _=>exact hr.elim
   |nil=>exact⟨[],rfl,by simp,rfl,fun _ _ _ _=>⟨rfl,fun i x u hx=>by simp at hx⟩⟩
 |fs,d::ds,base,xs,es,us,ls,h,hr=>by
  cases us with
  |nil=>exact hr.elim
  |cons u us=>cases ls with
   |nil=>exact hr.elim
   |cons l ls=>
    obtain⟨zc,hr2⟩:=hr
    simp only[tg] at h
    split at h
    ·rename_i x e xs' V9 h1 h2
     cases h
     obtain⟨t1,a1,a2,a3,a4⟩:=amY h1 zc
     obtain⟨t2,b1,b2,b3,b4⟩:=adm h2 hr2
     refine⟨t1++t2,by rw[eV.Fk,a1,b1],fun t ht=>(gA.1 ht).elim (a2 t) (b2 t),by rw[eV.uM,a3,b3];simp,fun kv fp bad hk=> ?_⟩
     have g1:=a4 kv fp bad (fun t ht=>hk t (oE _ ht))
     obtain⟨g2,g3⟩:=b4 kv fp bad (fun t ht=>hk t (pA _ ht))
     refine⟨by simp[g2],fun i y v hy hv=> ?_⟩
     cases i with
     |zero=>simp only[sT,eZ] at hy hv;subst hy hv;exact g1
     |succ i=>exact g3 i y v (by simpa using hy) (by simpa using hv)
    ·cases h
theorem R_:∀{cs:List U.C},vz cs=true->∀(i:Nat)(c:U.C),cs[i]? =some c->∃v,c=.lit v
 |[],_,i,c,hc=>by simp at hc
 | .lit v::r,h,i,c,hc=>by
  cases i with
  |zero=>simp only[sT,eZ] at hc;exact⟨v,hc.symm⟩
  |succ i=>exact R_ (by simpa[vz] using h) i c (by simpa using hc)
 | .sl _ _::r,h,i,c,hc=>by simp[vz] at h
theorem Rp.Gl{F F':Nat->Prop}{m m':Bool}{u v:Value}{l:List Nat}(h:Rp E w F m (.lit u) v l):Rp E w F' m' (.lit u) v []:=by
 generalize hc:(Cell.lit u:U.C)=c at h
 cases h with
 |lit _ _ ho=>cases hc;exact .lit _ _ ho
 |nil=>cases hc
 |shr=>cases hc
 |own=>cases hc
theorem kp.fe{fresh:Bool}{d:DV U}{v:Value}{l:List Nat}(hF:∀b,F b->F' b)(h:kp E w F fresh d v l):kp E w F' fresh d v l:=by
 cases d with
 |ptr _=>exact h
 |fn _=>exact h
 |one c=>
  cases fresh with
  |true=>simp only[kp,if_true] at h⊢;exact h.oV (fun _ _=>rfl)
  |false=>
   simp only[kp,yN,if_false] at h⊢
   exact⟨h.1.fe hF,h.2⟩
 |agg cs=>
  cases fresh with
  |true=>
   simp only[kp,if_true] at h⊢
   obtain⟨vs,fl,h1,h2,h3,h4,h5⟩:=h
   exact⟨vs,fl,h1,h2,h3,fun i c hc=>(h4 i c hc).oV (fun _ _=>rfl),h5⟩
  |false=>
   simp only[kp,yN,if_false] at h⊢
   obtain⟨vs,h1,h2,h3,h4⟩:=h
   exact⟨vs,h1,h2,fun i c hc=>(h3 i c hc).fe hF,h4⟩
 |box cs=>
  obtain⟨g,b,cur,e,h1,h2,h3,h4,h5⟩:=h
  exact⟨g,b,cur,e,h1,h2,h3,h4,fun i c hc=>(h5 i c hc).fe hF⟩
theorem lG.fe(hF:∀b,F b->F' b):∀{fs:List Bool}{ds:List (DV U)}{us:List Value}{ls:List (List Nat)},lG E w F fs ds us ls->lG E w F' fs ds us ls
 |_,[],[],[],_=>trivial
 |_,d::ds,u::us,l::ls,h=>⟨h.1.fe hF,lG.fe hF h.2⟩
 |_,[],_::_,_,h=>h.elim
 |_,[],[],_::_,h=>h.elim
 |_,_::_,[],_,h=>h.elim
 |_,_::_,_::_,[],h=>h.elim
theorem kp.any{fresh:Bool}{d:DV U}{v:Value}{l:List Nat}(hs:d.safe fresh=true)(h:kp E w F fresh d v l):kp E w F' fresh d v l:=by
 cases d with
 |ptr _=>exact h
 |fn _=>exact h
 |one c=>
  cases fresh with
  |true=>simp only[kp,if_true] at h⊢;exact h.oV (fun _ _=>rfl)
  |false=>
   simp only[kp,yN,if_false] at h⊢
   simp only[DV.safe,JY] at hs
   obtain⟨u,rfl⟩:=R_ hs 0 c rfl
   exact⟨h.1.Gl,h.2⟩
 |agg cs=>
  cases fresh with
  |true=>
   simp only[kp,if_true] at h⊢
   obtain⟨vs,fl,h1,h2,h3,h4,h5⟩:=h
   exact⟨vs,fl,h1,h2,h3,fun i c hc=>(h4 i c hc).oV (fun _ _=>rfl),h5⟩
  |false=>
   simp only[kp,yN,if_false] at h⊢
   simp only[DV.safe,JY] at hs
   obtain⟨vs,h1,h2,h3,h4⟩:=h
   exact⟨vs,h1,h2,fun i c hc=>by obtain⟨u,rfl⟩:=R_ hs i c hc;exact(h3 i _ hc).Gl,h4⟩
 |box _=>cases hs
theorem lG.any:∀{fs:List Bool}{ds:List (DV U)}{us:List Value}{ls:List (List Nat)},tZ fs ds=true->lG E w F fs ds us ls->lG E w F' fs ds us ls
 |_,[],[],[],_,_=>trivial
 |_,[],_::_,_,_,h=>h.elim
 |_,[],[],_::_,_,h=>h.elim
 |_,_::_,[],_,_,h=>h.elim
 |_,_::_,_::_,[],_,h=>h.elim
 |fs,d::ds,u::us,l::ls,hs,h=>by
  simp only[tZ,fY] at hs
  exact⟨h.1.any hs.1,lG.any hs.2 h.2⟩
theorem lH.any{cs:List U.C}{v:Value}{l:List Nat}(h:lH E w F cs v l):lH E w F' cs v l:=by
 obtain⟨vs,fl,h1,h2,h3,h4,h5⟩:=h
 exact⟨vs,fl,h1,h2,h3,fun i c hc=>(h4 i c hc).oV (fun _ _=>rfl),h5⟩
theorem cF.any{a:fK U}{v:Value}{l:List Nat}(h:cF E w F true a v l):cF E w F' true a v l:=by
 rcases h with h1|⟨b,cap,cur,vs,dH,h1,h2,h3,h4,h5,h6,h7,h8⟩
 ·exact .inl h1
 ·exact .inr ⟨b,cap,cur,vs,dH,h1,h2,h3,h4,h5,h6,fun i x j c hx hj=>(h7 i x j c hx hj).oV (fun _ _=>rfl),h8⟩
theorem rf.apX{cs:List U.C}{rest:List Value}{v:Value}{l:List Nat}(h:rf E w F true cs rest v l):rf E w F' true cs rest v l:=by
 obtain⟨b,cur,e,fl,h1,h2,h3,h4,h5,h6,h7,h8⟩:=h
 exact⟨b,cur,e,fl,h1,h2,h3,h4,h5,h6,fun i c hc=>(h7 i c hc).oV (fun _ _=>rfl),h8⟩
theorem e_.any{w0:World}:∀{ms:List Mode}{vs:List Value}{dm:List (DV U)}{ls:List (List Nat)},zk ms=false->e_ E w F w0 ms vs dm ls->e_ E w F' w0 ms vs dm ls:=by
 intro ms
 induction ms with
 |nil=>intro vs dm ls _ h;cases vs<;>cases dm<;>cases ls<;>first|trivial|exact h.elim
 |cons m ms ih=>
  intro vs dm ls hb h
  simp only[zk,Rs,Ox] at hb
  cases m with
  |ro=>cases vs with
   |nil=>cases dm<;>cases ls<;>exact h.elim
   |cons v vs=>simp only[e_] at h⊢;exact ih hb.2 h
  |mv=>cases vs with
   |nil=>cases dm<;>cases ls<;>exact h.elim
   |cons v vs=>simp only[e_] at h⊢;exact ih hb.2 h
  |wr=>cases vs with
   |nil=>cases dm<;>cases ls<;>exact h.elim
   |cons v vs=>cases dm with
    |nil=>cases ls<;>exact h.elim
    |cons d dm=>cases d with
     |one c=>cases c with
      |lit _=>cases ls<;>exact h.elim
      |sl τ ys=>cases ls with
       |nil=>exact h.elim
       |cons l ls=>exact⟨h.1.any,ih hb.2 h.2⟩
     |agg cs=>cases ls with
       |nil=>exact h.elim
       |cons l ls=>exact⟨h.1.any,ih hb.2 h.2⟩
     |box _=>cases ls<;>exact h.elim
     |ptr _=>cases ls<;>exact h.elim
     |fn _=>cases ls<;>exact h.elim
  |box own=>cases vs with
   |nil=>cases dm<;>cases ls<;>exact h.elim
   |cons v vs=>cases dm with
    |nil=>cases ls<;>exact h.elim
    |cons d dm=>cases d with
     |box cs=>cases ls with
       |nil=>exact h.elim
       |cons l ls=>
        cases own with
        |false=>simp at hb
        |true=>exact⟨h.1.apX,ih hb.2 h.2⟩
     |one _=>cases ls<;>exact h.elim
     |agg _=>cases ls<;>exact h.elim
     |ptr _=>cases ls<;>exact h.elim
     |fn _=>cases ls<;>exact h.elim
end AM
