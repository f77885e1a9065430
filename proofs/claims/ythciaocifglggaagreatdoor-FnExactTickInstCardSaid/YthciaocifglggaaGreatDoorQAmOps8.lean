import Derived.Test.YthciaocifglggaaGreatDoorQAmOps7
namespace AM
set_option linter.unusedVariables false
open Go
variable{U:kz}{E:Env U}{pm:Pm}
variable{F F':Nat->Prop}{kv:Key->Value}{fp:Key->List Nat}{σ:af U}{a:Act}{w w':World}{bad:Key->Bool}
theorem Rp.rr{w w':World}{F F':Nat->Prop}{c:U.C}{v:Value}{l:List Nat}(h:Rp E w F true c v l)(hl:∀b∈l,w'.heap[b]? =w.heap[b]?):Rp E w' F' true c v l:=by
 generalize hm:true=m at h
 induction h with
 |lit m v h=>subst hm;exact .lit _ v h
 |nil m τ a c h=>subst hm;exact .nil _ τ a c h
 |shr=>cases hm
 |own τ xs b cap cur vs gA hb hc hmx hs hv hr ih=>
  refine .own τ xs b cap cur vs gA ?_ hc hmx hs hv (fun i x j c hx hj=>ih i x j c hx hj (fun b' aY=> ?_) rfl)
  ·rw[hl b (by simp)];exact hb
  ·exact hl b' (bi _ (nl.2 ⟨_,oc.2 (fe hx hj),aY⟩))
theorem ep.rr{τ:U.Ty}{xs:List (U.T τ)}{vs:List Value}{fl:List (List Nat)}(h:ep E w F true τ xs vs fl)(yD:∀b∈fl.flatten,w'.heap[b]? =w.heap[b]?):ep E w' F' true τ xs vs fl:=by
 refine⟨h.1,h.2.1,fun i x j c hx hj=>(h.2.2 i x j c hx hj).rr (fun b hb=>yD b ?_)⟩
 have fX:i*U.wd τ+j<fl.length:=by rw[h.2.1];exact fe hx hj
 rw[fY,gg fX] at hb
 exact UR.2 ⟨_,Hu fX,hb⟩
theorem ep.patch{deep:Bool}{τ:U.Ty}{xs:List (U.T τ)}{vs:List Value}{fl:List (List Nat)}(h:ep E w F deep τ xs vs fl){i off:Nat}{y:U.T τ}{ds:List U.C}{us:List Value}{gl:List (List Nat)}
  (hi:i<xs.length) (hd:U.dec τ ((U.enc τ (xs.getD i (U.eP τ))).take off++ds++(U.enc τ (xs.getD i (U.eP τ))).drop (off+ds.length))=some y) (hle:off+ds.length<=U.wd τ)
  (hul:us.length=ds.length) (Nh:gl.length=ds.length) (D7:∀(n:Nat)(c:U.C),ds[n]? =some c->Rp E w F deep c (us.getD n undef) (gl.getD n [])):
  ep E w F deep τ (xs.set i y) (vs.take (i*U.wd τ+off)++us++vs.drop (i*U.wd τ+off+us.length)) (fl.take (i*U.wd τ+off)++gl++fl.drop (i*U.wd τ+off+gl.length)):=by
 obtain⟨h1,h2,h3⟩:=h
 have hN:i*U.wd τ+U.wd τ<=xs.length*U.wd τ:=by
  have:(i+1)*U.wd τ<=xs.length*U.wd τ:=wH _ hi
  rw[wD,Lk] at this
  exact this
 refine⟨by simp only[wG,od,J0,IW];omega,by simp only[wG,od,J0,IW];omega,fun n x j c hx hj=> ?_⟩
 have D6:=U.kV τ _ y hd
 have KO:j<U.wd τ:=by
  rw[<-U.cZ τ x]
  rcases mX j (U.enc τ x).length with h|h
  ·exact h
  ·rw[mi h] at hj;cases hj
 have ab':∀{α:Type}(l m:List α)(z:α)(k:Nat),m.length=ds.length->i*U.wd τ+off+m.length<=l.length->
   (l.take (i*U.wd τ+off)++m++l.drop (i*U.wd τ+off+m.length)).getD k z=if i*U.wd τ+off<=k/\k<i*U.wd τ+off+m.length then m.getD (k-(i*U.wd τ+off)) z else l.getD k z:=by
  intro α l m z k hm hl
  by_cases w6:k<i*U.wd τ+off
  ·rw[if_neg (by omega),F9 (by simp;omega),F9 (by simp;omega),fY,nF,if_pos w6,fY]
  ·by_cases kJ:k<i*U.wd τ+off+m.length
   ·rw[if_pos (by omega),F9 (by simp;omega),Kb (by simp;omega)]
    congr 1;simp;omega
   ·rw[if_neg (by omega),Kb (by simp;omega),fY,Dt,fY]
    congr 2;simp;omega
 rw[ab' vs us undef _ hul (by omega),ab' fl gl [] _ Nh (by omega)]
 rw[hul,Nh]
 by_cases hni:n=i
 ·subst hni
  rw[Zz (by simpa using hi)] at hx
  cases hx
  rw[D6] at hj
  have tE:=eH (d:=U.eP τ) hi
  by_cases hj1:j<off
  ·rw[if_neg (by omega),if_neg (by omega)]
   refine h3 n _ j c tE ?_
   rw[xu,wF (by simp[U.cZ];omega),nF,if_pos hj1] at hj
   exact hj
  ·by_cases hj2:j<off+ds.length
   ·rw[if_pos (by omega),if_pos (by omega)]
    have e:n*U.wd τ+j-(n*U.wd τ+off)=j-off:=by omega
    rw[e]
    refine D7 (j-off) c ?_
    have M3:((U.enc τ (xs.getD n (U.eP τ))).take off).length=off:=by simp[U.cZ];omega
    rw[wF (by simp[U.cZ];omega),wI (by omega),M3] at hj
    exact hj
   ·rw[if_neg (by omega),if_neg (by omega)]
    refine h3 n _ j c tE ?_
    have M3:((U.enc τ (xs.getD n (U.eP τ))).take off++ds).length=off+ds.length:=by simp[U.cZ];omega
    rw[wI (by omega),M3,Dt] at hj
    rw[<-hj];congr 1;omega
 ·rw[zek (Ne.symm hni)] at hx
  have abZ:¬(i*U.wd τ+off<=n*U.wd τ+j/\n*U.wd τ+j<i*U.wd τ+off+ds.length):=by
   rintro⟨g1,g2⟩
   rcases mX n i with fX|XP
   ·have:(n+1)*U.wd τ<=i*U.wd τ:=wH _ fX
    rw[wD,Lk] at this
    omega
   ·have:(i+1)*U.wd τ<=n*U.wd τ:=wH _ (by omega)
    rw[wD,Lk] at this
    omega
  rw[if_neg abZ,if_neg abZ]
  exact h3 n x j c hx hj
theorem aaE(N n:Nat)(h:n<N):List.range N=List.range n++n::(List.range (N-n-1)).map (·+(n+1)):=by
 have h1:N=n+((N-n-1)+1):=by omega
 conv=>lhs;rw[h1,List.range_add]
 congr 1
 rw[List.range_succ_eq_map,tI,List.map_map]
 simp only[FD,Lo,true_and]
 refine J1 fun a _=> ?_
 simp only[Function.comp]
 omega
theorem eu.focus:∀{p:Path}{x b x':eK U}{v:Value}{l:List Nat}{ps:List Prop}{f:eK U->Option (eK U)},eu E w F true x v l->l.Nodup->walk p x=some (ps,b)->(∀q∈ps,q)->Zr p x f=some x'->
  ∃vb lb pre post b',f b=some b'/\nq w (fun c=>F c\/c∈l) v p vb/\eu E w F true b vb lb/\l=pre++lb++post/\
   ∀(w':World)(F':Nat->Prop)(Lg:List Nat),b'.τ=b.τ->eu E w' F' true b' vb Lg->(∀c∈pre++post,w'.heap[c]? =w.heap[c]?)->eu E w' F' true x' v (pre++Lg++post):=by
 intro p
 induction p with
 |nil=>
  intro x b x' v l ps f h hn hw hp hc
  simp only[walk,fJ,nE] at hw
  obtain⟨_,rfl⟩:=hw
  exact⟨v,l,[],[],x',hc,rfl,h,by simp,fun w' F' Lg _ hb _=>by simpa using hb⟩
 |cons s p ih=>
  obtain⟨i,wd,j⟩:=s
  intro x b x' v l ps f h hn hw hp hc
  obtain⟨τ,xs⟩:=x
  simp only[walk] at hw
  cases sK:Nat.beq wd (U.wd τ)<;>simp only[sK,cond_false,cond_true] at hw
  ·cases hw
  ·have M0:wd=U.wd τ:=lN sK
   subst M0
   split at hw
   ·rename_i τ1 ys hx
    split at hw
    ·rename_i Ga b0 hw'
     simp only[fJ,nE] at hw
     obtain⟨rfl,rfl⟩:=hw
     have hi:i<xs.length:=hp _ (by simp)
     have tE:=eH (d:=U.eP τ) hi
     simp only[Zr,hx] at hc
     split at hc
     ·rename_i b1 rF
      split at hc
      ·rename_i x1 Zb
       rw[aaR Zb] at hc
       cases hc
       rcases h with⟨h0,_⟩|⟨g,cap,cur,vs,gA,h1,h2,h3,h4,h5,h6,h7,h8⟩
       ·simp only at h0;subst h0;simp at hi
       ·simp only at h1 h2 h3 h5 h6 h7 h8
        have fX:=fe tE hx
        have nj:=(h7 i _ j _ tE hx).DY
        have Se:l=(g::(List.range (i*U.wd τ+j)).flatMap gA)++gA (i*U.wd τ+j)++((List.range (xs.length*U.wd τ-(i*U.wd τ+j)-1)).map (·+(i*U.wd τ+j+1))).flatMap gA:=by
         rw[h8,aaE _ _ fX,UN,xv]
         simp[xu]
        have Sl:(gA (i*U.wd τ+j)).Nodup:=by
         rw[Se] at hn
         exact(pu.1 (pu.1 hn).1).2.1
        obtain⟨vb,lb,pre,post,b',f1,f2,f3,f4,f5⟩:=ih (x:=⟨τ1,ys⟩) nj Sl hw' (fun q hq=>hp q (by simp[hq])) rF
        have hgc:w.cell? ⟨g,0+(i*U.wd τ+j),none⟩=some (vs (i*U.wd τ+j)):=by
         rw[tW,cell_of_row w g _ cur _ (0,0) h2];exact h6 _ fX
        refine⟨vb,lb,(g::(List.range (i*U.wd τ+j)).flatMap gA)++pre,post++((List.range (xs.length*U.wd τ-(i*U.wd τ+j)-1)).map (·+(i*U.wd τ+j+1))).flatMap gA,b',f1,?_,f3,?_,?_⟩
        ·refine⟨g,0,_,_,vs (i*U.wd τ+j),h1,.inr (by rw[Se];simp),hgc,f2.fE (fun c hc=>⟨?_,rfl⟩)⟩
         rcases hc with hc|hc
         ·exact .inl hc
         ·exact .inr (by rw[Se];simp[hc])
        ·rw[Se,f4];simp[xu]
        ·intro w' F' Lg HA aY iA
         have px:=f5 w' F' Lg HA aY (fun c hc=>iA c (by
          rcases kA.1 hc with hc|hc<;>simp[hc]))
         have D6:=U.kV τ _ x1 Zb
         refine .inr ⟨g,cap,cur,vs,fun n=>if n=i*U.wd τ+j then pre++Lg++post else gA n,by simpa using h1,?_,by simpa using h3,h4,h5,by simpa using h6,fun n y m c hy hm=> ?_,?_⟩
         ·rw[iA g (by simp)];exact h2
         ·simp only at hy
          by_cases sM:n=i/\m=j
          ·obtain⟨rfl,rfl⟩:=sM
           rw[Zz (by simpa using hi)] at hy
           cases hy
           rw[D6] at hm
           have hmj:m<(U.enc τ (xs.getD n (U.eP τ))).length:=by
            rcases mX m (U.enc τ (xs.getD n (U.eP τ))).length with h|h
            ·exact h
            ·rw[mi h] at hx;cases hx
           rw[Zz hmj] at hm
           cases hm
           simp only[if_true]
           exact px.LB
          ·have hold:∃z,xs[n]? =some z/\(U.enc τ z)[m]? =some c:=by
            by_cases hni:n=i
            ·subst hni
             rw[Zz (by simpa using hi)] at hy
             cases hy
             rw[D6,zek (fun e=>sM ⟨rfl,e.symm⟩)] at hm
             exact⟨_,tE,hm⟩
            ·rw[zek (Ne.symm hni)] at hy
             exact⟨y,hy,hm⟩
           obtain⟨z,hz,ul⟩:=hold
           have hmw:m<U.wd τ:=by
            rw[<-U.cZ τ z]
            rcases mX m (U.enc τ z).length with h|h
            ·exact h
            ·rw[mi h] at ul;cases ul
           have KO:j<U.wd τ:=by
            rw[<-U.cZ τ (xs.getD i (U.eP τ))]
            rcases mX j (U.enc τ (xs.getD i (U.eP τ))).length with h|h
            ·exact h
            ·rw[mi h] at hx;cases hx
           have et:n*U.wd τ+m≠i*U.wd τ+j:=by
            intro e
            have h1:(n*U.wd τ+m)/U.wd τ=n:=by rw[RR,Nat.mul_add_div (U.kq τ),zez hmw,FD]
            have h2:(i*U.wd τ+j)/U.wd τ=i:=by rw[RR,Nat.mul_add_div (U.kq τ),zez KO,FD]
            have:n=i:=by rw[<-h1,e,h2]
            exact sM ⟨this,by subst this;omega⟩
           show Rp E w' F' true c (vs (n*U.wd τ+m)) (if n*U.wd τ+m=i*U.wd τ+j then pre++Lg++post else gA (n*U.wd τ+m))
           rw[if_neg et]
           have apW:=fe hz ul
           refine(h7 n z m c hz ul).rr (fun c' ln=>iA c' ?_)
           rcases Nat.lt_or_gt_of_ne et with Bf|hgt
           ·simp only[kA,jw,nl,oc]
            exact .inl (.inl (.inr ⟨_,Bf,ln⟩))
           ·simp only[kA,nl,lH,oc]
            refine .inr (.inr ⟨n*U.wd τ+m,⟨n*U.wd τ+m-(i*U.wd τ+j+1),by omega,by omega⟩,ln⟩)
         ·simp only[IW]
          rw[aaE _ _ fX,UN,xv,if_pos rfl]
          have e1:(List.range (i*U.wd τ+j)).flatMap (fun n=>if n=i*U.wd τ+j then pre++Lg++post else gA n)=(List.range (i*U.wd τ+j)).flatMap gA:=by
           rw[JZ,JZ]
           congr 1
           refine J1 fun n hn=> ?_
           rw[if_neg (by have:=oc.1 hn;omega)]
          have e2:((List.range (xs.length*U.wd τ-(i*U.wd τ+j)-1)).map (·+(i*U.wd τ+j+1))).flatMap (fun n=>if n=i*U.wd τ+j then pre++Lg++post else gA n)=((List.range (xs.length*U.wd τ-(i*U.wd τ+j)-1)).map (·+(i*U.wd τ+j+1))).flatMap gA:=by
           rw[JZ,JZ]
           congr 1
           refine J1 fun n hn=> ?_
           obtain⟨m,_,rfl⟩:=lH.1 hn
           rw[if_neg (by omega)]
          rw[e1,e2]
          simp[xu]
      ·cases hc
     ·cases hc
    ·cases hw
   ·cases hw
theorem cG.O8(h:cG E pm F kv fp σ a w){o:Oper}(ho:o.dst=none)(k:Key)(e0 e:ir U)(ni:σ.bH k=some e0)(ks:List Key)(ps:List Prop)(xz:List Nat)(lT:k∉ks)
  (hE:∀bad,(∀k',n8 w w' kv kv fp (db fp k xz) (bW σ) bad k')->ri E w' F' kv (db fp k xz) bad e (kv k) xz)
  (xM:∀b,F b->F' b/\w'.heap[b]? =w.heap[b]?)
  (Bo:∀b,F' b->F b\/∃k'∈k::ks,(σ.bH k').isSome=true/\b∈fp k')
  (jq:∀k' e,k'≠k->k'∉ks->σ.bH k'=some e->∀b∈fp k',w'.heap[b]? =w.heap[b]?)
  (oi:xz.Nodup) (Lh:∀b∈xz,¬F' b/\∃k'∈k::ks,(σ.bH k').isSome=true/\b∈fp k')
  (ob:gy (fun b=>pm.W b\/pm.w0.heap.size<=b) w w'):
  cG E pm F' kv (db fp k xz) (AM.apply o ⟨none,[],ks,[(k,e)],ps⟩ σ) (a.put o.dst undef) w':=by
 have jV:du o (⟨none,[],ks,[(k,e)],ps⟩:ch U)=[]:=rfl
 have kl:jp (⟨none,[],ks,[(k,e)],ps⟩:ch U)=[k]:=rfl
 have pZ:∀k',n8 w w' kv kv fp (db fp k xz) (bW σ) (bW (AM.apply o ⟨none,[],ks,[(k,e)],ps⟩ σ)) k':=by
  intro k'
  refine⟨rfl,?_⟩
  by_cases hk:k'=k
  ·left
   subst hk
   have:(AM.apply o (⟨none,[],ks,[(k',e)],ps⟩:ch U) σ).aC.any (iw k')=true:=qe.2 (by simp[AM.apply])
   simp[bW,this]
  ·by_cases XI:k'∈ks
   ·left
    simp[bW,WA o _ σ k' (by rw[jV];simp) (by rw[kl];simpa using hk) XI]
   ·have hee:=Wy o (⟨none,[],ks,[(k,e)],ps⟩:ch U) σ k' (by rw[jV];simp) (by rw[kl];simpa using hk) XI
    have Io:(AM.apply o (⟨none,[],ks,[(k,e)],ps⟩:ch U) σ).aC.any (iw k')=σ.aC.any (iw k'):=by
     rw[FG,qe,qe]
     simp[AM.apply,hk]
    cases hb:bW σ k'
    ·right
     refine⟨rfl,ye hk,?_⟩
     simp only[bW,Ld] at hb
     obtain⟨e',eG⟩:∃e,σ.bH k'=some e:=by
      cases hx:σ.bH k' with
      |none=>rw[hx] at hb;simp at hb
      |some e=>exact⟨e,rfl⟩
     exact jq k' e' hk XI eG
    ·left
     simp only[bW] at hb⊢
     rw[hee,Io];exact hb
 have px:∀b,(∃k'∈k::ks,(σ.bH k').isSome=true/\b∈fp k')->(pm.W b\/pm.w0.heap.size<=b)/\b<w.heap.size:=by
  rintro b ⟨k',_,hl,hb⟩
  obtain⟨e',eG⟩:=lJ.1 hl
  exact(h.ff k' e' b eG hb).2
 refine h.apply o _ undef (fun x hx=>by rw[ho] at hx;cases hx) ?_ (fun _ _=>rfl) ?_ ?_ xM ?_ ?_ ?_ ?_ ?_ ?_ (h.upto.trans ob) ob.size
 ·intro x hx;cases hx
 ·intro k' _ hk;rw[kl] at hk;exact ye (by simpa using hk)
 ·intro k' hk;rw[jV] at hk;simp at hk
 ·intro k' e' _ hk kJ he b hb;rw[kl] at hk;exact jq k' e' (by simpa using hk) kJ he b hb
 ·rintro k' e' (⟨j,_,hj⟩|hk)
  ·simp at hj
  ·simp only[oa,nE] at hk
   obtain⟨rfl,rfl⟩:=hk
   rw[rA]
   refine⟨hE _ pZ,oi,fun b hb=> ?_⟩
   obtain⟨h1,h2⟩:=Lh b hb
   have h3:=px b h2
   have:=ob.size
   exact⟨h1,h3.1,by omega⟩
 ·intro k' e' b _ hk kJ he hb uq
  rw[kl] at hk
  rcases Bo b uq with h1|⟨k2,Bk,hl,aY⟩
  ·exact(h.ff k' e' b he hb).1 h1
  ·obtain⟨e2,rD⟩:=lJ.1 hl
   exact h.apart k' k2 e' e2 b (fun e=>by subst e;rcases jw.1 Bk with rfl|h;exact hk (by simp);exact kJ h) he rD hb aY
 ·intro k1 k' b et hk cM hb
  rw[jV,kl] at hk cM
  simp only[oa,FE,false_or] at hk cM
  subst hk
  rw[rA] at hb
  rcases cM with rfl|⟨cM,D3⟩
  ·exact absurd rfl et
  ·rw[ye (Ne.symm et)]
   obtain⟨e',eG⟩:=lJ.1 D3
   intro aY
   obtain⟨k2,kJ,hl,iq⟩:=(Lh b hb).2
   obtain⟨e2,rD⟩:=lJ.1 hl
   exact h.apart k2 k' e2 e' b (fun e=>by subst e;rcases jw.1 kJ with rfl|h;exact et rfl;exact cM h) rD eG iq aY
 ·intro b hb
  rcases Bo b hb with h1|h1
  ·have:=h.rI b h1;have:=ob.size;omega
  ·have:=(px b h1).2;have:=ob.size;omega
 ·intro b hb
  rcases Bo b hb with h1|h1
  ·exact h.rH b h1
  ·exact .inr (px b h1).1
theorem Pj{P:Program}{t:TypeId}{n g off:Nat}{cur:Array Value}{e:TypeId}{v:Value}(hs:(P.info? t).map (·.size)=some n)(hv:v.cells.size=n)(h1:∀u∈v.cells.toList,u.oneCell'=true)
  (hg:w.heap[g]? =some (.cells cur e (0,0))) (hle:off+n<=cur.size):
  (Instr.storeAt t (.pointer (some ⟨g,off,none⟩)) v).run P w=.ok () (w.setRow g (cur.toList.take off++v.cells.toList++cur.toList.drop (off+n)).toArray):=by
 cases hq:P.info? t with
 |none=>rw[hq] at hs;cases hs
 |some i=>
  rw[hq] at hs
  simp only[B5,fJ] at hs
  have pZ:=run_storeCells_at P g off e v.cells.toList 0 cur w hg (by simp;omega) h1
  simp only[FD,B6] at pZ
  simp[Instr.storeAt,Instr.sureAddr,storeVar,Go.sizeOf,typeInfo,hq,pZ,hv]
  omega
theorem kX.fB{xs:List (AC U)}{vs:List Value}(h:kX E w F kv fp bad xs vs):∀v∈vs,v.oneCell'=true:=by
 intro v hv
 obtain⟨n,hn,rfl⟩:=tX hv
 exact(h.2 n (xs[n]'(by rw[h.1];exact hn)) _ (gg _) (gg hn)).1.1
theorem ajD(h:cG E pm F kv fp σ a w){o:Oper}(ho:o.dst=none){t:TypeId}{x y:Operand}(p5:o.op=.store t x y){sx:SV U}{yx:AC U}{z:AV U}{n:Nat}{rs:List Key}{r:ch U}
  (hx:RS E w F kv fp (bW σ) sx (a.eval x)) (vr:sr sx=some yx) (hy:RS E w F kv fp (bW σ) (.v z) (a.eval y)) (hs:E.size t=some n) (hn:n=z.cs.length)
  (hr:storeAt (restrict σ.bH rs) σ.aC z yx=some r) (hp:∀p∈r.pre,p) {next:Act->World->Prop} {Q:Exit->Act->World->Prop}
  (Xl:∀F kv fp a' w',cG E pm F kv fp (AM.apply o r σ) a' w'->next a' w'):o.wp E.P a w next Q:=by
 have yA:=kt hx vr
 obtain⟨er,vl⟩:=Ke hy
 have exec:∀{w1},(Instr.storeAt t (a.eval x) (a.eval y)).run E.P w=.ok () w1->(execOp a.eval o).run E.P w=.ok .skip w1:=by
  intro w1 hr
  unfold execOp;simp only[p5]
  rw[Sem.run_bind,hr];rfl
 unfold storeAt at hr
 split at hr
 ·rename_i k off
  split at hr
  ·rename_i cs he
   have eG:=jx he
   cases hb:Nat.ble (off+z.cs.length) cs.length<;>simp only[hb,cond_false,cond_true] at hr
   ·cases hr
   ·have hle:=FH hb
    cases hr
    obtain⟨b,h1,h2⟩:=cn yA rfl
    obtain⟨b',cur,e,h3,h4,h5,h6⟩:=h.cV k _ eG
    rw[h1] at h3;cases h3
    have gU:cs.length=cur.size:=by simpa using h6.1
    have iV:=Pj (P:=E.P) (n:=n) (off:=off) (v:=a.eval y) hs (by rw[vl];exact hn.symm) er.fB h4 (by omega)
    rw[<-h2] at iV
    refine LP (exec iV) (Xl F kv (db fp k [b]) _ _ (h.O8 ho k _ _ eG [] [] [b] (by simp) ?_ ?_ ?_ ?_ ?_ ?_ ?_))
    ·intro bad pZ
     refine⟨b,_,e,h1,setRow_heap w b cur _ _ _ h4,rfl,?_⟩
     have uq:∀b',F b'->F b'/\(w.setRow b (cur.toList.take off++(a.eval y).cells.toList++cur.toList.drop (off+n)).toArray).heap[b']? =w.heap[b']? :=fun b' aY=>
      ⟨aY,setRow_other w b b' _ (fun e=>(h.ff k _ b eG (by rw[h5];simp)).1 (e▸aY))⟩
     have:=(((h6.take off).append er).append (h6.drop (off+n))).move (bad':=bad) (kv':=kv) (fp':=db fp k [b]) (fun _ _ k' _=>pZ k') uq
     rw[hn] at this⊢
     simpa using this
    ·intro b' aY;exact⟨aY,setRow_other w b b' _ (fun e=>(h.ff k _ b eG (by rw[h5];simp)).1 (e▸aY))⟩
    ·intro b' aY;exact .inl aY
    ·intro k' e' hk _ rD b' aY
     exact setRow_other w b b' _ (fun e=>h.apart k' k _ _ b' hk rD eG aY (by rw[h5,e];simp))
    ·simp
    ·intro b' aY
     rw[oa.1 aY]
     exact⟨(h.ff k _ b eG (by rw[h5];simp)).1,k,by simp,by simp[eG],by rw[h5];simp⟩
    ·exact⟨rfl,rfl,rfl,by simp,fun b' _ Gs=>setRow_other w b b' _ (fun e=>Gs (by rw[e];exact(h.ff k _ b eG (by rw[h5];simp)).2.1))⟩
  ·cases hr
 ·rename_i k p i wd off
  split at hr
  ·rename_i x0 d he
   have eG:=jx he
   cases gU:fg (restrict σ.bH rs) σ.aC k p<;>simp only[gU,cond_false,cond_true] at hr
   ·cases hr
   ·split at hr
    ·rename_i ps b hw
     split at hr
     ·rename_i qs ds ks d' xI
      split at hr
      ·rename_i x' SB
       cases lU:(Nat.beq wd (U.wd b.τ)&&Nat.ble (off+ds.length) (U.wd b.τ)&&distinct (k::ks)&&((d&&d')||p.isEmpty))<;>simp only[lU,cond_false,cond_true] at hr
       ·cases hr
       ·cases hr
        simp only[eE] at lU
        obtain⟨⟨⟨c1,c2⟩,c3⟩,c4⟩:=lU
        have sK:=lN c1
        subst sK
        have hle:=FH c2
        have xK:=rW.1 c3
        have lT:k∉ks:=(rv.1 xK).1
        have hi:i<b.xs.length:=hp _ (by simp)
        have Ig:∀q∈ps,q:=fun q hq=>hp q (by simp[hq])
        obtain⟨t1,t2,t3,t4⟩:=HV h xI (fun q hq=>hp q (by simp[hq])) er (rv.1 xK).2
        obtain⟨bb,oo,nn,cc,mN,hv⟩:=cn yA (DF gU he)
        have mM:eu E w F d x0 (kv k) (fp k):=h.cV k _ eG
        have oi:=h.nodup k _ eG
        have hdl:ds.length=n:=by rw[t1,hn]
        have Zl:(a.eval y).cells.toList.length=ds.length:=by simp[vl,t1]
        have node:∀{g cap:Nat}{cur:Array Value}{vs:List Value},(.slice (some ⟨bb,oo,none⟩) nn cc:Value)=.slice (some ⟨g,0,none⟩) b.xs.length cap->w.heap[g]? =some (.cells cur (E.tid b.τ) (0,0))->b.xs.length<=cap->
          cur.size=cap*U.wd b.τ->cur.toList.take (b.xs.length*U.wd b.τ)=vs->
          (Instr.storeAt t (a.eval x) (a.eval y)).run E.P w=.ok () (w.setRow g (cur.toList.take (i*U.wd b.τ+off)++(a.eval y).cells.toList++cur.toList.drop (i*U.wd b.τ+off+n)).toArray)/\
          (cur.toList.take (i*U.wd b.τ+off)++(a.eval y).cells.toList++cur.toList.drop (i*U.wd b.τ+off+n)).toArray.size=cap*U.wd b.τ/\
          (cur.toList.take (i*U.wd b.τ+off)++(a.eval y).cells.toList++cur.toList.drop (i*U.wd b.τ+off+n)).toArray.toList.take (b.xs.length*U.wd b.τ)=
           vs.take (i*U.wd b.τ+off)++(a.eval y).cells.toList++vs.drop (i*U.wd b.τ+off+(a.eval y).cells.toList.length):=by
         intro g cap cur vs e1 e2 e3 e4 e5
         simp only[Value.slice.injEq,fJ,Addr.mk.injEq,and_true] at e1
         obtain⟨⟨rfl,rfl⟩,_,_⟩:=e1
         have hN:i*U.wd b.τ+U.wd b.τ<=b.xs.length*U.wd b.τ:=by
          have:(i+1)*U.wd b.τ<=b.xs.length*U.wd b.τ:=wH _ hi
          rw[wD,Lk] at this
          exact this
         have w8:b.xs.length*U.wd b.τ<=cap*U.wd b.τ:=wH _ e3
         have iV:=Pj (P:=E.P) (n:=n) (off:=i*U.wd b.τ+off) (v:=a.eval y) hs (by rw[vl];exact hn.symm) er.fB e2 (by omega)
         refine⟨by rw[hv,tW];exact iV,by simp only[O3,wG,od,J0,B6,vl,<-hn];omega,?_⟩
         subst e5
         refine Lp fun m=> ?_
         rw[nF]
         by_cases hm:m<b.xs.length*U.wd b.τ
         ·rw[if_pos hm]
          by_cases h1:m<i*U.wd b.τ+off
          ·rw[xu,wF (by simp;omega),xu,wF (by simp;omega),nF,if_pos h1,nF,if_pos h1,nF,if_pos hm]
          ·by_cases h2:m<i*U.wd b.τ+off+n
           ·rw[wF (by simp[vl,<-hn];omega),wI (by simp;omega),wF (by simp[vl,<-hn];omega),wI (by simp;omega)]
            congr 1;simp;omega
           ·rw[wI (by simp[vl,<-hn];omega),wI (by simp[vl,<-hn];omega),Dt,Dt,nF,if_pos (by simp[vl,<-hn];omega)]
            congr 1;simp[vl,<-hn];omega
         ·rw[if_neg hm,mi]
          simp only[wG,od,J0,B6,vl,<-hn]
          omega
        have D4:∀b'∈k::ks,(σ.bH b').isSome=true:=fun k' cM=>by
         rcases jw.1 cM with rfl|cM
         ·simp[eG]
         ·exact t2 k' cM
        have Bn:∀k'∈k::ks,∀b'∈fp k',¬F b'/\(pm.W b'\/pm.w0.heap.size<=b'):=fun k' cM b' aY=>by
         obtain⟨e,he⟩:=lJ.1 (D4 k' cM)
         exact⟨(h.ff k' e b' he aY).1,(h.ff k' e b' he aY).2.1⟩
        have Ju:∀k'∈ks,∀b'∈fp k',b'∉fp k:=fun k' cM b' aY rE=>by
         obtain⟨e,he⟩:=lJ.1 (t2 k' cM)
         exact h.apart k' k _ _ b' (fun e=>lT (e▸cM)) he eG aY rE
        have jz:∀{g:Nat},g∈fp k->∀(cells:Array Value) k' e,k'≠k->k'∉ks->σ.bH k'=some e->∀b'∈fp k',(w.setRow g cells).heap[b']? =w.heap[b']? :=fun hg cells k' e' hk _ rD b' aY=>
         setRow_other w _ b' _ (fun e=>h.apart k' k _ _ b' hk rD eG aY (e▸hg))
        have abF:∀{g:Nat},g∈fp k->∀(cells:Array Value),gy (fun b=>pm.W b\/pm.w0.heap.size<=b) w (w.setRow g cells):=fun hg cells=>
         ⟨rfl,rfl,rfl,by simp,fun b' _ Gs=>setRow_other w _ b' _ (fun e=>Gs (e▸(Bn k (by simp) _ hg).2))⟩
        cases jU:(d&&d') with
        |true=>
         simp only[eE] at jU
         obtain⟨rfl,rfl⟩:=jU
         obtain⟨gl,gl1,gl2,gl3,gl4⟩:=t3 rfl
         obtain⟨vb,lb,pre,post,b',f1,f2,f3,f4,f5⟩:=mM.focus oi hw Ig SB
         have hvb:vb=.slice (some ⟨bb,oo,none⟩) nn cc:=f2.unique mN
         rcases f3.rows with⟨h3,_⟩|⟨g,cap,cur,vs,fl,h3,h4,h5,h6,h7,h8,h9,ph⟩
         ·rw[h3] at hi;simp at hi
         ·obtain⟨n1,n2,n3⟩:=node (hvb▸h3) h4 h5 h7 h8
          rw[Wg] at f1
          split at f1
          ·rename_i yy Ip
           cases f1
           have Ba:=h9.patch hi Ip hle Zl gl1 gl2
           have Ni:g∈fp k:=by rw[f4,ph];simp
           have ame:(g::fl.flatten).Nodup:=by
            rw[f4,ph] at oi
            exact(pu.1 (pu.1 oi).1).2.1
           have abX:∀b'∈gl.flatten,b'∉fp k:=fun b' aY=>by
            obtain⟨k',cM,aY⟩:=gl4 b' aY
            exact Ju k' cM b' aY
           have oh:((fl.take (i*U.wd b.τ+off)).flatten++(fl.drop (i*U.wd b.τ+off+gl.length)).flatten).Sublist fl.flatten:=by
            have h1:fl.flatten=(fl.take (i*U.wd b.τ+off)).flatten++(fl.drop (i*U.wd b.τ+off)).flatten:=by rw[<-Hw,Lq]
            have h2:(fl.drop (i*U.wd b.τ+off)).flatten=((fl.drop (i*U.wd b.τ+off)).take gl.length).flatten++((fl.drop (i*U.wd b.τ+off)).drop gl.length).flatten:=by rw[<-Hw,Lq]
            rw[h1,h2,List.drop_drop]
            exact List.Sublist.append_left (zem _ _) _
           have Sz:(fl.take (i*U.wd b.τ+off)++gl++fl.drop (i*U.wd b.τ+off+gl.length)).flatten=(fl.take (i*U.wd b.τ+off)).flatten++gl.flatten++(fl.drop (i*U.wd b.τ+off+gl.length)).flatten:=by
            simp[Hw]
           have M':∀c∈(fl.take (i*U.wd b.τ+off)++gl++fl.drop (i*U.wd b.τ+off+gl.length)).flatten,c∈gl.flatten\/c∈fl.flatten:=by
            intro c hc
            rw[Sz,kA,kA] at hc
            rcases hc with(hc|hc)|hc
            ·exact .inr (oh.subset (by simp[hc]))
            ·exact .inl hc
            ·exact .inr (oh.subset (oq _ hc))
           have amj:∀c∈(fl.take (i*U.wd b.τ+off)++gl++fl.drop (i*U.wd b.τ+off+gl.length)).flatten,c≠g:=by
            intro c hc e
            rcases M' c hc with hc|hc
            ·exact abX c hc (e▸Ni)
            ·exact(rv.1 ame).1 (e▸hc)
           have D0:=eu.mj (E:=E) (w:=w.setRow g (cur.toList.take (i*U.wd b.τ+off)++(a.eval y).cells.toList++cur.toList.drop (i*U.wd b.τ+off+n)).toArray) (F:=F) (setRow_heap w g cur _ _ _ h4) (by simpa using h5) h6 n2
            (by rw[IW];exact n3) (Ba.rr (fun c hc=>setRow_other w g c _ (amj c hc)))
           rw[IW] at D0
           have hpp:∀c∈pre++post,c≠g:=by
            intro c hc e
            subst e
            rw[f4,ph] at oi
            have abN:=pu.1 oi
            have amb:=pu.1 abN.1
            rcases kA.1 hc with hc|hc
            ·exact amb.2.2 c hc c (by simp) rfl
            ·exact abN.2.2 c (by simp) c hc rfl
           have xL:=f5 (w.setRow g (cur.toList.take (i*U.wd b.τ+off)++(a.eval y).cells.toList++cur.toList.drop (i*U.wd b.τ+off+n)).toArray) F _ rfl (by rw[h3];exact D0) (fun c hc=>setRow_other w g c _ (hpp c hc))
           refine LP (exec n1) (Xl F kv (db fp k _) _ _ (h.O8 ho k _ _ eG ks _ _ lT (fun bad pZ=>xL) ?_ (fun b' aY=> .inl aY) (jz Ni _) ?_ ?_ (abF Ni _)))
           ·intro b' aY;exact⟨aY,setRow_other w g b' _ (fun e=>(Bn k (by simp) g Ni).1 (e▸aY))⟩
           ·have Gy:(pre++(g::((fl.take (i*U.wd b.τ+off)).flatten++(fl.drop (i*U.wd b.τ+off+gl.length)).flatten))++post).Nodup:=by
             rw[f4,ph] at oi
             exact(List.Sublist.append_right (List.Sublist.append_left (List.Sublist.cons_cons _ oh) _) _).nodup oi
            have hG:(gl.flatten++(pre++(g::((fl.take (i*U.wd b.τ+off)).flatten++(fl.drop (i*U.wd b.τ+off+gl.length)).flatten))++post)).Nodup:=by
             refine pu.2 ⟨gl3,Gy,fun c hc c' ln e=> ?_⟩
             subst e
             refine abX c hc ?_
             rw[f4,ph]
             simp only[kA,jw] at ln⊢
             rcases ln with(ln|ln|ln|ln)|ln
             ·exact .inl (.inl ln)
             ·exact .inl (.inr (.inl ln))
             ·exact .inl (.inr (.inr (oh.subset (by simp[ln]))))
             ·exact .inl (.inr (.inr (oh.subset (oq _ ln))))
             ·exact .inr ln
            rw[Sz]
            refine(List.Perm.nodup_iff ?_).2 hG
            refine List.perm_iff_count.2 fun c=> ?_
            simp only[List.count_append,List.count_cons]
            omega
           ·intro b' aY
            simp only[kA,jw] at aY
            have Nu:b'∈fp k\/b'∈gl.flatten:=by
             rcases aY with(aY|aY|aY)|aY
             ·left;rw[f4];simp[aY]
             ·left;rw[aY];exact Ni
             ·rcases M' b' aY with aY|aY
              ·exact .inr aY
              ·left;rw[f4,ph];simp[aY]
             ·left;rw[f4];simp[aY]
            rcases Nu with aY|aY
            ·exact⟨(Bn k (by simp) b' aY).1,k,by simp,by simp[eG],aY⟩
            ·obtain⟨k',cM,aY⟩:=gl4 b' aY
             exact⟨(Bn k' (by simp[cM]) b' aY).1,k',by simp[cM],t2 k' cM,aY⟩
          ·cases f1
        |false=>
         rw[jU,Hv,List.isEmpty_iff] at c4
         subst c4
         simp only[walk,fJ,nE] at hw
         obtain⟨_,rfl⟩:=hw
         simp only[Zr] at SB
         have hvb:kv k=.slice (some ⟨bb,oo,none⟩) nn cc:=Eq.symm mN
         rcases mM.rows with⟨h3,_⟩|⟨g,cap,cur,vs,fl,h3,h4,h5,h6,h7,h8,h9,ph⟩
         ·rw[h3] at hi;simp at hi
         ·obtain⟨n1,n2,n3⟩:=node (hvb▸h3) h4 h5 h7 h8
          rw[Wg] at SB
          split at SB
          ·rename_i yy Ip
           cases SB
           have Ni:g∈fp k:=by rw[ph];simp
           have uq:∀c,(F c\/c∈fl.flatten\/∃k'∈ks,c∈fp k')->c≠g:=by
            rintro c (hc|hc|⟨k',cM,hc⟩) rfl
            ·exact(Bn k (by simp) c Ni).1 hc
            ·rw[ph] at oi;exact(rv.1 oi).1 hc
            ·exact Ju k' cM c hc Ni
           have W6:=h9.kD (F':=fun c=>F c\/c∈fl.flatten\/∃k'∈ks,c∈fp k') (fun c hc=> .inl hc) (fun c hc=> .inr (.inl hc))
           have Ba:=W6.patch hi Ip hle (us:=(a.eval y).cells.toList) (gl:=List.replicate ds.length []) Zl (by simp) (fun m c hc=>by
            rw[DD];exact(t4 m c hc).fh (fun c hc=>hc.imp id .inr))
           have iA:=Ba.fE (w':=w.setRow g (cur.toList.take (i*U.wd x0.τ+off)++(a.eval y).cells.toList++cur.toList.drop (i*U.wd x0.τ+off+n)).toArray)
            (F':=fun c=>F c\/c∈fl.flatten\/∃k'∈ks,c∈fp k') (fun c hc=>⟨hc,setRow_other w g c _ (uq c hc)⟩) (by rw[Ba.GC];simp)
           have D0:=eu.mj (E:=E) (setRow_heap w g cur _ _ _ h4) (by simpa using h5) h6 n2 (by rw[IW];exact n3) iA
           rw[Ba.GC,IW] at D0
           refine LP (exec n1) (Xl (fun c=>F c\/c∈fl.flatten\/∃k'∈ks,c∈fp k') kv (db fp k _) _ _ (h.O8 ho k _ _ eG ks _ [g] lT (fun bad pZ=>by rw[h3,jU];exact D0) ?_ ?_ (jz Ni _) (by simp) ?_ (abF Ni _)))
           ·intro b' aY;exact⟨.inl aY,setRow_other w g b' _ (uq b' (.inl aY))⟩
           ·rintro c (hc|hc|⟨k',cM,hc⟩)
            ·exact .inl hc
            ·exact .inr ⟨k,by simp,by simp[eG],by rw[ph];simp[hc]⟩
            ·exact .inr ⟨k',by simp[cM],t2 k' cM,hc⟩
           ·intro b' aY
            rw[oa.1 aY]
            exact⟨fun hc=>uq g hc rfl,k,by simp,by simp[eG],Ni⟩
          ·cases SB
      ·cases hr
     ·cases hr
    ·cases hr
  ·cases hr
 ·cases hr
end AM
