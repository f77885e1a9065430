import Derived.Test.YtmcepppejchhkaaGreatDoorQAmOps7
namespace AM
set_option linter.unusedVariables false
open Go
variable{U:lQ}{E:Env U}{pm:Pm}
variable{F F':Nat->Prop}{kv:Key->Value}{fp:Key->List Nat}{σ:ak U}{a:Act}{w w':World}{bad:Key->Bool}
theorem Rp.um{w w':World}{F F':Nat->Prop}{c:U.C}{v:Value}{l:List Nat}(h:Rp E w F true c v l)(hl:∀b∈l,w'.heap[b]? =w.heap[b]?):Rp E w' F' true c v l:=by
 generalize hm:true=m at h
 induction h with
 |lit m v h=>subst hm;exact .lit _ v h
 |nil m τ a c h=>subst hm;exact .nil _ τ a c h
 |shr=>cases hm
 |own τ xs b cap cur vs ie hb hc hmx hs hv hr ih=>
  refine .own τ xs b cap cur vs ie ?_ hc hmx hs hv (fun i x j c hx hj=>ih i x j c hx hj (fun b' bj=> ?_) rfl)
  ·rw[hl b (by simp)];exact hb
  ·exact hl b' (fF _ (o8.2 ⟨_,pR.2 (fS hx hj),bj⟩))
theorem e9.um{τ:U.Ty}{xs:List (U.T τ)}{vs:List Value}{fl:List (List Nat)}(h:e9 E w F true τ xs vs fl)(Cj:∀b∈fl.flatten,w'.heap[b]? =w.heap[b]?):e9 E w' F' true τ xs vs fl:=by
 refine⟨h.1,h.2.1,fun i x j c hx hj=>(h.2.2 i x j c hx hj).um (fun b hb=>Cj b ?_)⟩
 have gy:i*U.wd τ+j<fl.length:=by rw[h.2.1];exact fS hx hj
 rw[eV,fE gy] at hb
 exact ZC.2 ⟨_,D5 gy,hb⟩
theorem e9.patch{deep:Bool}{τ:U.Ty}{xs:List (U.T τ)}{vs:List Value}{fl:List (List Nat)}(h:e9 E w F deep τ xs vs fl){i off:Nat}{y:U.T τ}{ds:List U.C}{us:List Value}{gl:List (List Nat)}
  (hi:i<xs.length) (hd:U.dec τ ((U.enc τ (xs.getD i (U.ff τ))).take off++ds++(U.enc τ (xs.getD i (U.ff τ))).drop (off+ds.length))=some y) (hle:off+ds.length<=U.wd τ)
  (hul:us.length=ds.length) (SB:gl.length=ds.length) (IA:∀(n:Nat)(c:U.C),ds[n]? =some c->Rp E w F deep c (us.getD n undef) (gl.getD n [])):
  e9 E w F deep τ (xs.set i y) (vs.take (i*U.wd τ+off)++us++vs.drop (i*U.wd τ+off+us.length)) (fl.take (i*U.wd τ+off)++gl++fl.drop (i*U.wd τ+off+gl.length)):=by
 obtain⟨h1,h2,h3⟩:=h
 have hN:i*U.wd τ+U.wd τ<=xs.length*U.wd τ:=by
  have:(i+1)*U.wd τ<=xs.length*U.wd τ:=Be _ hi
  rw[xT,QU] at this
  exact this
 refine⟨by simp only[kF,oq,My,Mx];omega,by simp only[kF,oq,My,Mx];omega,fun n x j c hx hj=> ?_⟩
 have Iz:=U.ni τ _ y hd
 have P_:j<U.wd τ:=by
  rw[<-U.dG τ x]
  rcases pt j (U.enc τ x).length with h|h
  ·exact h
  ·rw[ot h] at hj;cases hj
 have aeW:∀{α:Type}(l m:List α)(z:α)(k:Nat),m.length=ds.length->i*U.wd τ+off+m.length<=l.length->
   (l.take (i*U.wd τ+off)++m++l.drop (i*U.wd τ+off+m.length)).getD k z=if i*U.wd τ+off<=k/\k<i*U.wd τ+off+m.length then m.getD (k-(i*U.wd τ+off)) z else l.getD k z:=by
  intro α l m z k hm hl
  by_cases AB:k<i*U.wd τ+off
  ·rw[if_neg (by omega),K3 (by simp;omega),K3 (by simp;omega),eV,qy,if_pos AB,eV]
  ·by_cases lH:k<i*U.wd τ+off+m.length
   ·rw[if_pos (by omega),K3 (by simp;omega),Pw (by simp;omega)]
    congr 1;simp;omega
   ·rw[if_neg (by omega),Pw (by simp;omega),eV,HR,eV]
    congr 2;simp;omega
 rw[aeW vs us undef _ hul (by omega),aeW fl gl [] _ SB (by omega)]
 rw[hul,SB]
 by_cases hni:n=i
 ·subst hni
  rw[zdp (by simpa using hi)] at hx
  cases hx
  rw[Iz] at hj
  have wM:=fM (d:=U.ff τ) hi
  by_cases hj1:j<off
  ·rw[if_neg (by omega),if_neg (by omega)]
   refine h3 n _ j c wM ?_
   rw[xU,zY (by simp[U.dG];omega),qy,if_pos hj1] at hj
   exact hj
  ·by_cases hj2:j<off+ds.length
   ·rw[if_pos (by omega),if_pos (by omega)]
    have e:n*U.wd τ+j-(n*U.wd τ+off)=j-off:=by omega
    rw[e]
    refine IA (j-off) c ?_
    have Sm:((U.enc τ (xs.getD n (U.ff τ))).take off).length=off:=by simp[U.dG];omega
    rw[zY (by simp[U.dG];omega),z_ (by omega),Sm] at hj
    exact hj
   ·rw[if_neg (by omega),if_neg (by omega)]
    refine h3 n _ j c wM ?_
    have Sm:((U.enc τ (xs.getD n (U.ff τ))).take off++ds).length=off+ds.length:=by simp[U.dG];omega
    rw[z_ (by omega),Sm,HR] at hj
    rw[<-hj];congr 1;omega
 ·rw[zek (Ne.symm hni)] at hx
  have aeK:¬(i*U.wd τ+off<=n*U.wd τ+j/\n*U.wd τ+j<i*U.wd τ+off+ds.length):=by
   rintro⟨g1,g2⟩
   rcases pt n i with gy|hge
   ·have:(n+1)*U.wd τ<=i*U.wd τ:=Be _ gy
    rw[xT,QU] at this
    omega
   ·have:(i+1)*U.wd τ<=n*U.wd τ:=Be _ (by omega)
    rw[xT,QU] at this
    omega
  rw[if_neg aeK,if_neg aeK]
  exact h3 n x j c hx hj
theorem adm(N n:Nat)(h:n<N):List.range N=List.range n++n::(List.range (N-n-1)).map (·+(n+1)):=by
 have h1:N=n+((N-n-1)+1):=by omega
 conv=>lhs;rw[h1,List.range_add]
 congr 1
 rw[List.range_succ_eq_map,wH,List.map_map]
 simp only[Kj,zdd,true_and]
 refine Pb fun a _=> ?_
 simp only[Function.comp]
 omega
theorem fe.focus:∀{p:Path}{x b x':iE U}{v:Value}{l:List Nat}{ps:List Prop}{f:iE U->Option (iE U)},fe E w F true x v l->l.Nodup->walk p x=some (ps,b)->(∀q∈ps,q)->chg p x f=some x'->
  ∃vb lb pre post b',f b=some b'/\pI w (fun c=>F c\/c∈l) v p vb/\fe E w F true b vb lb/\l=pre++lb++post/\
   ∀(w':World)(F':Nat->Prop)(QN:List Nat),b'.τ=b.τ->fe E w' F' true b' vb QN->(∀c∈pre++post,w'.heap[c]? =w.heap[c]?)->fe E w' F' true x' v (pre++QN++post):=by
 intro p
 induction p with
 |nil=>
  intro x b x' v l ps f h hn hw hp hc
  simp only[walk,gI,pE] at hw
  obtain⟨_,rfl⟩:=hw
  exact⟨v,l,[],[],x',hc,rfl,h,by simp,fun w' F' QN _ hb _=>by simpa using hb⟩
 |cons s p ih=>
  obtain⟨i,wd,j⟩:=s
  intro x b x' v l ps f h hn hw hp hc
  obtain⟨τ,xs⟩:=x
  simp only[walk] at hw
  cases vP:Nat.beq wd (U.wd τ)<;>simp only[vP,cond_false,cond_true] at hw
  ·cases hw
  ·have Sj:wd=U.wd τ:=nF vP
   subst Sj
   split at hw
   ·rename_i τ1 ys hx
    split at hw
    ·rename_i K6 b0 hw'
     simp only[gI,pE] at hw
     obtain⟨rfl,rfl⟩:=hw
     have hi:i<xs.length:=hp _ (by simp)
     have wM:=fM (d:=U.ff τ) hi
     simp only[chg,hx] at hc
     split at hc
     ·rename_i b1 uD
      split at hc
      ·rename_i x1 hx1
       rw[adz hx1] at hc
       cases hc
       rcases h with⟨h0,_⟩|⟨g,cap,cur,vs,ie,h1,h2,h3,h4,h5,h6,h7,h8⟩
       ·simp only at h0;subst h0;simp at hi
       ·simp only at h1 h2 h3 h5 h6 h7 h8
        have gy:=fS wM hx
        have px:=(h7 i _ j _ wM hx).Io
        have Xr:l=(g::(List.range (i*U.wd τ+j)).flatMap ie)++ie (i*U.wd τ+j)++((List.range (xs.length*U.wd τ-(i*U.wd τ+j)-1)).map (·+(i*U.wd τ+j+1))).flatMap ie:=by
         rw[h8,adm _ _ gy,Ur,zZ]
         simp[xU]
        have Xy:(ie (i*U.wd τ+j)).Nodup:=by
         rw[Xr] at hn
         exact(rV.1 (rV.1 hn).1).2.1
        obtain⟨vb,lb,pre,post,b',f1,f2,f3,f4,f5⟩:=ih (x:=⟨τ1,ys⟩) px Xy hw' (fun q hq=>hp q (by simp[hq])) uD
        have hgc:w.cell? ⟨g,0+(i*U.wd τ+j),none⟩=some (vs (i*U.wd τ+j)):=by
         rw[vB,cell_of_row w g _ cur _ (0,0) h2];exact h6 _ gy
        refine⟨vb,lb,(g::(List.range (i*U.wd τ+j)).flatMap ie)++pre,post++((List.range (xs.length*U.wd τ-(i*U.wd τ+j)-1)).map (·+(i*U.wd τ+j+1))).flatMap ie,b',f1,?_,f3,?_,?_⟩
        ·refine⟨g,0,_,_,vs (i*U.wd τ+j),h1,.inr (by rw[Xr];simp),hgc,f2.gv (fun c hc=>⟨?_,rfl⟩)⟩
         rcases hc with hc|hc
         ·exact .inl hc
         ·exact .inr (by rw[Xr];simp[hc])
        ·rw[Xr,f4];simp[xU]
        ·intro w' F' QN MB bj jg
         have qG:=f5 w' F' QN MB bj (fun c hc=>jg c (by
          rcases jI.1 hc with hc|hc<;>simp[hc]))
         have Iz:=U.ni τ _ x1 hx1
         refine .inr ⟨g,cap,cur,vs,fun n=>if n=i*U.wd τ+j then pre++QN++post else ie n,by simpa using h1,?_,by simpa using h3,h4,h5,by simpa using h6,fun n y m c hy hm=> ?_,?_⟩
         ·rw[jg g (by simp)];exact h2
         ·simp only at hy
          by_cases vS:n=i/\m=j
          ·obtain⟨rfl,rfl⟩:=vS
           rw[zdp (by simpa using hi)] at hy
           cases hy
           rw[Iz] at hm
           have hmj:m<(U.enc τ (xs.getD n (U.ff τ))).length:=by
            rcases pt m (U.enc τ (xs.getD n (U.ff τ))).length with h|h
            ·exact h
            ·rw[ot h] at hx;cases hx
           rw[zdp hmj] at hm
           cases hm
           simp only[if_true]
           exact qG.Q6
          ·have hold:∃z,xs[n]? =some z/\(U.enc τ z)[m]? =some c:=by
            by_cases hni:n=i
            ·subst hni
             rw[zdp (by simpa using hi)] at hy
             cases hy
             rw[Iz,zek (fun e=>vS ⟨rfl,e.symm⟩)] at hm
             exact⟨_,wM,hm⟩
            ·rw[zek (Ne.symm hni)] at hy
             exact⟨y,hy,hm⟩
           obtain⟨z,hz,vT⟩:=hold
           have hmw:m<U.wd τ:=by
            rw[<-U.dG τ z]
            rcases pt m (U.enc τ z).length with h|h
            ·exact h
            ·rw[ot h] at vT;cases vT
           have P_:j<U.wd τ:=by
            rw[<-U.dG τ (xs.getD i (U.ff τ))]
            rcases pt j (U.enc τ (xs.getD i (U.ff τ))).length with h|h
            ·exact h
            ·rw[ot h] at hx;cases hx
           have fc:n*U.wd τ+m≠i*U.wd τ+j:=by
            intro e
            have h1:(n*U.wd τ+m)/U.wd τ=n:=by rw[UL,Nat.mul_add_div (U.lq τ),zez hmw,Kj]
            have h2:(i*U.wd τ+j)/U.wd τ=i:=by rw[UL,Nat.mul_add_div (U.lq τ),zez P_,Kj]
            have:n=i:=by rw[<-h1,e,h2]
            exact vS ⟨this,by subst this;omega⟩
           show Rp E w' F' true c (vs (n*U.wd τ+m)) (if n*U.wd τ+m=i*U.wd τ+j then pre++QN++post else ie (n*U.wd τ+m))
           rw[if_neg fc]
           have aqC:=fS hz vT
           refine(h7 n z m c hz vT).um (fun c' nC=>jg c' ?_)
           rcases Nat.lt_or_gt_of_ne fc with E8|hgt
           ·simp only[jI,kc,o8,pR]
            exact .inl (.inl (.inr ⟨_,E8,nC⟩))
           ·simp only[jI,o8,mz,pR]
            refine .inr (.inr ⟨n*U.wd τ+m,⟨n*U.wd τ+m-(i*U.wd τ+j+1),by omega,by omega⟩,nC⟩)
         ·simp only[Mx]
          rw[adm _ _ gy,Ur,zZ,if_pos rfl]
          have e1:(List.range (i*U.wd τ+j)).flatMap (fun n=>if n=i*U.wd τ+j then pre++QN++post else ie n)=(List.range (i*U.wd τ+j)).flatMap ie:=by
           rw[Pa,Pa]
           congr 1
           refine Pb fun n hn=> ?_
           rw[if_neg (by have:=pR.1 hn;omega)]
          have e2:((List.range (xs.length*U.wd τ-(i*U.wd τ+j)-1)).map (·+(i*U.wd τ+j+1))).flatMap (fun n=>if n=i*U.wd τ+j then pre++QN++post else ie n)=((List.range (xs.length*U.wd τ-(i*U.wd τ+j)-1)).map (·+(i*U.wd τ+j+1))).flatMap ie:=by
           rw[Pa,Pa]
           congr 1
           refine Pb fun n hn=> ?_
           obtain⟨m,_,rfl⟩:=mz.1 hn
           rw[if_neg (by omega)]
          rw[e1,e2]
          simp[xU]
      ·cases hc
     ·cases hc
    ·cases hw
   ·cases hw
theorem cR.UP(h:cR E pm F kv fp σ a w){o:Oper}(ho:o.dst=none)(k:Key)(e0 e:iX U)(nX:σ.bP k=some e0)(ks:List Key)(ps:List Prop)(Bq:List Nat)(E_:k∉ks)
  (hE:∀bad,(∀k',qv w w' kv kv fp (dJ fp k Bq) (bY σ) bad k')->ug E w' F' kv (dJ fp k Bq) bad e (kv k) Bq)
  (BC:∀b,F b->F' b/\w'.heap[b]? =w.heap[b]?)
  (Fg:∀b,F' b->F b\/∃k'∈k::ks,(σ.bP k').isSome=true/\b∈fp k')
  (jA:∀k' e,k'≠k->k'∉ks->σ.bP k'=some e->∀b∈fp k',w'.heap[b]? =w.heap[b]?)
  (qE:Bq.Nodup) (QO:∀b∈Bq,¬F' b/\∃k'∈k::ks,(σ.bP k').isSome=true/\b∈fp k')
  (qw:ic (fun b=>pm.W b\/pm.w0.heap.size<=b) w w'):
  cR E pm F' kv (dJ fp k Bq) (AM.apply o ⟨none,[],ks,[(k,e)],ps⟩ σ) (a.put o.dst undef) w':=by
 have kN:dZ o (⟨none,[],ks,[(k,e)],ps⟩:cq U)=[]:=rfl
 have ll:jW (⟨none,[],ks,[(k,e)],ps⟩:cq U)=[k]:=rfl
 have rh:∀k',qv w w' kv kv fp (dJ fp k Bq) (bY σ) (bY (AM.apply o ⟨none,[],ks,[(k,e)],ps⟩ σ)) k':=by
  intro k'
  refine⟨rfl,?_⟩
  by_cases hk:k'=k
  ·left
   subst hk
   have:(AM.apply o (⟨none,[],ks,[(k',e)],ps⟩:cq U) σ).aS.any (iZ k')=true:=tf.2 (by simp[AM.apply])
   simp[bY,this]
  ·by_cases abr:k'∈ks
   ·left
    simp[bY,aaC o _ σ k' (by rw[kN];simp) (by rw[ll];simpa using hk) abr]
   ·have hee:=aaA o (⟨none,[],ks,[(k,e)],ps⟩:cq U) σ k' (by rw[kN];simp) (by rw[ll];simpa using hk) abr
    have Nu:(AM.apply o (⟨none,[],ks,[(k,e)],ps⟩:cq U) σ).aS.any (iZ k')=σ.aS.any (iZ k'):=by
     rw[Gd,tf,tf]
     simp[AM.apply,hk]
    cases hb:bY σ k'
    ·right
     refine⟨rfl,BV hk,?_⟩
     simp only[bY,QK] at hb
     obtain⟨e',fi⟩:∃e,σ.bP k'=some e:=by
      cases hx:σ.bP k' with
      |none=>rw[hx] at hb;simp at hb
      |some e=>exact⟨e,rfl⟩
     exact jA k' e' hk abr fi
    ·left
     simp only[bY] at hb⊢
     rw[hee,Nu];exact hb
 have qG:∀b,(∃k'∈k::ks,(σ.bP k').isSome=true/\b∈fp k')->(pm.W b\/pm.w0.heap.size<=b)/\b<w.heap.size:=by
  rintro b ⟨k',_,hl,hb⟩
  obtain⟨e',fi⟩:=nA.1 hl
  exact(h.fT k' e' b fi hb).2
 refine h.apply o _ undef (fun x hx=>by rw[ho] at hx;cases hx) ?_ (fun _ _=>rfl) ?_ ?_ BC ?_ ?_ ?_ ?_ ?_ ?_ (h.upto.trans qw) qw.size
 ·intro x hx;cases hx
 ·intro k' _ hk;rw[ll] at hk;exact BV (by simpa using hk)
 ·intro k' hk;rw[kN] at hk;simp at hk
 ·intro k' e' _ hk lH he b hb;rw[ll] at hk;exact jA k' e' (by simpa using hk) lH he b hb
 ·rintro k' e' (⟨j,_,hj⟩|hk)
  ·simp at hj
  ·simp only[mW,pE] at hk
   obtain⟨rfl,rfl⟩:=hk
   rw[uw]
   refine⟨hE _ rh,qE,fun b hb=> ?_⟩
   obtain⟨h1,h2⟩:=QO b hb
   have h3:=qG b h2
   have:=qw.size
   exact⟨h1,h3.1,by omega⟩
 ·intro k' e' b _ hk lH he hb wO
  rw[ll] at hk
  rcases Fg b wO with h1|⟨k2,Fa,hl,bj⟩
  ·exact(h.fT k' e' b he hb).1 h1
  ·obtain⟨e2,uB⟩:=nA.1 hl
   exact h.apart k' k2 e' e2 b (fun e=>by subst e;rcases kc.1 Fa with rfl|h;exact hk (by simp);exact lH h) he uB hb bj
 ·intro k1 k' b fc hk cY hb
  rw[kN,ll] at hk cY
  simp only[mW,NV,false_or] at hk cY
  subst hk
  rw[uw] at hb
  rcases cY with rfl|⟨cY,Iw⟩
  ·exact absurd rfl fc
  ·rw[BV (Ne.symm fc)]
   obtain⟨e',fi⟩:=nA.1 Iw
   intro bj
   obtain⟨k2,lH,hl,iW⟩:=(QO b hb).2
   obtain⟨e2,uB⟩:=nA.1 hl
   exact h.apart k2 k' e2 e' b (fun e=>by subst e;rcases kc.1 lH with rfl|h;exact fc rfl;exact cY h) uB fi iW bj
 ·intro b hb
  rcases Fg b hb with h1|h1
  ·have:=h.uI b h1;have:=qw.size;omega
  ·have:=(qG b h1).2;have:=qw.size;omega
 ·intro b hb
  rcases Fg b hb with h1|h1
  ·exact h.uH b h1
  ·exact .inr (qG b h1).1
theorem U5{P:Program}{t:TypeId}{n g off:Nat}{cur:Array Value}{e:TypeId}{v:Value}(hs:(P.info? t).map (·.size)=some n)(hv:v.cells.size=n)(h1:∀u∈v.cells.toList,u.oneCell'=true)
  (hg:w.heap[g]? =some (.cells cur e (0,0))) (hle:off+n<=cur.size):
  (Instr.storeAt t (.pointer (some ⟨g,off,none⟩)) v).run P w=.ok () (w.setRow g (cur.toList.take off++v.cells.toList++cur.toList.drop (off+n)).toArray):=by
 cases hq:P.info? t with
 |none=>rw[hq] at hs;cases hs
 |some i=>
  rw[hq] at hs
  simp only[Gj,gI] at hs
  have rh:=run_storeCells_at P g off e v.cells.toList 0 cur w hg (by simp;omega) h1
  simp only[Kj,Gk] at rh
  simp[Instr.storeAt,Instr.sureAddr,storeVar,Go.sizeOf,typeInfo,hq,rh,hv]
  omega
theorem mw.gF{xs:List (AC U)}{vs:List Value}(h:mw E w F kv fp bad xs vs):∀v∈vs,v.oneCell'=true:=by
 intro v hv
 obtain⟨n,hn,rfl⟩:=sT hv
 exact(h.2 n (xs[n]'(by rw[h.1];exact hn)) _ (fE _) (fE hn)).1.1
theorem ak0(h:cR E pm F kv fp σ a w){o:Oper}(ho:o.dst=none){t:TypeId}{x y:Operand}(sR:o.op=.store t x y){sx:SV U}{yx:AC U}{z:AV U}{n:Nat}{rs:List Key}{r:cq U}
  (hx:RS E w F kv fp (bY σ) sx (a.eval x)) (yO:vx sx=some yx) (hy:RS E w F kv fp (bY σ) (.v z) (a.eval y)) (hs:E.size t=some n) (hn:n=z.cs.length)
  (hr:storeAt (restrict σ.bP rs) σ.aS z yx=some r) (hp:∀p∈r.pre,p) {next:Act->World->Prop} {Q:Exit->Act->World->Prop}
  (hnx:∀F kv fp a' w',cR E pm F kv fp (AM.apply o r σ) a' w'->next a' w'):o.wp E.P a w next Q:=by
 have Cf:=lD hx yO
 obtain⟨hH,uo⟩:=Pz hy
 have exec:∀{w1},(Instr.storeAt t (a.eval x) (a.eval y)).run E.P w=.ok () w1->(execOp a.eval o).run E.P w=.ok .skip w1:=by
  intro w1 hr
  unfold execOp;simp only[sR]
  rw[Sem.run_bind,hr];rfl
 unfold storeAt at hr
 split at hr
 ·rename_i k off
  split at hr
  ·rename_i cs he
   have fi:=kf he
   cases hb:Nat.ble (off+z.cs.length) cs.length<;>simp only[hb,cond_false,cond_true] at hr
   ·cases hr
   ·have hle:=Kp hb
    cases hr
    obtain⟨b,h1,h2⟩:=cx Cf rfl
    obtain⟨b',cur,e,h3,h4,h5,h6⟩:=h.dD k _ fi
    rw[h1] at h3;cases h3
    have ix:cs.length=cur.size:=by simpa using h6.1
    have jz:=U5 (P:=E.P) (n:=n) (off:=off) (v:=a.eval y) hs (by rw[uo];exact hn.symm) hH.gF h4 (by omega)
    rw[<-h2] at jz
    refine Rq (exec jz) (hnx F kv (dJ fp k [b]) _ _ (h.UP ho k _ _ fi [] [] [b] (by simp) ?_ ?_ ?_ ?_ ?_ ?_ ?_))
    ·intro bad rh
     refine⟨b,_,e,h1,setRow_heap w b cur _ _ _ h4,rfl,?_⟩
     have wO:∀b',F b'->F b'/\(w.setRow b (cur.toList.take off++(a.eval y).cells.toList++cur.toList.drop (off+n)).toArray).heap[b']? =w.heap[b']? :=fun b' bj=>
      ⟨bj,setRow_other w b b' _ (fun e=>(h.fT k _ b fi (by rw[h5];simp)).1 (e▸bj))⟩
     have:=(((h6.take off).append hH).append (h6.drop (off+n))).move (bad':=bad) (kv':=kv) (fp':=dJ fp k [b]) (fun _ _ k' _=>rh k') wO
     rw[hn] at this⊢
     simpa using this
    ·intro b' bj;exact⟨bj,setRow_other w b b' _ (fun e=>(h.fT k _ b fi (by rw[h5];simp)).1 (e▸bj))⟩
    ·intro b' bj;exact .inl bj
    ·intro k' e' hk _ uB b' bj
     exact setRow_other w b b' _ (fun e=>h.apart k' k _ _ b' hk uB fi bj (by rw[h5,e];simp))
    ·simp
    ·intro b' bj
     rw[mW.1 bj]
     exact⟨(h.fT k _ b fi (by rw[h5];simp)).1,k,by simp,by simp[fi],by rw[h5];simp⟩
    ·exact⟨rfl,rfl,rfl,by simp,fun b' _ Lu=>setRow_other w b b' _ (fun e=>Lu (by rw[e];exact(h.fT k _ b fi (by rw[h5];simp)).2.1))⟩
  ·cases hr
 ·rename_i k p i wd off
  split at hr
  ·rename_i x0 d he
   have fi:=kf he
   cases ix:fU (restrict σ.bP rs) σ.aS k p<;>simp only[ix,cond_false,cond_true] at hr
   ·cases hr
   ·split at hr
    ·rename_i ps b hw
     split at hr
     ·rename_i qs ds ks d' Bx
      split at hr
      ·rename_i x' XM
       cases nJ:(Nat.beq wd (U.wd b.τ)&&Nat.ble (off+ds.length) (U.wd b.τ)&&distinct (k::ks)&&((d&&d')||p.isEmpty))<;>simp only[nJ,cond_false,cond_true] at hr
       ·cases hr
       ·cases hr
        simp only[cN] at nJ
        obtain⟨⟨⟨c1,c2⟩,c3⟩,c4⟩:=nJ
        have vP:=nF c1
        subst vP
        have hle:=Kp c2
        have uL:=va.1 c3
        have E_:k∉ks:=(ur.1 uL).1
        have hi:i<b.xs.length:=hp _ (by simp)
        have Nn:∀q∈ps,q:=fun q hq=>hp q (by simp[hq])
        obtain⟨t1,t2,t3,t4⟩:=M2 h Bx (fun q hq=>hp q (by simp[hq])) hH (ur.1 uL).2
        obtain⟨bb,oo,nn,cc,oE,hv⟩:=cx Cf (H5 ix he)
        have oB:fe E w F d x0 (kv k) (fp k):=h.dD k _ fi
        have qE:=h.nodup k _ fi
        have hdl:ds.length=n:=by rw[t1,hn]
        have hcz:(a.eval y).cells.toList.length=ds.length:=by simp[uo,t1]
        have node:∀{g cap:Nat}{cur:Array Value}{vs:List Value},(.slice (some ⟨bb,oo,none⟩) nn cc:Value)=.slice (some ⟨g,0,none⟩) b.xs.length cap->w.heap[g]? =some (.cells cur (E.tid b.τ) (0,0))->b.xs.length<=cap->
          cur.size=cap*U.wd b.τ->cur.toList.take (b.xs.length*U.wd b.τ)=vs->
          (Instr.storeAt t (a.eval x) (a.eval y)).run E.P w=.ok () (w.setRow g (cur.toList.take (i*U.wd b.τ+off)++(a.eval y).cells.toList++cur.toList.drop (i*U.wd b.τ+off+n)).toArray)/\
          (cur.toList.take (i*U.wd b.τ+off)++(a.eval y).cells.toList++cur.toList.drop (i*U.wd b.τ+off+n)).toArray.size=cap*U.wd b.τ/\
          (cur.toList.take (i*U.wd b.τ+off)++(a.eval y).cells.toList++cur.toList.drop (i*U.wd b.τ+off+n)).toArray.toList.take (b.xs.length*U.wd b.τ)=
           vs.take (i*U.wd b.τ+off)++(a.eval y).cells.toList++vs.drop (i*U.wd b.τ+off+(a.eval y).cells.toList.length):=by
         intro g cap cur vs e1 e2 e3 e4 e5
         simp only[Value.slice.injEq,gI,Addr.mk.injEq,and_true] at e1
         obtain⟨⟨rfl,rfl⟩,_,_⟩:=e1
         have hN:i*U.wd b.τ+U.wd b.τ<=b.xs.length*U.wd b.τ:=by
          have:(i+1)*U.wd b.τ<=b.xs.length*U.wd b.τ:=Be _ hi
          rw[xT,QU] at this
          exact this
         have AE:b.xs.length*U.wd b.τ<=cap*U.wd b.τ:=Be _ e3
         have jz:=U5 (P:=E.P) (n:=n) (off:=i*U.wd b.τ+off) (v:=a.eval y) hs (by rw[uo];exact hn.symm) hH.gF e2 (by omega)
         refine⟨by rw[hv,vB];exact jz,by simp only[UN,kF,oq,My,Gk,uo,<-hn];omega,?_⟩
         subst e5
         refine Uu fun m=> ?_
         rw[qy]
         by_cases hm:m<b.xs.length*U.wd b.τ
         ·rw[if_pos hm]
          by_cases h1:m<i*U.wd b.τ+off
          ·rw[xU,zY (by simp;omega),xU,zY (by simp;omega),qy,if_pos h1,qy,if_pos h1,qy,if_pos hm]
          ·by_cases h2:m<i*U.wd b.τ+off+n
           ·rw[zY (by simp[uo,<-hn];omega),z_ (by simp;omega),zY (by simp[uo,<-hn];omega),z_ (by simp;omega)]
            congr 1;simp;omega
           ·rw[z_ (by simp[uo,<-hn];omega),z_ (by simp[uo,<-hn];omega),HR,HR,qy,if_pos (by simp[uo,<-hn];omega)]
            congr 1;simp[uo,<-hn];omega
         ·rw[if_neg hm,ot]
          simp only[kF,oq,My,Gk,uo,<-hn]
          omega
        have Ix:∀b'∈k::ks,(σ.bP b').isSome=true:=fun k' cY=>by
         rcases kc.1 cY with rfl|cY
         ·simp[fi]
         ·exact t2 k' cY
        have Ff:∀k'∈k::ks,∀b'∈fp k',¬F b'/\(pm.W b'\/pm.w0.heap.size<=b'):=fun k' cY b' bj=>by
         obtain⟨e,he⟩:=nA.1 (Ix k' cY)
         exact⟨(h.fT k' e b' he bj).1,(h.fT k' e b' he bj).2.1⟩
        have Ov:∀k'∈ks,∀b'∈fp k',b'∉fp k:=fun k' cY b' bj uC=>by
         obtain⟨e,he⟩:=nA.1 (t2 k' cY)
         exact h.apart k' k _ _ b' (fun e=>E_ (e▸cY)) he fi bj uC
        have kk:∀{g:Nat},g∈fp k->∀(cells:Array Value) k' e,k'≠k->k'∉ks->σ.bP k'=some e->∀b'∈fp k',(w.setRow g cells).heap[b']? =w.heap[b']? :=fun hg cells k' e' hk _ uB b' bj=>
         setRow_other w _ b' _ (fun e=>h.apart k' k _ _ b' hk uB fi bj (e▸hg))
        have aem:∀{g:Nat},g∈fp k->∀(cells:Array Value),ic (fun b=>pm.W b\/pm.w0.heap.size<=b) w (w.setRow g cells):=fun hg cells=>
         ⟨rfl,rfl,rfl,by simp,fun b' _ Lu=>setRow_other w _ b' _ (fun e=>Lu (e▸(Ff k (by simp) _ hg).2))⟩
        cases kM:(d&&d') with
        |true=>
         simp only[cN] at kM
         obtain⟨rfl,rfl⟩:=kM
         obtain⟨gl,gl1,gl2,gl3,gl4⟩:=t3 rfl
         obtain⟨vb,lb,pre,post,b',f1,f2,f3,f4,f5⟩:=oB.focus qE hw Nn XM
         have hvb:vb=.slice (some ⟨bb,oo,none⟩) nn cc:=f2.unique oE
         rcases f3.rows with⟨h3,_⟩|⟨g,cap,cur,vs,fl,h3,h4,h5,h6,h7,h8,h9,tC⟩
         ·rw[h3] at hi;simp at hi
         ·obtain⟨n1,n2,n3⟩:=node (hvb▸h3) h4 h5 h7 h8
          rw[aai] at f1
          split at f1
          ·rename_i yy Nv
           cases f1
           have E6:=h9.patch hi Nv hle hcz gl1 gl2
           have SC:g∈fp k:=by rw[f4,tC];simp
           have anF:(g::fl.flatten).Nodup:=by
            rw[f4,tC] at qE
            exact(rV.1 (rV.1 qE).1).2.1
           have aeI:∀b'∈gl.flatten,b'∉fp k:=fun b' bj=>by
            obtain⟨k',cY,bj⟩:=gl4 b' bj
            exact Ov k' cY b' bj
           have qD:((fl.take (i*U.wd b.τ+off)).flatten++(fl.drop (i*U.wd b.τ+off+gl.length)).flatten).Sublist fl.flatten:=by
            have h1:fl.flatten=(fl.take (i*U.wd b.τ+off)).flatten++(fl.drop (i*U.wd b.τ+off)).flatten:=by rw[<-Mz,Uv]
            have h2:(fl.drop (i*U.wd b.τ+off)).flatten=((fl.drop (i*U.wd b.τ+off)).take gl.length).flatten++((fl.drop (i*U.wd b.τ+off)).drop gl.length).flatten:=by rw[<-Mz,Uv]
            rw[h1,h2,List.drop_drop]
            exact List.Sublist.append_left (zem _ _) _
           have XJ:(fl.take (i*U.wd b.τ+off)++gl++fl.drop (i*U.wd b.τ+off+gl.length)).flatten=(fl.take (i*U.wd b.τ+off)).flatten++gl.flatten++(fl.drop (i*U.wd b.τ+off+gl.length)).flatten:=by
            simp[Mz]
           have Sv:∀c∈(fl.take (i*U.wd b.τ+off)++gl++fl.drop (i*U.wd b.τ+off+gl.length)).flatten,c∈gl.flatten\/c∈fl.flatten:=by
            intro c hc
            rw[XJ,jI,jI] at hc
            rcases hc with(hc|hc)|hc
            ·exact .inr (qD.subset (by simp[hc]))
            ·exact .inl hc
            ·exact .inr (qD.subset (qM _ hc))
           have anP:∀c∈(fl.take (i*U.wd b.τ+off)++gl++fl.drop (i*U.wd b.τ+off+gl.length)).flatten,c≠g:=by
            intro c hc e
            rcases Sv c hc with hc|hc
            ·exact aeI c hc (e▸SC)
            ·exact(ur.1 anF).1 (e▸hc)
           have Ir:=fe.og (E:=E) (w:=w.setRow g (cur.toList.take (i*U.wd b.τ+off)++(a.eval y).cells.toList++cur.toList.drop (i*U.wd b.τ+off+n)).toArray) (F:=F) (setRow_heap w g cur _ _ _ h4) (by simpa using h5) h6 n2
            (by rw[Mx];exact n3) (E6.um (fun c hc=>setRow_other w g c _ (anP c hc)))
           rw[Mx] at Ir
           have hpp:∀c∈pre++post,c≠g:=by
            intro c hc e
            subst e
            rw[f4,tC] at qE
            have aev:=rV.1 qE
            have anB:=rV.1 aev.1
            rcases jI.1 hc with hc|hc
            ·exact anB.2.2 c hc c (by simp) rfl
            ·exact aev.2.2 c (by simp) c hc rfl
           have BB:=f5 (w.setRow g (cur.toList.take (i*U.wd b.τ+off)++(a.eval y).cells.toList++cur.toList.drop (i*U.wd b.τ+off+n)).toArray) F _ rfl (by rw[h3];exact Ir) (fun c hc=>setRow_other w g c _ (hpp c hc))
           refine Rq (exec n1) (hnx F kv (dJ fp k _) _ _ (h.UP ho k _ _ fi ks _ _ E_ (fun bad rh=>BB) ?_ (fun b' bj=> .inl bj) (kk SC _) ?_ ?_ (aem SC _)))
           ·intro b' bj;exact⟨bj,setRow_other w g b' _ (fun e=>(Ff k (by simp) g SC).1 (e▸bj))⟩
           ·have Lz:(pre++(g::((fl.take (i*U.wd b.τ+off)).flatten++(fl.drop (i*U.wd b.τ+off+gl.length)).flatten))++post).Nodup:=by
             rw[f4,tC] at qE
             exact(List.Sublist.append_right (List.Sublist.append_left (List.Sublist.cons_cons _ qD) _) _).nodup qE
            have hG:(gl.flatten++(pre++(g::((fl.take (i*U.wd b.τ+off)).flatten++(fl.drop (i*U.wd b.τ+off+gl.length)).flatten))++post)).Nodup:=by
             refine rV.2 ⟨gl3,Lz,fun c hc c' nC e=> ?_⟩
             subst e
             refine aeI c hc ?_
             rw[f4,tC]
             simp only[jI,kc] at nC⊢
             rcases nC with(nC|nC|nC|nC)|nC
             ·exact .inl (.inl nC)
             ·exact .inl (.inr (.inl nC))
             ·exact .inl (.inr (.inr (qD.subset (by simp[nC]))))
             ·exact .inl (.inr (.inr (qD.subset (qM _ nC))))
             ·exact .inr nC
            rw[XJ]
            refine(List.Perm.nodup_iff ?_).2 hG
            refine List.perm_iff_count.2 fun c=> ?_
            simp only[List.count_append,List.count_cons]
            omega
           ·intro b' bj
            simp only[jI,kc] at bj
            have SN:b'∈fp k\/b'∈gl.flatten:=by
             rcases bj with(bj|bj|bj)|bj
             ·left;rw[f4];simp[bj]
             ·left;rw[bj];exact SC
             ·rcases Sv b' bj with bj|bj
              ·exact .inr bj
              ·left;rw[f4,tC];simp[bj]
             ·left;rw[f4];simp[bj]
            rcases SN with bj|bj
            ·exact⟨(Ff k (by simp) b' bj).1,k,by simp,by simp[fi],bj⟩
            ·obtain⟨k',cY,bj⟩:=gl4 b' bj
             exact⟨(Ff k' (by simp[cY]) b' bj).1,k',by simp[cY],t2 k' cY,bj⟩
          ·cases f1
        |false=>
         rw[kM,GJ,List.isEmpty_iff] at c4
         subst c4
         simp only[walk,gI,pE] at hw
         obtain⟨_,rfl⟩:=hw
         simp only[chg] at XM
         have hvb:kv k=.slice (some ⟨bb,oo,none⟩) nn cc:=Eq.symm oE
         rcases oB.rows with⟨h3,_⟩|⟨g,cap,cur,vs,fl,h3,h4,h5,h6,h7,h8,h9,tC⟩
         ·rw[h3] at hi;simp at hi
         ·obtain⟨n1,n2,n3⟩:=node (hvb▸h3) h4 h5 h7 h8
          rw[aai] at XM
          split at XM
          ·rename_i yy Nv
           cases XM
           have SC:g∈fp k:=by rw[tC];simp
           have wO:∀c,(F c\/c∈fl.flatten\/∃k'∈ks,c∈fp k')->c≠g:=by
            rintro c (hc|hc|⟨k',cY,hc⟩) rfl
            ·exact(Ff k (by simp) c SC).1 hc
            ·rw[tC] at qE;exact(ur.1 qE).1 hc
            ·exact Ov k' cY c hc SC
           have aa0:=h9.lT (F':=fun c=>F c\/c∈fl.flatten\/∃k'∈ks,c∈fp k') (fun c hc=> .inl hc) (fun c hc=> .inr (.inl hc))
           have E6:=aa0.patch hi Nv hle (us:=(a.eval y).cells.toList) (gl:=List.replicate ds.length []) hcz (by simp) (fun m c hc=>by
            rw[H3];exact(t4 m c hc).fW (fun c hc=>hc.imp id .inr))
           have jg:=E6.gv (w':=w.setRow g (cur.toList.take (i*U.wd x0.τ+off)++(a.eval y).cells.toList++cur.toList.drop (i*U.wd x0.τ+off+n)).toArray)
            (F':=fun c=>F c\/c∈fl.flatten\/∃k'∈ks,c∈fp k') (fun c hc=>⟨hc,setRow_other w g c _ (wO c hc)⟩) (by rw[E6.LL];simp)
           have Ir:=fe.og (E:=E) (setRow_heap w g cur _ _ _ h4) (by simpa using h5) h6 n2 (by rw[Mx];exact n3) jg
           rw[E6.LL,Mx] at Ir
           refine Rq (exec n1) (hnx (fun c=>F c\/c∈fl.flatten\/∃k'∈ks,c∈fp k') kv (dJ fp k _) _ _ (h.UP ho k _ _ fi ks _ [g] E_ (fun bad rh=>by rw[h3,kM];exact Ir) ?_ ?_ (kk SC _) (by simp) ?_ (aem SC _)))
           ·intro b' bj;exact⟨.inl bj,setRow_other w g b' _ (wO b' (.inl bj))⟩
           ·rintro c (hc|hc|⟨k',cY,hc⟩)
            ·exact .inl hc
            ·exact .inr ⟨k,by simp,by simp[fi],by rw[tC];simp[hc]⟩
            ·exact .inr ⟨k',by simp[cY],t2 k' cY,hc⟩
           ·intro b' bj
            rw[mW.1 bj]
            exact⟨fun hc=>wO g hc rfl,k,by simp,by simp[fi],SC⟩
          ·cases XM
      ·cases hr
     ·cases hr
    ·cases hr
  ·cases hr
 ·cases hr
end AM
