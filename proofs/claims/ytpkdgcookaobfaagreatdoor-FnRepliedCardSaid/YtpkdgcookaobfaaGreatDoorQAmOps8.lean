/- THE ABSTRACT MACHINE: stores. -/
import Derived.Test.YtpkdgcookaobfaaGreatDoorQAmOps7
namespace AM
set_option linter.unusedVariables false
open Go
variable{U:lz}{E:Env U}{pm:Pm}
variable{F F':Nat->Prop}{kv:Key->Value}{fp:Key->List Nat}{σ:ak U}{a:Act}{w w':World}{bad:Key->Bool}
theorem Rp.tV{w w':World}{F F':Nat->Prop}{c:U.C}{v:Value}{l:List Nat}(h:Rp E w F true c v l)(hl:∀b∈l,w'.heap[b]? =w.heap[b]?):Rp E w' F' true c v l:=by
 generalize hm:true=m at h
 induction h with
 |lit m v h=>subst hm;exact .lit _ v h
 |nil m τ a c h=>subst hm;exact .nil _ τ a c h
 |shr=>cases hm
 |own τ xs b cap cur vs hZ hb hc hmx hs hv hr ih=>
  refine .own τ xs b cap cur vs hZ ?_ hc hmx hs hv (fun i x j c hx hj=>ih i x j c hx hj (fun b' bj=> ?_) rfl)
  ·rw[hl b (by simp)];exact hb
  ·exact hl b' (fA _ (oQ.2 ⟨_,pD.2 (fP hx hj),bj⟩))
theorem eW.tV{τ:U.Ty}{xs:List (U.T τ)}{vs:List Value}{fl:List (List Nat)}(h:eW E w F true τ xs vs fl)(Gd:∀b∈fl.flatten,w'.heap[b]? =w.heap[b]?):eW E w' F' true τ xs vs fl:=by
 refine⟨h.1,h.2.1,fun i x j c hx hj=>(h.2.2 i x j c hx hj).tV (fun b hb=>Gd b ?_)⟩
 have gI:i*U.wd τ+j<fl.length:=by rw[h.2.1];exact fP hx hj
 rw[ez,fw gI] at hb
 exact Zf.2 ⟨_,FH gI,hb⟩
theorem eW.patch{deep:Bool}{τ:U.Ty}{xs:List (U.T τ)}{vs:List Value}{fl:List (List Nat)}(h:eW E w F deep τ xs vs fl){i off:Nat}{y:U.T τ}{ds:List U.C}{us:List Value}{gl:List (List Nat)}
  (hi:i<xs.length) (hd:U.dec τ ((U.enc τ (xs.getD i (U.e6 τ))).take off++ds++(U.enc τ (xs.getD i (U.e6 τ))).drop (off+ds.length))=some y) (hle:off+ds.length<=U.wd τ)
  (hul:us.length=ds.length) (Su:gl.length=ds.length) (Im:∀(n:Nat)(c:U.C),ds[n]? =some c->Rp E w F deep c (us.getD n undef) (gl.getD n [])):
  eW E w F deep τ (xs.set i y) (vs.take (i*U.wd τ+off)++us++vs.drop (i*U.wd τ+off+us.length)) (fl.take (i*U.wd τ+off)++gl++fl.drop (i*U.wd τ+off+gl.length)):=by
 obtain⟨h1,h2,h3⟩:=h
 have hN:i*U.wd τ+U.wd τ<=xs.length*U.wd τ:=by
  have:(i+1)*U.wd τ<=xs.length*U.wd τ:=AL _ hi
  rw[xy,QL] at this
  exact this
 refine⟨by simp only[ko,oc,Mf,Me];omega,by simp only[ko,oc,Mf,Me];omega,fun n x j c hx hj=> ?_⟩
 have Il:=U.mT τ _ y hd
 have PY:j<U.wd τ:=by
  rw[<-U.dz τ x]
  rcases pe j (U.enc τ x).length with h|h
  ·exact h
  ·rw[od h] at hj;cases hj
 have aeC:∀{α:Type}(l m:List α)(z:α)(k:Nat),m.length=ds.length->i*U.wd τ+off+m.length<=l.length->
   (l.take (i*U.wd τ+off)++m++l.drop (i*U.wd τ+off+m.length)).getD k z=if i*U.wd τ+off<=k/\k<i*U.wd τ+off+m.length then m.getD (k-(i*U.wd τ+off)) z else l.getD k z:=by
  intro α l m z k hm hl
  by_cases Aa:k<i*U.wd τ+off
  ·rw[if_neg (by omega),KE (by simp;omega),KE (by simp;omega),ez,qn,if_pos Aa,ez]
  ·by_cases lp:k<i*U.wd τ+off+m.length
   ·rw[if_pos (by omega),KE (by simp;omega),Pl (by simp;omega)]
    congr 1;simp;omega
   ·rw[if_neg (by omega),Pl (by simp;omega),ez,HB,ez]
    congr 2;simp;omega
 rw[aeC vs us undef _ hul (by omega),aeC fl gl [] _ Su (by omega)]
 rw[hul,Su]
 by_cases hni:n=i
 ·subst hni
  rw[zdp (by simpa using hi)] at hx
  cases hx
  rw[Il] at hj
  have wl:=fF (d:=U.e6 τ) hi
  by_cases hj1:j<off
  ·rw[if_neg (by omega),if_neg (by omega)]
   refine h3 n _ j c wl ?_
   rw[xz,xA (by simp[U.dz];omega),qn,if_pos hj1] at hj
   exact hj
  ·by_cases hj2:j<off+ds.length
   ·rw[if_pos (by omega),if_pos (by omega)]
    have e:n*U.wd τ+j-(n*U.wd τ+off)=j-off:=by omega
    rw[e]
    refine Im (j-off) c ?_
    have Se:((U.enc τ (xs.getD n (U.e6 τ))).take off).length=off:=by simp[U.dz];omega
    rw[xA (by simp[U.dz];omega),zC (by omega),Se] at hj
    exact hj
   ·rw[if_neg (by omega),if_neg (by omega)]
    refine h3 n _ j c wl ?_
    have Se:((U.enc τ (xs.getD n (U.e6 τ))).take off++ds).length=off+ds.length:=by simp[U.dz];omega
    rw[zC (by omega),Se,HB] at hj
    rw[<-hj];congr 1;omega
 ·rw[zek (Ne.symm hni)] at hx
  have aeq:¬(i*U.wd τ+off<=n*U.wd τ+j/\n*U.wd τ+j<i*U.wd τ+off+ds.length):=by
   rintro⟨g1,g2⟩
   rcases pe n i with gI|hge
   ·have:(n+1)*U.wd τ<=i*U.wd τ:=AL _ gI
    rw[xy,QL] at this
    omega
   ·have:(i+1)*U.wd τ<=n*U.wd τ:=AL _ (by omega)
    rw[xy,QL] at this
    omega
  rw[if_neg aeq,if_neg aeq]
  exact h3 n x j c hx hj
theorem ac2(N n:Nat)(h:n<N):List.range N=List.range n++n::(List.range (N-n-1)).map (·+(n+1)):=by
 have h1:N=n+((N-n-1)+1):=by omega
 conv=>lhs;rw[h1,List.range_add]
 congr 1
 rw[List.range_succ_eq_map,wh,List.map_map]
 simp only[J6,zdd,true_and]
 refine O1 fun a _=> ?_
 simp only[Function.comp]
 omega
theorem e7.focus:∀{p:Path}{x b x':fu U}{v:Value}{l:List Nat}{ps:List Prop}{f:fu U->Option (fu U)},e7 E w F true x v l->l.Nodup->walk p x=some (ps,b)->(∀q∈ps,q)->chg p x f=some x'->
  ∃vb lb pre post b',f b=some b'/\pu w (fun c=>F c\/c∈l) v p vb/\e7 E w F true b vb lb/\l=pre++lb++post/\
   ∀(w':World)(F':Nat->Prop)(QD:List Nat),b'.τ=b.τ->e7 E w' F' true b' vb QD->(∀c∈pre++post,w'.heap[c]? =w.heap[c]?)->e7 E w' F' true x' v (pre++QD++post):=by
 intro p
 induction p with
 |nil=>
  intro x b x' v l ps f h hn hw hp hc
  simp only[walk,gA,pq] at hw
  obtain⟨_,rfl⟩:=hw
  exact⟨v,l,[],[],x',hc,rfl,h,by simp,fun w' F' QD _ hb _=>by simpa using hb⟩
 |cons s p ih=>
  obtain⟨i,wd,j⟩:=s
  intro x b x' v l ps f h hn hw hp hc
  obtain⟨τ,xs⟩:=x
  simp only[walk] at hw
  cases vw:Nat.beq wd (U.wd τ)<;>simp only[vw,cond_false,cond_true] at hw
  ·cases hw
  ·have Sb:wd=U.wd τ:=nk vw
   subst Sb
   split at hw
   ·rename_i τ1 ys hx
    split at hw
    ·rename_i KH b0 hw'
     simp only[gA,pq] at hw
     obtain⟨rfl,rfl⟩:=hw
     have hi:i<xs.length:=hp _ (by simp)
     have wl:=fF (d:=U.e6 τ) hi
     simp only[chg,hx] at hc
     split at hc
     ·rename_i b1 uh
      split at hc
      ·rename_i x1 hx1
       rw[adf hx1] at hc
       cases hc
       rcases h with⟨h0,_⟩|⟨g,cap,cur,vs,hZ,h1,h2,h3,h4,h5,h6,h7,h8⟩
       ·simp only at h0;subst h0;simp at hi
       ·simp only at h1 h2 h3 h5 h6 h7 h8
        have gI:=fP wl hx
        have pi:=(h7 i _ j _ wl hx).H_
        have W5:l=(g::(List.range (i*U.wd τ+j)).flatMap hZ)++hZ (i*U.wd τ+j)++((List.range (xs.length*U.wd τ-(i*U.wd τ+j)-1)).map (·+(i*U.wd τ+j+1))).flatMap hZ:=by
         rw[h8,ac2 _ _ gI,Uh,zB]
         simp[xz]
        have Xb:(hZ (i*U.wd τ+j)).Nodup:=by
         rw[W5] at hn
         exact(rK.1 (rK.1 hn).1).2.1
        obtain⟨vb,lb,pre,post,b',f1,f2,f3,f4,f5⟩:=ih (x:=⟨τ1,ys⟩) pi Xb hw' (fun q hq=>hp q (by simp[hq])) uh
        have hgc:w.cell? ⟨g,0+(i*U.wd τ+j),none⟩=some (vs (i*U.wd τ+j)):=by
         rw[vk,cell_of_row w g _ cur _ (0,0) h2];exact h6 _ gI
        refine⟨vb,lb,(g::(List.range (i*U.wd τ+j)).flatMap hZ)++pre,post++((List.range (xs.length*U.wd τ-(i*U.wd τ+j)-1)).map (·+(i*U.wd τ+j+1))).flatMap hZ,b',f1,?_,f3,?_,?_⟩
        ·refine⟨g,0,_,_,vs (i*U.wd τ+j),h1,.inr (by rw[W5];simp),hgc,f2.gg (fun c hc=>⟨?_,rfl⟩)⟩
         rcases hc with hc|hc
         ·exact .inl hc
         ·exact .inr (by rw[W5];simp[hc])
        ·rw[W5,f4];simp[xz]
        ·intro w' F' QD Mi bj iX
         have qv:=f5 w' F' QD Mi bj (fun c hc=>iX c (by
          rcases jC.1 hc with hc|hc<;>simp[hc]))
         have Il:=U.mT τ _ x1 hx1
         refine .inr ⟨g,cap,cur,vs,fun n=>if n=i*U.wd τ+j then pre++QD++post else hZ n,by simpa using h1,?_,by simpa using h3,h4,h5,by simpa using h6,fun n y m c hy hm=> ?_,?_⟩
         ·rw[iX g (by simp)];exact h2
         ·simp only at hy
          by_cases vy:n=i/\m=j
          ·obtain⟨rfl,rfl⟩:=vy
           rw[zdp (by simpa using hi)] at hy
           cases hy
           rw[Il] at hm
           have hmj:m<(U.enc τ (xs.getD n (U.e6 τ))).length:=by
            rcases pe m (U.enc τ (xs.getD n (U.e6 τ))).length with h|h
            ·exact h
            ·rw[od h] at hx;cases hx
           rw[zdp hmj] at hm
           cases hm
           simp only[if_true]
           exact qv.QX
          ·have hold:∃z,xs[n]? =some z/\(U.enc τ z)[m]? =some c:=by
            by_cases hni:n=i
            ·subst hni
             rw[zdp (by simpa using hi)] at hy
             cases hy
             rw[Il,zek (fun e=>vy ⟨rfl,e.symm⟩)] at hm
             exact⟨_,wl,hm⟩
            ·rw[zek (Ne.symm hni)] at hy
             exact⟨y,hy,hm⟩
           obtain⟨z,hz,vz⟩:=hold
           have hmw:m<U.wd τ:=by
            rw[<-U.dz τ z]
            rcases pe m (U.enc τ z).length with h|h
            ·exact h
            ·rw[od h] at vz;cases vz
           have PY:j<U.wd τ:=by
            rw[<-U.dz τ (xs.getD i (U.e6 τ))]
            rcases pe j (U.enc τ (xs.getD i (U.e6 τ))).length with h|h
            ·exact h
            ·rw[od h] at hx;cases hx
           have eZ:n*U.wd τ+m≠i*U.wd τ+j:=by
            intro e
            have h1:(n*U.wd τ+m)/U.wd τ=n:=by rw[UB,Nat.mul_add_div (U.la τ),zez hmw,J6]
            have h2:(i*U.wd τ+j)/U.wd τ=i:=by rw[UB,Nat.mul_add_div (U.la τ),zez PY,J6]
            have:n=i:=by rw[<-h1,e,h2]
            exact vy ⟨this,by subst this;omega⟩
           show Rp E w' F' true c (vs (n*U.wd τ+m)) (if n*U.wd τ+m=i*U.wd τ+j then pre++QD++post else hZ (n*U.wd τ+m))
           rw[if_neg eZ]
           have ap':=fP hz vz
           refine(h7 n z m c hz vz).tV (fun c' ni=>iX c' ?_)
           rcases Nat.lt_or_gt_of_ne eZ with EL|hgt
           ·simp only[jC,jZ,oQ,pD]
            exact .inl (.inl (.inr ⟨_,EL,ni⟩))
           ·simp only[jC,oQ,mf,pD]
            refine .inr (.inr ⟨n*U.wd τ+m,⟨n*U.wd τ+m-(i*U.wd τ+j+1),by omega,by omega⟩,ni⟩)
         ·simp only[Me]
          rw[ac2 _ _ gI,Uh,zB,if_pos rfl]
          have e1:(List.range (i*U.wd τ+j)).flatMap (fun n=>if n=i*U.wd τ+j then pre++QD++post else hZ n)=(List.range (i*U.wd τ+j)).flatMap hZ:=by
           rw[O0,O0]
           congr 1
           refine O1 fun n hn=> ?_
           rw[if_neg (by have:=pD.1 hn;omega)]
          have e2:((List.range (xs.length*U.wd τ-(i*U.wd τ+j)-1)).map (·+(i*U.wd τ+j+1))).flatMap (fun n=>if n=i*U.wd τ+j then pre++QD++post else hZ n)=((List.range (xs.length*U.wd τ-(i*U.wd τ+j)-1)).map (·+(i*U.wd τ+j+1))).flatMap hZ:=by
           rw[O0,O0]
           congr 1
           refine O1 fun n hn=> ?_
           obtain⟨m,_,rfl⟩:=mf.1 hn
           rw[if_neg (by omega)]
          rw[e1,e2]
          simp[xz]
      ·cases hc
     ·cases hc
    ·cases hw
   ·cases hw
theorem cM.UF(h:cM E pm F kv fp σ a w){o:Oper}(ho:o.dst=none)(k:Key)(e0 e:iN U)(nK:σ.bO k=some e0)(ks:List Key)(ps:List Prop)(A6:List Nat)(EN:k∉ks)
  (hE:∀bad,(∀k',qi w w' kv kv fp (dD fp k A6) (bW σ) bad k')->tP E w' F' kv (dD fp k A6) bad e (kv k) A6)
  (Bf:∀b,F b->F' b/\w'.heap[b]? =w.heap[b]?)
  (ES:∀b,F' b->F b\/∃k'∈k::ks,(σ.bO k').isSome=true/\b∈fp k')
  (jo:∀k' e,k'≠k->k'∉ks->σ.bO k'=some e->∀b∈fp k',w'.heap[b]? =w.heap[b]?)
  (qu:A6.Nodup) (QE:∀b∈A6,¬F' b/\∃k'∈k::ks,(σ.bO k').isSome=true/\b∈fp k')
  (ql:hU (fun b=>pm.W b\/pm.w0.heap.size<=b) w w'):
  cM E pm F' kv (dD fp k A6) (AM.apply o ⟨none,[],ks,[(k,e)],ps⟩ σ) (a.put o.dst undef) w':=by
 have kw:dR o (⟨none,[],ks,[(k,e)],ps⟩:cn U)=[]:=rfl
 have kX:jQ (⟨none,[],ks,[(k,e)],ps⟩:cn U)=[k]:=rfl
 have qR:∀k',qi w w' kv kv fp (dD fp k A6) (bW σ) (bW (AM.apply o ⟨none,[],ks,[(k,e)],ps⟩ σ)) k':=by
  intro k'
  refine⟨rfl,?_⟩
  by_cases hk:k'=k
  ·left
   subst hk
   have:(AM.apply o (⟨none,[],ks,[(k',e)],ps⟩:cn U) σ).aT.any (iR k')=true:=sR.2 (by simp[AM.apply])
   simp[bW,this]
  ·by_cases aa':k'∈ks
   ·left
    simp[bW,aai o _ σ k' (by rw[kw];simp) (by rw[kX];simpa using hk) aa']
   ·have hee:=aag o (⟨none,[],ks,[(k,e)],ps⟩:cn U) σ k' (by rw[kw];simp) (by rw[kX];simpa using hk) aa'
    have Nc:(AM.apply o (⟨none,[],ks,[(k,e)],ps⟩:cn U) σ).aT.any (iR k')=σ.aT.any (iR k'):=by
     rw[FJ,sR,sR]
     simp[AM.apply,hk]
    cases hb:bW σ k'
    ·right
     refine⟨rfl,BC hk,?_⟩
     simp only[bW,QA] at hb
     obtain⟨e',fc⟩:∃e,σ.bO k'=some e:=by
      cases hx:σ.bO k' with
      |none=>rw[hx] at hb;simp at hb
      |some e=>exact⟨e,rfl⟩
     exact jo k' e' hk aa' fc
    ·left
     simp only[bW] at hb⊢
     rw[hee,Nc];exact hb
 have qv:∀b,(∃k'∈k::ks,(σ.bO k').isSome=true/\b∈fp k')->(pm.W b\/pm.w0.heap.size<=b)/\b<w.heap.size:=by
  rintro b ⟨k',_,hl,hb⟩
  obtain⟨e',fc⟩:=nf.1 hl
  exact(h.fQ k' e' b fc hb).2
 refine h.apply o _ undef (fun x hx=>by rw[ho] at hx;cases hx) ?_ (fun _ _=>rfl) ?_ ?_ Bf ?_ ?_ ?_ ?_ ?_ ?_ (h.upto.trans ql) ql.size
 ·intro x hx;cases hx
 ·intro k' _ hk;rw[kX] at hk;exact BC (by simpa using hk)
 ·intro k' hk;rw[kw] at hk;simp at hk
 ·intro k' e' _ hk lp he b hb;rw[kX] at hk;exact jo k' e' (by simpa using hk) lp he b hb
 ·rintro k' e' (⟨j,_,hj⟩|hk)
  ·simp at hj
  ·simp only[mI,pq] at hk
   obtain⟨rfl,rfl⟩:=hk
   rw[t_]
   refine⟨hE _ qR,qu,fun b hb=> ?_⟩
   obtain⟨h1,h2⟩:=QE b hb
   have h3:=qv b h2
   have:=ql.size
   exact⟨h1,h3.1,by omega⟩
 ·intro k' e' b _ hk lp he hb wo
  rw[kX] at hk
  rcases ES b wo with h1|⟨k2,EO,hl,bj⟩
  ·exact(h.fQ k' e' b he hb).1 h1
  ·obtain⟨e2,uf⟩:=nf.1 hl
   exact h.apart k' k2 e' e2 b (fun e=>by subst e;rcases jZ.1 EO with rfl|h;exact hk (by simp);exact lp h) he uf hb bj
 ·intro k1 k' b eZ hk cU hb
  rw[kw,kX] at hk cU
  simp only[mI,NG,false_or] at hk cU
  subst hk
  rw[t_] at hb
  rcases cU with rfl|⟨cU,Ii⟩
  ·exact absurd rfl eZ
  ·rw[BC (Ne.symm eZ)]
   obtain⟨e',fc⟩:=nf.1 Ii
   intro bj
   obtain⟨k2,lp,hl,iM⟩:=(QE b hb).2
   obtain⟨e2,uf⟩:=nf.1 hl
   exact h.apart k2 k' e2 e' b (fun e=>by subst e;rcases jZ.1 lp with rfl|h;exact eZ rfl;exact cU h) uf fc iM bj
 ·intro b hb
  rcases ES b hb with h1|h1
  ·have:=h.uk b h1;have:=ql.size;omega
  ·have:=(qv b h1).2;have:=ql.size;omega
 ·intro b hb
  rcases ES b hb with h1|h1
  ·exact h.uj b h1
  ·exact .inr (qv b h1).1
theorem UT{P:Program}{t:TypeId}{n g off:Nat}{cur:Array Value}{e:TypeId}{v:Value}(hs:(P.info? t).map (·.size)=some n)(hv:v.cells.size=n)(h1:∀u∈v.cells.toList,u.oneCell'=true)
  (hg:w.heap[g]? =some (.cells cur e (0,0))) (hle:off+n<=cur.size):
  (Instr.storeAt t (.pointer (some ⟨g,off,none⟩)) v).run P w=.ok () (w.setRow g (cur.toList.take off++v.cells.toList++cur.toList.drop (off+n)).toArray):=by
 cases hq:P.info? t with
 |none=>rw[hq] at hs;cases hs
 |some i=>
  rw[hq] at hs
  simp only[FT,gA] at hs
  have qR:=run_storeCells_at P g off e v.cells.toList 0 cur w hg (by simp;omega) h1
  simp only[J6,FU] at qR
  simp[Instr.storeAt,Instr.sureAddr,storeVar,Go.sizeOf,typeInfo,hq,qR,hv]
  omega
theorem mc.gv{xs:List (AC U)}{vs:List Value}(h:mc E w F kv fp bad xs vs):∀v∈vs,v.oneCell'=true:=by
 intro v hv
 obtain⟨n,hn,rfl⟩:=sG hv
 exact(h.2 n (xs[n]'(by rw[h.1];exact hn)) _ (fw _) (fw hn)).1.1
theorem akz(h:cM E pm F kv fp σ a w){o:Oper}(ho:o.dst=none){t:TypeId}{x y:Operand}(sF:o.op=.store t x y){sx:SV U}{yx:AC U}{z:AV U}{n:Nat}{rs:List Key}{r:cn U}
  (hx:RS E w F kv fp (bW σ) sx (a.eval x)) (yi:vd sx=some yx) (hy:RS E w F kv fp (bW σ) (.v z) (a.eval y)) (hs:E.size t=some n) (hn:n=z.cs.length)
  (hr:storeAt (restrict σ.bO rs) σ.aT z yx=some r) (hp:∀p∈r.pre,p) {next:Act->World->Prop} {Q:Exit->Act->World->Prop}
  (hnx:∀F kv fp a' w',cM E pm F kv fp (AM.apply o r σ) a' w'->next a' w'):o.wp E.P a w next Q:=by
 have BW:=li hx yi
 obtain⟨gZ,xw⟩:=Pp hy
 have exec:∀{w1},(Instr.storeAt t (a.eval x) (a.eval y)).run E.P w=.ok () w1->(execOp a.eval o).run E.P w=.ok .skip w1:=by
  intro w1 hr
  unfold execOp;simp only[sF]
  rw[Sem.run_bind,hr];rfl
 unfold storeAt at hr
 split at hr
 ·rename_i k off
  split at hr
  ·rename_i cs he
   have fc:=j0 he
   cases hb:Nat.ble (off+z.cs.length) cs.length<;>simp only[hb,cond_false,cond_true] at hr
   ·cases hr
   ·have hle:=J' hb
    cases hr
    obtain⟨b,h1,h2⟩:=cw BW rfl
    obtain⟨b',cur,e,h3,h4,h5,h6⟩:=h.dH k _ fc
    rw[h1] at h3;cases h3
    have iv:cs.length=cur.size:=by simpa using h6.1
    have jn:=UT (P:=E.P) (n:=n) (off:=off) (v:=a.eval y) hs (by rw[xw];exact hn.symm) gZ.gv h4 (by omega)
    rw[<-h2] at jn
    refine Rg (exec jn) (hnx F kv (dD fp k [b]) _ _ (h.UF ho k _ _ fc [] [] [b] (by simp) ?_ ?_ ?_ ?_ ?_ ?_ ?_))
    ·intro bad qR
     refine⟨b,_,e,h1,setRow_heap w b cur _ _ _ h4,rfl,?_⟩
     have wo:∀b',F b'->F b'/\(w.setRow b (cur.toList.take off++(a.eval y).cells.toList++cur.toList.drop (off+n)).toArray).heap[b']? =w.heap[b']? :=fun b' bj=>
      ⟨bj,setRow_other w b b' _ (fun e=>(h.fQ k _ b fc (by rw[h5];simp)).1 (e▸bj))⟩
     have:=(((h6.take off).append gZ).append (h6.drop (off+n))).move (bad':=bad) (kv':=kv) (fp':=dD fp k [b]) (fun _ _ k' _=>qR k') wo
     rw[hn] at this⊢
     simpa using this
    ·intro b' bj;exact⟨bj,setRow_other w b b' _ (fun e=>(h.fQ k _ b fc (by rw[h5];simp)).1 (e▸bj))⟩
    ·intro b' bj;exact .inl bj
    ·intro k' e' hk _ uf b' bj
     exact setRow_other w b b' _ (fun e=>h.apart k' k _ _ b' hk uf fc bj (by rw[h5,e];simp))
    ·simp
    ·intro b' bj
     rw[mI.1 bj]
     exact⟨(h.fQ k _ b fc (by rw[h5];simp)).1,k,by simp,by simp[fc],by rw[h5];simp⟩
    ·exact⟨rfl,rfl,rfl,by simp,fun b' _ K8=>setRow_other w b b' _ (fun e=>K8 (by rw[e];exact(h.fQ k _ b fc (by rw[h5];simp)).2.1))⟩
  ·cases hr
 ·rename_i k p i wd off
  split at hr
  ·rename_i x0 d he
   have fc:=j0 he
   cases iv:fR (restrict σ.bO rs) σ.aT k p<;>simp only[iv,cond_false,cond_true] at hr
   ·cases hr
   ·split at hr
    ·rename_i ps b hw
     split at hr
     ·rename_i qs ds ks d' Ba
      split at hr
      ·rename_i x' Xq
       cases nt:(Nat.beq wd (U.wd b.τ)&&Nat.ble (off+ds.length) (U.wd b.τ)&&distinct (k::ks)&&((d&&d')||p.isEmpty))<;>simp only[nt,cond_false,cond_true] at hr
       ·cases hr
       ·cases hr
        simp only[cJ] at nt
        obtain⟨⟨⟨c1,c2⟩,c3⟩,c4⟩:=nt
        have vw:=nk c1
        subst vw
        have hle:=J' c2
        have uo:=uN.1 c3
        have EN:k∉ks:=(tY.1 uo).1
        have hi:i<b.xs.length:=hp _ (by simp)
        have M9:∀q∈ps,q:=fun q hq=>hp q (by simp[hq])
        obtain⟨t1,t2,t3,t4⟩:=MM h Ba (fun q hq=>hp q (by simp[hq])) gZ (tY.1 uo).2
        obtain⟨bb,oo,nn,cc,ot,hv⟩:=cw BW (HR iv he)
        have om:e7 E w F d x0 (kv k) (fp k):=h.dH k _ fc
        have qu:=h.nodup k _ fc
        have hdl:ds.length=n:=by rw[t1,hn]
        have hcz:(a.eval y).cells.toList.length=ds.length:=by simp[xw,t1]
        have node:∀{g cap:Nat}{cur:Array Value}{vs:List Value},(.slice (some ⟨bb,oo,none⟩) nn cc:Value)=.slice (some ⟨g,0,none⟩) b.xs.length cap->w.heap[g]? =some (.cells cur (E.tid b.τ) (0,0))->b.xs.length<=cap->
          cur.size=cap*U.wd b.τ->cur.toList.take (b.xs.length*U.wd b.τ)=vs->
          (Instr.storeAt t (a.eval x) (a.eval y)).run E.P w=.ok () (w.setRow g (cur.toList.take (i*U.wd b.τ+off)++(a.eval y).cells.toList++cur.toList.drop (i*U.wd b.τ+off+n)).toArray)/\
          (cur.toList.take (i*U.wd b.τ+off)++(a.eval y).cells.toList++cur.toList.drop (i*U.wd b.τ+off+n)).toArray.size=cap*U.wd b.τ/\
          (cur.toList.take (i*U.wd b.τ+off)++(a.eval y).cells.toList++cur.toList.drop (i*U.wd b.τ+off+n)).toArray.toList.take (b.xs.length*U.wd b.τ)=
           vs.take (i*U.wd b.τ+off)++(a.eval y).cells.toList++vs.drop (i*U.wd b.τ+off+(a.eval y).cells.toList.length):=by
         intro g cap cur vs e1 e2 e3 e4 e5
         simp only[Value.slice.injEq,gA,Addr.mk.injEq,and_true] at e1
         obtain⟨⟨rfl,rfl⟩,_,_⟩:=e1
         have hN:i*U.wd b.τ+U.wd b.τ<=b.xs.length*U.wd b.τ:=by
          have:(i+1)*U.wd b.τ<=b.xs.length*U.wd b.τ:=AL _ hi
          rw[xy,QL] at this
          exact this
         have Ac:b.xs.length*U.wd b.τ<=cap*U.wd b.τ:=AL _ e3
         have jn:=UT (P:=E.P) (n:=n) (off:=i*U.wd b.τ+off) (v:=a.eval y) hs (by rw[xw];exact hn.symm) gZ.gv e2 (by omega)
         refine⟨by rw[hv,vk];exact jn,by simp only[UD,ko,oc,Mf,FU,xw,<-hn];omega,?_⟩
         subst e5
         refine Uk fun m=> ?_
         rw[qn]
         by_cases hm:m<b.xs.length*U.wd b.τ
         ·rw[if_pos hm]
          by_cases h1:m<i*U.wd b.τ+off
          ·rw[xz,xA (by simp;omega),xz,xA (by simp;omega),qn,if_pos h1,qn,if_pos h1,qn,if_pos hm]
          ·by_cases h2:m<i*U.wd b.τ+off+n
           ·rw[xA (by simp[xw,<-hn];omega),zC (by simp;omega),xA (by simp[xw,<-hn];omega),zC (by simp;omega)]
            congr 1;simp;omega
           ·rw[zC (by simp[xw,<-hn];omega),zC (by simp[xw,<-hn];omega),HB,HB,qn,if_pos (by simp[xw,<-hn];omega)]
            congr 1;simp[xw,<-hn];omega
         ·rw[if_neg hm,od]
          simp only[ko,oc,Mf,FU,xw,<-hn]
          omega
        have Ij:∀b'∈k::ks,(σ.bO b').isSome=true:=fun k' cU=>by
         rcases jZ.1 cU with rfl|cU
         ·simp[fc]
         ·exact t2 k' cU
        have ER:∀k'∈k::ks,∀b'∈fp k',¬F b'/\(pm.W b'\/pm.w0.heap.size<=b'):=fun k' cU b' bj=>by
         obtain⟨e,he⟩:=nf.1 (Ij k' cU)
         exact⟨(h.fQ k' e b' he bj).1,(h.fQ k' e b' he bj).2.1⟩
        have Oh:∀k'∈ks,∀b'∈fp k',b'∉fp k:=fun k' cU b' bj ug=>by
         obtain⟨e,he⟩:=nf.1 (t2 k' cU)
         exact h.apart k' k _ _ b' (fun e=>EN (e▸cU)) he fc bj ug
        have j7:∀{g:Nat},g∈fp k->∀(cells:Array Value) k' e,k'≠k->k'∉ks->σ.bO k'=some e->∀b'∈fp k',(w.setRow g cells).heap[b']? =w.heap[b']? :=fun hg cells k' e' hk _ uf b' bj=>
         setRow_other w _ b' _ (fun e=>h.apart k' k _ _ b' hk uf fc bj (e▸hg))
        have ad4:∀{g:Nat},g∈fp k->∀(cells:Array Value),hU (fun b=>pm.W b\/pm.w0.heap.size<=b) w (w.setRow g cells):=fun hg cells=>
         ⟨rfl,rfl,rfl,by simp,fun b' _ K8=>setRow_other w _ b' _ (fun e=>K8 (e▸(ER k (by simp) _ hg).2))⟩
        cases kY:(d&&d') with
        |true=>
         simp only[cJ] at kY
         obtain⟨rfl,rfl⟩:=kY
         obtain⟨gl,gl1,gl2,gl3,gl4⟩:=t3 rfl
         obtain⟨vb,lb,pre,post,b',f1,f2,f3,f4,f5⟩:=om.focus qu hw M9 Xq
         have hvb:vb=.slice (some ⟨bb,oo,none⟩) nn cc:=f2.unique ot
         rcases f3.rows with⟨h3,_⟩|⟨g,cap,cur,vs,fl,h3,h4,h5,h6,h7,h8,h9,ta⟩
         ·rw[h3] at hi;simp at hi
         ·obtain⟨n1,n2,n3⟩:=node (hvb▸h3) h4 h5 h7 h8
          rw[Z0] at f1
          split at f1
          ·rename_i yy Nd
           cases f1
           have EJ:=h9.patch hi Nd hle hcz gl1 gl2
           have Sv:g∈fp k:=by rw[f4,ta];simp
           have am_:(g::fl.flatten).Nodup:=by
            rw[f4,ta] at qu
            exact(rK.1 (rK.1 qu).1).2.1
           have aeo:∀b'∈gl.flatten,b'∉fp k:=fun b' bj=>by
            obtain⟨k',cU,bj⟩:=gl4 b' bj
            exact Oh k' cU b' bj
           have qt:((fl.take (i*U.wd b.τ+off)).flatten++(fl.drop (i*U.wd b.τ+off+gl.length)).flatten).Sublist fl.flatten:=by
            have h1:fl.flatten=(fl.take (i*U.wd b.τ+off)).flatten++(fl.drop (i*U.wd b.τ+off)).flatten:=by rw[<-Mg,Ul]
            have h2:(fl.drop (i*U.wd b.τ+off)).flatten=((fl.drop (i*U.wd b.τ+off)).take gl.length).flatten++((fl.drop (i*U.wd b.τ+off)).drop gl.length).flatten:=by rw[<-Mg,Ul]
            rw[h1,h2,List.drop_drop]
            exact List.Sublist.append_left (zem _ _) _
           have Xm:(fl.take (i*U.wd b.τ+off)++gl++fl.drop (i*U.wd b.τ+off+gl.length)).flatten=(fl.take (i*U.wd b.τ+off)).flatten++gl.flatten++(fl.drop (i*U.wd b.τ+off+gl.length)).flatten:=by
            simp[Mg]
           have Sn:∀c∈(fl.take (i*U.wd b.τ+off)++gl++fl.drop (i*U.wd b.τ+off+gl.length)).flatten,c∈gl.flatten\/c∈fl.flatten:=by
            intro c hc
            rw[Xm,jC,jC] at hc
            rcases hc with(hc|hc)|hc
            ·exact .inr (qt.subset (by simp[hc]))
            ·exact .inl hc
            ·exact .inr (qt.subset (rv _ hc))
           have ani:∀c∈(fl.take (i*U.wd b.τ+off)++gl++fl.drop (i*U.wd b.τ+off+gl.length)).flatten,c≠g:=by
            intro c hc e
            rcases Sn c hc with hc|hc
            ·exact aeo c hc (e▸Sv)
            ·exact(tY.1 am_).1 (e▸hc)
           have Ic:=e7.nZ (E:=E) (w:=w.setRow g (cur.toList.take (i*U.wd b.τ+off)++(a.eval y).cells.toList++cur.toList.drop (i*U.wd b.τ+off+n)).toArray) (F:=F) (setRow_heap w g cur _ _ _ h4) (by simpa using h5) h6 n2
            (by rw[Me];exact n3) (EJ.tV (fun c hc=>setRow_other w g c _ (ani c hc)))
           rw[Me] at Ic
           have hpp:∀c∈pre++post,c≠g:=by
            intro c hc e
            subst e
            rw[f4,ta] at qu
            have aec:=rK.1 qu
            have am8:=rK.1 aec.1
            rcases jC.1 hc with hc|hc
            ·exact am8.2.2 c hc c (by simp) rfl
            ·exact aec.2.2 c (by simp) c hc rfl
           have Be:=f5 (w.setRow g (cur.toList.take (i*U.wd b.τ+off)++(a.eval y).cells.toList++cur.toList.drop (i*U.wd b.τ+off+n)).toArray) F _ rfl (by rw[h3];exact Ic) (fun c hc=>setRow_other w g c _ (hpp c hc))
           refine Rg (exec n1) (hnx F kv (dD fp k _) _ _ (h.UF ho k _ _ fc ks _ _ EN (fun bad qR=>Be) ?_ (fun b' bj=> .inl bj) (j7 Sv _) ?_ ?_ (ad4 Sv _)))
           ·intro b' bj;exact⟨bj,setRow_other w g b' _ (fun e=>(ER k (by simp) g Sv).1 (e▸bj))⟩
           ·have Ld:(pre++(g::((fl.take (i*U.wd b.τ+off)).flatten++(fl.drop (i*U.wd b.τ+off+gl.length)).flatten))++post).Nodup:=by
             rw[f4,ta] at qu
             exact(List.Sublist.append_right (List.Sublist.append_left (List.Sublist.cons_cons _ qt) _) _).nodup qu
            have hG:(gl.flatten++(pre++(g::((fl.take (i*U.wd b.τ+off)).flatten++(fl.drop (i*U.wd b.τ+off+gl.length)).flatten))++post)).Nodup:=by
             refine rK.2 ⟨gl3,Ld,fun c hc c' ni e=> ?_⟩
             subst e
             refine aeo c hc ?_
             rw[f4,ta]
             simp only[jC,jZ] at ni⊢
             rcases ni with(ni|ni|ni|ni)|ni
             ·exact .inl (.inl ni)
             ·exact .inl (.inr (.inl ni))
             ·exact .inl (.inr (.inr (qt.subset (by simp[ni]))))
             ·exact .inl (.inr (.inr (qt.subset (rv _ ni))))
             ·exact .inr ni
            rw[Xm]
            refine(List.Perm.nodup_iff ?_).2 hG
            refine List.perm_iff_count.2 fun c=> ?_
            simp only[List.count_append,List.count_cons]
            omega
           ·intro b' bj
            simp only[jC,jZ] at bj
            have SG:b'∈fp k\/b'∈gl.flatten:=by
             rcases bj with(bj|bj|bj)|bj
             ·left;rw[f4];simp[bj]
             ·left;rw[bj];exact Sv
             ·rcases Sn b' bj with bj|bj
              ·exact .inr bj
              ·left;rw[f4,ta];simp[bj]
             ·left;rw[f4];simp[bj]
            rcases SG with bj|bj
            ·exact⟨(ER k (by simp) b' bj).1,k,by simp,by simp[fc],bj⟩
            ·obtain⟨k',cU,bj⟩:=gl4 b' bj
             exact⟨(ER k' (by simp[cU]) b' bj).1,k',by simp[cU],t2 k' cU,bj⟩
          ·cases f1
        |false=>
         rw[kY,Gk,List.isEmpty_iff] at c4
         subst c4
         simp only[walk,gA,pq] at hw
         obtain⟨_,rfl⟩:=hw
         simp only[chg] at Xq
         have hvb:kv k=.slice (some ⟨bb,oo,none⟩) nn cc:=Eq.symm ot
         rcases om.rows with⟨h3,_⟩|⟨g,cap,cur,vs,fl,h3,h4,h5,h6,h7,h8,h9,ta⟩
         ·rw[h3] at hi;simp at hi
         ·obtain⟨n1,n2,n3⟩:=node (hvb▸h3) h4 h5 h7 h8
          rw[Z0] at Xq
          split at Xq
          ·rename_i yy Nd
           cases Xq
           have Sv:g∈fp k:=by rw[ta];simp
           have wo:∀c,(F c\/c∈fl.flatten\/∃k'∈ks,c∈fp k')->c≠g:=by
            rintro c (hc|hc|⟨k',cU,hc⟩) rfl
            ·exact(ER k (by simp) c Sv).1 hc
            ·rw[ta] at qu;exact(tY.1 qu).1 hc
            ·exact Oh k' cU c hc Sv
           have aaH:=h9.lD (F':=fun c=>F c\/c∈fl.flatten\/∃k'∈ks,c∈fp k') (fun c hc=> .inl hc) (fun c hc=> .inr (.inl hc))
           have EJ:=aaH.patch hi Nd hle (us:=(a.eval y).cells.toList) (gl:=List.replicate ds.length []) hcz (by simp) (fun m c hc=>by
            rw[HP];exact(t4 m c hc).fT (fun c hc=>hc.imp id .inr))
           have iX:=EJ.gg (w':=w.setRow g (cur.toList.take (i*U.wd x0.τ+off)++(a.eval y).cells.toList++cur.toList.drop (i*U.wd x0.τ+off+n)).toArray)
            (F':=fun c=>F c\/c∈fl.flatten\/∃k'∈ks,c∈fp k') (fun c hc=>⟨hc,setRow_other w g c _ (wo c hc)⟩) (by rw[EJ.Lp];simp)
           have Ic:=e7.nZ (E:=E) (setRow_heap w g cur _ _ _ h4) (by simpa using h5) h6 n2 (by rw[Me];exact n3) iX
           rw[EJ.Lp,Me] at Ic
           refine Rg (exec n1) (hnx (fun c=>F c\/c∈fl.flatten\/∃k'∈ks,c∈fp k') kv (dD fp k _) _ _ (h.UF ho k _ _ fc ks _ [g] EN (fun bad qR=>by rw[h3,kY];exact Ic) ?_ ?_ (j7 Sv _) (by simp) ?_ (ad4 Sv _)))
           ·intro b' bj;exact⟨.inl bj,setRow_other w g b' _ (wo b' (.inl bj))⟩
           ·rintro c (hc|hc|⟨k',cU,hc⟩)
            ·exact .inl hc
            ·exact .inr ⟨k,by simp,by simp[fc],by rw[ta];simp[hc]⟩
            ·exact .inr ⟨k',by simp[cU],t2 k' cU,hc⟩
           ·intro b' bj
            rw[mI.1 bj]
            exact⟨fun hc=>wo g hc rfl,k,by simp,by simp[fc],Sv⟩
          ·cases Xq
      ·cases hr
     ·cases hr
    ·cases hr
  ·cases hr
 ·cases hr
end AM
