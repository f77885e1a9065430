/- THE ABSTRACT MACHINE: stores. -/
import Derived.Test.YtmlhlndkkidhoaaGreatQAmOps7
namespace AM
set_option linter.unusedVariables false
open Go
variable{U:kZ}{E:Env U}{pm:Pm}
variable{F F':Nat->Prop}{kv:Key->Value}{fp:Key->List Nat}{σ:ah U}{a:Act}{w w':World}{bad:Key->Bool}
theorem Rp.sI{w w':World}{F F':Nat->Prop}{c:U.C}{v:Value}{l:List Nat}(h:Rp E w F true c v l)(hl:∀b∈l,w'.heap[b]? =w.heap[b]?):Rp E w' F' true c v l:=by
 generalize hm:true=m at h
 induction h with
 |lit m v h=>subst hm;exact .lit _ v h
 |nil m τ a c h=>subst hm;exact .nil _ τ a c h
 |shr=>cases hm
 |own τ xs b cap cur vs gV hb hc hmx hs hv hr ih=>
  refine .own τ xs b cap cur vs gV ?_ hc hmx hs hv (fun i x j c hx hj=>ih i x j c hx hj (fun b' bf=> ?_) rfl)
  ·rw[hl b (by simp)];exact hb
  ·exact hl b' (cA _ (nT.2 ⟨_,oN.2 (fJ hx hj),bf⟩))
theorem eI.sI{τ:U.Ty}{xs:List (U.T τ)}{vs:List Value}{fl:List (List Nat)}(h:eI E w F true τ xs vs fl)(EC:∀b∈fl.flatten,w'.heap[b]? =w.heap[b]?):eI E w' F' true τ xs vs fl:=by
 refine⟨h.1,h.2.1,fun i x j c hx hj=>(h.2.2 i x j c hx hj).sI (fun b hb=>EC b ?_)⟩
 have gF:i*U.wd τ+j<fl.length:=by rw[h.2.1];exact fJ hx hj
 rw[eY,fo gF] at hb
 exact W5.2 ⟨_,Ed gF,hb⟩
theorem eI.patch{deep:Bool}{τ:U.Ty}{xs:List (U.T τ)}{vs:List Value}{fl:List (List Nat)}(h:eI E w F deep τ xs vs fl){i off:Nat}{y:U.T τ}{ds:List U.C}{us:List Value}{gl:List (List Nat)}
  (hi:i<xs.length) (hd:U.dec τ ((U.enc τ (xs.getD i (U.e_ τ))).take off++ds++(U.enc τ (xs.getD i (U.e_ τ))).drop (off+ds.length))=some y) (hle:off+ds.length<=U.wd τ)
  (hul:us.length=ds.length) (PX:gl.length=ds.length) (GL:∀(n:Nat)(c:U.C),ds[n]? =some c->Rp E w F deep c (us.getD n undef) (gl.getD n [])):
  eI E w F deep τ (xs.set i y) (vs.take (i*U.wd τ+off)++us++vs.drop (i*U.wd τ+off+us.length)) (fl.take (i*U.wd τ+off)++gl++fl.drop (i*U.wd τ+off+gl.length)):=by
 obtain⟨h1,h2,h3⟩:=h
 have hN:i*U.wd τ+U.wd τ<=xs.length*U.wd τ:=by
  have:(i+1)*U.wd τ<=xs.length*U.wd τ:=zy _ hi
  rw[wz,Ol] at this
  exact this
 refine⟨by simp only[kg,oH,J6,Ly];omega,by simp only[kg,oH,J6,Ly];omega,fun n x j c hx hj=> ?_⟩
 have GK:=U.lp τ _ y hd
 have NA:j<U.wd τ:=by
  rw[<-U.dj τ x]
  rcases nV j (U.enc τ x).length with h|h
  ·exact h
  ·rw[nz h] at hj;cases hj
 have adS:∀{α:Type}(l m:List α)(z:α)(k:Nat),m.length=ds.length->i*U.wd τ+off+m.length<=l.length->
   (l.take (i*U.wd τ+off)++m++l.drop (i*U.wd τ+off+m.length)).getD k z=if i*U.wd τ+off<=k/\k<i*U.wd τ+off+m.length then m.getD (k-(i*U.wd τ+off)) z else l.getD k z:=by
  intro α l m z k hm hl
  by_cases yV:k<i*U.wd τ+off
  ·rw[if_neg (by omega),IC (by simp;omega),IC (by simp;omega),eY,oJ,if_pos yV,eY]
  ·by_cases kU:k<i*U.wd τ+off+m.length
   ·rw[if_pos (by omega),IC (by simp;omega),MX (by simp;omega)]
    congr 1;simp;omega
   ·rw[if_neg (by omega),MX (by simp;omega),eY,FV,eY]
    congr 2;simp;omega
 rw[adS vs us undef _ hul (by omega),adS fl gl [] _ PX (by omega)]
 rw[hul,PX]
 by_cases hni:n=i
 ·subst hni
  rw[zdp (by simpa using hi)] at hx
  cases hx
  rw[GK] at hj
  have u6:=e9 (d:=U.e_ τ) hi
  by_cases hj1:j<off
  ·rw[if_neg (by omega),if_neg (by omega)]
   refine h3 n _ j c u6 ?_
   rw[wB,vC (by simp[U.dj];omega),oJ,if_pos hj1] at hj
   exact hj
  ·by_cases hj2:j<off+ds.length
   ·rw[if_pos (by omega),if_pos (by omega)]
    have e:n*U.wd τ+j-(n*U.wd τ+off)=j-off:=by omega
    rw[e]
    refine GL (j-off) c ?_
    have PJ:((U.enc τ (xs.getD n (U.e_ τ))).take off).length=off:=by simp[U.dj];omega
    rw[vC (by simp[U.dj];omega),wC (by omega),PJ] at hj
    exact hj
   ·rw[if_neg (by omega),if_neg (by omega)]
    refine h3 n _ j c u6 ?_
    have PJ:((U.enc τ (xs.getD n (U.e_ τ))).take off++ds).length=off+ds.length:=by simp[U.dj];omega
    rw[wC (by omega),PJ,FV] at hj
    rw[<-hj];congr 1;omega
 ·rw[zek (Ne.symm hni)] at hx
  have adG:¬(i*U.wd τ+off<=n*U.wd τ+j/\n*U.wd τ+j<i*U.wd τ+off+ds.length):=by
   rintro⟨g1,g2⟩
   rcases nV n i with gF|Y4
   ·have:(n+1)*U.wd τ<=i*U.wd τ:=zy _ gF
    rw[wz,Ol] at this
    omega
   ·have:(i+1)*U.wd τ<=n*U.wd τ:=zy _ (by omega)
    rw[wz,Ol] at this
    omega
  rw[if_neg adG,if_neg adG]
  exact h3 n x j c hx hj
theorem ab_(N n:Nat)(h:n<N):List.range N=List.range n++n::(List.range (N-n-1)).map (·+(n+1)):=by
 have h1:N=n+((N-n-1)+1):=by omega
 conv=>lhs;rw[h1,List.range_add]
 congr 1
 rw[List.range_succ_eq_map,uY,List.map_map]
 simp only[H0,zdd,true_and]
 refine Ob fun a _=> ?_
 simp only[Function.comp]
 omega
theorem eW.focus:∀{p:Path}{x b x':iX U}{v:Value}{l:List Nat}{ps:List Prop}{f:iX U->Option (iX U)},eW E w F true x v l->l.Nodup->walk p x=some (ps,b)->(∀q∈ps,q)->chg p x f=some x'->
  ∃vb lb pre post b',f b=some b'/\oE w (fun c=>F c\/c∈l) v p vb/\eW E w F true b vb lb/\l=pre++lb++post/\
   ∀(w':World)(F':Nat->Prop)(Og:List Nat),b'.τ=b.τ->eW E w' F' true b' vb Og->(∀c∈pre++post,w'.heap[c]? =w.heap[c]?)->eW E w' F' true x' v (pre++Og++post):=by
 intro p
 induction p with
 |nil=>
  intro x b x' v l ps f h hn hw hp hc
  simp only[walk,gx,ox] at hw
  obtain⟨_,rfl⟩:=hw
  exact⟨v,l,[],[],x',hc,rfl,h,by simp,fun w' F' Og _ hb _=>by simpa using hb⟩
 |cons s p ih=>
  obtain⟨i,wd,j⟩:=s
  intro x b x' v l ps f h hn hw hp hc
  obtain⟨τ,xs⟩:=x
  simp only[walk] at hw
  cases ui:Nat.beq wd (U.wd τ)<;>simp only[ui,cond_false,cond_true] at hw
  ·cases hw
  ·have PG:wd=U.wd τ:=mM ui
   subst PG
   split at hw
   ·rename_i τ1 ys hx
    split at hw
    ·rename_i IF b0 hw'
     simp only[gx,ox] at hw
     obtain⟨rfl,rfl⟩:=hw
     have hi:i<xs.length:=hp _ (by simp)
     have u6:=e9 (d:=U.e_ τ) hi
     simp only[chg,hx] at hc
     split at hc
     ·rename_i b1 sU
      split at hc
      ·rename_i x1 hx1
       rw[acq hx1] at hc
       cases hc
       rcases h with⟨h0,_⟩|⟨g,cap,cur,vs,gV,h1,h2,h3,h4,h5,h6,h7,h8⟩
       ·simp only at h0;subst h0;simp at hi
       ·simp only at h1 h2 h3 h5 h6 h7 h8
        have gF:=fJ u6 hx
        have p_:=(h7 i _ j _ u6 hx).Gx
        have V1:l=(g::(List.range (i*U.wd τ+j)).flatMap gV)++gV (i*U.wd τ+j)++((List.range (xs.length*U.wd τ-(i*U.wd τ+j)-1)).map (·+(i*U.wd τ+j+1))).flatMap gV:=by
         rw[h8,ab_ _ _ gF,S8,yh]
         simp[wB]
        have V8:(gV (i*U.wd τ+j)).Nodup:=by
         rw[V1] at hn
         exact(qB.1 (qB.1 hn).1).2.1
        obtain⟨vb,lb,pre,post,b',f1,f2,f3,f4,f5⟩:=ih (x:=⟨τ1,ys⟩) p_ V8 hw' (fun q hq=>hp q (by simp[hq])) sU
        have hgc:w.cell? ⟨g,0+(i*U.wd τ+j),none⟩=some (vs (i*U.wd τ+j)):=by
         rw[tY,cell_of_row w g _ cur _ (0,0) h2];exact h6 _ gF
        refine⟨vb,lb,(g::(List.range (i*U.wd τ+j)).flatMap gV)++pre,post++((List.range (xs.length*U.wd τ-(i*U.wd τ+j)-1)).map (·+(i*U.wd τ+j+1))).flatMap gV,b',f1,?_,f3,?_,?_⟩
        ·refine⟨g,0,_,_,vs (i*U.wd τ+j),h1,.inr (by rw[V1];simp),hgc,f2.f_ (fun c hc=>⟨?_,rfl⟩)⟩
         rcases hc with hc|hc
         ·exact .inl hc
         ·exact .inr (by rw[V1];simp[hc])
        ·rw[V1,f4];simp[wB]
        ·intro w' F' Og J' bf iN
         have pM:=f5 w' F' Og J' bf (fun c hc=>iN c (by
          rcases jr.1 hc with hc|hc<;>simp[hc]))
         have GK:=U.lp τ _ x1 hx1
         refine .inr ⟨g,cap,cur,vs,fun n=>if n=i*U.wd τ+j then pre++Og++post else gV n,by simpa using h1,?_,by simpa using h3,h4,h5,by simpa using h6,fun n y m c hy hm=> ?_,?_⟩
         ·rw[iN g (by simp)];exact h2
         ·simp only at hy
          by_cases uk:n=i/\m=j
          ·obtain⟨rfl,rfl⟩:=uk
           rw[zdp (by simpa using hi)] at hy
           cases hy
           rw[GK] at hm
           have hmj:m<(U.enc τ (xs.getD n (U.e_ τ))).length:=by
            rcases nV m (U.enc τ (xs.getD n (U.e_ τ))).length with h|h
            ·exact h
            ·rw[nz h] at hx;cases hx
           rw[zdp hmj] at hm
           cases hm
           simp only[if_true]
           exact pM.Oz
          ·have hold:∃z,xs[n]? =some z/\(U.enc τ z)[m]? =some c:=by
            by_cases hni:n=i
            ·subst hni
             rw[zdp (by simpa using hi)] at hy
             cases hy
             rw[GK,zek (fun e=>uk ⟨rfl,e.symm⟩)] at hm
             exact⟨_,u6,hm⟩
            ·rw[zek (Ne.symm hni)] at hy
             exact⟨y,hy,hm⟩
           obtain⟨z,hz,ul⟩:=hold
           have hmw:m<U.wd τ:=by
            rw[<-U.dj τ z]
            rcases nV m (U.enc τ z).length with h|h
            ·exact h
            ·rw[nz h] at ul;cases ul
           have NA:j<U.wd τ:=by
            rw[<-U.dj τ (xs.getD i (U.e_ τ))]
            rcases nV j (U.enc τ (xs.getD i (U.e_ τ))).length with h|h
            ·exact h
            ·rw[nz h] at hx;cases hx
           have eO:n*U.wd τ+m≠i*U.wd τ+j:=by
            intro e
            have h1:(n*U.wd τ+m)/U.wd τ=n:=by rw[Tl,Nat.mul_add_div (U.kJ τ),zez hmw,H0]
            have h2:(i*U.wd τ+j)/U.wd τ=i:=by rw[Tl,Nat.mul_add_div (U.kJ τ),zez NA,H0]
            have:n=i:=by rw[<-h1,e,h2]
            exact uk ⟨this,by subst this;omega⟩
           show Rp E w' F' true c (vs (n*U.wd τ+m)) (if n*U.wd τ+m=i*U.wd τ+j then pre++Og++post else gV (n*U.wd τ+m))
           rw[if_neg eO]
           have at':=fJ hz ul
           refine(h7 n z m c hz ul).sI (fun c' l4=>iN c' ?_)
           rcases Nat.lt_or_gt_of_ne eO with C4|hgt
           ·simp only[jr,jQ,nT,oN]
            exact .inl (.inl (.inr ⟨_,C4,l4⟩))
           ·simp only[jr,nT,lB,oN]
            refine .inr (.inr ⟨n*U.wd τ+m,⟨n*U.wd τ+m-(i*U.wd τ+j+1),by omega,by omega⟩,l4⟩)
         ·simp only[Ly]
          rw[ab_ _ _ gF,S8,yh,if_pos rfl]
          have e1:(List.range (i*U.wd τ+j)).flatMap (fun n=>if n=i*U.wd τ+j then pre++Og++post else gV n)=(List.range (i*U.wd τ+j)).flatMap gV:=by
           rw[MD,MD]
           congr 1
           refine Ob fun n hn=> ?_
           rw[if_neg (by have:=oN.1 hn;omega)]
          have e2:((List.range (xs.length*U.wd τ-(i*U.wd τ+j)-1)).map (·+(i*U.wd τ+j+1))).flatMap (fun n=>if n=i*U.wd τ+j then pre++Og++post else gV n)=((List.range (xs.length*U.wd τ-(i*U.wd τ+j)-1)).map (·+(i*U.wd τ+j+1))).flatMap gV:=by
           rw[MD,MD]
           congr 1
           refine Ob fun n hn=> ?_
           obtain⟨m,_,rfl⟩:=lB.1 hn
           rw[if_neg (by omega)]
          rw[e1,e2]
          simp[wB]
      ·cases hc
     ·cases hc
    ·cases hw
   ·cases hw
theorem cE.Tt(h:cE E pm F kv fp σ a w){o:Oper}(ho:o.dst=none)(k:Key)(e0 e:iv U)(om:σ.bJ k=some e0)(ks:List Key)(ps:List Prop)(zP:List Nat)(C_:k∉ks)
  (hE:∀bad,(∀k',pD w w' kv kv fp (dl fp k zP) (bW σ) bad k')->sE E w' F' kv (dl fp k zP) bad e (kv k) zP)
  (zW:∀b,F b->F' b/\w'.heap[b]? =w.heap[b]?)
  (Df:∀b,F' b->F b\/∃k'∈k::ks,(σ.bJ k').isSome=true/\b∈fp k')
  (jf:∀k' e,k'≠k->k'∉ks->σ.bJ k'=some e->∀b∈fp k',w'.heap[b]? =w.heap[b]?)
  (pL:zP.Nodup) (Oh:∀b∈zP,¬F' b/\∃k'∈k::ks,(σ.bJ k').isSome=true/\b∈fp k')
  (pE:gN (fun b=>pm.W b\/pm.w0.heap.size<=b) w w'):
  cE E pm F' kv (dl fp k zP) (AM.apply o ⟨none,[],ks,[(k,e)],ps⟩ σ) (a.put o.dst undef) w':=by
 have j_:dG o (⟨none,[],ks,[(k,e)],ps⟩:cd U)=[]:=rfl
 have kF:jE (⟨none,[],ks,[(k,e)],ps⟩:cd U)=[k]:=rfl
 have p9:∀k',pD w w' kv kv fp (dl fp k zP) (bW σ) (bW (AM.apply o ⟨none,[],ks,[(k,e)],ps⟩ σ)) k':=by
  intro k'
  refine⟨rfl,?_⟩
  by_cases hk:k'=k
  ·left
   subst hk
   have:(AM.apply o (⟨none,[],ks,[(k',e)],ps⟩:cd U) σ).aK.any (iJ k')=true:=rE.2 (by simp[AM.apply])
   simp[bW,this]
  ·by_cases YX:k'∈ks
   ·left
    simp[bW,X2 o _ σ k' (by rw[j_];simp) (by rw[kF];simpa using hk) YX]
   ·have hee:=X0 o (⟨none,[],ks,[(k,e)],ps⟩:cd U) σ k' (by rw[j_];simp) (by rw[kF];simpa using hk) YX
    have K7:(AM.apply o (⟨none,[],ks,[(k,e)],ps⟩:cd U) σ).aK.any (iJ k')=σ.aK.any (iJ k'):=by
     rw[H2,rE,rE]
     simp[AM.apply,hk]
    cases hb:bW σ k'
    ·right
     refine⟨rfl,Ag hk,?_⟩
     simp only[bW,Oc] at hb
     obtain⟨e',e8⟩:∃e,σ.bJ k'=some e:=by
      cases hx:σ.bJ k' with
      |none=>rw[hx] at hb;simp at hb
      |some e=>exact⟨e,rfl⟩
     exact jf k' e' hk YX e8
    ·left
     simp only[bW] at hb⊢
     rw[hee,K7];exact hb
 have pM:∀b,(∃k'∈k::ks,(σ.bJ k').isSome=true/\b∈fp k')->(pm.W b\/pm.w0.heap.size<=b)/\b<w.heap.size:=by
  rintro b ⟨k',_,hl,hb⟩
  obtain⟨e',e8⟩:=mI.1 hl
  exact(h.fK k' e' b e8 hb).2
 refine h.apply o _ undef (fun x hx=>by rw[ho] at hx;cases hx) ?_ (fun _ _=>rfl) ?_ ?_ zW ?_ ?_ ?_ ?_ ?_ ?_ (h.upto.trans pE) pE.size
 ·intro x hx;cases hx
 ·intro k' _ hk;rw[kF] at hk;exact Ag (by simpa using hk)
 ·intro k' hk;rw[j_] at hk;simp at hk
 ·intro k' e' _ hk kU he b hb;rw[kF] at hk;exact jf k' e' (by simpa using hk) kU he b hb
 ·rintro k' e' (⟨j,_,hj⟩|hk)
  ·simp at hj
  ·simp only[ma,ox] at hk
   obtain⟨rfl,rfl⟩:=hk
   rw[sP]
   refine⟨hE _ p9,pL,fun b hb=> ?_⟩
   obtain⟨h1,h2⟩:=Oh b hb
   have h3:=pM b h2
   have:=pE.size
   exact⟨h1,h3.1,by omega⟩
 ·intro k' e' b _ hk kU he hb u9
  rw[kF] at hk
  rcases Df b u9 with h1|⟨k2,Da,hl,bf⟩
  ·exact(h.fK k' e' b he hb).1 h1
  ·obtain⟨e2,sS⟩:=mI.1 hl
   exact h.apart k' k2 e' e2 b (fun e=>by subst e;rcases jQ.1 Da with rfl|h;exact hk (by simp);exact kU h) he sS hb bf
 ·intro k1 k' b eO hk cO hb
  rw[j_,kF] at hk cO
  simp only[ma,LA,false_or] at hk cO
  subst hk
  rw[sP] at hb
  rcases cO with rfl|⟨cO,GH⟩
  ·exact absurd rfl eO
  ·rw[Ag (Ne.symm eO)]
   obtain⟨e',e8⟩:=mI.1 GH
   intro bf
   obtain⟨k2,kU,hl,iO⟩:=(Oh b hb).2
   obtain⟨e2,sS⟩:=mI.1 hl
   exact h.apart k2 k' e2 e' b (fun e=>by subst e;rcases jQ.1 kU with rfl|h;exact eO rfl;exact cO h) sS e8 iO bf
 ·intro b hb
  rcases Df b hb with h1|h1
  ·have:=h.sZ b h1;have:=pE.size;omega
  ·have:=(pM b h1).2;have:=pE.size;omega
 ·intro b hb
  rcases Df b hb with h1|h1
  ·exact h.sY b h1
  ·exact .inr (pM b h1).1
theorem TK{P:Program}{t:TypeId}{n g off:Nat}{cur:Array Value}{e:TypeId}{v:Value}(hs:(P.info? t).map (·.size)=some n)(hv:v.cells.size=n)(h1:∀u∈v.cells.toList,u.oneCell'=true)
  (hg:w.heap[g]? =some (.cells cur e (0,0))) (hle:off+n<=cur.size):
  (Instr.storeAt t (.pointer (some ⟨g,off,none⟩)) v).run P w=.ok () (w.setRow g (cur.toList.take off++v.cells.toList++cur.toList.drop (off+n)).toArray):=by
 cases hq:P.info? t with
 |none=>rw[hq] at hs;cases hs
 |some i=>
  rw[hq] at hs
  simp only[Ek,gx] at hs
  have p9:=run_storeCells_at P g off e v.cells.toList 0 cur w hg (by simp;omega) h1
  simp only[H0,El] at p9
  simp[Instr.storeAt,Instr.sureAddr,storeVar,Go.sizeOf,typeInfo,hq,p9,hv]
  omega
theorem ly.gq{xs:List (AC U)}{vs:List Value}(h:ly E w F kv fp bad xs vs):∀v∈vs,v.oneCell'=true:=by
 intro v hv
 obtain⟨n,hn,rfl⟩:=ri hv
 exact(h.2 n (xs[n]'(by rw[h.1];exact hn)) _ (fo _) (fo hn)).1.1
theorem alz(h:cE E pm F kv fp σ a w){o:Oper}(ho:o.dst=none){t:TypeId}{x y:Operand}(rf:o.op=.store t x y){sx:SV U}{yx:AC U}{z:AV U}{n:Nat}{rs:List Key}{r:cd U}
  (hx:RS E w F kv fp (bW σ) sx (a.eval x)) (xc:tT sx=some yx) (hy:RS E w F kv fp (bW σ) (.v z) (a.eval y)) (hs:E.size t=some n) (hn:n=z.cs.length)
  (hr:storeAt (restrict σ.bJ rs) σ.aK z yx=some r) (hp:∀p∈r.pre,p) {next:Act->World->Prop} {Q:Exit->Act->World->Prop}
  (YK:∀F kv fp a' w',cE E pm F kv fp (AM.apply o r σ) a' w'->next a' w'):o.wp E.P a w next Q:=by
 have Az:=kP hx xc
 obtain⟨fg,u5⟩:=M0 hy
 have exec:∀{w1},(Instr.storeAt t (a.eval x) (a.eval y)).run E.P w=.ok () w1->(execOp a.eval o).run E.P w=.ok .skip w1:=by
  intro w1 hr
  unfold execOp;simp only[rf]
  rw[Sem.run_bind,hr];rfl
 unfold storeAt at hr
 split at hr
 ·rename_i k off
  split at hr
  ·rename_i cs he
   have e8:=jS he
   cases hb:Nat.ble (off+z.cs.length) cs.length<;>simp only[hb,cond_false,cond_true] at hr
   ·cases hr
   ·have hle:=H5 hb
    cases hr
    obtain⟨b,h1,h2⟩:=cf Az rfl
    obtain⟨b',cur,e,h3,h4,h5,h6⟩:=h.di k _ e8
    rw[h1] at h3;cases h3
    have iq:cs.length=cur.size:=by simpa using h6.1
    have je:=TK (P:=E.P) (n:=n) (off:=off) (v:=a.eval y) hs (by rw[u5];exact hn.symm) fg.gq h4 (by omega)
    rw[<-h2] at je
    refine OT (exec je) (YK F kv (dl fp k [b]) _ _ (h.Tt ho k _ _ e8 [] [] [b] (by simp) ?_ ?_ ?_ ?_ ?_ ?_ ?_))
    ·intro bad p9
     refine⟨b,_,e,h1,setRow_heap w b cur _ _ _ h4,rfl,?_⟩
     have u9:∀b',F b'->F b'/\(w.setRow b (cur.toList.take off++(a.eval y).cells.toList++cur.toList.drop (off+n)).toArray).heap[b']? =w.heap[b']? :=fun b' bf=>
      ⟨bf,setRow_other w b b' _ (fun e=>(h.fK k _ b e8 (by rw[h5];simp)).1 (e▸bf))⟩
     have:=(((h6.take off).append fg).append (h6.drop (off+n))).move (bad':=bad) (kv':=kv) (fp':=dl fp k [b]) (fun _ _ k' _=>p9 k') u9
     rw[hn] at this⊢
     simpa using this
    ·intro b' bf;exact⟨bf,setRow_other w b b' _ (fun e=>(h.fK k _ b e8 (by rw[h5];simp)).1 (e▸bf))⟩
    ·intro b' bf;exact .inl bf
    ·intro k' e' hk _ sS b' bf
     exact setRow_other w b b' _ (fun e=>h.apart k' k _ _ b' hk sS e8 bf (by rw[h5,e];simp))
    ·simp
    ·intro b' bf
     rw[ma.1 bf]
     exact⟨(h.fK k _ b e8 (by rw[h5];simp)).1,k,by simp,by simp[e8],by rw[h5];simp⟩
    ·exact⟨rfl,rfl,rfl,by simp,fun b' _ I8=>setRow_other w b b' _ (fun e=>I8 (by rw[e];exact(h.fK k _ b e8 (by rw[h5];simp)).2.1))⟩
  ·cases hr
 ·rename_i k p i wd off
  split at hr
  ·rename_i x0 d he
   have e8:=jS he
   cases iq:fL (restrict σ.bJ rs) σ.aK k p<;>simp only[iq,cond_false,cond_true] at hr
   ·cases hr
   ·split at hr
    ·rename_i ps b hw
     split at hr
     ·rename_i qs ds ks d' zT
      split at hr
      ·rename_i x' Wj
       cases mP:(Nat.beq wd (U.wd b.τ)&&Nat.ble (off+ds.length) (U.wd b.τ)&&distinct (k::ks)&&((d&&d')||p.isEmpty))<;>simp only[mP,cond_false,cond_true] at hr
       ·cases hr
       ·cases hr
        simp only[cK] at mP
        obtain⟨⟨⟨c1,c2⟩,c3⟩,c4⟩:=mP
        have ui:=mM c1
        subst ui
        have hle:=H5 c2
        have s7:=tu.1 c3
        have C_:k∉ks:=(sN.1 s7).1
        have hi:i<b.xs.length:=hp _ (by simp)
        have KY:∀q∈ps,q:=fun q hq=>hp q (by simp[hq])
        obtain⟨t1,t2,t3,t4⟩:=KC h zT (fun q hq=>hp q (by simp[hq])) fg (sN.1 s7).2
        obtain⟨bb,oo,nn,cc,nK,hv⟩:=cf Az (Gd iq he)
        have nI:eW E w F d x0 (kv k) (fp k):=h.di k _ e8
        have pL:=h.nodup k _ e8
        have hdl:ds.length=n:=by rw[t1,hn]
        have hcz:(a.eval y).cells.toList.length=ds.length:=by simp[u5,t1]
        have node:∀{g cap:Nat}{cur:Array Value}{vs:List Value},(.slice (some ⟨bb,oo,none⟩) nn cc:Value)=.slice (some ⟨g,0,none⟩) b.xs.length cap->w.heap[g]? =some (.cells cur (E.tid b.τ) (0,0))->b.xs.length<=cap->
          cur.size=cap*U.wd b.τ->cur.toList.take (b.xs.length*U.wd b.τ)=vs->
          (Instr.storeAt t (a.eval x) (a.eval y)).run E.P w=.ok () (w.setRow g (cur.toList.take (i*U.wd b.τ+off)++(a.eval y).cells.toList++cur.toList.drop (i*U.wd b.τ+off+n)).toArray)/\
          (cur.toList.take (i*U.wd b.τ+off)++(a.eval y).cells.toList++cur.toList.drop (i*U.wd b.τ+off+n)).toArray.size=cap*U.wd b.τ/\
          (cur.toList.take (i*U.wd b.τ+off)++(a.eval y).cells.toList++cur.toList.drop (i*U.wd b.τ+off+n)).toArray.toList.take (b.xs.length*U.wd b.τ)=
           vs.take (i*U.wd b.τ+off)++(a.eval y).cells.toList++vs.drop (i*U.wd b.τ+off+(a.eval y).cells.toList.length):=by
         intro g cap cur vs e1 e2 e3 e4 e5
         simp only[Value.slice.injEq,gx,Addr.mk.injEq,and_true] at e1
         obtain⟨⟨rfl,rfl⟩,_,_⟩:=e1
         have hN:i*U.wd b.τ+U.wd b.τ<=b.xs.length*U.wd b.τ:=by
          have:(i+1)*U.wd b.τ<=b.xs.length*U.wd b.τ:=zy _ hi
          rw[wz,Ol] at this
          exact this
         have Dd:b.xs.length*U.wd b.τ<=cap*U.wd b.τ:=zy _ e3
         have je:=TK (P:=E.P) (n:=n) (off:=i*U.wd b.τ+off) (v:=a.eval y) hs (by rw[u5];exact hn.symm) fg.gq e2 (by omega)
         refine⟨by rw[hv,tY];exact je,by simp only[VH,kg,oH,J6,El,u5,<-hn];omega,?_⟩
         subst e5
         refine Oq fun m=> ?_
         rw[oJ]
         by_cases hm:m<b.xs.length*U.wd b.τ
         ·rw[if_pos hm]
          by_cases h1:m<i*U.wd b.τ+off
          ·rw[wB,vC (by simp;omega),wB,vC (by simp;omega),oJ,if_pos h1,oJ,if_pos h1,oJ,if_pos hm]
          ·by_cases h2:m<i*U.wd b.τ+off+n
           ·rw[vC (by simp[u5,<-hn];omega),wC (by simp;omega),vC (by simp[u5,<-hn];omega),wC (by simp;omega)]
            congr 1;simp;omega
           ·rw[wC (by simp[u5,<-hn];omega),wC (by simp[u5,<-hn];omega),FV,FV,oJ,if_pos (by simp[u5,<-hn];omega)]
            congr 1;simp[u5,<-hn];omega
         ·rw[if_neg hm,nz]
          simp only[kg,oH,J6,El,u5,<-hn]
          omega
        have GI:∀b'∈k::ks,(σ.bJ b').isSome=true:=fun k' cO=>by
         rcases jQ.1 cO with rfl|cO
         ·simp[e8]
         ·exact t2 k' cO
        have De:∀k'∈k::ks,∀b'∈fp k',¬F b'/\(pm.W b'\/pm.w0.heap.size<=b'):=fun k' cO b' bf=>by
         obtain⟨e,he⟩:=mI.1 (GI k' cO)
         exact⟨(h.fK k' e b' he bf).1,(h.fK k' e b' he bf).2.1⟩
        have L_:∀k'∈ks,∀b'∈fp k',b'∉fp k:=fun k' cO b' bf sT=>by
         obtain⟨e,he⟩:=mI.1 (t2 k' cO)
         exact h.apart k' k _ _ b' (fun e=>C_ (e▸cO)) he e8 bf sT
        have jU:∀{g:Nat},g∈fp k->∀(cells:Array Value) k' e,k'≠k->k'∉ks->σ.bJ k'=some e->∀b'∈fp k',(w.setRow g cells).heap[b']? =w.heap[b']? :=fun hg cells k' e' hk _ sS b' bf=>
         setRow_other w _ b' _ (fun e=>h.apart k' k _ _ b' hk sS e8 bf (e▸hg))
        have adk:∀{g:Nat},g∈fp k->∀(cells:Array Value),gN (fun b=>pm.W b\/pm.w0.heap.size<=b) w (w.setRow g cells):=fun hg cells=>
         ⟨rfl,rfl,rfl,by simp,fun b' _ I8=>setRow_other w _ b' _ (fun e=>I8 (e▸(De k (by simp) _ hg).2))⟩
        cases kG:(d&&d') with
        |true=>
         simp only[cK] at kG
         obtain⟨rfl,rfl⟩:=kG
         obtain⟨gl,gl1,gl2,gl3,gl4⟩:=t3 rfl
         obtain⟨vb,lb,pre,post,b',f1,f2,f3,f4,f5⟩:=nI.focus pL hw KY Wj
         have hvb:vb=.slice (some ⟨bb,oo,none⟩) nn cc:=f2.unique nK
         rcases f3.rows with⟨h3,_⟩|⟨g,cap,cur,vs,fl,h3,h4,h5,h6,h7,h8,h9,rQ⟩
         ·rw[h3] at hi;simp at hi
         ·obtain⟨n1,n2,n3⟩:=node (hvb▸h3) h4 h5 h7 h8
          rw[XI] at f1
          split at f1
          ·rename_i yy K8
           cases f1
           have C2:=h9.patch hi K8 hle hcz gl1 gl2
           have PY:g∈fp k:=by rw[f4,rQ];simp
           have aob:(g::fl.flatten).Nodup:=by
            rw[f4,rQ] at pL
            exact(qB.1 (qB.1 pL).1).2.1
           have adE:∀b'∈gl.flatten,b'∉fp k:=fun b' bf=>by
            obtain⟨k',cO,bf⟩:=gl4 b' bf
            exact L_ k' cO b' bf
           have pK:((fl.take (i*U.wd b.τ+off)).flatten++(fl.drop (i*U.wd b.τ+off+gl.length)).flatten).Sublist fl.flatten:=by
            have h1:fl.flatten=(fl.take (i*U.wd b.τ+off)).flatten++(fl.drop (i*U.wd b.τ+off)).flatten:=by rw[<-J7,Tr]
            have h2:(fl.drop (i*U.wd b.τ+off)).flatten=((fl.drop (i*U.wd b.τ+off)).take gl.length).flatten++((fl.drop (i*U.wd b.τ+off)).drop gl.length).flatten:=by rw[<-J7,Tr]
            rw[h1,h2,List.drop_drop]
            exact List.Sublist.append_left (zem _ _) _
           have Wf:(fl.take (i*U.wd b.τ+off)++gl++fl.drop (i*U.wd b.τ+off+gl.length)).flatten=(fl.take (i*U.wd b.τ+off)).flatten++gl.flatten++(fl.drop (i*U.wd b.τ+off+gl.length)).flatten:=by
            simp[J7]
           have PR:∀c∈(fl.take (i*U.wd b.τ+off)++gl++fl.drop (i*U.wd b.τ+off+gl.length)).flatten,c∈gl.flatten\/c∈fl.flatten:=by
            intro c hc
            rw[Wf,jr,jr] at hc
            rcases hc with(hc|hc)|hc
            ·exact .inr (pK.subset (by simp[hc]))
            ·exact .inl hc
            ·exact .inr (pK.subset (pS _ hc))
           have aoi:∀c∈(fl.take (i*U.wd b.τ+off)++gl++fl.drop (i*U.wd b.τ+off+gl.length)).flatten,c≠g:=by
            intro c hc e
            rcases PR c hc with hc|hc
            ·exact adE c hc (e▸PY)
            ·exact(sN.1 aob).1 (e▸hc)
           have GB:=eW.nr (E:=E) (w:=w.setRow g (cur.toList.take (i*U.wd b.τ+off)++(a.eval y).cells.toList++cur.toList.drop (i*U.wd b.τ+off+n)).toArray) (F:=F) (setRow_heap w g cur _ _ _ h4) (by simpa using h5) h6 n2
            (by rw[Ly];exact n3) (C2.sI (fun c hc=>setRow_other w g c _ (aoi c hc)))
           rw[Ly] at GB
           have hpp:∀c∈pre++post,c≠g:=by
            intro c hc e
            subst e
            rw[f4,rQ] at pL
            have adt:=qB.1 pL
            have an':=qB.1 adt.1
            rcases jr.1 hc with hc|hc
            ·exact an'.2.2 c hc c (by simp) rfl
            ·exact adt.2.2 c (by simp) c hc rfl
           have zV:=f5 (w.setRow g (cur.toList.take (i*U.wd b.τ+off)++(a.eval y).cells.toList++cur.toList.drop (i*U.wd b.τ+off+n)).toArray) F _ rfl (by rw[h3];exact GB) (fun c hc=>setRow_other w g c _ (hpp c hc))
           refine OT (exec n1) (YK F kv (dl fp k _) _ _ (h.Tt ho k _ _ e8 ks _ _ C_ (fun bad p9=>zV) ?_ (fun b' bf=> .inl bf) (jU PY _) ?_ ?_ (adk PY _)))
           ·intro b' bf;exact⟨bf,setRow_other w g b' _ (fun e=>(De k (by simp) g PY).1 (e▸bf))⟩
           ·have Jj:(pre++(g::((fl.take (i*U.wd b.τ+off)).flatten++(fl.drop (i*U.wd b.τ+off+gl.length)).flatten))++post).Nodup:=by
             rw[f4,rQ] at pL
             exact(List.Sublist.append_right (List.Sublist.append_left (List.Sublist.cons_cons _ pK) _) _).nodup pL
            have hG:(gl.flatten++(pre++(g::((fl.take (i*U.wd b.τ+off)).flatten++(fl.drop (i*U.wd b.τ+off+gl.length)).flatten))++post)).Nodup:=by
             refine qB.2 ⟨gl3,Jj,fun c hc c' l4 e=> ?_⟩
             subst e
             refine adE c hc ?_
             rw[f4,rQ]
             simp only[jr,jQ] at l4⊢
             rcases l4 with(l4|l4|l4|l4)|l4
             ·exact .inl (.inl l4)
             ·exact .inl (.inr (.inl l4))
             ·exact .inl (.inr (.inr (pK.subset (by simp[l4]))))
             ·exact .inl (.inr (.inr (pK.subset (pS _ l4))))
             ·exact .inr l4
            rw[Wf]
            refine(List.Perm.nodup_iff ?_).2 hG
            refine List.perm_iff_count.2 fun c=> ?_
            simp only[List.count_append,List.count_cons]
            omega
           ·intro b' bf
            simp only[jr,jQ] at bf
            have Qa:b'∈fp k\/b'∈gl.flatten:=by
             rcases bf with(bf|bf|bf)|bf
             ·left;rw[f4];simp[bf]
             ·left;rw[bf];exact PY
             ·rcases PR b' bf with bf|bf
              ·exact .inr bf
              ·left;rw[f4,rQ];simp[bf]
             ·left;rw[f4];simp[bf]
            rcases Qa with bf|bf
            ·exact⟨(De k (by simp) b' bf).1,k,by simp,by simp[e8],bf⟩
            ·obtain⟨k',cO,bf⟩:=gl4 b' bf
             exact⟨(De k' (by simp[cO]) b' bf).1,k',by simp[cO],t2 k' cO,bf⟩
          ·cases f1
        |false=>
         rw[kG,FT,List.isEmpty_iff] at c4
         subst c4
         simp only[walk,gx,ox] at hw
         obtain⟨_,rfl⟩:=hw
         simp only[chg] at Wj
         have hvb:kv k=.slice (some ⟨bb,oo,none⟩) nn cc:=Eq.symm nK
         rcases nI.rows with⟨h3,_⟩|⟨g,cap,cur,vs,fl,h3,h4,h5,h6,h7,h8,h9,rQ⟩
         ·rw[h3] at hi;simp at hi
         ·obtain⟨n1,n2,n3⟩:=node (hvb▸h3) h4 h5 h7 h8
          rw[XI] at Wj
          split at Wj
          ·rename_i yy K8
           cases Wj
           have PY:g∈fp k:=by rw[rQ];simp
           have u9:∀c,(F c\/c∈fl.flatten\/∃k'∈ks,c∈fp k')->c≠g:=by
            rintro c (hc|hc|⟨k',cO,hc⟩) rfl
            ·exact(De k (by simp) c PY).1 hc
            ·rw[rQ] at pL;exact(sN.1 pL).1 hc
            ·exact L_ k' cO c hc PY
           have Yy:=h9.k8 (F':=fun c=>F c\/c∈fl.flatten\/∃k'∈ks,c∈fp k') (fun c hc=> .inl hc) (fun c hc=> .inr (.inl hc))
           have C2:=Yy.patch hi K8 hle (us:=(a.eval y).cells.toList) (gl:=List.replicate ds.length []) hcz (by simp) (fun m c hc=>by
            rw[Gb];exact(t4 m c hc).fQ (fun c hc=>hc.imp id .inr))
           have iN:=C2.f_ (w':=w.setRow g (cur.toList.take (i*U.wd x0.τ+off)++(a.eval y).cells.toList++cur.toList.drop (i*U.wd x0.τ+off+n)).toArray)
            (F':=fun c=>F c\/c∈fl.flatten\/∃k'∈ks,c∈fp k') (fun c hc=>⟨hc,setRow_other w g c _ (u9 c hc)⟩) (by rw[C2.Ju];simp)
           have GB:=eW.nr (E:=E) (setRow_heap w g cur _ _ _ h4) (by simpa using h5) h6 n2 (by rw[Ly];exact n3) iN
           rw[C2.Ju,Ly] at GB
           refine OT (exec n1) (YK (fun c=>F c\/c∈fl.flatten\/∃k'∈ks,c∈fp k') kv (dl fp k _) _ _ (h.Tt ho k _ _ e8 ks _ [g] C_ (fun bad p9=>by rw[h3,kG];exact GB) ?_ ?_ (jU PY _) (by simp) ?_ (adk PY _)))
           ·intro b' bf;exact⟨.inl bf,setRow_other w g b' _ (u9 b' (.inl bf))⟩
           ·rintro c (hc|hc|⟨k',cO,hc⟩)
            ·exact .inl hc
            ·exact .inr ⟨k,by simp,by simp[e8],by rw[rQ];simp[hc]⟩
            ·exact .inr ⟨k',by simp[cO],t2 k' cO,hc⟩
           ·intro b' bf
            rw[ma.1 bf]
            exact⟨fun hc=>u9 g hc rfl,k,by simp,by simp[e8],PY⟩
          ·cases Wj
      ·cases hr
     ·cases hr
    ·cases hr
  ·cases hr
 ·cases hr
end AM
