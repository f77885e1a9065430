/- THE ABSTRACT MACHINE: stores. -/
import Derived.Test.YtjlajhgabffmpaaGreatQAmOps7
namespace AM
set_option linter.unusedVariables false
open Go
variable{U:lu}{E:Env U}{pm:Pm}
variable{F F':Nat->Prop}{kv:Key->Value}{fp:Key->List Nat}{σ:ai U}{a:Act}{w w':World}{bad:Key->Bool}
theorem Rp.tO{w w':World}{F F':Nat->Prop}{c:U.C}{v:Value}{l:List Nat}(h:Rp E w F true c v l)(hl:∀b∈l,w'.heap[b]? =w.heap[b]?):Rp E w' F' true c v l:=by
 generalize hm:true=m at h
 induction h with
 |lit m v h=>subst hm;exact .lit _ v h
 |nil m τ a c h=>subst hm;exact .nil _ τ a c h
 |shr=>cases hm
 |own τ xs b cap cur vs ic hb hc hmx hs hv hr ih=>
  refine .own τ xs b cap cur vs ic ?_ hc hmx hs hv (fun i x j c hx hj=>ih i x j c hx hj (fun b' bg=> ?_) rfl)
  ·rw[hl b (by simp)];exact hb
  ·exact hl b' (cI _ (ow.2 ⟨_,pq.2 (fU hx hj),bg⟩))
theorem e9.tO{τ:U.Ty}{xs:List (U.T τ)}{vs:List Value}{fl:List (List Nat)}(h:e9 E w F true τ xs vs fl)(Gd:∀b∈fl.flatten,w'.heap[b]? =w.heap[b]?):e9 E w' F' true τ xs vs fl:=by
 refine⟨h.1,h.2.1,fun i x j c hx hj=>(h.2.2 i x j c hx hj).tO (fun b hb=>Gd b ?_)⟩
 have gZ:i*U.wd τ+j<fl.length:=by rw[h.2.1];exact fU hx hj
 rw[eX,fH gZ] at hb
 exact Y0.2 ⟨_,FJ gZ,hb⟩
theorem e9.patch{deep:Bool}{τ:U.Ty}{xs:List (U.T τ)}{vs:List Value}{fl:List (List Nat)}(h:e9 E w F deep τ xs vs fl){i off:Nat}{y:U.T τ}{ds:List U.C}{us:List Value}{gl:List (List Nat)}
  (hi:i<xs.length) (hd:U.dec τ ((U.enc τ (xs.getD i (U.fq τ))).take off++ds++(U.enc τ (xs.getD i (U.fq τ))).drop (off+ds.length))=some y) (hle:off+ds.length<=U.wd τ)
  (hul:us.length=ds.length) (Sw:gl.length=ds.length) (Ie:∀(n:Nat)(c:U.C),ds[n]? =some c->Rp E w F deep c (us.getD n undef) (gl.getD n [])):
  e9 E w F deep τ (xs.set i y) (vs.take (i*U.wd τ+off)++us++vs.drop (i*U.wd τ+off+us.length)) (fl.take (i*U.wd τ+off)++gl++fl.drop (i*U.wd τ+off+gl.length)):=by
 obtain⟨h1,h2,h3⟩:=h
 have hN:i*U.wd τ+U.wd τ<=xs.length*U.wd τ:=by
  have:(i+1)*U.wd τ<=xs.length*U.wd τ:=AI _ hi
  rw[xv,QU] at this
  exact this
 refine⟨by simp only[kI,oz,Me,Md];omega,by simp only[kI,oz,Me,Md];omega,fun n x j c hx hj=> ?_⟩
 have Ic:=U.mQ τ _ y hd
 have P9:j<U.wd τ:=by
  rw[<-U.dK τ x]
  rcases pa j (U.enc τ x).length with h|h
  ·exact h
  ·rw[ox h] at hj;cases hj
 have ad9:∀{α:Type}(l m:List α)(z:α)(k:Nat),m.length=ds.length->i*U.wd τ+off+m.length<=l.length->
   (l.take (i*U.wd τ+off)++m++l.drop (i*U.wd τ+off+m.length)).getD k z=if i*U.wd τ+off<=k/\k<i*U.wd τ+off+m.length then m.getD (k-(i*U.wd τ+off)) z else l.getD k z:=by
  intro α l m z k hm hl
  by_cases z0:k<i*U.wd τ+off
  ·rw[if_neg (by omega),Kw (by simp;omega),Kw (by simp;omega),eX,qa,if_pos z0,eX]
  ·by_cases lm:k<i*U.wd τ+off+m.length
   ·rw[if_pos (by omega),Kw (by simp;omega),Pq (by simp;omega)]
    congr 1;simp;omega
   ·rw[if_neg (by omega),Pq (by simp;omega),eX,Hu,eX]
    congr 2;simp;omega
 rw[ad9 vs us undef _ hul (by omega),ad9 fl gl [] _ Sw (by omega)]
 rw[hul,Sw]
 by_cases hni:n=i
 ·subst hni
  rw[zdp (by simpa using hi)] at hx
  cases hx
  rw[Ic] at hj
  have wg:=fM (d:=U.fq τ) hi
  by_cases hj1:j<off
  ·rw[if_neg (by omega),if_neg (by omega)]
   refine h3 n _ j c wg ?_
   rw[xw,xx (by simp[U.dK];omega),qa,if_pos hj1] at hj
   exact hj
  ·by_cases hj2:j<off+ds.length
   ·rw[if_pos (by omega),if_pos (by omega)]
    have e:n*U.wd τ+j-(n*U.wd τ+off)=j-off:=by omega
    rw[e]
    refine Ie (j-off) c ?_
    have Sj:((U.enc τ (xs.getD n (U.fq τ))).take off).length=off:=by simp[U.dK];omega
    rw[xx (by simp[U.dK];omega),zu (by omega),Sj] at hj
    exact hj
   ·rw[if_neg (by omega),if_neg (by omega)]
    refine h3 n _ j c wg ?_
    have Sj:((U.enc τ (xs.getD n (U.fq τ))).take off++ds).length=off+ds.length:=by simp[U.dK];omega
    rw[zu (by omega),Sj,Hu] at hj
    rw[<-hj];congr 1;omega
 ·rw[zek (Ne.symm hni)] at hx
  have adX:¬(i*U.wd τ+off<=n*U.wd τ+j/\n*U.wd τ+j<i*U.wd τ+off+ds.length):=by
   rintro⟨g1,g2⟩
   rcases pa n i with gZ|hge
   ·have:(n+1)*U.wd τ<=i*U.wd τ:=AI _ gZ
    rw[xv,QU] at this
    omega
   ·have:(i+1)*U.wd τ<=n*U.wd τ:=AI _ (by omega)
    rw[xv,QU] at this
    omega
  rw[if_neg adX,if_neg adX]
  exact h3 n x j c hx hj
theorem acy(N n:Nat)(h:n<N):List.range N=List.range n++n::(List.range (N-n-1)).map (·+(n+1)):=by
 have h1:N=n+((N-n-1)+1):=by omega
 conv=>lhs;rw[h1,List.range_add]
 congr 1
 rw[List.range_succ_eq_map,wb,List.map_map]
 simp only[JV,zdd,true_and]
 refine QK fun a _=> ?_
 simp only[Function.comp]
 omega
theorem fi.focus:∀{p:Path}{x b x':jh U}{v:Value}{l:List Nat}{ps:List Prop}{f:jh U->Option (jh U)},fi E w F true x v l->l.Nodup->walk p x=some (ps,b)->(∀q∈ps,q)->chg p x f=some x'->
  ∃vb lb pre post b',f b=some b'/\pe w (fun c=>F c\/c∈l) v p vb/\fi E w F true b vb lb/\l=pre++lb++post/\
   ∀(w':World)(F':Nat->Prop)(QO:List Nat),b'.τ=b.τ->fi E w' F' true b' vb QO->(∀c∈pre++post,w'.heap[c]? =w.heap[c]?)->fi E w' F' true x' v (pre++QO++post):=by
 intro p
 induction p with
 |nil=>
  intro x b x' v l ps f h hn hw hp hc
  simp only[walk,gJ,pb] at hw
  obtain⟨_,rfl⟩:=hw
  exact⟨v,l,[],[],x',hc,rfl,h,by simp,fun w' F' QO _ hb _=>by simpa using hb⟩
 |cons s p ih=>
  obtain⟨i,wd,j⟩:=s
  intro x b x' v l ps f h hn hw hp hc
  obtain⟨τ,xs⟩:=x
  simp only[walk] at hw
  cases vt:Nat.beq wd (U.wd τ)<;>simp only[vt,cond_false,cond_true] at hw
  ·cases hw
  ·have Sg:wd=U.wd τ:=nc vt
   subst Sg
   split at hw
   ·rename_i τ1 ys hx
    split at hw
    ·rename_i Kz b0 hw'
     simp only[gJ,pb] at hw
     obtain⟨rfl,rfl⟩:=hw
     have hi:i<xs.length:=hp _ (by simp)
     have wg:=fM (d:=U.fq τ) hi
     simp only[chg,hx] at hc
     split at hc
     ·rename_i b1 tZ
      split at hc
      ·rename_i x1 hx1
       rw[acO hx1] at hc
       cases hc
       rcases h with⟨h0,_⟩|⟨g,cap,cur,vs,ic,h1,h2,h3,h4,h5,h6,h7,h8⟩
       ·simp only at h0;subst h0;simp at hi
       ·simp only at h1 h2 h3 h5 h6 h7 h8
        have gZ:=fU wg hx
        have qE:=(h7 i _ j _ wg hx).H2
        have WZ:l=(g::(List.range (i*U.wd τ+j)).flatMap ic)++ic (i*U.wd τ+j)++((List.range (xs.length*U.wd τ-(i*U.wd τ+j)-1)).map (·+(i*U.wd τ+j+1))).flatMap ic:=by
         rw[h8,acy _ _ gZ,Ui,zt]
         simp[xw]
        have W6:(ic (i*U.wd τ+j)).Nodup:=by
         rw[WZ] at hn
         exact(rz.1 (rz.1 hn).1).2.1
        obtain⟨vb,lb,pre,post,b',f1,f2,f3,f4,f5⟩:=ih (x:=⟨τ1,ys⟩) qE W6 hw' (fun q hq=>hp q (by simp[hq])) tZ
        have hgc:w.cell? ⟨g,0+(i*U.wd τ+j),none⟩=some (vs (i*U.wd τ+j)):=by
         rw[vf,cell_of_row w g _ cur _ (0,0) h2];exact h6 _ gZ
        refine⟨vb,lb,(g::(List.range (i*U.wd τ+j)).flatMap ic)++pre,post++((List.range (xs.length*U.wd τ-(i*U.wd τ+j)-1)).map (·+(i*U.wd τ+j+1))).flatMap ic,b',f1,?_,f3,?_,?_⟩
        ·refine⟨g,0,_,_,vs (i*U.wd τ+j),h1,.inr (by rw[WZ];simp),hgc,f2.gx (fun c hc=>⟨?_,rfl⟩)⟩
         rcases hc with hc|hc
         ·exact .inl hc
         ·exact .inr (by rw[WZ];simp[hc])
        ·rw[WZ,f4];simp[xw]
        ·intro w' F' QO Mi bg jf
         have qg:=f5 w' F' QO Mi bg (fun c hc=>jf c (by
          rcases jO.1 hc with hc|hc<;>simp[hc]))
         have Ic:=U.mQ τ _ x1 hx1
         refine .inr ⟨g,cap,cur,vs,fun n=>if n=i*U.wd τ+j then pre++QO++post else ic n,by simpa using h1,?_,by simpa using h3,h4,h5,by simpa using h6,fun n y m c hy hm=> ?_,?_⟩
         ·rw[jf g (by simp)];exact h2
         ·simp only at hy
          by_cases vv:n=i/\m=j
          ·obtain⟨rfl,rfl⟩:=vv
           rw[zdp (by simpa using hi)] at hy
           cases hy
           rw[Ic] at hm
           have hmj:m<(U.enc τ (xs.getD n (U.fq τ))).length:=by
            rcases pa m (U.enc τ (xs.getD n (U.fq τ))).length with h|h
            ·exact h
            ·rw[ox h] at hx;cases hx
           rw[zdp hmj] at hm
           cases hm
           simp only[if_true]
           exact qg.Q5
          ·have hold:∃z,xs[n]? =some z/\(U.enc τ z)[m]? =some c:=by
            by_cases hni:n=i
            ·subst hni
             rw[zdp (by simpa using hi)] at hy
             cases hy
             rw[Ic,zek (fun e=>vv ⟨rfl,e.symm⟩)] at hm
             exact⟨_,wg,hm⟩
            ·rw[zek (Ne.symm hni)] at hy
             exact⟨y,hy,hm⟩
           obtain⟨z,hz,vw⟩:=hold
           have hmw:m<U.wd τ:=by
            rw[<-U.dK τ z]
            rcases pa m (U.enc τ z).length with h|h
            ·exact h
            ·rw[ox h] at vw;cases vw
           have P9:j<U.wd τ:=by
            rw[<-U.dK τ (xs.getD i (U.fq τ))]
            rcases pa j (U.enc τ (xs.getD i (U.fq τ))).length with h|h
            ·exact h
            ·rw[ox h] at hx;cases hx
           have fg:n*U.wd τ+m≠i*U.wd τ+j:=by
            intro e
            have h1:(n*U.wd τ+m)/U.wd τ=n:=by rw[Uy,Nat.mul_add_div (U.la τ),zez hmw,JV]
            have h2:(i*U.wd τ+j)/U.wd τ=i:=by rw[Uy,Nat.mul_add_div (U.la τ),zez P9,JV]
            have:n=i:=by rw[<-h1,e,h2]
            exact vv ⟨this,by subst this;omega⟩
           show Rp E w' F' true c (vs (n*U.wd τ+m)) (if n*U.wd τ+m=i*U.wd τ+j then pre++QO++post else ic (n*U.wd τ+m))
           rw[if_neg fg]
           have app:=fU hz vw
           refine(h7 n z m c hz vw).tO (fun c' m_=>jf c' ?_)
           rcases Nat.lt_or_gt_of_ne fg with EB|hgt
           ·simp only[jO,kf,ow,pq]
            exact .inl (.inl (.inr ⟨_,EB,m_⟩))
           ·simp only[jO,ow,l_,pq]
            refine .inr (.inr ⟨n*U.wd τ+m,⟨n*U.wd τ+m-(i*U.wd τ+j+1),by omega,by omega⟩,m_⟩)
         ·simp only[Md]
          rw[acy _ _ gZ,Ui,zt,if_pos rfl]
          have e1:(List.range (i*U.wd τ+j)).flatMap (fun n=>if n=i*U.wd τ+j then pre++QO++post else ic n)=(List.range (i*U.wd τ+j)).flatMap ic:=by
           rw[O6,O6]
           congr 1
           refine QK fun n hn=> ?_
           rw[if_neg (by have:=pq.1 hn;omega)]
          have e2:((List.range (xs.length*U.wd τ-(i*U.wd τ+j)-1)).map (·+(i*U.wd τ+j+1))).flatMap (fun n=>if n=i*U.wd τ+j then pre++QO++post else ic n)=((List.range (xs.length*U.wd τ-(i*U.wd τ+j)-1)).map (·+(i*U.wd τ+j+1))).flatMap ic:=by
           rw[O6,O6]
           congr 1
           refine QK fun n hn=> ?_
           obtain⟨m,_,rfl⟩:=l_.1 hn
           rw[if_neg (by omega)]
          rw[e1,e2]
          simp[xw]
      ·cases hc
     ·cases hc
    ·cases hw
   ·cases hw
theorem cQ.UD(h:cQ E pm F kv fp σ a w){o:Oper}(ho:o.dst=none)(k:Key)(e0 e:i_ U)(nE:σ.bM k=some e0)(ks:List Key)(ps:List Prop)(A1:List Nat)(EK:k∉ks)
  (hE:∀bad,(∀k',p8 w w' kv kv fp (dQ fp k A1) (bR σ) bad k')->tH E w' F' kv (dQ fp k A1) bad e (kv k) A1)
  (A':∀b,F b->F' b/\w'.heap[b]? =w.heap[b]?)
  (EQ:∀b,F' b->F b\/∃k'∈k::ks,(σ.bM k').isSome=true/\b∈fp k')
  (jA:∀k' e,k'≠k->k'∉ks->σ.bM k'=some e->∀b∈fp k',w'.heap[b]? =w.heap[b]?)
  (qD:A1.Nodup) (QP:∀b∈A1,¬F' b/\∃k'∈k::ks,(σ.bM k').isSome=true/\b∈fp k')
  (qz:iC (fun b=>pm.W b\/pm.w0.heap.size<=b) w w'):
  cQ E pm F' kv (dQ fp k A1) (AM.apply o ⟨none,[],ks,[(k,e)],ps⟩ σ) (a.put o.dst undef) w':=by
 have kF:eo o (⟨none,[],ks,[(k,e)],ps⟩:cm U)=[]:=rfl
 have kX:jY (⟨none,[],ks,[(k,e)],ps⟩:cm U)=[k]:=rfl
 have qB:∀k',p8 w w' kv kv fp (dQ fp k A1) (bR σ) (bR (AM.apply o ⟨none,[],ks,[(k,e)],ps⟩ σ)) k':=by
  intro k'
  refine⟨rfl,?_⟩
  by_cases hk:k'=k
  ·left
   subst hk
   have:(AM.apply o (⟨none,[],ks,[(k',e)],ps⟩:cm U) σ).aN.any (jb k')=true:=sI.2 (by simp[AM.apply])
   simp[bR,this]
  ·by_cases aaL:k'∈ks
   ·left
    simp[bR,Z0 o _ σ k' (by rw[kF];simp) (by rw[kX];simpa using hk) aaL]
   ·have hee:=ZY o (⟨none,[],ks,[(k,e)],ps⟩:cm U) σ k' (by rw[kF];simp) (by rw[kX];simpa using hk) aaL
    have Nn:(AM.apply o (⟨none,[],ks,[(k,e)],ps⟩:cm U) σ).aN.any (jb k')=σ.aN.any (jb k'):=by
     rw[FM,sI,sI]
     simp[AM.apply,hk]
    cases hb:bR σ k'
    ·right
     refine⟨rfl,Bu hk,?_⟩
     simp only[bR,QL] at hb
     obtain⟨e',fo⟩:∃e,σ.bM k'=some e:=by
      cases hx:σ.bM k' with
      |none=>rw[hx] at hb;simp at hb
      |some e=>exact⟨e,rfl⟩
     exact jA k' e' hk aaL fo
    ·left
     simp only[bR] at hb⊢
     rw[hee,Nn];exact hb
 have qg:∀b,(∃k'∈k::ks,(σ.bM k').isSome=true/\b∈fp k')->(pm.W b\/pm.w0.heap.size<=b)/\b<w.heap.size:=by
  rintro b ⟨k',_,hl,hb⟩
  obtain⟨e',fo⟩:=m8.1 hl
  exact(h.fV k' e' b fo hb).2
 refine h.apply o _ undef (fun x hx=>by rw[ho] at hx;cases hx) ?_ (fun _ _=>rfl) ?_ ?_ A' ?_ ?_ ?_ ?_ ?_ ?_ (h.upto.trans qz) qz.size
 ·intro x hx;cases hx
 ·intro k' _ hk;rw[kX] at hk;exact Bu (by simpa using hk)
 ·intro k' hk;rw[kF] at hk;simp at hk
 ·intro k' e' _ hk lm he b hb;rw[kX] at hk;exact jA k' e' (by simpa using hk) lm he b hb
 ·rintro k' e' (⟨j,_,hj⟩|hk)
  ·simp at hj
  ·simp only[mF,pb] at hk
   obtain⟨rfl,rfl⟩:=hk
   rw[tU]
   refine⟨hE _ qB,qD,fun b hb=> ?_⟩
   obtain⟨h1,h2⟩:=QP b hb
   have h3:=qg b h2
   have:=qz.size
   exact⟨h1,h3.1,by omega⟩
 ·intro k' e' b _ hk lm he hb wj
  rw[kX] at hk
  rcases EQ b wj with h1|⟨k2,EL,hl,bg⟩
  ·exact(h.fV k' e' b he hb).1 h1
  ·obtain⟨e2,tX⟩:=m8.1 hl
   exact h.apart k' k2 e' e2 b (fun e=>by subst e;rcases kf.1 EL with rfl|h;exact hk (by simp);exact lm h) he tX hb bg
 ·intro k1 k' b fg hk db hb
  rw[kF,kX] at hk db
  simp only[mF,NO,false_or] at hk db
  subst hk
  rw[tU] at hb
  rcases db with rfl|⟨db,H_⟩
  ·exact absurd rfl fg
  ·rw[Bu (Ne.symm fg)]
   obtain⟨e',fo⟩:=m8.1 H_
   intro bg
   obtain⟨k2,lm,hl,jg⟩:=(QP b hb).2
   obtain⟨e2,tX⟩:=m8.1 hl
   exact h.apart k2 k' e2 e' b (fun e=>by subst e;rcases kf.1 lm with rfl|h;exact fg rfl;exact db h) tX fo jg bg
 ·intro b hb
  rcases EQ b hb with h1|h1
  ·have:=h.uc b h1;have:=qz.size;omega
  ·have:=(qg b h1).2;have:=qz.size;omega
 ·intro b hb
  rcases EQ b hb with h1|h1
  ·exact h.ub b h1
  ·exact .inr (qg b h1).1
theorem UQ{P:Program}{t:TypeId}{n g off:Nat}{cur:Array Value}{e:TypeId}{v:Value}(hs:(P.info? t).map (·.size)=some n)(hv:v.cells.size=n)(h1:∀u∈v.cells.toList,u.oneCell'=true)
  (hg:w.heap[g]? =some (.cells cur e (0,0))) (hle:off+n<=cur.size):
  (Instr.storeAt t (.pointer (some ⟨g,off,none⟩)) v).run P w=.ok () (w.setRow g (cur.toList.take off++v.cells.toList++cur.toList.drop (off+n)).toArray):=by
 cases hq:P.info? t with
 |none=>rw[hq] at hs;cases hs
 |some i=>
  rw[hq] at hs
  simp only[FR,gJ] at hs
  have qB:=run_storeCells_at P g off e v.cells.toList 0 cur w hg (by simp;omega) h1
  simp only[JV,FT] at qB
  simp[Instr.storeAt,Instr.sureAddr,storeVar,Go.sizeOf,typeInfo,hq,qB,hv]
  omega
theorem l8.gD{xs:List (AC U)}{vs:List Value}(h:l8 E w F kv fp bad xs vs):∀v∈vs,v.oneCell'=true:=by
 intro v hv
 obtain⟨n,hn,rfl⟩:=sn hv
 exact(h.2 n (xs[n]'(by rw[h.1];exact hn)) _ (fH _) (fH hn)).1.1
theorem ajM(h:cQ E pm F kv fp σ a w){o:Oper}(ho:o.dst=none){t:TypeId}{x y:Operand}(sj:o.op=.store t x y){sx:SV U}{yx:AC U}{z:AV U}{n:Nat}{rs:List Key}{r:cm U}
  (hx:RS E w F kv fp (bR σ) sx (a.eval x)) (yc:u5 sx=some yx) (hy:RS E w F kv fp (bR σ) (.v z) (a.eval y)) (hs:E.size t=some n) (hn:n=z.cs.length)
  (hr:storeAt (restrict σ.bM rs) σ.aN z yx=some r) (hp:∀p∈r.pre,p) {next:Act->World->Prop} {Q:Exit->Act->World->Prop}
  (hnx:∀F kv fp a' w',cQ E pm F kv fp (AM.apply o r σ) a' w'->next a' w'):o.wp E.P a w next Q:=by
 have BQ:=li hx yc
 obtain⟨dw,sM⟩:=Pt hy
 have exec:∀{w1},(Instr.storeAt t (a.eval x) (a.eval y)).run E.P w=.ok () w1->(execOp a.eval o).run E.P w=.ok .skip w1:=by
  intro w1 hr
  unfold execOp;simp only[sj]
  rw[Sem.run_bind,hr];rfl
 unfold storeAt at hr
 split at hr
 ·rename_i k off
  split at hr
  ·rename_i cs he
   have fo:=kj he
   cases hb:Nat.ble (off+z.cs.length) cs.length<;>simp only[hb,cond_false,cond_true] at hr
   ·cases hr
   ·have hle:=JZ hb
    cases hr
    obtain⟨b,h1,h2⟩:=cw BQ rfl
    obtain⟨b',cur,e,h3,h4,h5,h6⟩:=h.dV k _ fo
    rw[h1] at h3;cases h3
    have iH:cs.length=cur.size:=by simpa using h6.1
    have jz:=UQ (P:=E.P) (n:=n) (off:=off) (v:=a.eval y) hs (by rw[sM];exact hn.symm) dw.gD h4 (by omega)
    rw[<-h2] at jz
    refine Rn (exec jz) (hnx F kv (dQ fp k [b]) _ _ (h.UD ho k _ _ fo [] [] [b] (by simp) ?_ ?_ ?_ ?_ ?_ ?_ ?_))
    ·intro bad qB
     refine⟨b,_,e,h1,setRow_heap w b cur _ _ _ h4,rfl,?_⟩
     have wj:∀b',F b'->F b'/\(w.setRow b (cur.toList.take off++(a.eval y).cells.toList++cur.toList.drop (off+n)).toArray).heap[b']? =w.heap[b']? :=fun b' bg=>
      ⟨bg,setRow_other w b b' _ (fun e=>(h.fV k _ b fo (by rw[h5];simp)).1 (e▸bg))⟩
     have:=(((h6.take off).append dw).append (h6.drop (off+n))).move (bad':=bad) (kv':=kv) (fp':=dQ fp k [b]) (fun _ _ k' _=>qB k') wj
     rw[hn] at this⊢
     simpa using this
    ·intro b' bg;exact⟨bg,setRow_other w b b' _ (fun e=>(h.fV k _ b fo (by rw[h5];simp)).1 (e▸bg))⟩
    ·intro b' bg;exact .inl bg
    ·intro k' e' hk _ tX b' bg
     exact setRow_other w b b' _ (fun e=>h.apart k' k _ _ b' hk tX fo bg (by rw[h5,e];simp))
    ·simp
    ·intro b' bg
     rw[mF.1 bg]
     exact⟨(h.fV k _ b fo (by rw[h5];simp)).1,k,by simp,by simp[fo],by rw[h5];simp⟩
    ·exact⟨rfl,rfl,rfl,by simp,fun b' _ KX=>setRow_other w b b' _ (fun e=>KX (by rw[e];exact(h.fV k _ b fo (by rw[h5];simp)).2.1))⟩
  ·cases hr
 ·rename_i k p i wd off
  split at hr
  ·rename_i x0 d he
   have fo:=kj he
   cases iH:fW (restrict σ.bM rs) σ.aN k p<;>simp only[iH,cond_false,cond_true] at hr
   ·cases hr
   ·split at hr
    ·rename_i ps b hw
     split at hr
     ·rename_i qs ds ks d' A6
      split at hr
      ·rename_i x' Xg
       cases ni:(Nat.beq wd (U.wd b.τ)&&Nat.ble (off+ds.length) (U.wd b.τ)&&distinct (k::ks)&&((d&&d')||p.isEmpty))<;>simp only[ni,cond_false,cond_true] at hr
       ·cases hr
       ·cases hr
        simp only[cO] at ni
        obtain⟨⟨⟨c1,c2⟩,c3⟩,c4⟩:=ni
        have vt:=nc c1
        subst vt
        have hle:=JZ c2
        have uf:=uC.1 c3
        have EK:k∉ks:=(tS.1 uf).1
        have hi:i<b.xs.length:=hp _ (by simp)
        have M':∀q∈ps,q:=fun q hq=>hp q (by simp[hq])
        obtain⟨t1,t2,t3,t4⟩:=MM h A6 (fun q hq=>hp q (by simp[hq])) dw (tS.1 uf).2
        obtain⟨bb,oo,nn,cc,oc,hv⟩:=cw BQ (HJ iH he)
        have oa:fi E w F d x0 (kv k) (fp k):=h.dV k _ fo
        have qD:=h.nodup k _ fo
        have hdl:ds.length=n:=by rw[t1,hn]
        have hcz:(a.eval y).cells.toList.length=ds.length:=by simp[sM,t1]
        have node:∀{g cap:Nat}{cur:Array Value}{vs:List Value},(.slice (some ⟨bb,oo,none⟩) nn cc:Value)=.slice (some ⟨g,0,none⟩) b.xs.length cap->w.heap[g]? =some (.cells cur (E.tid b.τ) (0,0))->b.xs.length<=cap->
          cur.size=cap*U.wd b.τ->cur.toList.take (b.xs.length*U.wd b.τ)=vs->
          (Instr.storeAt t (a.eval x) (a.eval y)).run E.P w=.ok () (w.setRow g (cur.toList.take (i*U.wd b.τ+off)++(a.eval y).cells.toList++cur.toList.drop (i*U.wd b.τ+off+n)).toArray)/\
          (cur.toList.take (i*U.wd b.τ+off)++(a.eval y).cells.toList++cur.toList.drop (i*U.wd b.τ+off+n)).toArray.size=cap*U.wd b.τ/\
          (cur.toList.take (i*U.wd b.τ+off)++(a.eval y).cells.toList++cur.toList.drop (i*U.wd b.τ+off+n)).toArray.toList.take (b.xs.length*U.wd b.τ)=
           vs.take (i*U.wd b.τ+off)++(a.eval y).cells.toList++vs.drop (i*U.wd b.τ+off+(a.eval y).cells.toList.length):=by
         intro g cap cur vs e1 e2 e3 e4 e5
         simp only[Value.slice.injEq,gJ,Addr.mk.injEq,and_true] at e1
         obtain⟨⟨rfl,rfl⟩,_,_⟩:=e1
         have hN:i*U.wd b.τ+U.wd b.τ<=b.xs.length*U.wd b.τ:=by
          have:(i+1)*U.wd b.τ<=b.xs.length*U.wd b.τ:=AI _ hi
          rw[xv,QU] at this
          exact this
         have EO:b.xs.length*U.wd b.τ<=cap*U.wd b.τ:=AI _ e3
         have jz:=UQ (P:=E.P) (n:=n) (off:=i*U.wd b.τ+off) (v:=a.eval y) hs (by rw[sM];exact hn.symm) dw.gD e2 (by omega)
         refine⟨by rw[hv,vf];exact jz,by simp only[WH,kI,oz,Me,FT,sM,<-hn];omega,?_⟩
         subst e5
         refine Um fun m=> ?_
         rw[qa]
         by_cases hm:m<b.xs.length*U.wd b.τ
         ·rw[if_pos hm]
          by_cases h1:m<i*U.wd b.τ+off
          ·rw[xw,xx (by simp;omega),xw,xx (by simp;omega),qa,if_pos h1,qa,if_pos h1,qa,if_pos hm]
          ·by_cases h2:m<i*U.wd b.τ+off+n
           ·rw[xx (by simp[sM,<-hn];omega),zu (by simp;omega),xx (by simp[sM,<-hn];omega),zu (by simp;omega)]
            congr 1;simp;omega
           ·rw[zu (by simp[sM,<-hn];omega),zu (by simp[sM,<-hn];omega),Hu,Hu,qa,if_pos (by simp[sM,<-hn];omega)]
            congr 1;simp[sM,<-hn];omega
         ·rw[if_neg hm,ox]
          simp only[kI,oz,Me,FT,sM,<-hn]
          omega
        have Ia:∀b'∈k::ks,(σ.bM b').isSome=true:=fun k' db=>by
         rcases kf.1 db with rfl|db
         ·simp[fo]
         ·exact t2 k' db
        have EP:∀k'∈k::ks,∀b'∈fp k',¬F b'/\(pm.W b'\/pm.w0.heap.size<=b'):=fun k' db b' bg=>by
         obtain⟨e,he⟩:=m8.1 (Ia k' db)
         exact⟨(h.fV k' e b' he bg).1,(h.fV k' e b' he bg).2.1⟩
        have On:∀k'∈ks,∀b'∈fp k',b'∉fp k:=fun k' db b' bg tY=>by
         obtain⟨e,he⟩:=m8.1 (t2 k' db)
         exact h.apart k' k _ _ b' (fun e=>EK (e▸db)) he fo bg tY
        have kl:∀{g:Nat},g∈fp k->∀(cells:Array Value) k' e,k'≠k->k'∉ks->σ.bM k'=some e->∀b'∈fp k',(w.setRow g cells).heap[b']? =w.heap[b']? :=fun hg cells k' e' hk _ tX b' bg=>
         setRow_other w _ b' _ (fun e=>h.apart k' k _ _ b' hk tX fo bg (e▸hg))
        have adD:∀{g:Nat},g∈fp k->∀(cells:Array Value),iC (fun b=>pm.W b\/pm.w0.heap.size<=b) w (w.setRow g cells):=fun hg cells=>
         ⟨rfl,rfl,rfl,by simp,fun b' _ KX=>setRow_other w _ b' _ (fun e=>KX (e▸(EP k (by simp) _ hg).2))⟩
        cases kY:(d&&d') with
        |true=>
         simp only[cO] at kY
         obtain⟨rfl,rfl⟩:=kY
         obtain⟨gl,gl1,gl2,gl3,gl4⟩:=t3 rfl
         obtain⟨vb,lb,pre,post,b',f1,f2,f3,f4,f5⟩:=oa.focus qD hw M' Xg
         have hvb:vb=.slice (some ⟨bb,oo,none⟩) nn cc:=f2.unique oc
         rcases f3.rows with⟨h3,_⟩|⟨g,cap,cur,vs,fl,h3,h4,h5,h6,h7,h8,h9,sV⟩
         ·rw[h3] at hi;simp at hi
         ·obtain⟨n1,n2,n3⟩:=node (hvb▸h3) h4 h5 h7 h8
          rw[ZG] at f1
          split at f1
          ·rename_i yy No
           cases f1
           have Ez:=h9.patch hi No hle hcz gl1 gl2
           have Sx:g∈fp k:=by rw[f4,sV];simp
           have amm:(g::fl.flatten).Nodup:=by
            rw[f4,sV] at qD
            exact(rz.1 (rz.1 qD).1).2.1
           have adV:∀b'∈gl.flatten,b'∉fp k:=fun b' bg=>by
            obtain⟨k',db,bg⟩:=gl4 b' bg
            exact On k' db b' bg
           have qf:((fl.take (i*U.wd b.τ+off)).flatten++(fl.drop (i*U.wd b.τ+off+gl.length)).flatten).Sublist fl.flatten:=by
            have h1:fl.flatten=(fl.take (i*U.wd b.τ+off)).flatten++(fl.drop (i*U.wd b.τ+off)).flatten:=by rw[<-Mf,UB]
            have h2:(fl.drop (i*U.wd b.τ+off)).flatten=((fl.drop (i*U.wd b.τ+off)).take gl.length).flatten++((fl.drop (i*U.wd b.τ+off)).drop gl.length).flatten:=by rw[<-Mf,UB]
            rw[h1,h2,List.drop_drop]
            exact List.Sublist.append_left (zem _ _) _
           have Xc:(fl.take (i*U.wd b.τ+off)++gl++fl.drop (i*U.wd b.τ+off+gl.length)).flatten=(fl.take (i*U.wd b.τ+off)).flatten++gl.flatten++(fl.drop (i*U.wd b.τ+off+gl.length)).flatten:=by
            simp[Mf]
           have Sr:∀c∈(fl.take (i*U.wd b.τ+off)++gl++fl.drop (i*U.wd b.τ+off+gl.length)).flatten,c∈gl.flatten\/c∈fl.flatten:=by
            intro c hc
            rw[Xc,jO,jO] at hc
            rcases hc with(hc|hc)|hc
            ·exact .inr (qf.subset (by simp[hc]))
            ·exact .inl hc
            ·exact .inr (qf.subset (rb _ hc))
           have amt:∀c∈(fl.take (i*U.wd b.τ+off)++gl++fl.drop (i*U.wd b.τ+off+gl.length)).flatten,c≠g:=by
            intro c hc e
            rcases Sr c hc with hc|hc
            ·exact adV c hc (e▸Sx)
            ·exact(tS.1 amm).1 (e▸hc)
           have H5:=fi.nS (E:=E) (w:=w.setRow g (cur.toList.take (i*U.wd b.τ+off)++(a.eval y).cells.toList++cur.toList.drop (i*U.wd b.τ+off+n)).toArray) (F:=F) (setRow_heap w g cur _ _ _ h4) (by simpa using h5) h6 n2
            (by rw[Md];exact n3) (Ez.tO (fun c hc=>setRow_other w g c _ (amt c hc)))
           rw[Md] at H5
           have hpp:∀c∈pre++post,c≠g:=by
            intro c hc e
            subst e
            rw[f4,sV] at qD
            have adM:=rz.1 qD
            have amj:=rz.1 adM.1
            rcases jO.1 hc with hc|hc
            ·exact amj.2.2 c hc c (by simp) rfl
            ·exact adM.2.2 c (by simp) c hc rfl
           have A9:=f5 (w.setRow g (cur.toList.take (i*U.wd b.τ+off)++(a.eval y).cells.toList++cur.toList.drop (i*U.wd b.τ+off+n)).toArray) F _ rfl (by rw[h3];exact H5) (fun c hc=>setRow_other w g c _ (hpp c hc))
           refine Rn (exec n1) (hnx F kv (dQ fp k _) _ _ (h.UD ho k _ _ fo ks _ _ EK (fun bad qB=>A9) ?_ (fun b' bg=> .inl bg) (kl Sx _) ?_ ?_ (adD Sx _)))
           ·intro b' bg;exact⟨bg,setRow_other w g b' _ (fun e=>(EP k (by simp) g Sx).1 (e▸bg))⟩
           ·have Le:(pre++(g::((fl.take (i*U.wd b.τ+off)).flatten++(fl.drop (i*U.wd b.τ+off+gl.length)).flatten))++post).Nodup:=by
             rw[f4,sV] at qD
             exact(List.Sublist.append_right (List.Sublist.append_left (List.Sublist.cons_cons _ qf) _) _).nodup qD
            have hG:(gl.flatten++(pre++(g::((fl.take (i*U.wd b.τ+off)).flatten++(fl.drop (i*U.wd b.τ+off+gl.length)).flatten))++post)).Nodup:=by
             refine rz.2 ⟨gl3,Le,fun c hc c' m_ e=> ?_⟩
             subst e
             refine adV c hc ?_
             rw[f4,sV]
             simp only[jO,kf] at m_⊢
             rcases m_ with(m_|m_|m_|m_)|m_
             ·exact .inl (.inl m_)
             ·exact .inl (.inr (.inl m_))
             ·exact .inl (.inr (.inr (qf.subset (by simp[m_]))))
             ·exact .inl (.inr (.inr (qf.subset (rb _ m_))))
             ·exact .inr m_
            rw[Xc]
            refine(List.Perm.nodup_iff ?_).2 hG
            refine List.perm_iff_count.2 fun c=> ?_
            simp only[List.count_append,List.count_cons]
            omega
           ·intro b' bg
            simp only[jO,kf] at bg
            have SI:b'∈fp k\/b'∈gl.flatten:=by
             rcases bg with(bg|bg|bg)|bg
             ·left;rw[f4];simp[bg]
             ·left;rw[bg];exact Sx
             ·rcases Sr b' bg with bg|bg
              ·exact .inr bg
              ·left;rw[f4,sV];simp[bg]
             ·left;rw[f4];simp[bg]
            rcases SI with bg|bg
            ·exact⟨(EP k (by simp) b' bg).1,k,by simp,by simp[fo],bg⟩
            ·obtain⟨k',db,bg⟩:=gl4 b' bg
             exact⟨(EP k' (by simp[db]) b' bg).1,k',by simp[db],t2 k' db,bg⟩
          ·cases f1
        |false=>
         rw[kY,Gl,List.isEmpty_iff] at c4
         subst c4
         simp only[walk,gJ,pb] at hw
         obtain⟨_,rfl⟩:=hw
         simp only[chg] at Xg
         have hvb:kv k=.slice (some ⟨bb,oo,none⟩) nn cc:=Eq.symm oc
         rcases oa.rows with⟨h3,_⟩|⟨g,cap,cur,vs,fl,h3,h4,h5,h6,h7,h8,h9,sV⟩
         ·rw[h3] at hi;simp at hi
         ·obtain⟨n1,n2,n3⟩:=node (hvb▸h3) h4 h5 h7 h8
          rw[ZG] at Xg
          split at Xg
          ·rename_i yy No
           cases Xg
           have Sx:g∈fp k:=by rw[sV];simp
           have wj:∀c,(F c\/c∈fl.flatten\/∃k'∈ks,c∈fp k')->c≠g:=by
            rintro c (hc|hc|⟨k',db,hc⟩) rfl
            ·exact(EP k (by simp) c Sx).1 hc
            ·rw[sV] at qD;exact(tS.1 qD).1 hc
            ·exact On k' db c hc Sx
           have aaq:=h9.lz (F':=fun c=>F c\/c∈fl.flatten\/∃k'∈ks,c∈fp k') (fun c hc=> .inl hc) (fun c hc=> .inr (.inl hc))
           have Ez:=aaq.patch hi No hle (us:=(a.eval y).cells.toList) (gl:=List.replicate ds.length []) hcz (by simp) (fun m c hc=>by
            rw[HG];exact(t4 m c hc).fZ (fun c hc=>hc.imp id .inr))
           have jf:=Ez.gx (w':=w.setRow g (cur.toList.take (i*U.wd x0.τ+off)++(a.eval y).cells.toList++cur.toList.drop (i*U.wd x0.τ+off+n)).toArray)
            (F':=fun c=>F c\/c∈fl.flatten\/∃k'∈ks,c∈fp k') (fun c hc=>⟨hc,setRow_other w g c _ (wj c hc)⟩) (by rw[Ez.Lr];simp)
           have H5:=fi.nS (E:=E) (setRow_heap w g cur _ _ _ h4) (by simpa using h5) h6 n2 (by rw[Md];exact n3) jf
           rw[Ez.Lr,Md] at H5
           refine Rn (exec n1) (hnx (fun c=>F c\/c∈fl.flatten\/∃k'∈ks,c∈fp k') kv (dQ fp k _) _ _ (h.UD ho k _ _ fo ks _ [g] EK (fun bad qB=>by rw[h3,kY];exact H5) ?_ ?_ (kl Sx _) (by simp) ?_ (adD Sx _)))
           ·intro b' bg;exact⟨.inl bg,setRow_other w g b' _ (wj b' (.inl bg))⟩
           ·rintro c (hc|hc|⟨k',db,hc⟩)
            ·exact .inl hc
            ·exact .inr ⟨k,by simp,by simp[fo],by rw[sV];simp[hc]⟩
            ·exact .inr ⟨k',by simp[db],t2 k' db,hc⟩
           ·intro b' bg
            rw[mF.1 bg]
            exact⟨fun hc=>wj g hc rfl,k,by simp,by simp[fo],Sx⟩
          ·cases Xg
      ·cases hr
     ·cases hr
    ·cases hr
  ·cases hr
 ·cases hr
end AM
