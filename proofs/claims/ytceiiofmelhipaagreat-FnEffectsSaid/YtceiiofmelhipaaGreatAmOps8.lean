/- THE ABSTRACT MACHINE: stores. -/
import Derived.Test.YtceiiofmelhipaaGreatAmOps7
namespace AM
set_option linter.unusedVariables false
open Go
variable{U:Uni}{E:Env U}{pm:Pm}
variable{F F':Nat→Prop}{kv:Key→Value}{fp:Key→List Nat}{σ:AState U}{a:Act}{w w':World}{bad:Key→Bool}
theorem Rp.keepT{w w':World}{F F':Nat→Prop}{c:U.C}{v:Value}{l:List Nat}(h:Rp E w F true c v l)(hl:∀b∈l,w'.heap[b]? =w.heap[b]?):Rp E w' F' true c v l:=by
 generalize hm:true=m at h
 induction h with
 |lit m v h=>subst hm;exact .lit _ v h
 |nil m τ a c h=>subst hm;exact .nil _ τ a c h
 |shr=>cases hm
 |own τ xs b cap cur vs fps hb hc hmx hs hv hr ih=>
  refine .own τ xs b cap cur vs fps ?_ hc hmx hs hv (fun i x j c hx hj=>ih i x j c hx hj (fun b' hb'=> ?_) rfl)
  ·rw[hl b (by simp)];exact hb
  ·exact hl b' (zaa _ (zat.2 ⟨_,zay.2 (row_lt hx hj),hb'⟩))
theorem RRow.keepT{τ:U.Ty}{xs:List (U.T τ)}{vs:List Value}{fl:List (List Nat)}(h:RRow E w F true τ xs vs fl)(hfl:∀b∈fl.flatten,w'.heap[b]? =w.heap[b]?):RRow E w' F' true τ xs vs fl:=by
 refine⟨h.1,h.2.1,fun i x j c hx hj=>(h.2.2 i x j c hx hj).keepT (fun b hb=>hfl b ?_)⟩
 have hlt:i*U.wd τ+j<fl.length:=by rw[h.2.1];exact row_lt hx hj
 rw[zac,zad hlt] at hb
 exact zdq.2 ⟨_,zda hlt,hb⟩
theorem RRow.patch{deep:Bool}{τ:U.Ty}{xs:List (U.T τ)}{vs:List Value}{fl:List (List Nat)}(h:RRow E w F deep τ xs vs fl){i off:Nat}{y:U.T τ}{ds:List U.C}{us:List Value}{gl:List (List Nat)}
  (hi:i<xs.length) (hd:U.dec τ ((U.enc τ (xs.getD i (U.dflt τ))).take off++ds++(U.enc τ (xs.getD i (U.dflt τ))).drop (off+ds.length))=some y) (hle:off+ds.length≤U.wd τ)
  (hul:us.length=ds.length) (hgl:gl.length=ds.length) (hds:∀(n:Nat)(c:U.C),ds[n]? =some c→Rp E w F deep c (us.getD n undef) (gl.getD n [])):
  RRow E w F deep τ (xs.set i y) (vs.take (i*U.wd τ+off)++us++vs.drop (i*U.wd τ+off+us.length)) (fl.take (i*U.wd τ+off)++gl++fl.drop (i*U.wd τ+off+gl.length)):=by
 obtain⟨h1,h2,h3⟩:=h
 have hN:i*U.wd τ+U.wd τ≤xs.length*U.wd τ:=by
  have:(i+1)*U.wd τ≤xs.length*U.wd τ:=zbc _ hi
  rw[zci,zdw] at this
  exact this
 refine⟨by simp only[zce,zaw,zcs,zcu];omega,by simp only[zce,zaw,zcs,zcu];omega,fun n x j c hx hj=> ?_⟩
 have henc:=U.enc_dec τ _ y hd
 have hjw:j<U.wd τ:=by
  rw[←U.enc_len τ x]
  rcases zba j (U.enc τ x).length with h|h
  ·exact h
  ·rw[zaj h] at hj;cases hj
 have getP:∀{α:Type}(l m:List α)(z:α)(k:Nat),m.length=ds.length→i*U.wd τ+off+m.length≤l.length→
   (l.take (i*U.wd τ+off)++m++l.drop (i*U.wd τ+off+m.length)).getD k z=if i*U.wd τ+off≤k∧k<i*U.wd τ+off+m.length then m.getD (k-(i*U.wd τ+off)) z else l.getD k z:=by
  intro α l m z k hm hl
  by_cases hk1:k<i*U.wd τ+off
  ·rw[if_neg (by omega),qafn (by simp;omega),qafn (by simp;omega),zac,zan,if_pos hk1,zac]
  ·by_cases hk2:k<i*U.wd τ+off+m.length
   ·rw[if_pos (by omega),qafn (by simp;omega),qaft (by simp;omega)]
    congr 1;simp;omega
   ·rw[if_neg (by omega),qaft (by simp;omega),zac,zbv,zac]
    congr 2;simp;omega
 rw[getP vs us undef _ hul (by omega),getP fl gl [] _ hgl (by omega)]
 rw[hul,hgl]
 by_cases hni:n=i
 ·subst hni
  rw[zdp (by simpa using hi)] at hx
  cases hx
  rw[henc] at hj
  have hxi:=getD_of_lt (d:=U.dflt τ) hi
  by_cases hj1:j<off
  ·rw[if_neg (by omega),if_neg (by omega)]
   refine h3 n _ j c hxi ?_
   rw[zbr,zaq (by simp[U.enc_len];omega),zan,if_pos hj1] at hj
   exact hj
  ·by_cases hj2:j<off+ds.length
   ·rw[if_pos (by omega),if_pos (by omega)]
    have e:n*U.wd τ+j-(n*U.wd τ+off)=j-off:=by omega
    rw[e]
    refine hds (j-off) c ?_
    have hto:((U.enc τ (xs.getD n (U.dflt τ))).take off).length=off:=by simp[U.enc_len];omega
    rw[zaq (by simp[U.enc_len];omega),zap (by omega),hto] at hj
    exact hj
   ·rw[if_neg (by omega),if_neg (by omega)]
    refine h3 n _ j c hxi ?_
    have hto:((U.enc τ (xs.getD n (U.dflt τ))).take off++ds).length=off+ds.length:=by simp[U.enc_len];omega
    rw[zap (by omega),hto,zbv] at hj
    rw[←hj];congr 1;omega
 ·rw[zek (Ne.symm hni)] at hx
  have hfar:¬(i*U.wd τ+off≤n*U.wd τ+j∧n*U.wd τ+j<i*U.wd τ+off+ds.length):=by
   rintro⟨g1,g2⟩
   rcases zba n i with hlt|hge
   ·have:(n+1)*U.wd τ≤i*U.wd τ:=zbc _ hlt
    rw[zci,zdw] at this
    omega
   ·have:(i+1)*U.wd τ≤n*U.wd τ:=zbc _ (by omega)
    rw[zci,zdw] at this
    omega
  rw[if_neg hfar,if_neg hfar]
  exact h3 n x j c hx hj
theorem qakr(N n:Nat)(h:n<N):List.range N=List.range n++n::(List.range (N-n-1)).map (·+(n+1)):=by
 have h1:N=n+((N-n-1)+1):=by omega
 conv=>lhs;rw[h1,List.range_add]
 congr 1
 rw[List.range_succ_eq_map,zbt,List.map_map]
 simp only[zcv,zdd,true_and]
 refine zcr fun a _=> ?_
 simp only[Function.comp]
 omega
theorem ROwn.focus:∀{p:Path}{x b x':Arr U}{v:Value}{l:List Nat}{ps:List Prop}{f:Arr U→Option (Arr U)},ROwn E w F true x v l→l.Nodup→walk p x=some (ps,b)→(∀q∈ps,q)→chg p x f=some x'→
  ∃vb lb pre post b',f b=some b'∧navS w (fun c=>F c∨c∈l) v p vb∧ROwn E w F true b vb lb∧l=pre++lb++post∧
   ∀(w':World)(F':Nat→Prop)(lb':List Nat),b'.τ=b.τ→ROwn E w' F' true b' vb lb'→(∀c∈pre++post,w'.heap[c]? =w.heap[c]?)→ROwn E w' F' true x' v (pre++lb'++post):=by
 intro p
 induction p with
 |nil=>
  intro x b x' v l ps f h hn hw hp hc
  simp only[walk,zae,zax] at hw
  obtain⟨_,rfl⟩:=hw
  exact⟨v,l,[],[],x',hc,rfl,h,by simp,fun w' F' lb' _ hb _=>by simpa using hb⟩
 |cons s p ih=>
  obtain⟨i,wd,j⟩:=s
  intro x b x' v l ps f h hn hw hp hc
  obtain⟨τ,xs⟩:=x
  simp only[walk] at hw
  cases hwd:Nat.beq wd (U.wd τ)<;>simp only[hwd,cond_false,cond_true] at hw
  ·cases hw
  ·have hwd':wd=U.wd τ:=zai hwd
   subst hwd'
   split at hw
   ·rename_i τ1 ys hx
    split at hw
    ·rename_i ps' b0 hw'
     simp only[zae,zax] at hw
     obtain⟨rfl,rfl⟩:=hw
     have hi:i<xs.length:=hp _ (by simp)
     have hxi:=getD_of_lt (d:=U.dflt τ) hi
     simp only[chg,hx] at hc
     split at hc
     ·rename_i b1 hb1
      split at hc
      ·rename_i x1 hx1
       rw[qaip hx1] at hc
       cases hc
       rcases h with⟨h0,_⟩|⟨g,cap,cur,vs,fps,h1,h2,h3,h4,h5,h6,h7,h8⟩
       ·simp only at h0;subst h0;simp at hi
       ·simp only at h1 h2 h3 h5 h6 h7 h8
        have hlt:=row_lt hxi hx
        have hcell:=(h7 i _ j _ hxi hx).inv_own
        have hsp:l=(g::(List.range (i*U.wd τ+j)).flatMap fps)++fps (i*U.wd τ+j)++((List.range (xs.length*U.wd τ-(i*U.wd τ+j)-1)).map (·+(i*U.wd τ+j+1))).flatMap fps:=by
         rw[h8,qakr _ _ hlt,zep,zbm]
         simp[zbr]
        have hnn:(fps (i*U.wd τ+j)).Nodup:=by
         rw[hsp] at hn
         exact(zav.1 (zav.1 hn).1).2.1
        obtain⟨vb,lb,pre,post,b',f1,f2,f3,f4,f5⟩:=ih (x:=⟨τ1,ys⟩) hcell hnn hw' (fun q hq=>hp q (by simp[hq])) hb1
        have hgc:w.cell? ⟨g,0+(i*U.wd τ+j),none⟩=some (vs (i*U.wd τ+j)):=by
         rw[zbw,cell_of_row w g _ cur _ (0,0) h2];exact h6 _ hlt
        refine⟨vb,lb,(g::(List.range (i*U.wd τ+j)).flatMap fps)++pre,post++((List.range (xs.length*U.wd τ-(i*U.wd τ+j)-1)).map (·+(i*U.wd τ+j+1))).flatMap fps,b',f1,?_,f3,?_,?_⟩
        ·refine⟨g,0,_,_,vs (i*U.wd τ+j),h1,.inr (by rw[hsp];simp),hgc,f2.keep (fun c hc=>⟨?_,rfl⟩)⟩
         rcases hc with hc|hc
         ·exact .inl hc
         ·exact .inr (by rw[hsp];simp[hc])
        ·rw[hsp,f4];simp[zbr]
        ·intro w' F' lb' hτ hb' hkeep
         have hin:=f5 w' F' lb' hτ hb' (fun c hc=>hkeep c (by
          rcases zao.1 hc with hc|hc<;>simp[hc]))
         have henc:=U.enc_dec τ _ x1 hx1
         refine .inr ⟨g,cap,cur,vs,fun n=>if n=i*U.wd τ+j then pre++lb'++post else fps n,by simpa using h1,?_,by simpa using h3,h4,h5,by simpa using h6,fun n y m c hy hm=> ?_,?_⟩
         ·rw[hkeep g (by simp)];exact h2
         ·simp only at hy
          by_cases hnm:n=i∧m=j
          ·obtain⟨rfl,rfl⟩:=hnm
           rw[zdp (by simpa using hi)] at hy
           cases hy
           rw[henc] at hm
           have hmj:m<(U.enc τ (xs.getD n (U.dflt τ))).length:=by
            rcases zba m (U.enc τ (xs.getD n (U.dflt τ))).length with h|h
            ·exact h
            ·rw[zaj h] at hx;cases hx
           rw[zdp hmj] at hm
           cases hm
           simp only[if_true]
           exact hin.toRp
          ·have hold:∃z,xs[n]? =some z∧(U.enc τ z)[m]? =some c:=by
            by_cases hni:n=i
            ·subst hni
             rw[zdp (by simpa using hi)] at hy
             cases hy
             rw[henc,zek (fun e=>hnm ⟨rfl,e.symm⟩)] at hm
             exact⟨_,hxi,hm⟩
            ·rw[zek (Ne.symm hni)] at hy
             exact⟨y,hy,hm⟩
           obtain⟨z,hz,hm'⟩:=hold
           have hmw:m<U.wd τ:=by
            rw[←U.enc_len τ z]
            rcases zba m (U.enc τ z).length with h|h
            ·exact h
            ·rw[zaj h] at hm';cases hm'
           have hjw:j<U.wd τ:=by
            rw[←U.enc_len τ (xs.getD i (U.dflt τ))]
            rcases zba j (U.enc τ (xs.getD i (U.dflt τ))).length with h|h
            ·exact h
            ·rw[zaj h] at hx;cases hx
           have hne:n*U.wd τ+m≠i*U.wd τ+j:=by
            intro e
            have h1:(n*U.wd τ+m)/U.wd τ=n:=by rw[zec,Nat.mul_add_div (U.wd_pos τ),zez hmw,zcv]
            have h2:(i*U.wd τ+j)/U.wd τ=i:=by rw[zec,Nat.mul_add_div (U.wd_pos τ),zez hjw,zcv]
            have:n=i:=by rw[←h1,e,h2]
            exact hnm ⟨this,by subst this;omega⟩
           show Rp E w' F' true c (vs (n*U.wd τ+m)) (if n*U.wd τ+m=i*U.wd τ+j then pre++lb'++post else fps (n*U.wd τ+m))
           rw[if_neg hne]
           have hltm:=row_lt hz hm'
           refine(h7 n z m c hz hm').keepT (fun c' hc'=>hkeep c' ?_)
           rcases Nat.lt_or_gt_of_ne hne with hlt'|hgt
           ·simp only[zao,zak,zat,zay]
            exact .inl (.inl (.inr ⟨_,hlt',hc'⟩))
           ·simp only[zao,zat,zaz,zay]
            refine .inr (.inr ⟨n*U.wd τ+m,⟨n*U.wd τ+m-(i*U.wd τ+j+1),by omega,by omega⟩,hc'⟩)
         ·simp only[zcu]
          rw[qakr _ _ hlt,zep,zbm,if_pos rfl]
          have e1:(List.range (i*U.wd τ+j)).flatMap (fun n=>if n=i*U.wd τ+j then pre++lb'++post else fps n)=(List.range (i*U.wd τ+j)).flatMap fps:=by
           rw[zct,zct]
           congr 1
           refine zcr fun n hn=> ?_
           rw[if_neg (by have:=zay.1 hn;omega)]
          have e2:((List.range (xs.length*U.wd τ-(i*U.wd τ+j)-1)).map (·+(i*U.wd τ+j+1))).flatMap (fun n=>if n=i*U.wd τ+j then pre++lb'++post else fps n)=((List.range (xs.length*U.wd τ-(i*U.wd τ+j)-1)).map (·+(i*U.wd τ+j+1))).flatMap fps:=by
           rw[zct,zct]
           congr 1
           refine zcr fun n hn=> ?_
           obtain⟨m,_,rfl⟩:=zaz.1 hn
           rw[if_neg (by omega)]
          rw[e1,e2]
          simp[zbr]
      ·cases hc
     ·cases hc
    ·cases hw
   ·cases hw
theorem Sim.upd1(h:Sim E pm F kv fp σ a w){o:Oper}(ho:o.dst=none)(k:Key)(e0 e:Ent U)(he0:σ.ent k=some e0)(ks:List Key)(ps:List Prop)(nfp:List Nat)(hkk:k∉ks)
  (hE:∀bad,(∀k',Stays w w' kv kv fp (setKey fp k nfp) (badK σ) bad k')→REnt E w' F' kv (setKey fp k nfp) bad e (kv k) nfp)
  (hFF:∀b,F b→F' b∧w'.heap[b]? =w.heap[b]?)
  (hFnew:∀b,F' b→F b∨∃k'∈k::ks,(σ.ent k').isSome=true∧b∈fp k')
  (hlive:∀k' e,k'≠k→k'∉ks→σ.ent k'=some e→∀b∈fp k',w'.heap[b]? =w.heap[b]?)
  (hnd:nfp.Nodup) (hnb:∀b∈nfp,¬F' b∧∃k'∈k::ks,(σ.ent k').isSome=true∧b∈fp k')
  (hup:Upto (fun b=>pm.W b∨pm.w0.heap.size≤b) w w'):
  Sim E pm F' kv (setKey fp k nfp) (AM.apply o ⟨none,[],ks,[(k,e)],ps⟩ σ) (a.put o.dst undef) w':=by
 have hadds:adds o (⟨none,[],ks,[(k,e)],ps⟩:Rslt U)=[]:=rfl
 have hupds:upds (⟨none,[],ks,[(k,e)],ps⟩:Rslt U)=[k]:=rfl
 have hst:∀k',Stays w w' kv kv fp (setKey fp k nfp) (badK σ) (badK (AM.apply o ⟨none,[],ks,[(k,e)],ps⟩ σ)) k':=by
  intro k'
  refine⟨rfl,?_⟩
  by_cases hk:k'=k
  ·left
   subst hk
   have:(AM.apply o (⟨none,[],ks,[(k',e)],ps⟩:Rslt U) σ).dirty.any (keq k')=true:=qaaw.2 (by simp[AM.apply])
   simp[badK,this]
  ·by_cases hkk':k'∈ks
   ·left
    simp[badK,qadn o _ σ k' (by rw[hadds];simp) (by rw[hupds];simpa using hk) hkk']
   ·have hee:=qadp o (⟨none,[],ks,[(k,e)],ps⟩:Rslt U) σ k' (by rw[hadds];simp) (by rw[hupds];simpa using hk) hkk'
    have hdirty:(AM.apply o (⟨none,[],ks,[(k,e)],ps⟩:Rslt U) σ).dirty.any (keq k')=σ.dirty.any (keq k'):=by
     rw[zcm,qaaw,qaaw]
     simp[AM.apply,hk]
    cases hb:badK σ k'
    ·right
     refine⟨rfl,qalv hk,?_⟩
     simp only[badK,zcp] at hb
     obtain⟨e',he'⟩:∃e,σ.ent k'=some e:=by
      cases hx:σ.ent k' with
      |none=>rw[hx] at hb;simp at hb
      |some e=>exact⟨e,rfl⟩
     exact hlive k' e' hk hkk' he'
    ·left
     simp only[badK] at hb⊢
     rw[hee,hdirty];exact hb
 have hin:∀b,(∃k'∈k::ks,(σ.ent k').isSome=true∧b∈fp k')→(pm.W b∨pm.w0.heap.size≤b)∧b<w.heap.size:=by
  rintro b ⟨k',_,hl,hb⟩
  obtain⟨e',he'⟩:=zag.1 hl
  exact(h.mine k' e' b he' hb).2
 refine h.apply o _ undef (fun x hx=>by rw[ho] at hx;cases hx) ?_ (fun _ _=>rfl) ?_ ?_ hFF ?_ ?_ ?_ ?_ ?_ ?_ (h.upto.trans hup) hup.size
 ·intro x hx;cases hx
 ·intro k' _ hk;rw[hupds] at hk;exact qalv (by simpa using hk)
 ·intro k' hk;rw[hadds] at hk;simp at hk
 ·intro k' e' _ hk hk2 he b hb;rw[hupds] at hk;exact hlive k' e' (by simpa using hk) hk2 he b hb
 ·rintro k' e' (⟨j,_,hj⟩|hk)
  ·simp at hj
  ·simp only[zau,zax] at hk
   obtain⟨rfl,rfl⟩:=hk
   rw[qalw]
   refine⟨hE _ hst,hnd,fun b hb=> ?_⟩
   obtain⟨h1,h2⟩:=hnb b hb
   have h3:=hin b h2
   have:=hup.size
   exact⟨h1,h3.1,by omega⟩
 ·intro k' e' b _ hk hk2 he hb hF'
  rw[hupds] at hk
  rcases hFnew b hF' with h1|⟨k2,hk2',hl,hb'⟩
  ·exact(h.mine k' e' b he hb).1 h1
  ·obtain⟨e2,he2⟩:=zag.1 hl
   exact h.apart k' k2 e' e2 b (fun e=>by subst e;rcases zak.1 hk2' with rfl|h;exact hk (by simp);exact hk2 h) he he2 hb hb'
 ·intro k1 k' b hne hk hk' hb
  rw[hadds,hupds] at hk hk'
  simp only[zau,zcf,false_or] at hk hk'
  subst hk
  rw[qalw] at hb
  rcases hk' with rfl|⟨hk',hl'⟩
  ·exact absurd rfl hne
  ·rw[qalv (Ne.symm hne)]
   obtain⟨e',he'⟩:=zag.1 hl'
   intro hb'
   obtain⟨k2,hk2,hl,hbk⟩:=(hnb b hb).2
   obtain⟨e2,he2⟩:=zag.1 hl
   exact h.apart k2 k' e2 e' b (fun e=>by subst e;rcases zak.1 hk2 with rfl|h;exact hne rfl;exact hk' h) he2 he' hbk hb'
 ·intro b hb
  rcases hFnew b hb with h1|h1
  ·have:=h.Flt b h1;have:=hup.size;omega
  ·have:=(hin b h1).2;have:=hup.size;omega
 ·intro b hb
  rcases hFnew b hb with h1|h1
  ·exact h.Fsub b h1
  ·exact .inr (hin b h1).1
theorem qamv{P:Program}{t:TypeId}{n g off:Nat}{cur:Array Value}{e:TypeId}{v:Value}(hs:(P.info? t).map (·.size)=some n)(hv:v.cells.size=n)(h1:∀u∈v.cells.toList,u.oneCell'=true)
  (hg:w.heap[g]? =some (.cells cur e (0,0))) (hle:off+n≤cur.size):
  (Instr.storeAt t (.pointer (some ⟨g,off,none⟩)) v).run P w=.ok () (w.setRow g (cur.toList.take off++v.cells.toList++cur.toList.drop (off+n)).toArray):=by
 cases hq:P.info? t with
 |none=>rw[hq] at hs;cases hs
 |some i=>
  rw[hq] at hs
  simp only[zcd,zae] at hs
  have hst:=run_storeCells_at P g off e v.cells.toList 0 cur w hg (by simp;omega) h1
  simp only[zcv,zbn] at hst
  simp[Instr.storeAt,Instr.sureAddr,storeVar,Go.sizeOf,typeInfo,hq,hst,hv]
  omega
theorem RDs.oneCell{xs:List (AC U)}{vs:List Value}(h:RDs E w F kv fp bad xs vs):∀v∈vs,v.oneCell'=true:=by
 intro v hv
 obtain⟨n,hn,rfl⟩:=zbk hv
 exact(h.2 n (xs[n]'(by rw[h.1];exact hn)) _ (zad _) (zad hn)).1.1
theorem qamy(h:Sim E pm F kv fp σ a w){o:Oper}(ho:o.dst=none){t:TypeId}{x y:Operand}(hop:o.op=.store t x y){sx:SV U}{yx:AC U}{z:AV U}{n:Nat}{rs:List Key}{r:Rslt U}
  (hx:RS E w F kv fp (badK σ) sx (a.eval x)) (hac:ac? sx=some yx) (hy:RS E w F kv fp (badK σ) (.v z) (a.eval y)) (hs:E.size t=some n) (hn:n=z.cs.length)
  (hr:storeAt (restrict σ.ent rs) σ.dirty z yx=some r) (hp:∀p∈r.pre,p) {next:Act→World→Prop} {Q:Exit→Act→World→Prop}
  (hnx:∀F kv fp a' w',Sim E pm F kv fp (AM.apply o r σ) a' w'→next a' w'):o.wp E.P a w next Q:=by
 have hrd:=qaaf hx hac
 obtain⟨hz1,hz2⟩:=qaaj hy
 have exec:∀{w1},(Instr.storeAt t (a.eval x) (a.eval y)).run E.P w=.ok () w1→(execOp a.eval o).run E.P w=.ok .skip w1:=by
  intro w1 hr
  unfold execOp;simp only[hop]
  rw[Sem.run_bind,hr];rfl
 unfold storeAt at hr
 split at hr
 ·rename_i k off
  split at hr
  ·rename_i cs he
   have he':=qald he
   cases hb:Nat.ble (off+z.cs.length) cs.length<;>simp only[hb,cond_false,cond_true] at hr
   ·cases hr
   ·have hle:=zbu hb
    cases hr
    obtain⟨b,h1,h2⟩:=RA_of hrd rfl
    obtain⟨b',cur,e,h3,h4,h5,h6⟩:=h.ents k _ he'
    rw[h1] at h3;cases h3
    have hcl:cs.length=cur.size:=by simpa using h6.1
    have hrun:=qamv (P:=E.P) (n:=n) (off:=off) (v:=a.eval y) hs (by rw[hz2];exact hn.symm) hz1.oneCell h4 (by omega)
    rw[←h2] at hrun
    refine qant (exec hrun) (hnx F kv (setKey fp k [b]) _ _ (h.upd1 ho k _ _ he' [] [] [b] (by simp) ?_ ?_ ?_ ?_ ?_ ?_ ?_))
    ·intro bad hst
     refine⟨b,_,e,h1,setRow_heap w b cur _ _ _ h4,rfl,?_⟩
     have hF':∀b',F b'→F b'∧(w.setRow b (cur.toList.take off++(a.eval y).cells.toList++cur.toList.drop (off+n)).toArray).heap[b']? =w.heap[b']? :=fun b' hb'=>
      ⟨hb',setRow_other w b b' _ (fun e=>(h.mine k _ b he' (by rw[h5];simp)).1 (e▸hb'))⟩
     have:=(((h6.take off).append hz1).append (h6.drop (off+n))).move (bad':=bad) (kv':=kv) (fp':=setKey fp k [b]) (fun _ _ k' _=>hst k') hF'
     rw[hn] at this⊢
     simpa using this
    ·intro b' hb';exact⟨hb',setRow_other w b b' _ (fun e=>(h.mine k _ b he' (by rw[h5];simp)).1 (e▸hb'))⟩
    ·intro b' hb';exact .inl hb'
    ·intro k' e' hk _ he2 b' hb'
     exact setRow_other w b b' _ (fun e=>h.apart k' k _ _ b' hk he2 he' hb' (by rw[h5,e];simp))
    ·simp
    ·intro b' hb'
     rw[zau.1 hb']
     exact⟨(h.mine k _ b he' (by rw[h5];simp)).1,k,by simp,by simp[he'],by rw[h5];simp⟩
    ·exact⟨rfl,rfl,rfl,by simp,fun b' _ hnw=>setRow_other w b b' _ (fun e=>hnw (by rw[e];exact(h.mine k _ b he' (by rw[h5];simp)).2.1))⟩
  ·cases hr
 ·rename_i k p i wd off
  split at hr
  ·rename_i x0 d he
   have he':=qald he
   cases hcl:clearP (restrict σ.ent rs) σ.dirty k p<;>simp only[hcl,cond_false,cond_true] at hr
   ·cases hr
   ·split at hr
    ·rename_i ps b hw
     split at hr
     ·rename_i qs ds ks d' htk
      split at hr
      ·rename_i x' hch
       cases hcond:(Nat.beq wd (U.wd b.τ)&&Nat.ble (off+ds.length) (U.wd b.τ)&&distinct (k::ks)&&((d&&d')||p.isEmpty))<;>simp only[hcond,cond_false,cond_true] at hr
       ·cases hr
       ·cases hr
        simp only[zaf] at hcond
        obtain⟨⟨⟨c1,c2⟩,c3⟩,c4⟩:=hcond
        have hwd:=zai c1
        subst hwd
        have hle:=zbu c2
        have hkn:=qade.1 c3
        have hkk:k∉ks:=(zbe.1 hkn).1
        have hi:i<b.xs.length:=hp _ (by simp)
        have hpre:∀q∈ps,q:=fun q hq=>hp q (by simp[hq])
        obtain⟨t1,t2,t3,t4⟩:=qang h htk (fun q hq=>hp q (by simp[hq])) hz1 (zbe.1 hkn).2
        obtain⟨bb,oo,nn,cc,hnav,hv⟩:=RA_of hrd (qaco hcl he)
        have hown:ROwn E w F d x0 (kv k) (fp k):=h.ents k _ he'
        have hnd:=h.nodup k _ he'
        have hdl:ds.length=n:=by rw[t1,hn]
        have hcz:(a.eval y).cells.toList.length=ds.length:=by simp[hz2,t1]
        have node:∀{g cap:Nat}{cur:Array Value}{vs:List Value},(.slice (some ⟨bb,oo,none⟩) nn cc:Value)=.slice (some ⟨g,0,none⟩) b.xs.length cap→w.heap[g]? =some (.cells cur (E.tid b.τ) (0,0))→b.xs.length≤cap→
          cur.size=cap*U.wd b.τ→cur.toList.take (b.xs.length*U.wd b.τ)=vs→
          (Instr.storeAt t (a.eval x) (a.eval y)).run E.P w=.ok () (w.setRow g (cur.toList.take (i*U.wd b.τ+off)++(a.eval y).cells.toList++cur.toList.drop (i*U.wd b.τ+off+n)).toArray)∧
          (cur.toList.take (i*U.wd b.τ+off)++(a.eval y).cells.toList++cur.toList.drop (i*U.wd b.τ+off+n)).toArray.size=cap*U.wd b.τ∧
          (cur.toList.take (i*U.wd b.τ+off)++(a.eval y).cells.toList++cur.toList.drop (i*U.wd b.τ+off+n)).toArray.toList.take (b.xs.length*U.wd b.τ)=
           vs.take (i*U.wd b.τ+off)++(a.eval y).cells.toList++vs.drop (i*U.wd b.τ+off+(a.eval y).cells.toList.length):=by
         intro g cap cur vs e1 e2 e3 e4 e5
         simp only[Value.slice.injEq,zae,Addr.mk.injEq,and_true] at e1
         obtain⟨⟨rfl,rfl⟩,_,_⟩:=e1
         have hN:i*U.wd b.τ+U.wd b.τ≤b.xs.length*U.wd b.τ:=by
          have:(i+1)*U.wd b.τ≤b.xs.length*U.wd b.τ:=zbc _ hi
          rw[zci,zdw] at this
          exact this
         have hcap:b.xs.length*U.wd b.τ≤cap*U.wd b.τ:=zbc _ e3
         have hrun:=qamv (P:=E.P) (n:=n) (off:=i*U.wd b.τ+off) (v:=a.eval y) hs (by rw[hz2];exact hn.symm) hz1.oneCell e2 (by omega)
         refine⟨by rw[hv,zbw];exact hrun,by simp only[zdj,zce,zaw,zcs,zbn,hz2,←hn];omega,?_⟩
         subst e5
         refine zcx fun m=> ?_
         rw[zan]
         by_cases hm:m<b.xs.length*U.wd b.τ
         ·rw[if_pos hm]
          by_cases h1:m<i*U.wd b.τ+off
          ·rw[zbr,zaq (by simp;omega),zbr,zaq (by simp;omega),zan,if_pos h1,zan,if_pos h1,zan,if_pos hm]
          ·by_cases h2:m<i*U.wd b.τ+off+n
           ·rw[zaq (by simp[hz2,←hn];omega),zap (by simp;omega),zaq (by simp[hz2,←hn];omega),zap (by simp;omega)]
            congr 1;simp;omega
           ·rw[zap (by simp[hz2,←hn];omega),zap (by simp[hz2,←hn];omega),zbv,zbv,zan,if_pos (by simp[hz2,←hn];omega)]
            congr 1;simp[hz2,←hn];omega
         ·rw[if_neg hm,zaj]
          simp only[zce,zaw,zcs,zbn,hz2,←hn]
          omega
        have hks:∀b'∈k::ks,(σ.ent b').isSome=true:=fun k' hk'=>by
         rcases zak.1 hk' with rfl|hk'
         ·simp[he']
         ·exact t2 k' hk'
        have hbmine:∀k'∈k::ks,∀b'∈fp k',¬F b'∧(pm.W b'∨pm.w0.heap.size≤b'):=fun k' hk' b' hb'=>by
         obtain⟨e,he⟩:=zag.1 (hks k' hk')
         exact⟨(h.mine k' e b' he hb').1,(h.mine k' e b' he hb').2.1⟩
        have hbapart:∀k'∈ks,∀b'∈fp k',b'∉fp k:=fun k' hk' b' hb' hb2=>by
         obtain⟨e,he⟩:=zag.1 (t2 k' hk')
         exact h.apart k' k _ _ b' (fun e=>hkk (e▸hk')) he he' hb' hb2
        have hother:∀{g:Nat},g∈fp k→∀(cells:Array Value) k' e,k'≠k→k'∉ks→σ.ent k'=some e→∀b'∈fp k',(w.setRow g cells).heap[b']? =w.heap[b']? :=fun hg cells k' e' hk _ he2 b' hb'=>
         setRow_other w _ b' _ (fun e=>h.apart k' k _ _ b' hk he2 he' hb' (e▸hg))
        have hupg:∀{g:Nat},g∈fp k→∀(cells:Array Value),Upto (fun b=>pm.W b∨pm.w0.heap.size≤b) w (w.setRow g cells):=fun hg cells=>
         ⟨rfl,rfl,rfl,by simp,fun b' _ hnw=>setRow_other w _ b' _ (fun e=>hnw (e▸(hbmine k (by simp) _ hg).2))⟩
        cases hdd:(d&&d') with
        |true=>
         simp only[zaf] at hdd
         obtain⟨rfl,rfl⟩:=hdd
         obtain⟨gl,gl1,gl2,gl3,gl4⟩:=t3 rfl
         obtain⟨vb,lb,pre,post,b',f1,f2,f3,f4,f5⟩:=hown.focus hnd hw hpre hch
         have hvb:vb=.slice (some ⟨bb,oo,none⟩) nn cc:=f2.unique hnav
         rcases f3.rows with⟨h3,_⟩|⟨g,cap,cur,vs,fl,h3,h4,h5,h6,h7,h8,h9,h10⟩
         ·rw[h3] at hi;simp at hi
         ·obtain⟨n1,n2,n3⟩:=node (hvb▸h3) h4 h5 h7 h8
          rw[qalg] at f1
          split at f1
          ·rename_i yy hdec
           cases f1
           have hpatch:=h9.patch hi hdec hle hcz gl1 gl2
           have hgk:g∈fp k:=by rw[f4,h10];simp
           have hlbn:(g::fl.flatten).Nodup:=by
            rw[f4,h10] at hnd
            exact(zav.1 (zav.1 hnd).1).2.1
           have hglk:∀b'∈gl.flatten,b'∉fp k:=fun b' hb'=>by
            obtain⟨k',hk',hb'⟩:=gl4 b' hb'
            exact hbapart k' hk' b' hb'
           have hsub:((fl.take (i*U.wd b.τ+off)).flatten++(fl.drop (i*U.wd b.τ+off+gl.length)).flatten).Sublist fl.flatten:=by
            have h1:fl.flatten=(fl.take (i*U.wd b.τ+off)).flatten++(fl.drop (i*U.wd b.τ+off)).flatten:=by rw[←zcc,zcq]
            have h2:(fl.drop (i*U.wd b.τ+off)).flatten=((fl.drop (i*U.wd b.τ+off)).take gl.length).flatten++((fl.drop (i*U.wd b.τ+off)).drop gl.length).flatten:=by rw[←zcc,zcq]
            rw[h1,h2,List.drop_drop]
            exact List.Sublist.append_left (zem _ _) _
           have hflat:(fl.take (i*U.wd b.τ+off)++gl++fl.drop (i*U.wd b.τ+off+gl.length)).flatten=(fl.take (i*U.wd b.τ+off)).flatten++gl.flatten++(fl.drop (i*U.wd b.τ+off+gl.length)).flatten:=by
            simp[zcc]
           have hmemfl:∀c∈(fl.take (i*U.wd b.τ+off)++gl++fl.drop (i*U.wd b.τ+off+gl.length)).flatten,c∈gl.flatten∨c∈fl.flatten:=by
            intro c hc
            rw[hflat,zao,zao] at hc
            rcases hc with(hc|hc)|hc
            ·exact .inr (hsub.subset (by simp[hc]))
            ·exact .inl hc
            ·exact .inr (hsub.subset (zas _ hc))
           have hgne:∀c∈(fl.take (i*U.wd b.τ+off)++gl++fl.drop (i*U.wd b.τ+off+gl.length)).flatten,c≠g:=by
            intro c hc e
            rcases hmemfl c hc with hc|hc
            ·exact hglk c hc (e▸hgk)
            ·exact(zbe.1 hlbn).1 (e▸hc)
           have hnew:=ROwn.of_rows (E:=E) (w:=w.setRow g (cur.toList.take (i*U.wd b.τ+off)++(a.eval y).cells.toList++cur.toList.drop (i*U.wd b.τ+off+n)).toArray) (F:=F) (setRow_heap w g cur _ _ _ h4) (by simpa using h5) h6 n2
            (by rw[zcu];exact n3) (hpatch.keepT (fun c hc=>setRow_other w g c _ (hgne c hc)))
           rw[zcu] at hnew
           have hpp:∀c∈pre++post,c≠g:=by
            intro c hc e
            subst e
            rw[f4,h10] at hnd
            have hnd1:=zav.1 hnd
            have hnd2:=zav.1 hnd1.1
            rcases zao.1 hc with hc|hc
            ·exact hnd2.2.2 c hc c (by simp) rfl
            ·exact hnd1.2.2 c (by simp) c hc rfl
           have hback:=f5 (w.setRow g (cur.toList.take (i*U.wd b.τ+off)++(a.eval y).cells.toList++cur.toList.drop (i*U.wd b.τ+off+n)).toArray) F _ rfl (by rw[h3];exact hnew) (fun c hc=>setRow_other w g c _ (hpp c hc))
           refine qant (exec n1) (hnx F kv (setKey fp k _) _ _ (h.upd1 ho k _ _ he' ks _ _ hkk (fun bad hst=>hback) ?_ (fun b' hb'=> .inl hb') (hother hgk _) ?_ ?_ (hupg hgk _)))
           ·intro b' hb';exact⟨hb',setRow_other w g b' _ (fun e=>(hbmine k (by simp) g hgk).1 (e▸hb'))⟩
           ·have hbase:(pre++(g::((fl.take (i*U.wd b.τ+off)).flatten++(fl.drop (i*U.wd b.τ+off+gl.length)).flatten))++post).Nodup:=by
             rw[f4,h10] at hnd
             exact(List.Sublist.append_right (List.Sublist.append_left (List.Sublist.cons_cons _ hsub) _) _).nodup hnd
            have hG:(gl.flatten++(pre++(g::((fl.take (i*U.wd b.τ+off)).flatten++(fl.drop (i*U.wd b.τ+off+gl.length)).flatten))++post)).Nodup:=by
             refine zav.2 ⟨gl3,hbase,fun c hc c' hc' e=> ?_⟩
             subst e
             refine hglk c hc ?_
             rw[f4,h10]
             simp only[zao,zak] at hc'⊢
             rcases hc' with(hc'|hc'|hc'|hc')|hc'
             ·exact .inl (.inl hc')
             ·exact .inl (.inr (.inl hc'))
             ·exact .inl (.inr (.inr (hsub.subset (by simp[hc']))))
             ·exact .inl (.inr (.inr (hsub.subset (zas _ hc'))))
             ·exact .inr hc'
            rw[hflat]
            refine(List.Perm.nodup_iff ?_).2 hG
            refine List.perm_iff_count.2 fun c=> ?_
            simp only[List.count_append,List.count_cons]
            omega
           ·intro b' hb'
            simp only[zao,zak] at hb'
            have hcase:b'∈fp k∨b'∈gl.flatten:=by
             rcases hb' with(hb'|hb'|hb')|hb'
             ·left;rw[f4];simp[hb']
             ·left;rw[hb'];exact hgk
             ·rcases hmemfl b' hb' with hb'|hb'
              ·exact .inr hb'
              ·left;rw[f4,h10];simp[hb']
             ·left;rw[f4];simp[hb']
            rcases hcase with hb'|hb'
            ·exact⟨(hbmine k (by simp) b' hb').1,k,by simp,by simp[he'],hb'⟩
            ·obtain⟨k',hk',hb'⟩:=gl4 b' hb'
             exact⟨(hbmine k' (by simp[hk']) b' hb').1,k',by simp[hk'],t2 k' hk',hb'⟩
          ·cases f1
        |false=>
         rw[hdd,zcw,List.isEmpty_iff] at c4
         subst c4
         simp only[walk,zae,zax] at hw
         obtain⟨_,rfl⟩:=hw
         simp only[chg] at hch
         have hvb:kv k=.slice (some ⟨bb,oo,none⟩) nn cc:=Eq.symm hnav
         rcases hown.rows with⟨h3,_⟩|⟨g,cap,cur,vs,fl,h3,h4,h5,h6,h7,h8,h9,h10⟩
         ·rw[h3] at hi;simp at hi
         ·obtain⟨n1,n2,n3⟩:=node (hvb▸h3) h4 h5 h7 h8
          rw[qalg] at hch
          split at hch
          ·rename_i yy hdec
           cases hch
           have hgk:g∈fp k:=by rw[h10];simp
           have hF':∀c,(F c∨c∈fl.flatten∨∃k'∈ks,c∈fp k')→c≠g:=by
            rintro c (hc|hc|⟨k',hk',hc⟩) rfl
            ·exact(hbmine k (by simp) c hgk).1 hc
            ·rw[h10] at hnd;exact(zbe.1 hnd).1 hc
            ·exact hbapart k' hk' c hc hgk
           have hshare:=h9.share (F':=fun c=>F c∨c∈fl.flatten∨∃k'∈ks,c∈fp k') (fun c hc=> .inl hc) (fun c hc=> .inr (.inl hc))
           have hpatch:=hshare.patch hi hdec hle (us:=(a.eval y).cells.toList) (gl:=List.replicate ds.length []) hcz (by simp) (fun m c hc=>by
            rw[qafs];exact(t4 m c hc).widen (fun c hc=>hc.imp id .inr))
           have hkeep:=hpatch.keep (w':=w.setRow g (cur.toList.take (i*U.wd x0.τ+off)++(a.eval y).cells.toList++cur.toList.drop (i*U.wd x0.τ+off+n)).toArray)
            (F':=fun c=>F c∨c∈fl.flatten∨∃k'∈ks,c∈fp k') (fun c hc=>⟨hc,setRow_other w g c _ (hF' c hc)⟩) (by rw[hpatch.false_fl];simp)
           have hnew:=ROwn.of_rows (E:=E) (setRow_heap w g cur _ _ _ h4) (by simpa using h5) h6 n2 (by rw[zcu];exact n3) hkeep
           rw[hpatch.false_fl,zcu] at hnew
           refine qant (exec n1) (hnx (fun c=>F c∨c∈fl.flatten∨∃k'∈ks,c∈fp k') kv (setKey fp k _) _ _ (h.upd1 ho k _ _ he' ks _ [g] hkk (fun bad hst=>by rw[h3,hdd];exact hnew) ?_ ?_ (hother hgk _) (by simp) ?_ (hupg hgk _)))
           ·intro b' hb';exact⟨.inl hb',setRow_other w g b' _ (hF' b' (.inl hb'))⟩
           ·rintro c (hc|hc|⟨k',hk',hc⟩)
            ·exact .inl hc
            ·exact .inr ⟨k,by simp,by simp[he'],by rw[h10];simp[hc]⟩
            ·exact .inr ⟨k',by simp[hk'],t2 k' hk',hc⟩
           ·intro b' hb'
            rw[zau.1 hb']
            exact⟨fun hc=>hF' g hc rfl,k,by simp,by simp[he'],hgk⟩
          ·cases hch
      ·cases hr
     ·cases hr
    ·cases hr
  ·cases hr
 ·cases hr
end AM
