/- THE ABSTRACT MACHINE: rows of which some elements are gone: literals are laid into them, their ends are cleared. -/
import Derived.Test.YtlachfpabecaeaaQAmPart
import Derived.Test.YtlachfpabecaeaaQAmOps10
namespace AM
set_option linter.unusedVariables false
open Go
variable{U:dw}{E:Env U}{pm:Pm}
variable{F F':Nat->Prop}{kv:Key->Value}{fp:Key->List Nat}{σ:aa U}{a:Act}{w w':World}{bad:Key->Bool}
theorem aU.write{dead dead':Nat->Bool}{x:fx U}{xs':List (U.T x.τ)}{v:Value}{l:List Nat}(h:aU E w F dead x v l)(fc:l.Nodup)(hF:∀b∈l,¬F b){b cap:Nat}{cur cur':Array Value}
  (hv:v=.slice (some ⟨b,0,none⟩) x.xs.length cap) (hb:w.heap[b]? =some (.cells cur (E.tid x.τ) (0,0))) (ap:w'.heap[b]? =some (.cells cur' (E.tid x.τ) (0,0))) (iq:∀c,c≠b->w'.heap[c]? =w.heap[c]?)
  (T:Nat->Option Value) (jf:cur'.size=cur.size) (K7:∀m,m<x.xs.length*U.wd x.τ->cur'[m]? =(match T m with|some u=>some u|none=>cur[m]?)) (hT:∀m u,m<x.xs.length*U.wd x.τ->T m=some u->bD u)
  (hlen:xs'.length=x.xs.length)
  (wJ:∀i y j c,dead' i=false->xs'[i]? =some y->(U.enc x.τ y)[j]? =some c->(∃u,T (i*U.wd x.τ+j)=some u/\c=.lit u)\/(T (i*U.wd x.τ+j)=none/\dead i=false/\∃y0,x.xs[i]? =some y0/\(U.enc x.τ y0)[j]? =some c))
  (OR:∀i j,i<x.xs.length->dead' i=true->j<U.wd x.τ->(T (i*U.wd x.τ+j)).isSome=true\/dead i=true):
  x.xs=[]\/∃l',aU E w' F dead' ⟨x.τ,xs'⟩ v l'/\l'.Sublist l/\b∈l:=by
 rcases h with⟨h0,_⟩|⟨b0,Pv,LJ,vs,bM,g1,g2,hc,hm,hs,N9,hr,dD,rfl⟩
 ·exact .inl h0
 right
 rw[hv] at g1
 simp only[Value.slice.injEq,bH,Addr.mk.injEq,and_true,true_and] at g1
 obtain⟨rfl,rfl⟩:=g1
 rw[hb] at g2
 simp only[bH,Obj.cells.injEq,and_true] at g2
 subst g2
 have hw:=U.dq x.τ
 obtain⟨vX,A4⟩:=gx.1 fc
 let df:Nat->List Nat:=fun m=>if(T m).isSome=true\/x.xs.length*U.wd x.τ<=m then[] else bM m
 let jJ:Nat->Value:=fun m=>match T m with|some u=>u|none=>vs m
 have eE:((List.range (x.xs.length*U.wd x.τ)).flatMap df).Sublist ((List.range (x.xs.length*U.wd x.τ)).flatMap bM):=zN fun m _=>by
  simp only[df];split
  ·exact List.nil_sublist _
  ·exact yu _
 refine⟨b::(List.range (x.xs.length*U.wd x.τ)).flatMap df,.inr ⟨b,cap,cur',jJ,df,by rw[hv,hlen],ap,by rw[hlen];exact hc,hm,by rw[jf,hs],fun m lR=> ?_,fun i y j c hi hy hj=> ?_,fun i j hi hj=> ?_,by rw[hlen]⟩,List.Sublist.cons_cons _ eE,gp⟩
 ·simp only[hlen] at lR
  rw[K7 m lR]
  simp only[jJ]
  cases ht:T m with
  |none=>exact N9 m lR
  |some u=>exact⟨rfl,hT m u lR ht⟩
 ·have bU:i*U.wd x.τ+j<x.xs.length*U.wd x.τ:=by rw[<-hlen];exact bm hy hj
  show Rp E w' F true c (jJ (i*U.wd x.τ+j)) (df (i*U.wd x.τ+j))
  rcases wJ i y j c hi hy hj with⟨u,h1,rfl⟩|⟨h1,h2,y0,h3,h4⟩
  ·have e1:jJ (i*U.wd x.τ+j)=u:=by simp only[jJ,h1]
   have e2:df (i*U.wd x.τ+j)=[]:=by simp only[df];rw[if_pos (.inl (by rw[h1];rfl))]
   rw[e1,e2]
   exact .lit _ _ (hT _ u bU h1)
  ·have e1:jJ (i*U.wd x.τ+j)=vs (i*U.wd x.τ+j):=by simp only[jJ,h1]
   have e2:df (i*U.wd x.τ+j)=bM (i*U.wd x.τ+j):=by simp only[df];rw[if_neg (by rw[h1];simp;omega)]
   rw[e1,e2]
   refine(hr i y0 j c h2 h3 h4).bu (fun c' ec=>⟨ec,iq c' (fun e=> ?_)⟩) (fun c' ec=>iq c' (fun e=> ?_))
   ·subst e;exact hF c' (by simp) ec
   ·subst e;exact vX (fC.2 ⟨_,iD.2 bU,ec⟩)
 ·show df (i*U.wd x.τ+j)=[]
  simp only[df]
  by_cases gu:i<x.xs.length
  ·rcases OR i j gu hi hj with h1|h1
   ·rw[if_pos (.inl h1)]
   ·split
    ·rfl
    ·exact dD i j h1 hj
  ·have:x.xs.length*U.wd x.τ<=i*U.wd x.τ:=kS _ (by omega)
   rw[if_pos (.inr (by omega))]
theorem aE.zv(h:aE E pm F kv fp σ a w){o:Oper}(hd:∀d,o.dst=some d->d<σ.n)(k:Key)(e0 e:bZ U)(fm:σ.aw k=some e0)(sv:Option (SV U))(v:Value)(ps:List Prop)(lQ:List Nat)
  (mX:∀bad x,sv=some x->RS E w' F kv (aL fp k lQ) bad x v)
  (hE:∀bad,ig E w' F kv (aL fp k lQ) bad e (kv k) lQ) (eE:lQ.Sublist (fp k))
  (iq:∀c,c∉fp k->w'.heap[c]? =w.heap[c]?) (fi:bB (fun b=>pm.W b\/pm.w0.heap.size<=b) w w'):
  aE E pm F kv (aL fp k lQ) (AM.apply o ⟨sv,[],[],[(k,e)],ps⟩ σ) (a.put o.dst v) w':=by
 have de:aM o (⟨sv,[],[],[(k,e)],ps⟩:az U)=[]:=rfl
 have dn:cK (⟨sv,[],[],[(k,e)],ps⟩:az U)=[k]:=rfl
 have lZ:∀b,F b->F b/\w'.heap[b]? =w.heap[b]? :=fun b hb=>⟨hb,iq b (fun hk=>(h.bt k e0 b fm hk).1 hb)⟩
 refine h.apply o _ v hd (fun x hx=>mX _ x hx) (fun _ _=>rfl) ?_ ?_ lZ ?_ ?_ ?_ ?_ ?_ h.iy (h.upto.trans fi) fi.size
 ·intro k' _ hk;rw[dn] at hk;exact l7 (by simpa using hk)
 ·intro k' hk;rw[de] at hk;simp at hk
 ·intro k' e' _ hk _ he b hb
  rw[dn] at hk
  exact iq b (fun cn=>h.apart k' k e' e0 b (by simpa using hk) he fm hb cn)
 ·rintro k' e' (⟨j,_,hj⟩|hk)
  ·simp at hj
  ·simp only[gn,fB] at hk
   obtain⟨rfl,rfl⟩:=hk
   rw[im]
   refine⟨hE _,eE.nodup (h.nodup k' e0 fm),fun b hb=> ?_⟩
   obtain⟨g1,g2,g3⟩:=h.bt k' e0 b fm (eE.subset hb)
   exact⟨g1,g2,BZ g3 fi.size⟩
 ·intro k' e' b _ _ _ he hb;exact(h.bt k' e' b he hb).1
 ·intro k1 k' b aX hk aG hb
  rw[de,dn] at hk aG
  simp only[gn,wE,false_or] at hk aG
  subst hk
  rw[im] at hb
  rcases aG with rfl|⟨_,rb⟩
  ·exact absurd rfl aX
  ·rw[l7 (Ne.symm aX)]
   obtain⟨e',a_⟩:=eD.1 rb
   exact h.apart k1 k' e0 e' b aX fm a_ (eE.subset hb)
 ·intro b hb
  have:=h.iz b hb
  have:=fi.size
  omega
theorem HR(h:aE E pm F kv fp σ a w){o:Oper}(ho:o.dst=none){t:TypeId}{x y:Operand}(gy:o.op=.store t x y){sx:SV U}{yx:AC U}{z:AV U}{n:Nat}{rs:List Key}{r:az U}
  (hx:RS E w F kv fp (ay σ) sx (a.eval x)) (kz:i_ sx=some yx) (hy:RS E w F kv fp (ay σ) (.v z) (a.eval y)) (hs:E.size t=some n) (hn:n=z.cs.length)
  (hr:kZ (restrict σ.aw rs) z yx=some r) (hp:∀p∈r.pre,p) {next:Act->World->Prop} {Q:Exit->Act->World->Prop}
  (A2:∀F kv fp a' w',aE E pm F kv fp (AM.apply o r σ) a' w'->next a' w'):o.wp E.P a w next Q:=by
 have mr:=du hx kz
 obtain⟨mn,nN⟩:=tz hy
 unfold kZ at hr
 split at hr
 rotate_left
 ·cases hr
 rename_i k i wd off
 split at hr
 rotate_left
 ·cases hr
 rename_i x0 dead us he A9
 have a_:=cQ he
 rw[bV] at hr
 split at hr
 rotate_left
 ·cases hr
 rename_i eK
 simp only[c9] at eK
 have je:=eI eK.1
 have hle:=qj eK.2
 subst je
 rw[zR] at hr
 split at hr
 rotate_left
 ·cases hr
 rename_i a' Lo
 split at Lo
 rotate_left
 ·cases Lo
 rename_i yv sj
 cases Lo
 cases hr
 have hi:i<x0.xs.length:=hp _ (by simp)
 have wJ:dead i=false:=hp _ (by simp)
 have fS:=xh A9 mn
 have lh:us.length=z.cs.length:=by rw[<-fS,nI,nN]
 have eG:aU E w F dead x0 (kv k) (fp k):=h.aJ k _ a_
 have pn:=U.dN x0.τ _ yv sj
 obtain⟨b,cap,cur,hv,hb,jf⟩:∃b cap cur,kv k=.slice (some ⟨b,0,none⟩) x0.xs.length cap/\w.heap[b]? =some (.cells cur (E.tid x0.τ) (0,0))/\x0.xs.length*U.wd x0.τ<=cur.size:=by
  rcases eG with⟨h0,_⟩|⟨b,cap,cur,vs,bM,g1,g2,g3,_,g5,_⟩
  ·rw[h0] at hi;simp at hi
  ·exact⟨b,cap,cur,g1,g2,by rw[g5];exact kS _ g3⟩
 obtain⟨bb,oo,nn,cc,eZ,EV⟩:=aA mr (by simp[cd])
 simp only[fw] at eZ
 rw[hv] at eZ
 simp only[Value.slice.injEq,bH,Addr.mk.injEq,and_true] at eZ
 obtain⟨⟨e1,e2⟩,_,_⟩:=eZ
 rw[e1,e2,kO] at EV
 have hN:i*U.wd x0.τ+U.wd x0.τ<=x0.xs.length*U.wd x0.τ:=by
  have:(i+1)*U.wd x0.τ<=x0.xs.length*U.wd x0.τ:=kS _ hi
  rw[j8,uA] at this
  exact this
 have Nh:(a.eval y).cells.toList=us:=fS
 have cx:=w5 (P:=E.P) (n:=n) (off:=i*U.wd x0.τ+off) (v:=a.eval y) hs (by rw[nN];exact hn.symm) mn.bn hb (by omega)
 rw[<-EV,Nh] at cx
 have exec:(execOp a.eval o).run E.P w=.ok .skip (w.setRow b (cur.toList.take (i*U.wd x0.τ+off)++us++cur.toList.drop (i*U.wd x0.τ+off+n)).toArray):=by
  unfold execOp;simp only[gy]
  rw[Sem.run_bind,cx];rfl
 have iq:∀c,c≠b->(w.setRow b (cur.toList.take (i*U.wd x0.τ+off)++us++cur.toList.drop (i*U.wd x0.τ+off+n)).toArray).heap[c]? =w.heap[c]? :=fun c hc=>setRow_other w b c _ hc
 have EK:∀m u,us[m]? =some u->bD u:=fun m u hm=>by
  have bU:m<z.cs.length:=by
   rw[<-lh]
   rcases fA m us.length with g|g
   ·exact g
   ·rw[fb g] at hm;cases hm
  exact(mn.2 m _ u (cF bU) (by rw[Nh];exact hm)).1
 let T:Nat->Option Value:=fun m=>if i*U.wd x0.τ+off<=m/\m<i*U.wd x0.τ+off+us.length then us[m-(i*U.wd x0.τ+off)]? else none
 have hw:=aU.write (xs':=x0.xs.set i yv) (dead':=dead) eG (h.nodup k _ a_) (fun b' ap=>(h.bt k _ b' a_ ap).1) hv hb (setRow_heap w b cur _ _ _ hb) iq T ?_ ?_ ?_ (th ..) ?_ (fun _ _ _ nU _=> .inr nU)
 ·rcases hw with h0|⟨l',g1,g2,g3⟩
  ·rw[h0] at hi;simp at hi
  have Cc:=h.bt k _ b a_ g3
  have ff:=h.zv (o:=o) (fun d hd=>by rw[ho] at hd;cases hd) k _ (.part ⟨x0.τ,x0.xs.set i yv⟩ dead) a_ none undef [i<x0.xs.length,dead i=false] l' (fun _ x hx=>by cases hx) (fun bad=>g1) g2 (fun c hc=>iq c (fun e=>hc (e▸g3)))
   ⟨rfl,rfl,rfl,by simp,fun b' _ qW=>iq b' (fun e=>qW (by rw[e];exact Cc.2.1))⟩
  exact uO exec (A2 _ _ _ _ _ ff)
 ·simp only[yt,kR,jw,n0,nI]
  omega
 ·intro m hm
  have bU:(cur.toList.take (i*U.wd x0.τ+off)).length=i*U.wd x0.τ+off:=by rw[jw,nI];omega
  rw[Gz,kP]
  simp only[T]
  by_cases h2:m<i*U.wd x0.τ+off
  ·rw[j7 (by omega),fg,if_pos h2,if_neg (by omega),rK]
  ·rw[kT (by omega),bU]
   by_cases h3:m<i*U.wd x0.τ+off+us.length
   ·rw[if_pos ⟨by omega,h3⟩,j7 (by omega),cF (by omega)]
   ·rw[if_neg (by omega),kT (by omega),nH,rK]
    show cur[i*U.wd x0.τ+off+n+(m-(i*U.wd x0.τ+off)-us.length)]? =cur[m]?
    congr 1;omega
 ·intro m u _ ht
  simp only[T] at ht
  split at ht
  ·exact EK _ u ht
  ·cases ht
 ·intro q yq j c Fb hq hj
  have ua:j<U.wd x0.τ:=by
   rw[<-U.aK x0.τ yq]
   rcases fA j (U.enc x0.τ yq).length with g|g
   ·exact g
   ·rw[fb g] at hj;cases hj
  by_cases yX:q=i
  ·subst yX
   rw[yw,if_pos rfl,if_pos hi] at hq
   cases hq
   rw[pn] at hj
   have jt:=ba (d:=U.bj x0.τ) hi
   have OC:off+(us.map (Cell.lit (Ty:=U.Ty) (T:=U.T))).length<=U.wd x0.τ:=by rw[uF];omega
   have vu:((U.enc x0.τ (x0.xs.getD q (U.bj x0.τ))).take off).length=off:=by simp[U.aK];omega
   by_cases h1:j<off
   ·refine .inr ⟨by simp only[T];rw[if_neg (by omega)],Fb,_,jt,?_⟩
    rw[kP,j7 (by rw[vu];exact h1),fg,if_pos h1] at hj
    exact hj
   ·by_cases h2:j<off+us.length
    ·left
     rw[kP,kT (by rw[vu];omega),vu,j7 (by rw[uF];omega),eW] at hj
     cases hu:us[j-off]? with
     |none=>rw[hu] at hj;cases hj
     |some u=>
      rw[hu] at hj
      simp only[nG,bH] at hj
      refine⟨u,?_,hj.symm⟩
      simp only[T]
      rw[if_pos (by omega),show q*U.wd x0.τ+j-(q*U.wd x0.τ+off)=j-off by omega,hu]
    ·refine .inr ⟨by simp only[T];rw[if_neg (by omega)],Fb,_,jt,?_⟩
     have EL:((U.enc x0.τ (x0.xs.getD q (U.bj x0.τ))).take off++us.map Cell.lit).length=off+us.length:=by rw[kR,vu,uF]
     rw[kT (by rw[EL];omega),EL,nH,uF] at hj
     rw[<-hj];congr 1;omega
  ·refine .inr ⟨?_,Fb,yq,?_,hj⟩
   ·simp only[T]
    rw[if_neg (fun fy=>yX (xv ua (show q*U.wd x0.τ+j-i*U.wd x0.τ<U.wd x0.τ by omega) (by omega)).1)]
   ·rw[yw,if_neg (fun e=>yX e.symm)] at hq
    exact hq
theorem JO(hE:E.Ok)(h:aE E pm F kv fp σ a w){o:Oper}(hd:∀d,o.dst=some d->d<σ.n){cl:Call}{t e:TypeId}{s:Operand}(gy:o.op=.call cl)(ck:cl.callee=.builtin .clear)
  (dE:cl.args.toList=[s]) (mq:cl.argTypes.toList=[t]) {τ:U.Ty} (iT:E.elem t=some e) (hc:E.code e=some τ) {ss:SV U} {k:Key} {lo hi:Nat}
  (hs:RS E w F kv fp (ay σ) ss (a.eval s)) (xP:i_ ss=some (.sub k (U.wd τ) lo hi)) {xs:List (U.T τ)} {dead:Nat->Bool} (he:σ.aw k=some (.part ⟨τ,xs⟩ dead)) (h1:lo<=hi) (h2:hi=xs.length) {ps:List Prop}
  {next:Act->World->Prop} {Q:Exit->Act->World->Prop}
  (hn:∀F kv fp a' w',aE E pm F kv fp (AM.apply o ⟨some (.jx []),[],[],[(k,.part ⟨τ,xs⟩ (fun j=>dead j||Nat.ble lo j))],ps⟩ σ) a' w'->next a' w'):o.wp E.P a w next Q:=by
 obtain⟨kr,ti,z,gu,hz,b9,lg,qg,tQ⟩:=hE.code e τ hc
 have hu:=mO iT
 have hw:=U.dq τ
 subst h2
 have exec:∀{w1},(Builtin.clear_ #[t] o.type #[a.eval s]).run E.P w=.ok (.tuple #[]) w1->(execOp a.eval o).run E.P w=.ok (.value (.tuple #[])) w1:=by
  intro w1 hr
  have ha:cl.args= #[s]:=la dE
  have ht:cl.argTypes= #[t]:=la mq
  unfold execOp;simp only[gy]
  simp[resolve,ck,ha,ht,invoke,builtin,hr]
 have AQ:∀(w1:World)(F1:Nat->Prop) Kf Cp bad (x:SV U),some (.jx [])=some x->RS E w1 F1 Kf Cp bad x (.tuple #[]):=fun w1 F1 Kf Cp bad x hx=>by
  cases hx
  exact⟨[],rfl,rfl,fun i x u hx=>by simp at hx⟩
 obtain⟨vr,_⟩:=aA (du hs xP) rfl
 have eG:aU E w F dead ⟨τ,xs⟩ (kv k) (fp k):=h.aJ k _ he
 by_cases y4:xs.length=lo
 ·
  have bU:∀{i:Nat}{y:U.T τ},xs[i]? =some y->i<lo:=fun{i y} hy=>by
   rcases fA i xs.length with g|g
   ·omega
   ·rw[fb g] at hy;cases hy
  have cx:(Builtin.clear_ #[t] o.type #[a.eval s]).run E.P w=.ok (.tuple #[]) w:=by
   obtain⟨ad,c,hv,_⟩:=eG.uK
   rw[vr,hv]
   simp only[gq,y4,Hh]
   split
   ·cases ad<;>simp[Builtin.clear_,run_underlying hu]
   ·cases ad<;>simp[Builtin.clear_,run_underlying hu]
  refine gW (exec cx) (hn _ _ _ _ _ (h.zv hd k _ _ he _ _ ps (fp k) (fun bad x hx=>AQ _ _ _ _ _ x hx) (fun bad=> ?_) (yu _) (fun _ _=>rfl) (bB.refl _ _)))
  rcases eG with g|⟨b,cap,cur,vs,bM,g1,g2,g3,g4,g5,g6,g7,g8,g9⟩
  ·exact .inl g
  ·let df:Nat->List Nat:=fun m=>if m<xs.length*U.wd τ then bM m else[]
   refine .inr ⟨b,cap,cur,vs,df,g1,g2,g3,g4,g5,g6,fun i y j c nU hy hj=> ?_,fun i j nU hj=> ?_,?_⟩
   ·simp only[wD] at nU
    simp only[df,if_pos (bm hy hj)]
    exact g7 i y j c nU.1 hy hj
   ·simp only[df]
    split
    ·rename_i se
     have E6:i<lo:=by
      have:i*U.wd τ<xs.length*U.wd τ:=by omega
      have:=Nat.lt_of_mul_lt_mul_right this
      omega
     refine g8 i j ?_ hj
     rw[qi] at nU
     exact nU.resolve_right (fun e=>by have:=qj e;omega)
    ·rfl
   ·rw[g9]
    congr 1
    rw[tj,tj]
    congr 1
    refine uE fun m hm=> ?_
    simp only[df,if_pos (iD.1 hm)]
 ·obtain⟨b,cap,cur,hv,hb,kx,jf⟩:∃b cap cur,kv k=.slice (some ⟨b,0,none⟩) xs.length cap/\w.heap[b]? =some (.cells cur (E.tid τ) (0,0))/\xs.length<=cap/\xs.length*U.wd τ<=cur.size:=by
   rcases eG with⟨h0,_⟩|⟨b,cap,cur,vs,bM,g1,g2,g3,_,g5,_⟩
   ·simp only at h0;subst h0;simp at h1 y4;omega
   ·exact⟨b,cap,cur,g1,g2,g3,by rw[g5];exact kS _ g3⟩
  have Ez:(Builtin.zeroCells z.cells (xs.length-lo)).toList.length=(xs.length-lo)*U.wd τ:=by rw[nI,size_zeroCells,lg]
  have hmul:lo*U.wd τ+(xs.length-lo)*U.wd τ=xs.length*U.wd τ:=by rw[<-j8];congr 1;omega
  have yO:∀u∈(Builtin.zeroCells z.cells (xs.length-lo)).toList,bD u:=by
   intro u gG
   simp only[Builtin.zeroCells,Cv,Array.toList_range,eV,iD] at gG
   obtain⟨m,_,rfl⟩:=gG
   have bU:m%z.cells.size<U.wd τ:=by rw[lg];exact Nat.mod_lt _ hw
   obtain⟨u',g1,g2⟩:=tQ (m%z.cells.size) ((U.enc τ (U.bj τ))[m%z.cells.size]'(by rw[U.aK];exact bU)) (cF _)
   rw[getElem!_def,g1]
   rcases g2 with⟨_,g2⟩|⟨_,_,rfl⟩
   ·exact g2
   ·exact⟨rfl,trivial⟩
  have io:=run_storeCells_at E.P b (lo*U.wd τ) (E.tid τ) (Builtin.zeroCells z.cells (xs.length-lo)).toList 0 cur w hb (by rw[Ez];omega) (fun u gG=>(yO u gG).1)
  simp only[qh,Ez,hmul] at io
  have cx:(Builtin.clear_ #[t] o.type #[a.eval s]).run E.P w=.ok (.tuple #[]) (w.setRow b (cur.toList.take (lo*U.wd τ)++(Builtin.zeroCells z.cells (xs.length-lo)).toList++cur.toList.drop (xs.length*U.wd τ)).toArray):=by
   rw[vr,hv]
   obtain⟨n,xR⟩:∃n,xs.length-lo=n+1:=⟨xs.length-lo-1,by omega⟩
   have xZ:¬cap=lo:=by omega
   have ug:(⟨b,0,none⟩:Addr).add (lo*U.wd τ)=⟨b,lo*U.wd τ,none⟩:=by unfold Addr.add;split<;>simp_all
   simp only[gq,xZ,if_false,nG,ug]
   rw[xR] at io⊢
   simp[Builtin.clear_,run_underlying hu,zeroValue,typeInfo,gu,hz,io]
  have iq:∀c,c≠b->(w.setRow b (cur.toList.take (lo*U.wd τ)++(Builtin.zeroCells z.cells (xs.length-lo)).toList++cur.toList.drop (xs.length*U.wd τ)).toArray).heap[c]? =w.heap[c]? :=fun c hc=>setRow_other w b c _ hc
  let T:Nat->Option Value:=fun m=>if lo*U.wd τ<=m/\m<xs.length*U.wd τ then(Builtin.zeroCells z.cells (xs.length-lo)).toList[m-lo*U.wd τ]? else none
  have O1:∀m,lo*U.wd τ<=m->m<xs.length*U.wd τ->(T m).isSome=true:=fun m g1 g2=>by
   simp only[T];rw[if_pos ⟨g1,g2⟩,cF (by omega)];rfl
  have N7:=aU.write (x:=⟨τ,xs⟩) (xs':=xs) (dead':=fun j=>dead j||Nat.ble lo j) eG (h.nodup k _ he) (fun b' ap=>(h.bt k _ b' he ap).1) hv hb (setRow_heap w b cur _ _ _ hb) iq T ?_ ?_ ?_ rfl ?_ ?_
  ·rcases N7 with h0|⟨l',g1,g2,g3⟩
   ·simp only at h0;subst h0;simp at h1 y4;omega
   have Cc:=h.bt k _ b he g3
   refine gW (exec cx) (hn _ _ _ _ _ (h.zv hd k _ _ he _ _ ps l' (fun bad x hx=>AQ _ _ _ _ _ x hx) (fun bad=>g1) g2 (fun c hc=>iq c (fun e=>hc (e▸g3)))
    ⟨rfl,rfl,rfl,by simp,fun b' _ qW=>iq b' (fun e=>qW (by rw[e];exact Cc.2.1))⟩))
  ·simp only[yt,kR,jw,n0,nI,size_zeroCells,lg]
   omega
  ·intro m hm
   simp only at hm
   have bU:(cur.toList.take (lo*U.wd τ)).length=lo*U.wd τ:=by rw[jw,nI];omega
   rw[Gz,kP]
   simp only[T]
   by_cases h3:m<lo*U.wd τ
   ·rw[j7 (by omega),fg,if_pos h3,if_neg (by omega),rK]
   ·rw[kT (by omega),bU,if_pos ⟨by omega,hm⟩,j7 (by omega),cF (by omega)]
  ·intro m u _ ht
   simp only[T] at ht
   split at ht
   ·exact yO u (n6 ht)
   ·cases ht
  ·intro i y j c uc hy hj
   simp only[wD] at uc
   have E6:i<lo:=by
    rcases fA i lo with g|g
    ·exact g
    ·have:=Nat.ble_eq_true_of_le g;rw[this] at uc;cases uc.2
   refine .inr ⟨?_,uc.1,y,hy,hj⟩
   simp only[T]
   have ua:j<U.wd τ:=by
    rw[<-U.aK τ y]
    rcases fA j (U.enc τ y).length with g|g
    ·exact g
    ·have ir:(U.enc τ y)[j]? =some c:=hj
     rw[fb g] at ir;cases ir
   have:(i+1)*U.wd τ<=lo*U.wd τ:=kS _ E6
   rw[j8,uA] at this
   rw[if_neg (by omega)]
  ·intro i j E6 uc hj
   simp only at E6 hj
   rw[qi] at uc
   rcases uc with uc|uc
   ·exact .inr uc
   ·left
    have g:=qj uc
    have:lo*U.wd τ<=i*U.wd τ:=kS _ g
    have:(i+1)*U.wd τ<=xs.length*U.wd τ:=kS _ E6
    rw[j8,uA] at this
    exact O1 _ (by show lo*U.wd τ<=i*U.wd τ+j;omega) (by show i*U.wd τ+j<xs.length*U.wd τ;omega)
end AM
