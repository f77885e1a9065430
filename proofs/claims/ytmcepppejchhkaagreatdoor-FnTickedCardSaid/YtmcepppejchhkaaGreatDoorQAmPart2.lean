import Derived.Test.YtmcepppejchhkaaGreatDoorQAmPart
import Derived.Test.YtmcepppejchhkaaGreatDoorQAmOps10
namespace AM
set_option linter.unusedVariables false
open Go
variable{U:lQ}{E:Env U}{pm:Pm}
variable{F F':Nat->Prop}{kv:Key->Value}{fp:Key->List Nat}{σ:ak U}{a:Act}{w w':World}{bad:Key->Bool}
theorem eK.write{dead dead':Nat->Bool}{x:iE U}{xs':List (U.T x.τ)}{v:Value}{l:List Nat}(h:eK E w F dead x v l)(qE:l.Nodup)(hF:∀b∈l,¬F b){b cap:Nat}{cur cur':Array Value}
  (hv:v=.slice (some ⟨b,0,none⟩) x.xs.length cap) (hb:w.heap[b]? =some (.cells cur (E.tid x.τ) (0,0))) (bj:w'.heap[b]? =some (.cells cur' (E.tid x.τ) (0,0))) (uz:∀c,c≠b->w'.heap[c]? =w.heap[c]?)
  (T:Nat->Option Value) (vQ:cur'.size=cur.size) (anV:∀m,m<x.xs.length*U.wd x.τ->cur'[m]? =(match T m with|some u=>some u|none=>cur[m]?)) (hT:∀m u,m<x.xs.length*U.wd x.τ->T m=some u->gD u)
  (hlen:xs'.length=x.xs.length)
  (UF:∀i y j c,dead' i=false->xs'[i]? =some y->(U.enc x.τ y)[j]? =some c->(∃u,T (i*U.wd x.τ+j)=some u/\c=.lit u)\/(T (i*U.wd x.τ+j)=none/\dead i=false/\∃y0,x.xs[i]? =some y0/\(U.enc x.τ y0)[j]? =some c))
  (hde:∀i j,i<x.xs.length->dead' i=true->j<U.wd x.τ->(T (i*U.wd x.τ+j)).isSome=true\/dead i=true):
  x.xs=[]\/∃l',eK E w' F dead' ⟨x.τ,xs'⟩ v l'/\l'.Sublist l/\b∈l:=by
 rcases h with⟨h0,_⟩|⟨b0,aqJ,aob,vs,ie,g1,g2,hc,hm,hs,hvv,hr,kM,rfl⟩
 ·exact .inl h0
 right
 rw[hv] at g1
 simp only[Value.slice.injEq,gI,Addr.mk.injEq,and_true,true_and] at g1
 obtain⟨rfl,rfl⟩:=g1
 rw[hb] at g2
 simp only[gI,Obj.cells.injEq,and_true] at g2
 subst g2
 have hw:=U.lq x.τ
 obtain⟨XO,hnf⟩:=ur.1 qE
 let kP:Nat->List Nat:=fun m=>if(T m).isSome=true\/x.xs.length*U.wd x.τ<=m then[] else ie m
 let wJ:Nat->Value:=fun m=>match T m with|some u=>u|none=>vs m
 have qD:((List.range (x.xs.length*U.wd x.τ)).flatMap kP).Sublist ((List.range (x.xs.length*U.wd x.τ)).flatMap ie):=aae fun m _=>by
  simp only[kP];split
  ·exact List.nil_sublist _
  ·exact W_ _
 refine⟨b::(List.range (x.xs.length*U.wd x.τ)).flatMap kP,.inr ⟨b,cap,cur',wJ,kP,by rw[hv,hlen],bj,by rw[hlen];exact hc,hm,by rw[vQ,hs],fun m vT=> ?_,fun i y j c hi hy hj=> ?_,fun i j hi hj=> ?_,by rw[hlen]⟩,List.Sublist.cons_cons _ qD,iH⟩
 ·simp only[hlen] at vT
  rw[anV m vT]
  simp only[wJ]
  cases ht:T m with
  |none=>exact hvv m vT
  |some u=>exact⟨rfl,hT m u vT ht⟩
 ·have gy:i*U.wd x.τ+j<x.xs.length*U.wd x.τ:=by rw[<-hlen];exact fS hy hj
  show Rp E w' F true c (wJ (i*U.wd x.τ+j)) (kP (i*U.wd x.τ+j))
  rcases UF i y j c hi hy hj with⟨u,h1,rfl⟩|⟨h1,h2,y0,h3,h4⟩
  ·have e1:wJ (i*U.wd x.τ+j)=u:=by simp only[wJ,h1]
   have e2:kP (i*U.wd x.τ+j)=[]:=by simp only[kP];rw[if_pos (.inl (by rw[h1];rfl))]
   rw[e1,e2]
   exact .lit _ _ (hT _ u gy h1)
  ·have e1:wJ (i*U.wd x.τ+j)=vs (i*U.wd x.τ+j):=by simp only[wJ,h1]
   have e2:kP (i*U.wd x.τ+j)=ie (i*U.wd x.τ+j):=by simp only[kP];rw[if_neg (by rw[h1];simp;omega)]
   rw[e1,e2]
   refine(hr i y0 j c h2 h3 h4).gv (fun c' nC=>⟨nC,uz c' (fun e=> ?_)⟩) (fun c' nC=>uz c' (fun e=> ?_))
   ·subst e;exact hF c' (by simp) nC
   ·subst e;exact XO (o8.2 ⟨_,pR.2 gy,nC⟩)
 ·show kP (i*U.wd x.τ+j)=[]
  simp only[kP]
  by_cases qH:i<x.xs.length
  ·rcases hde i j qH hi hj with h1|h1
   ·rw[if_pos (.inl h1)]
   ·split
    ·rfl
    ·exact kM i j h1 hj
  ·have:x.xs.length*U.wd x.τ<=i*U.wd x.τ:=Be _ (by omega)
   rw[if_pos (.inr (by omega))]
theorem cR.ZP(h:cR E pm F kv fp σ a w){o:Oper}(hd:∀d,o.dst=some d->d<σ.n)(k:Key)(e0 e:iX U)(nX:σ.bP k=some e0)(sv:Option (SV U))(v:Value)(ps:List Prop)(Bq:List Nat)
  (E5:∀bad x,sv=some x->RS E w' F kv (dJ fp k Bq) bad x v)
  (hE:∀bad,ug E w' F kv (dJ fp k Bq) bad e (kv k) Bq) (qD:Bq.Sublist (fp k))
  (uz:∀c,c∉fp k->w'.heap[c]? =w.heap[c]?) (qw:ic (fun b=>pm.W b\/pm.w0.heap.size<=b) w w'):
  cR E pm F kv (dJ fp k Bq) (AM.apply o ⟨sv,[],[],[(k,e)],ps⟩ σ) (a.put o.dst v) w':=by
 have kN:dZ o (⟨sv,[],[],[(k,e)],ps⟩:cq U)=[]:=rfl
 have ll:jW (⟨sv,[],[],[(k,e)],ps⟩:cq U)=[k]:=rfl
 have BC:∀b,F b->F b/\w'.heap[b]? =w.heap[b]? :=fun b hb=>⟨hb,uz b (fun hk=>(h.fT k e0 b nX hk).1 hb)⟩
 refine h.apply o _ v hd (fun x hx=>E5 _ x hx) (fun _ _=>rfl) ?_ ?_ BC ?_ ?_ ?_ ?_ ?_ h.uH (h.upto.trans qw) qw.size
 ·intro k' _ hk;rw[ll] at hk;exact BV (by simpa using hk)
 ·intro k' hk;rw[kN] at hk;simp at hk
 ·intro k' e' _ hk _ he b hb
  rw[ll] at hk
  exact uz b (fun iW=>h.apart k' k e' e0 b (by simpa using hk) he nX hb iW)
 ·rintro k' e' (⟨j,_,hj⟩|hk)
  ·simp at hj
  ·simp only[mW,pE] at hk
   obtain⟨rfl,rfl⟩:=hk
   rw[uw]
   refine⟨hE _,qD.nodup (h.nodup k' e0 nX),fun b hb=> ?_⟩
   obtain⟨g1,g2,g3⟩:=h.fT k' e0 b nX (qD.subset hb)
   exact⟨g1,g2,zds g3 qw.size⟩
 ·intro k' e' b _ _ _ he hb;exact(h.fT k' e' b he hb).1
 ·intro k1 k' b fc hk cY hb
  rw[kN,ll] at hk cY
  simp only[mW,NV,false_or] at hk cY
  subst hk
  rw[uw] at hb
  rcases cY with rfl|⟨_,Iw⟩
  ·exact absurd rfl fc
  ·rw[BV (Ne.symm fc)]
   obtain⟨e',fi⟩:=nA.1 Iw
   exact h.apart k1 k' e0 e' b fc nX fi (qD.subset hb)
 ·intro b hb
  have:=h.uI b hb
  have:=qw.size
  omega
theorem ak2(h:cR E pm F kv fp σ a w){o:Oper}(ho:o.dst=none){t:TypeId}{x y:Operand}(sR:o.op=.store t x y){sx:SV U}{yx:AC U}{z:AV U}{n:Nat}{rs:List Key}{r:cq U}
  (hx:RS E w F kv fp (bY σ) sx (a.eval x)) (yO:vx sx=some yx) (hy:RS E w F kv fp (bY σ) (.v z) (a.eval y)) (hs:E.size t=some n) (hn:n=z.cs.length)
  (hr:Ah (restrict σ.bP rs) z yx=some r) (hp:∀p∈r.pre,p) {next:Act->World->Prop} {Q:Exit->Act->World->Prop}
  (hnx:∀F kv fp a' w',cR E pm F kv fp (AM.apply o r σ) a' w'->next a' w'):o.wp E.P a w next Q:=by
 have Cf:=lD hx yO
 obtain⟨hH,uo⟩:=Pz hy
 unfold Ah at hr
 split at hr
 rotate_left
 ·cases hr
 rename_i k i wd off
 split at hr
 rotate_left
 ·cases hr
 rename_i x0 dead us he aa'
 have fi:=kf he
 rw[iw] at hr
 split at hr
 rotate_left
 ·cases hr
 rename_i nJ
 simp only[cN] at nJ
 have vP:=nF nJ.1
 have hle:=Kp nJ.2
 subst vP
 rw[aai] at hr
 split at hr
 rotate_left
 ·cases hr
 rename_i a' ha'
 split at ha'
 rotate_left
 ·cases ha'
 rename_i yv Nv
 cases ha'
 cases hr
 have hi:i<x0.xs.length:=hp _ (by simp)
 have UF:dead i=false:=hp _ (by simp)
 have w5:=Vh aa' hH
 have hul:us.length=z.cs.length:=by rw[<-w5,Gk,uo]
 have oB:eK E w F dead x0 (kv k) (fp k):=h.dD k _ fi
 have Iz:=U.ni x0.τ _ yv Nv
 obtain⟨b,cap,cur,hv,hb,vQ⟩:∃b cap cur,kv k=.slice (some ⟨b,0,none⟩) x0.xs.length cap/\w.heap[b]? =some (.cells cur (E.tid x0.τ) (0,0))/\x0.xs.length*U.wd x0.τ<=cur.size:=by
  rcases oB with⟨h0,_⟩|⟨b,cap,cur,vs,ie,g1,g2,g3,_,g5,_⟩
  ·rw[h0] at hi;simp at hi
  ·exact⟨b,cap,cur,g1,g2,by rw[g5];exact Be _ g3⟩
 obtain⟨bb,oo,nn,cc,oE,hpv⟩:=cx Cf (by simp[iT])
 simp only[pI] at oE
 rw[hv] at oE
 simp only[Value.slice.injEq,gI,Addr.mk.injEq,and_true] at oE
 obtain⟨⟨e1,e2⟩,_,_⟩:=oE
 rw[e1,e2,vB] at hpv
 have hN:i*U.wd x0.τ+U.wd x0.τ<=x0.xs.length*U.wd x0.τ:=by
  have:(i+1)*U.wd x0.τ<=x0.xs.length*U.wd x0.τ:=Be _ hi
  rw[xT,QU] at this
  exact this
 have hyl:(a.eval y).cells.toList=us:=w5
 have jz:=U5 (P:=E.P) (n:=n) (off:=i*U.wd x0.τ+off) (v:=a.eval y) hs (by rw[uo];exact hn.symm) hH.gF hb (by omega)
 rw[<-hpv,hyl] at jz
 have exec:(execOp a.eval o).run E.P w=.ok .skip (w.setRow b (cur.toList.take (i*U.wd x0.τ+off)++us++cur.toList.drop (i*U.wd x0.τ+off+n)).toArray):=by
  unfold execOp;simp only[sR]
  rw[Sem.run_bind,jz];rfl
 have uz:∀c,c≠b->(w.setRow b (cur.toList.take (i*U.wd x0.τ+off)++us++cur.toList.drop (i*U.wd x0.τ+off+n)).toArray).heap[c]? =w.heap[c]? :=fun c hc=>setRow_other w b c _ hc
 have aen:∀m u,us[m]? =some u->gD u:=fun m u hm=>by
  have gy:m<z.cs.length:=by
   rw[<-hul]
   rcases pt m us.length with g|g
   ·exact g
   ·rw[ot g] at hm;cases hm
  exact(hH.2 m _ u (fE gy) (by rw[hyl];exact hm)).1
 let T:Nat->Option Value:=fun m=>if i*U.wd x0.τ+off<=m/\m<i*U.wd x0.τ+off+us.length then us[m-(i*U.wd x0.τ+off)]? else none
 have hw:=eK.write (xs':=x0.xs.set i yv) (dead':=dead) oB (h.nodup k _ fi) (fun b' bj=>(h.fT k _ b' fi bj).1) hv hb (setRow_heap w b cur _ _ _ hb) uz T ?_ ?_ ?_ (Mx ..) ?_ (fun _ _ _ Ck _=> .inr Ck)
 ·rcases hw with h0|⟨l',g1,g2,g3⟩
  ·rw[h0] at hi;simp at hi
  have hmk:=h.fT k _ b fi g3
  have pf:=h.ZP (o:=o) (fun d hd=>by rw[ho] at hd;cases hd) k _ (.part ⟨x0.τ,x0.xs.set i yv⟩ dead) fi none undef [i<x0.xs.length,dead i=false] l' (fun _ x hx=>by cases hx) (fun bad=>g1) g2 (fun c hc=>uz c (fun e=>hc (e▸g3)))
   ⟨rfl,rfl,rfl,by simp,fun b' _ Lu=>uz b' (fun e=>Lu (by rw[e];exact hmk.2.1))⟩
  exact Rq exec (hnx _ _ _ _ _ pf)
 ·simp only[UN,kF,oq,My,Gk]
  omega
 ·intro m hm
  have gy:(cur.toList.take (i*U.wd x0.τ+off)).length=i*U.wd x0.τ+off:=by rw[oq,Gk];omega
  rw[zed,xU]
  simp only[T]
  by_cases h2:m<i*U.wd x0.τ+off
  ·rw[zY (by omega),qy,if_pos h2,if_neg (by omega),MK]
  ·rw[z_ (by omega),gy]
   by_cases h3:m<i*U.wd x0.τ+off+us.length
   ·rw[if_pos ⟨by omega,h3⟩,zY (by omega),fE (by omega)]
   ·rw[if_neg (by omega),z_ (by omega),HR,MK]
    show cur[i*U.wd x0.τ+off+n+(m-(i*U.wd x0.τ+off)-us.length)]? =cur[m]?
    congr 1;omega
 ·intro m u _ ht
  simp only[T] at ht
  split at ht
  ·exact aen _ u ht
  ·cases ht
 ·intro q yq j c hdq hq hj
  have P_:j<U.wd x0.τ:=by
   rw[<-U.dG x0.τ yq]
   rcases pt j (U.enc x0.τ yq).length with g|g
   ·exact g
   ·rw[ot g] at hj;cases hj
  by_cases Xv:q=i
  ·subst Xv
   rw[Xa,if_pos rfl,if_pos hi] at hq
   cases hq
   rw[Iz] at hj
   have wM:=fM (d:=U.ff x0.τ) hi
   have aqE:off+(us.map (Cell.lit (Ty:=U.Ty) (T:=U.T))).length<=U.wd x0.τ:=by rw[wP];omega
   have Sm:((U.enc x0.τ (x0.xs.getD q (U.ff x0.τ))).take off).length=off:=by simp[U.dG];omega
   by_cases h1:j<off
   ·refine .inr ⟨by simp only[T];rw[if_neg (by omega)],hdq,_,wM,?_⟩
    rw[xU,zY (by rw[Sm];exact h1),qy,if_pos h1] at hj
    exact hj
   ·by_cases h2:j<off+us.length
    ·left
     rw[xU,z_ (by rw[Sm];omega),Sm,zY (by rw[wP];omega),nS] at hj
     cases hu:us[j-off]? with
     |none=>rw[hu] at hj;cases hj
     |some u=>
      rw[hu] at hj
      simp only[Gj,gI] at hj
      refine⟨u,?_,hj.symm⟩
      simp only[T]
      rw[if_pos (by omega),show q*U.wd x0.τ+j-(q*U.wd x0.τ+off)=j-off by omega,hu]
    ·refine .inr ⟨by simp only[T];rw[if_neg (by omega)],hdq,_,wM,?_⟩
     have aeo:((U.enc x0.τ (x0.xs.getD q (U.ff x0.τ))).take off++us.map Cell.lit).length=off+us.length:=by rw[kF,Sm,wP]
     rw[z_ (by rw[aeo];omega),aeo,HR,wP] at hj
     rw[<-hj];congr 1;omega
  ·refine .inr ⟨?_,hdq,yq,?_,hj⟩
   ·simp only[T]
    rw[if_neg (fun qG=>Xv (Vt P_ (show q*U.wd x0.τ+j-i*U.wd x0.τ<U.wd x0.τ by omega) (by omega)).1)]
   ·rw[Xa,if_neg (fun e=>Xv e.symm)] at hq
    exact hq
theorem amX(hE:E.Ok)(h:cR E pm F kv fp σ a w){o:Oper}(hd:∀d,o.dst=some d->d<σ.n){cl:Call}{t e:TypeId}{s:Operand}(sR:o.op=.call cl)(ix:cl.callee=.builtin .clear)
  (l5:cl.args.toList=[s]) (Ce:cl.argTypes.toList=[t]) {τ:U.Ty} (vj:E.elem t=some e) (hc:E.code e=some τ) {ss:SV U} {k:Key} {lo hi:Nat}
  (hs:RS E w F kv fp (bY σ) ss (a.eval s)) (V2:vx ss=some (.sub k (U.wd τ) lo hi)) {xs:List (U.T τ)} {dead:Nat->Bool} (he:σ.bP k=some (.part ⟨τ,xs⟩ dead)) (h1:lo<=hi) (h2:hi=xs.length) {ps:List Prop}
  {next:Act->World->Prop} {Q:Exit->Act->World->Prop}
  (hn:∀F kv fp a' w',cR E pm F kv fp (AM.apply o ⟨some (.wR []),[],[],[(k,.part ⟨τ,xs⟩ (fun j=>dead j||Nat.ble lo j))],ps⟩ σ) a' w'->next a' w'):o.wp E.P a w next Q:=by
 obtain⟨Ax,ti,z,qH,hz,jy,PV,XN,PY⟩:=hE.code e τ hc
 have hu:=EG vj
 have hw:=U.lq τ
 subst h2
 have exec:∀{w1},(Builtin.clear_ #[t] o.type #[a.eval s]).run E.P w=.ok (.tuple #[]) w1->(execOp a.eval o).run E.P w=.ok (.value (.tuple #[])) w1:=by
  intro w1 hr
  have ha:cl.args= #[s]:=Ao l5
  have ht:cl.argTypes= #[t]:=Ao Ce
  unfold execOp;simp only[sR]
  simp[resolve,ix,ha,ht,invoke,builtin,hr]
 have hrs:∀(w1:World)(F1:Nat->Prop) kv1 fp1 bad (x:SV U),some (.wR [])=some x->RS E w1 F1 kv1 fp1 bad x (.tuple #[]):=fun w1 F1 kv1 fp1 bad x hx=>by
  cases hx
  exact⟨[],rfl,rfl,fun i x u hx=>by simp at hx⟩
 obtain⟨Sk,_⟩:=cx (lD hs V2) rfl
 have oB:eK E w F dead ⟨τ,xs⟩ (kv k) (fp k):=h.dD k _ he
 by_cases Xz:xs.length=lo
 ·
  have gy:∀{i:Nat}{y:U.T τ},xs[i]? =some y->i<lo:=fun{i y} hy=>by
   rcases pt i xs.length with g|g
   ·omega
   ·rw[ot g] at hy;cases hy
  have jz:(Builtin.clear_ #[t] o.type #[a.eval s]).run E.P w=.ok (.tuple #[]) w:=by
   obtain⟨ad,c,hv,_⟩:=oB.Q_
   rw[Sk,hv]
   simp only[rY,Xz,Zw]
   split
   ·cases ad<;>simp[Builtin.clear_,run_underlying hu]
   ·cases ad<;>simp[Builtin.clear_,run_underlying hu]
  refine te (exec jz) (hn _ _ _ _ _ (h.ZP hd k _ _ he _ _ ps (fp k) (fun bad x hx=>hrs _ _ _ _ _ x hx) (fun bad=> ?_) (W_ _) (fun _ _=>rfl) (ic.refl _ _)))
  rcases oB with g|⟨b,cap,cur,vs,ie,g1,g2,g3,g4,g5,g6,g7,g8,g9⟩
  ·exact .inl g
  ·let kP:Nat->List Nat:=fun m=>if m<xs.length*U.wd τ then ie m else[]
   refine .inr ⟨b,cap,cur,vs,kP,g1,g2,g3,g4,g5,g6,fun i y j c Ck hy hj=> ?_,fun i j Ck hj=> ?_,?_⟩
   ·simp only[QK] at Ck
    simp only[kP,if_pos (fS hy hj)]
    exact g7 i y j c Ck.1 hy hj
   ·simp only[kP]
    split
    ·rename_i E8
     have Qa:i<lo:=by
      have:i*U.wd τ<xs.length*U.wd τ:=by omega
      have:=Nat.lt_of_mul_lt_mul_right this
      omega
     refine g8 i j ?_ hj
     rw[Gc] at Ck
     exact Ck.resolve_right (fun e=>by have:=Kp e;omega)
    ·rfl
   ·rw[g9]
    congr 1
    rw[Pa,Pa]
    congr 1
    refine Pb fun m hm=> ?_
    simp only[kP,if_pos (pR.1 hm)]
 ·obtain⟨b,cap,cur,hv,hb,AE,vQ⟩:∃b cap cur,kv k=.slice (some ⟨b,0,none⟩) xs.length cap/\w.heap[b]? =some (.cells cur (E.tid τ) (0,0))/\xs.length<=cap/\xs.length*U.wd τ<=cur.size:=by
   rcases oB with⟨h0,_⟩|⟨b,cap,cur,vs,ie,g1,g2,g3,_,g5,_⟩
   ·simp only at h0;subst h0;simp at h1 Xz;omega
   ·exact⟨b,cap,cur,g1,g2,g3,by rw[g5];exact Be _ g3⟩
  have hzl:(Builtin.zeroCells z.cells (xs.length-lo)).toList.length=(xs.length-lo)*U.wd τ:=by rw[Gk,size_zeroCells,PV]
  have hmul:lo*U.wd τ+(xs.length-lo)*U.wd τ=xs.length*U.wd τ:=by rw[<-xT];congr 1;omega
  have Xn:∀u∈(Builtin.zeroCells z.cells (xs.length-lo)).toList,gD u:=by
   intro u tr
   simp only[Builtin.zeroCells,zeo,Array.toList_range,mz,pR] at tr
   obtain⟨m,_,rfl⟩:=tr
   have gy:m%z.cells.size<U.wd τ:=by rw[PV];exact Nat.mod_lt _ hw
   obtain⟨u',g1,g2⟩:=PY (m%z.cells.size) ((U.enc τ (U.ff τ))[m%z.cells.size]'(by rw[U.dG];exact gy)) (fE _)
   rw[getElem!_def,g1]
   rcases g2 with⟨_,g2⟩|⟨_,_,rfl⟩
   ·exact g2
   ·exact⟨rfl,trivial⟩
  have rh:=run_storeCells_at E.P b (lo*U.wd τ) (E.tid τ) (Builtin.zeroCells z.cells (xs.length-lo)).toList 0 cur w hb (by rw[hzl];omega) (fun u tr=>(Xn u tr).1)
  simp only[Kj,hzl,hmul] at rh
  have jz:(Builtin.clear_ #[t] o.type #[a.eval s]).run E.P w=.ok (.tuple #[]) (w.setRow b (cur.toList.take (lo*U.wd τ)++(Builtin.zeroCells z.cells (xs.length-lo)).toList++cur.toList.drop (xs.length*U.wd τ)).toArray):=by
   rw[Sk,hv]
   obtain⟨n,Xy⟩:∃n,xs.length-lo=n+1:=⟨xs.length-lo-1,by omega⟩
   have Wh:¬cap=lo:=by omega
   have Qh:(⟨b,0,none⟩:Addr).add (lo*U.wd τ)=⟨b,lo*U.wd τ,none⟩:=by unfold Addr.add;split<;>simp_all
   simp only[rY,Wh,if_false,Gj,Qh]
   rw[Xy] at rh⊢
   simp[Builtin.clear_,run_underlying hu,zeroValue,typeInfo,qH,hz,rh]
  have uz:∀c,c≠b->(w.setRow b (cur.toList.take (lo*U.wd τ)++(Builtin.zeroCells z.cells (xs.length-lo)).toList++cur.toList.drop (xs.length*U.wd τ)).toArray).heap[c]? =w.heap[c]? :=fun c hc=>setRow_other w b c _ hc
  let T:Nat->Option Value:=fun m=>if lo*U.wd τ<=m/\m<xs.length*U.wd τ then(Builtin.zeroCells z.cells (xs.length-lo)).toList[m-lo*U.wd τ]? else none
  have hTs:∀m,lo*U.wd τ<=m->m<xs.length*U.wd τ->(T m).isSome=true:=fun m g1 g2=>by
   simp only[T];rw[if_pos ⟨g1,g2⟩,fE (by omega)];rfl
  have hwr:=eK.write (x:=⟨τ,xs⟩) (xs':=xs) (dead':=fun j=>dead j||Nat.ble lo j) oB (h.nodup k _ he) (fun b' bj=>(h.fT k _ b' he bj).1) hv hb (setRow_heap w b cur _ _ _ hb) uz T ?_ ?_ ?_ rfl ?_ ?_
  ·rcases hwr with h0|⟨l',g1,g2,g3⟩
   ·simp only at h0;subst h0;simp at h1 Xz;omega
   have hmk:=h.fT k _ b he g3
   refine te (exec jz) (hn _ _ _ _ _ (h.ZP hd k _ _ he _ _ ps l' (fun bad x hx=>hrs _ _ _ _ _ x hx) (fun bad=>g1) g2 (fun c hc=>uz c (fun e=>hc (e▸g3)))
    ⟨rfl,rfl,rfl,by simp,fun b' _ Lu=>uz b' (fun e=>Lu (by rw[e];exact hmk.2.1))⟩))
  ·simp only[UN,kF,oq,My,Gk,size_zeroCells,PV]
   omega
  ·intro m hm
   simp only at hm
   have gy:(cur.toList.take (lo*U.wd τ)).length=lo*U.wd τ:=by rw[oq,Gk];omega
   rw[zed,xU]
   simp only[T]
   by_cases h3:m<lo*U.wd τ
   ·rw[zY (by omega),qy,if_pos h3,if_neg (by omega),MK]
   ·rw[z_ (by omega),gy,if_pos ⟨by omega,hm⟩,zY (by omega),fE (by omega)]
  ·intro m u _ ht
   simp only[T] at ht
   split at ht
   ·exact Xn u (GK ht)
   ·cases ht
  ·intro i y j c IB hy hj
   simp only[QK] at IB
   have Qa:i<lo:=by
    rcases pt i lo with g|g
    ·exact g
    ·have:=Nat.ble_eq_true_of_le g;rw[this] at IB;cases IB.2
   refine .inr ⟨?_,IB.1,y,hy,hj⟩
   simp only[T]
   have P_:j<U.wd τ:=by
    rw[<-U.dG τ y]
    rcases pt j (U.enc τ y).length with g|g
    ·exact g
    ·have uA:(U.enc τ y)[j]? =some c:=hj
     rw[ot g] at uA;cases uA
   have:(i+1)*U.wd τ<=lo*U.wd τ:=Be _ Qa
   rw[xT,QU] at this
   rw[if_neg (by omega)]
  ·intro i j Qa IB hj
   simp only at Qa hj
   rw[Gc] at IB
   rcases IB with IB|IB
   ·exact .inr IB
   ·left
    have g:=Kp IB
    have:lo*U.wd τ<=i*U.wd τ:=Be _ g
    have:(i+1)*U.wd τ<=xs.length*U.wd τ:=Be _ Qa
    rw[xT,QU] at this
    exact hTs _ (by show lo*U.wd τ<=i*U.wd τ+j;omega) (by show i*U.wd τ+j<xs.length*U.wd τ;omega)
end AM
