import Derived.Test.YtnndcpncmmcaaaaGreatQAmPart
import Derived.Test.YtnndcpncmmcaaaaGreatQAmOps10
namespace AM
set_option linter.unusedVariables false
open Go
variable{U:jO}{E:Env U}{pm:Pm}
variable{F F':Nat->Prop}{kv:Key->Value}{fp:Key->List Nat}{σ:ah U}{a:Act}{w w':World}{bad:Key->Bool}
theorem cM.write{dead dead':Nat->Bool}{x:fK U}{xs':List (U.T x.τ)}{v:Value}{l:List Nat}(h:cM E w F dead x v l)(oB:l.Nodup)(hF:∀b∈l,¬F b){b cap:Nat}{cur cur':Array Value}
  (hv:v=.slice (some ⟨b,0,none⟩) x.xs.length cap) (hb:w.heap[b]? =some (.cells cur (E.tid x.τ) (0,0))) (aI:w'.heap[b]? =some (.cells cur' (E.tid x.τ) (0,0))) (o_:∀c,c≠b->w'.heap[c]? =w.heap[c]?)
  (T:Nat->Option Value) (mS:cur'.size=cur.size) (aa5:∀m,m<x.xs.length*U.wd x.τ->cur'[m]? =(match T m with|some u=>some u|none=>cur[m]?)) (hT:∀m u,m<x.xs.length*U.wd x.τ->T m=some u->fu u)
  (hlen:xs'.length=x.xs.length)
  (zT:∀i y j c,dead' i=false->xs'[i]? =some y->(U.enc x.τ y)[j]? =some c->(∃u,T (i*U.wd x.τ+j)=some u/\c=.lit u)\/(T (i*U.wd x.τ+j)=none/\dead i=false/\∃y0,x.xs[i]? =some y0/\(U.enc x.τ y0)[j]? =some c))
  (hde:∀i j,i<x.xs.length->dead' i=true->j<U.wd x.τ->(T (i*U.wd x.τ+j)).isSome=true\/dead i=true):
  x.xs=[]\/∃l',cM E w' F dead' ⟨x.τ,xs'⟩ v l'/\l'.Sublist l/\b∈l:=by
 rcases h with⟨h0,_⟩|⟨b0,atm,apO,vs,dH,g1,g2,hc,hm,hs,hvv,hr,jh,rfl⟩
 ·exact .inl h0
 right
 rw[hv] at g1
 simp only[Value.slice.injEq,eZ,Addr.mk.injEq,and_true,true_and] at g1
 obtain⟨rfl,rfl⟩:=g1
 rw[hb] at g2
 simp only[eZ,Obj.cells.injEq,and_true] at g2
 subst g2
 have hw:=U.ka x.τ
 obtain⟨RO,Od⟩:=pH.1 oB
 let dV:Nat->List Nat:=fun m=>if(T m).isSome=true\/x.xs.length*U.wd x.τ<=m then[] else dH m
 let rm:Nat->Value:=fun m=>match T m with|some u=>u|none=>vs m
 have nT:((List.range (x.xs.length*U.wd x.τ)).flatMap dV).Sublist ((List.range (x.xs.length*U.wd x.τ)).flatMap dH):=ZB fun m _=>by
  simp only[dV];split
  ·exact List.nil_sublist _
  ·exact Ou _
 refine⟨b::(List.range (x.xs.length*U.wd x.τ)).flatMap dV,.inr ⟨b,cap,cur',rm,dV,by rw[hv,hlen],aI,by rw[hlen];exact hc,hm,by rw[mS,hs],fun m sY=> ?_,fun i y j c hi hy hj=> ?_,fun i j hi hj=> ?_,by rw[hlen]⟩,List.Sublist.cons_cons _ nT,cH⟩
 ·simp only[hlen] at sY
  rw[aa5 m sY]
  simp only[rm]
  cases ht:T m with
  |none=>exact hvv m sY
  |some u=>exact⟨rfl,hT m u sY ht⟩
 ·have fx:i*U.wd x.τ+j<x.xs.length*U.wd x.τ:=by rw[<-hlen];exact eI hy hj
  show Rp E w' F true c (rm (i*U.wd x.τ+j)) (dV (i*U.wd x.τ+j))
  rcases zT i y j c hi hy hj with⟨u,h1,rfl⟩|⟨h1,h2,y0,h3,h4⟩
  ·have e1:rm (i*U.wd x.τ+j)=u:=by simp only[rm,h1]
   have e2:dV (i*U.wd x.τ+j)=[]:=by simp only[dV];rw[if_pos (.inl (by rw[h1];rfl))]
   rw[e1,e2]
   exact .lit _ _ (hT _ u fx h1)
  ·have e1:rm (i*U.wd x.τ+j)=vs (i*U.wd x.τ+j):=by simp only[rm,h1]
   have e2:dV (i*U.wd x.τ+j)=dH (i*U.wd x.τ+j):=by simp only[dV];rw[if_neg (by rw[h1];simp;omega)]
   rw[e1,e2]
   refine(hr i y0 j c h2 h3 h4).cI (fun c' jr=>⟨jr,o_ c' (fun e=> ?_)⟩) (fun c' jr=>o_ c' (fun e=> ?_))
   ·subst e;exact hF c' (by simp) jr
   ·subst e;exact RO (ln.2 ⟨_,oh.2 fx,jr⟩)
 ·show dV (i*U.wd x.τ+j)=[]
  simp only[dV]
  by_cases od:i<x.xs.length
  ·rcases hde i j od hi hj with h1|h1
   ·rw[if_pos (.inl h1)]
   ·split
    ·rfl
    ·exact jh i j h1 hj
  ·have:x.xs.length*U.wd x.τ<=i*U.wd x.τ:=u9 _ (by omega)
   rw[if_pos (.inr (by omega))]
theorem cd.YH(h:cd E pm F kv fp σ a w){o:Oper}(hd:∀d,o.dst=some d->d<σ.n)(k:Key)(e0 e:eX U)(iX:σ.aU k=some e0)(sv:Option (SV U))(v:Value)(ps:List Prop)(y7:List Nat)
  (rD:∀bad x,sv=some x->RS E w' F kv (bx fp k y7) bad x v)
  (hE:∀bad,lm E w' F kv (bx fp k y7) bad e (kv k) y7) (nT:y7.Sublist (fp k))
  (o_:∀c,c∉fp k->w'.heap[c]? =w.heap[c]?) (kx:fm (fun b=>pm.W b\/pm.w0.heap.size<=b) w w') (pT:e.wk=false:=by rfl):
  cd E pm F kv (bx fp k y7) (AM.apply o ⟨sv,[],[],[(k,e)],ps,[]⟩ σ) (a.put o.dst v) w':=by
 have fq:ct o (⟨sv,[],[],[(k,e)],ps,[]⟩:bz U)=[]:=rfl
 have fI:fM (⟨sv,[],[],[(k,e)],ps,[]⟩:bz U)=[k]:=rfl
 have mF:∀b,F b->F b/\w'.heap[b]? =w.heap[b]? :=fun b hb=>⟨hb,o_ b (fun hk=>(h.cU k e0 b iX hk).1 hb)⟩
 refine h.apply o _ v hd (fun x hx=>rD _ x hx) (fun _ _=>rfl) ?_ ?_ mF ?_ ?_ ?_ ?_ ?_ h.ny (h.upto.trans kx) kx.size (fun _ hk=>absurd hk rh) (fun k' e' hk=>by
  rcases hk with⟨j,_,hk⟩|hk
  ·simp at hk
  ·rw[(Prod.mk.inj (g_.1 hk)).2];exact pT)
 ·intro k' _ hk;rw[fI] at hk;exact kf (by simpa using hk)
 ·intro k' hk;rw[fq] at hk;simp at hk
 ·intro k' e' _ hk _ he b hb
  rw[fI] at hk
  exact o_ b (fun gX=>h.apart k' k e' e0 b (by simpa using hk) he iX hb gX)
 ·rintro k' e' (⟨j,_,hj⟩|hk)
  ·simp at hj
  ·simp only[g_,kG] at hk
   obtain⟨rfl,rfl⟩:=hk
   rw[gW]
   refine⟨hE _,nT.nodup (h.nodup k' e0 iX),fun b hb=> ?_⟩
   obtain⟨g1,g2,g3⟩:=h.cU k' e0 b iX (nT.subset hb)
   exact⟨g1,g2,MI g3 kx.size⟩
 ·intro k' e' b _ _ _ he hb;exact(h.cU k' e' b he hb).1
 ·intro k1 k' b cO hk bp hb
  rw[fq,fI] at hk bp
  simp only[g_,rh,false_or] at hk bp
  subst hk
  rw[gW] at hb
  rcases bp with rfl|⟨_,zh⟩
  ·exact absurd rfl cO
  ·rw[kf (Ne.symm cO)]
   obtain⟨e',dr⟩:=kH.1 zh
   exact h.apart k1 k' e0 e' b cO iX dr (nT.subset hb)
 ·intro b hb
  have:=h.lT b hb
  have:=kx.size
  omega
theorem amh(h:cd E pm F kv fp σ a w){o:Oper}(ho:o.dst=none){t:TypeId}{x y:Operand}(mI:o.op=.store t x y){sx:SV U}{yx:AC U}{z:AV U}{n:Nat}{rs:List Key}{r:bz U}
  (hx:RS E w F kv fp (aZ σ) sx (a.eval x)) (vN:sd sx=some yx) (hy:RS E w F kv fp (aZ σ) (.v z) (a.eval y)) (hs:E.size t=some n) (hn:n=z.cs.length)
  (hr:yS (restrict σ.aU rs) z yx=some r) (hp:∀p∈r.pre,p) {next:Act->World->Prop} {Q:Exit->Act->World->Prop}
  (J4:∀F kv fp a' w',cd E pm F kv fp (AM.apply o r σ) a' w'->next a' w'):o.wp E.P a w next Q:=by
 have AB:=bD hx vN
 obtain⟨cr,sW⟩:=Ko hy
 unfold yS at hr
 split at hr
 rotate_left
 ·cases hr
 rename_i k i wd off
 split at hr
 rotate_left
 ·cases hr
 rename_i x0 dead us he PV
 have dr:=fA he
 rw[fc] at hr
 split at hr
 rotate_left
 ·cases hr
 rename_i mU
 simp only[fY] at mU
 have mH:=jp mU.1
 have hle:=H6 mU.2
 subst mH
 rw[ZI] at hr
 split at hr
 rotate_left
 ·cases hr
 rename_i a' ha'
 split at ha'
 rotate_left
 ·cases ha'
 rename_i yv vM
 cases ha'
 cases hr
 have hi:i<x0.xs.length:=hp _ (by simp)
 have zT:dead i=false:=hp _ (by simp)
 have sO:=Sc PV cr
 have hul:us.length=z.cs.length:=by rw[<-sO,yM,sW]
 have kz:cM E w F dead x0 (kv k) (fp k):=h.cT k _ dr
 have u6:=U.jn x0.τ _ yv vM
 obtain⟨b,cap,cur,hv,hb,mS⟩:∃b cap cur,kv k=.slice (some ⟨b,0,none⟩) x0.xs.length cap/\w.heap[b]? =some (.cells cur (E.tid x0.τ) (0,0))/\x0.xs.length*U.wd x0.τ<=cur.size:=by
  rcases kz with⟨h0,_⟩|⟨b,cap,cur,vs,dH,g1,g2,g3,_,g5,_⟩
  ·rw[h0] at hi;simp at hi
  ·exact⟨b,cap,cur,g1,g2,by rw[g5];exact u9 _ g3⟩
 obtain⟨bb,oo,nn,cc,iz,LX⟩:=bG AB (by simp[gg])
 simp only[mg] at iz
 rw[hv] at iz
 simp only[Value.slice.injEq,eZ,Addr.mk.injEq,and_true] at iz
 obtain⟨⟨e1,e2⟩,_,_⟩:=iz
 rw[e1,e2,oz] at LX
 have hN:i*U.wd x0.τ+U.wd x0.τ<=x0.xs.length*U.wd x0.τ:=by
  have:(i+1)*U.wd x0.τ<=x0.xs.length*U.wd x0.τ:=u9 _ hi
  rw[ta,On] at this
  exact this
 have hyl:(a.eval y).cells.toList=us:=sO
 have fw:=OP (P:=E.P) (n:=n) (off:=i*U.wd x0.τ+off) (v:=a.eval y) hs (by rw[sW];exact hn.symm) cr.dQ hb (by omega)
 rw[<-LX,hyl] at fw
 have exec:(execOp a.eval o).run E.P w=.ok .skip (w.setRow b (cur.toList.take (i*U.wd x0.τ+off)++us++cur.toList.drop (i*U.wd x0.τ+off+n)).toArray):=by
  unfold execOp;simp only[mI]
  rw[Sem.run_bind,fw];rfl
 have o_:∀c,c≠b->(w.setRow b (cur.toList.take (i*U.wd x0.τ+off)++us++cur.toList.drop (i*U.wd x0.τ+off+n)).toArray).heap[c]? =w.heap[c]? :=fun c hc=>setRow_other w b c _ hc
 have aet:∀m u,us[m]? =some u->fu u:=fun m u hm=>by
  have fx:m<z.cs.length:=by
   rw[<-hul]
   rcases lR m us.length with g|g
   ·exact g
   ·rw[lU g] at hm;cases hm
  exact(cr.2 m _ u (gr fx) (by rw[hyl];exact hm)).1
 let T:Nat->Option Value:=fun m=>if i*U.wd x0.τ+off<=m/\m<i*U.wd x0.τ+off+us.length then us[m-(i*U.wd x0.τ+off)]? else none
 have hw:=cM.write (xs':=x0.xs.set i yv) (dead':=dead) kz (h.nodup k _ dr) (fun b' aI=>(h.cU k _ b' dr aI).1) hv hb (setRow_heap w b cur _ _ _ hb) o_ T ?_ ?_ ?_ (zF ..) ?_ (fun _ _ _ wo _=> .inr wo)
 ·rcases hw with h0|⟨l',g1,g2,g3⟩
  ·rw[h0] at hi;simp at hi
  have RF:=h.cU k _ b dr g3
  have la:=h.YH (o:=o) (fun d hd=>by rw[ho] at hd;cases hd) k _ (.part ⟨x0.τ,x0.xs.set i yv⟩ dead) dr none undef [i<x0.xs.length,dead i=false] l' (fun _ x hx=>by cases hx) (fun bad=>g1) g2 (fun c hc=>o_ c (fun e=>hc (e▸g3)))
   ⟨rfl,rfl,rfl,by simp,fun b' _ Ez=>o_ b' (fun e=>Ez (by rw[e];exact RF.2.1)),og _⟩
  exact MP exec (J4 _ _ _ _ _ la)
 ·simp only[Rt,kF,mO,FT,yM]
  omega
 ·intro m hm
  have fx:(cur.toList.take (i*U.wd x0.τ+off)).length=i*U.wd x0.τ+off:=by rw[mO,yM];omega
  rw[zed,qc]
  simp only[T]
  by_cases h2:m<i*U.wd x0.τ+off
  ·rw[u_ (by omega),mP,if_pos h2,if_neg (by omega),Eg]
  ·rw[va (by omega),fx]
   by_cases h3:m<i*U.wd x0.τ+off+us.length
   ·rw[if_pos ⟨by omega,h3⟩,u_ (by omega),gr (by omega)]
   ·rw[if_neg (by omega),va (by omega),Eo,Eg]
    show cur[i*U.wd x0.τ+off+n+(m-(i*U.wd x0.τ+off)-us.length)]? =cur[m]?
    congr 1;omega
 ·intro m u _ ht
  simp only[T] at ht
  split at ht
  ·exact aet _ u ht
  ·cases ht
 ·intro q yq j c hdq hq hj
  have LZ:j<U.wd x0.τ:=by
   rw[<-U.cP x0.τ yq]
   rcases lR j (U.enc x0.τ yq).length with g|g
   ·exact g
   ·rw[lU g] at hj;cases hj
  by_cases TB:q=i
  ·subst TB
   rw[Ov,if_pos rfl,if_pos hi] at hq
   cases hq
   rw[u6] at hj
   have qt:=dz (d:=U.dt x0.τ) hi
   have as7:off+(us.map (Cell.lit (Ty:=U.Ty) (T:=U.T))).length<=U.wd x0.τ:=by rw[wj];omega
   have HY:((U.enc x0.τ (x0.xs.getD q (U.dt x0.τ))).take off).length=off:=by simp[U.cP];omega
   by_cases h1:j<off
   ·refine .inr ⟨by simp only[T];rw[if_neg (by omega)],hdq,_,qt,?_⟩
    rw[qc,u_ (by rw[HY];exact h1),mP,if_pos h1] at hj
    exact hj
   ·by_cases h2:j<off+us.length
    ·left
     rw[qc,va (by rw[HY];omega),HY,u_ (by rw[wj];omega),mE] at hj
     cases hu:us[j-off]? with
     |none=>rw[hu] at hj;cases hj
     |some u=>
      rw[hu] at hj
      simp only[Ef,eZ] at hj
      refine⟨u,?_,hj.symm⟩
      simp only[T]
      rw[if_pos (by omega),show q*U.wd x0.τ+j-(q*U.wd x0.τ+off)=j-off by omega,hu]
    ·refine .inr ⟨by simp only[T];rw[if_neg (by omega)],hdq,_,qt,?_⟩
     have aeu:((U.enc x0.τ (x0.xs.getD q (U.dt x0.τ))).take off++us.map Cell.lit).length=off+us.length:=by rw[kF,HY,wj]
     rw[va (by rw[aeu];omega),aeu,Eo,wj] at hj
     rw[<-hj];congr 1;omega
  ·refine .inr ⟨?_,hdq,yq,?_,hj⟩
   ·simp only[T]
    rw[if_neg (fun pE=>TB (Sj LZ (show q*U.wd x0.τ+j-i*U.wd x0.τ<U.wd x0.τ by omega) (by omega)).1)]
   ·rw[Ov,if_neg (fun e=>TB e.symm)] at hq
    exact hq
theorem aoD(hE:E.Ok)(h:cd E pm F kv fp σ a w){o:Oper}(hd:∀d,o.dst=some d->d<σ.n){cl:Call}{t e:TypeId}{s:Operand}(mI:o.op=.call cl)(fa:cl.callee=.builtin .clear)
  (ib:cl.args.toList=[s]) (vi:cl.argTypes.toList=[t]) {τ:U.Ty} (pV:E.elem t=some e) (hc:E.code e=some τ) {ss:SV U} {k:Key} {lo hi:Nat}
  (hs:RS E w F kv fp (aZ σ) ss (a.eval s)) (Tx:sd ss=some (.sub k (U.wd τ) lo hi)) {xs:List (U.T τ)} {dead:Nat->Bool} (he:σ.aU k=some (.part ⟨τ,xs⟩ dead)) (h1:lo<=hi) (h2:hi=xs.length) {ps:List Prop}
  {next:Act->World->Prop} {Q:Exit->Act->World->Prop}
  (hn:∀F kv fp a' w',cd E pm F kv fp (AM.apply o ⟨some (.tX []),[],[],[(k,.part ⟨τ,xs⟩ (fun j=>dead j||Nat.ble lo j))],ps,[]⟩ σ) a' w'->next a' w'):o.wp E.P a w next Q:=by
 obtain⟨uY,ti,z,od,hz,fZ,J2,Qm,NC⟩:=hE.code e τ hc
 have hu:=y3 pV
 have hw:=U.ka τ
 subst h2
 have exec:∀{w1},(Builtin.clear_ #[t] o.type #[a.eval s]).run E.P w=.ok (.tuple #[]) w1->(execOp a.eval o).run E.P w=.ok (.value (.tuple #[])) w1:=by
  intro w1 hr
  have ha:cl.args= #[s]:=vy ib
  have ht:cl.argTypes= #[t]:=vy vi
  unfold execOp;simp only[mI]
  simp[resolve,fa,ha,ht,invoke,builtin,hr]
 have LW:∀(w1:World)(F1:Nat->Prop) kv1 K4 bad (x:SV U),some (.tX [])=some x->RS E w1 F1 kv1 K4 bad x (.tuple #[]):=fun w1 F1 kv1 K4 bad x hx=>by
  cases hx
  exact⟨[],rfl,rfl,fun i x u hx=>by simp at hx⟩
 obtain⟨KG,_⟩:=bG (bD hs Tx) rfl
 have kz:cM E w F dead ⟨τ,xs⟩ (kv k) (fp k):=h.cT k _ he
 by_cases NF:xs.length=lo
 ·
  have fx:∀{i:Nat}{y:U.T τ},xs[i]? =some y->i<lo:=fun{i y} hy=>by
   rcases lR i xs.length with g|g
   ·omega
   ·rw[lU g] at hy;cases hy
  have fw:(Builtin.clear_ #[t] o.type #[a.eval s]).run E.P w=.ok (.tuple #[]) w:=by
   obtain⟨ad,c,hv,_⟩:=kz.OJ
   rw[KG,hv]
   simp only[qz,NF,Rr]
   split
   ·cases ad<;>simp[Builtin.clear_,run_underlying hu]
   ·cases ad<;>simp[Builtin.clear_,run_underlying hu]
  refine pC (exec fw) (hn _ _ _ _ _ (h.YH hd k _ _ he _ _ ps (fp k) (fun bad x hx=>LW _ _ _ _ _ x hx) (fun bad=> ?_) (Ou _) (fun _ _=>rfl) (fm.refl _ _)))
  rcases kz with g|⟨b,cap,cur,vs,dH,g1,g2,g3,g4,g5,g6,g7,g8,g9⟩
  ·exact .inl g
  ·let dV:Nat->List Nat:=fun m=>if m<xs.length*U.wd τ then dH m else[]
   refine .inr ⟨b,cap,cur,vs,dV,g1,g2,g3,g4,g5,g6,fun i y j c wo hy hj=> ?_,fun i j wo hj=> ?_,?_⟩
   ·simp only[Ox] at wo
    simp only[dV,if_pos (eI hy hj)]
    exact g7 i y j c wo.1 hy hj
   ·simp only[dV]
    split
    ·rename_i Db
     have NN:i<lo:=by
      have:i*U.wd τ<xs.length*U.wd τ:=by omega
      have:=Nat.lt_of_mul_lt_mul_right this
      omega
     refine g8 i j ?_ hj
     rw[Ee] at wo
     exact wo.resolve_right (fun e=>by have:=H6 e;omega)
    ·rfl
   ·rw[g9]
    congr 1
    rw[J',J']
    congr 1
    refine Lp fun m hm=> ?_
    simp only[dV,if_pos (oh.1 hm)]
 ·obtain⟨b,cap,cur,hv,hb,zj,mS⟩:∃b cap cur,kv k=.slice (some ⟨b,0,none⟩) xs.length cap/\w.heap[b]? =some (.cells cur (E.tid τ) (0,0))/\xs.length<=cap/\xs.length*U.wd τ<=cur.size:=by
   rcases kz with⟨h0,_⟩|⟨b,cap,cur,vs,dH,g1,g2,g3,_,g5,_⟩
   ·simp only at h0;subst h0;simp at h1 NF;omega
   ·exact⟨b,cap,cur,g1,g2,g3,by rw[g5];exact u9 _ g3⟩
  have hzl:(Builtin.zeroCells z.cells (xs.length-lo)).toList.length=(xs.length-lo)*U.wd τ:=by rw[yM,size_zeroCells,J2]
  have hmul:lo*U.wd τ+(xs.length-lo)*U.wd τ=xs.length*U.wd τ:=by rw[<-ta];congr 1;omega
  have VF:∀u∈(Builtin.zeroCells z.cells (xs.length-lo)).toList,fu u:=by
   intro u kM
   simp only[Builtin.zeroCells,zeo,Array.toList_range,jX,oh] at kM
   obtain⟨m,_,rfl⟩:=kM
   have fx:m%z.cells.size<U.wd τ:=by rw[J2];exact Nat.mod_lt _ hw
   obtain⟨u',g1,g2⟩:=NC (m%z.cells.size) ((U.enc τ (U.dt τ))[m%z.cells.size]'(by rw[U.cP];exact fx)) (gr _)
   rw[getElem!_def,g1]
   rcases g2 with⟨_,g2⟩|⟨_,_,rfl⟩
   ·exact g2
   ·exact⟨rfl,trivial⟩
  have nd:=run_storeCells_at E.P b (lo*U.wd τ) (E.tid τ) (Builtin.zeroCells z.cells (xs.length-lo)).toList 0 cur w hb (by rw[hzl];omega) (fun u kM=>(VF u kM).1)
  simp only[Aj,hzl,hmul] at nd
  have fw:(Builtin.clear_ #[t] o.type #[a.eval s]).run E.P w=.ok (.tuple #[]) (w.setRow b (cur.toList.take (lo*U.wd τ)++(Builtin.zeroCells z.cells (xs.length-lo)).toList++cur.toList.drop (xs.length*U.wd τ)).toArray):=by
   rw[KG,hv]
   obtain⟨n,hnn⟩:∃n,xs.length-lo=n+1:=⟨xs.length-lo-1,by omega⟩
   have TX:¬cap=lo:=by omega
   have K0:(⟨b,0,none⟩:Addr).add (lo*U.wd τ)=⟨b,lo*U.wd τ,none⟩:=by unfold Addr.add;split<;>simp_all
   simp only[qz,TX,if_false,Ef,K0]
   rw[hnn] at nd⊢
   simp[Builtin.clear_,run_underlying hu,zeroValue,typeInfo,od,hz,nd]
  have o_:∀c,c≠b->(w.setRow b (cur.toList.take (lo*U.wd τ)++(Builtin.zeroCells z.cells (xs.length-lo)).toList++cur.toList.drop (xs.length*U.wd τ)).toArray).heap[c]? =w.heap[c]? :=fun c hc=>setRow_other w b c _ hc
  let T:Nat->Option Value:=fun m=>if lo*U.wd τ<=m/\m<xs.length*U.wd τ then(Builtin.zeroCells z.cells (xs.length-lo)).toList[m-lo*U.wd τ]? else none
  have hTs:∀m,lo*U.wd τ<=m->m<xs.length*U.wd τ->(T m).isSome=true:=fun m g1 g2=>by
   simp only[T];rw[if_pos ⟨g1,g2⟩,gr (by omega)];rfl
  have hwr:=cM.write (x:=⟨τ,xs⟩) (xs':=xs) (dead':=fun j=>dead j||Nat.ble lo j) kz (h.nodup k _ he) (fun b' aI=>(h.cU k _ b' he aI).1) hv hb (setRow_heap w b cur _ _ _ hb) o_ T ?_ ?_ ?_ rfl ?_ ?_
  ·rcases hwr with h0|⟨l',g1,g2,g3⟩
   ·simp only at h0;subst h0;simp at h1 NF;omega
   have RF:=h.cU k _ b he g3
   refine pC (exec fw) (hn _ _ _ _ _ (h.YH hd k _ _ he _ _ ps l' (fun bad x hx=>LW _ _ _ _ _ x hx) (fun bad=>g1) g2 (fun c hc=>o_ c (fun e=>hc (e▸g3)))
    ⟨rfl,rfl,rfl,by simp,fun b' _ Ez=>o_ b' (fun e=>Ez (by rw[e];exact RF.2.1)),og _⟩))
  ·simp only[Rt,kF,mO,FT,yM,size_zeroCells,J2]
   omega
  ·intro m hm
   simp only at hm
   have fx:(cur.toList.take (lo*U.wd τ)).length=lo*U.wd τ:=by rw[mO,yM];omega
   rw[zed,qc]
   simp only[T]
   by_cases h3:m<lo*U.wd τ
   ·rw[u_ (by omega),mP,if_pos h3,if_neg (by omega),Eg]
   ·rw[va (by omega),fx,if_pos ⟨by omega,hm⟩,u_ (by omega),gr (by omega)]
  ·intro m u _ ht
   simp only[T] at ht
   split at ht
   ·exact VF u (Ep ht)
   ·cases ht
  ·intro i y j c NR hy hj
   simp only[Ox] at NR
   have NN:i<lo:=by
    rcases lR i lo with g|g
    ·exact g
    ·have:=Nat.ble_eq_true_of_le g;rw[this] at NR;cases NR.2
   refine .inr ⟨?_,NR.1,y,hy,hj⟩
   simp only[T]
   have LZ:j<U.wd τ:=by
    rw[<-U.cP τ y]
    rcases lR j (U.enc τ y).length with g|g
    ·exact g
    ·have pg:(U.enc τ y)[j]? =some c:=hj
     rw[lU g] at pg;cases pg
   have:(i+1)*U.wd τ<=lo*U.wd τ:=u9 _ NN
   rw[ta,On] at this
   rw[if_neg (by omega)]
  ·intro i j NN NR hj
   simp only at NN hj
   rw[Ee] at NR
   rcases NR with NR|NR
   ·exact .inr NR
   ·left
    have g:=H6 NR
    have:lo*U.wd τ<=i*U.wd τ:=u9 _ g
    have:(i+1)*U.wd τ<=xs.length*U.wd τ:=u9 _ NN
    rw[ta,On] at this
    exact hTs _ (by show lo*U.wd τ<=i*U.wd τ+j;omega) (by show i*U.wd τ+j<xs.length*U.wd τ;omega)
end AM
