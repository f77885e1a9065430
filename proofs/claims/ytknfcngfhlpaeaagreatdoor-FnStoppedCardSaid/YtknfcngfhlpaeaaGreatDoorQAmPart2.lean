import Derived.Test.YtknfcngfhlpaeaaGreatDoorQAmPart
import Derived.Test.YtknfcngfhlpaeaaGreatDoorQAmOps10
namespace AM
set_option linter.unusedVariables false
open Go
variable{U:kz}{E:Env U}{pm:Pm}
variable{F F':Nat->Prop}{kv:Key->Value}{fp:Key->List Nat}{σ:ak U}{a:Act}{w w':World}{bad:Key->Bool}
theorem dK.write{dead dead':Nat->Bool}{x:cC U}{xs':List (U.T x.τ)}{v:Value}{l:List Nat}(h:dK E w F dead x v l)(o9:l.Nodup)(hF:∀b∈l,¬F b){b cap:Nat}{cur cur':Array Value}
  (hv:v=.slice (some ⟨b,0,none⟩) x.xs.length cap) (hb:w.heap[b]? =some (.cells cur (E.tid x.τ) (0,0))) (bg:w'.heap[b]? =some (.cells cur' (E.tid x.τ) (0,0))) (sH:∀c,c≠b->w'.heap[c]? =w.heap[c]?)
  (T:Nat->Option Value) (tU:cur'.size=cur.size) (akk:∀m,m<x.xs.length*U.wd x.τ->cur'[m]? =(match T m with|some u=>some u|none=>cur[m]?)) (hT:∀m u,m<x.xs.length*U.wd x.τ->T m=some u->fI u)
  (hlen:xs'.length=x.xs.length)
  (Q0:∀i y j c,dead' i=false->xs'[i]? =some y->(U.enc x.τ y)[j]? =some c->(∃u,T (i*U.wd x.τ+j)=some u/\c=.lit u)\/(T (i*U.wd x.τ+j)=none/\dead i=false/\∃y0,x.xs[i]? =some y0/\(U.enc x.τ y0)[j]? =some c))
  (hde:∀i j,i<x.xs.length->dead' i=true->j<U.wd x.τ->(T (i*U.wd x.τ+j)).isSome=true\/dead i=true):
  x.xs=[]\/∃l',dK E w' F dead' ⟨x.τ,xs'⟩ v l'/\l'.Sublist l/\b∈l:=by
 rcases h with⟨h0,_⟩|⟨b0,am_,aky,vs,gr,g1,g2,hc,hm,hs,hvv,hr,jR,rfl⟩
 ·exact .inl h0
 right
 rw[hv] at g1
 simp only[Value.slice.injEq,fM,Addr.mk.injEq,and_true,true_and] at g1
 obtain⟨rfl,rfl⟩:=g1
 rw[hb] at g2
 simp only[fM,Obj.cells.injEq,and_true] at g2
 subst g2
 have hw:=U.kp x.τ
 obtain⟨Ud,XE⟩:=sC.1 o9
 let jT:Nat->List Nat:=fun m=>if(T m).isSome=true\/x.xs.length*U.wd x.τ<=m then[] else gr m
 let uP:Nat->Value:=fun m=>match T m with|some u=>u|none=>vs m
 have o8:((List.range (x.xs.length*U.wd x.τ)).flatMap jT).Sublist ((List.range (x.xs.length*U.wd x.τ)).flatMap gr):=WA fun m _=>by
  simp only[jT];split
  ·exact List.nil_sublist _
  ·exact Tr _
 refine⟨b::(List.range (x.xs.length*U.wd x.τ)).flatMap jT,.inr ⟨b,cap,cur',uP,jT,by rw[hv,hlen],bg,by rw[hlen];exact hc,hm,by rw[tU,hs],fun m tX=> ?_,fun i y j c hi hy hj=> ?_,fun i j hi hj=> ?_,by rw[hlen]⟩,List.Sublist.cons_cons _ o8,gS⟩
 ·simp only[hlen] at tX
  rw[akk m tX]
  simp only[uP]
  cases ht:T m with
  |none=>exact hvv m tX
  |some u=>exact⟨rfl,hT m u tX ht⟩
 ·have fU:i*U.wd x.τ+j<x.xs.length*U.wd x.τ:=by rw[<-hlen];exact fi hy hj
  show Rp E w' F true c (uP (i*U.wd x.τ+j)) (jT (i*U.wd x.τ+j))
  rcases Q0 i y j c hi hy hj with⟨u,h1,rfl⟩|⟨h1,h2,y0,h3,h4⟩
  ·have e1:uP (i*U.wd x.τ+j)=u:=by simp only[uP,h1]
   have e2:jT (i*U.wd x.τ+j)=[]:=by simp only[jT];rw[if_pos (.inl (by rw[h1];rfl))]
   rw[e1,e2]
   exact .lit _ _ (hT _ u fU h1)
  ·have e1:uP (i*U.wd x.τ+j)=vs (i*U.wd x.τ+j):=by simp only[uP,h1]
   have e2:jT (i*U.wd x.τ+j)=gr (i*U.wd x.τ+j):=by simp only[jT];rw[if_neg (by rw[h1];simp;omega)]
   rw[e1,e2]
   refine(hr i y0 j c h2 h3 h4).fC (fun c' l_=>⟨l_,sH c' (fun e=> ?_)⟩) (fun c' l_=>sH c' (fun e=> ?_))
   ·subst e;exact hF c' (by simp) l_
   ·subst e;exact Ud (nF.2 ⟨_,n9.2 fU,l_⟩)
 ·show jT (i*U.wd x.τ+j)=[]
  simp only[jT]
  by_cases pa:i<x.xs.length
  ·rcases hde i j pa hi hj with h1|h1
   ·rw[if_pos (.inl h1)]
   ·split
    ·rfl
    ·exact jR i j h1 hj
  ·have:x.xs.length*U.wd x.τ<=i*U.wd x.τ:=ze _ (by omega)
   rw[if_pos (.inr (by omega))]
theorem cG.V'(h:cG E pm F kv fp σ a w){o:Oper}(hd:∀d,o.dst=some d->d<σ.n)(k:Key)(e0 e:ie U)(mD:σ.bH k=some e0)(sv:Option (SV U))(v:Value)(ps:List Prop)(zo:List Nat)
  (C4:∀bad x,sv=some x->RS E w' F kv (c_ fp k zo) bad x v)
  (hE:∀bad,sg E w' F kv (c_ fp k zo) bad e (kv k) zo) (o8:zo.Sublist (fp k))
  (sH:∀c,c∉fp k->w'.heap[c]? =w.heap[c]?) (oV:gq (fun b=>pm.W b\/pm.w0.heap.size<=b) w w'):
  cG E pm F kv (c_ fp k zo) (AM.apply o ⟨sv,[],[],[(k,e)],ps⟩ σ) (a.put o.dst v) w':=by
 have jS:dk o (⟨sv,[],[],[(k,e)],ps⟩:bX U)=[]:=rfl
 have kj:jh (⟨sv,[],[],[(k,e)],ps⟩:bX U)=[k]:=rfl
 have zx:∀b,F b->F b/\w'.heap[b]? =w.heap[b]? :=fun b hb=>⟨hb,sH b (fun hk=>(h.fj k e0 b mD hk).1 hb)⟩
 refine h.apply o _ v hd (fun x hx=>C4 _ x hx) (fun _ _=>rfl) ?_ ?_ zx ?_ ?_ ?_ ?_ ?_ h.sN (h.upto.trans oV) oV.size
 ·intro k' _ hk;rw[kj] at hk;exact zR (by simpa using hk)
 ·intro k' hk;rw[jS] at hk;simp at hk
 ·intro k' e' _ hk _ he b hb
  rw[kj] at hk
  exact sH b (fun ic=>h.apart k' k e' e0 b (by simpa using hk) he mD hb ic)
 ·rintro k' e' (⟨j,_,hj⟩|hk)
  ·simp at hj
  ·simp only[mb,nT] at hk
   obtain⟨rfl,rfl⟩:=hk
   rw[sE]
   refine⟨hE _,o8.nodup (h.nodup k' e0 mD),fun b hb=> ?_⟩
   obtain⟨g1,g2,g3⟩:=h.fj k' e0 b mD (o8.subset hb)
   exact⟨g1,g2,Y8 g3 oV.size⟩
 ·intro k' e' b _ _ _ he hb;exact(h.fj k' e' b he hb).1
 ·intro k1 k' b d_ hk cK hb
  rw[jS,kj] at hk cK
  simp only[mb,LX,false_or] at hk cK
  subst hk
  rw[sE] at hb
  rcases cK with rfl|⟨_,Gf⟩
  ·exact absurd rfl d_
  ·rw[zR (Ne.symm d_)]
   obtain⟨e',ew⟩:=l6.1 Gf
   exact h.apart k1 k' e0 e' b d_ mD ew (o8.subset hb)
 ·intro b hb
  have:=h.sO b hb
  have:=oV.size
  omega
theorem ahy(h:cG E pm F kv fp σ a w){o:Oper}(ho:o.dst=none){t:TypeId}{x y:Operand}(qB:o.op=.store t x y){sx:SV U}{yx:AC U}{z:AV U}{n:Nat}{rs:List Key}{r:bX U}
  (hx:RS E w F kv fp (bR σ) sx (a.eval x)) (w6:tG sx=some yx) (hy:RS E w F kv fp (bR σ) (.v z) (a.eval y)) (hs:E.size t=some n) (hn:n=z.cs.length)
  (hr:yh (restrict σ.bH rs) z yx=some r) (hp:∀p∈r.pre,p) {next:Act->World->Prop} {Q:Exit->Act->World->Prop}
  (Si:∀F kv fp a' w',cG E pm F kv fp (AM.apply o r σ) a' w'->next a' w'):o.wp E.P a w next Q:=by
 have Aj:=kr hx w6
 obtain⟨gM,sz⟩:=Mi hy
 unfold yh at hr
 split at hr
 rotate_left
 ·cases hr
 rename_i k i wd off
 split at hr
 rotate_left
 ·cases hr
 rename_i x0 dead us he XK
 have ew:=jx he
 rw[gI] at hr
 split at hr
 rotate_left
 ·cases hr
 rename_i mi
 simp only[cH] at mi
 have tT:=mc mi.1
 have hle:=HG mi.2
 subst tT
 rw[WE] at hr
 split at hr
 rotate_left
 ·cases hr
 rename_i a' ha'
 split at ha'
 rotate_left
 ·cases ha'
 rename_i yv Km
 cases ha'
 cases hr
 have hi:i<x0.xs.length:=hp _ (by simp)
 have Q0:dead i=false:=hp _ (by simp)
 have ve:=Rz XK gM
 have hul:us.length=z.cs.length:=by rw[<-ve,D4,sz]
 have nq:dK E w F dead x0 (kv k) (fp k):=h.cW k _ ew
 have Gi:=U.lK x0.τ _ yv Km
 obtain⟨b,cap,cur,hv,hb,tU⟩:∃b cap cur,kv k=.slice (some ⟨b,0,none⟩) x0.xs.length cap/\w.heap[b]? =some (.cells cur (E.tid x0.τ) (0,0))/\x0.xs.length*U.wd x0.τ<=cur.size:=by
  rcases nq with⟨h0,_⟩|⟨b,cap,cur,vs,gr,g1,g2,g3,_,g5,_⟩
  ·rw[h0] at hi;simp at hi
  ·exact⟨b,cap,cur,g1,g2,by rw[g5];exact ze _ g3⟩
 obtain⟨bb,oo,nn,cc,nt,hpv⟩:=ca Aj (by simp[hJ])
 simp only[nU] at nt
 rw[hv] at nt
 simp only[Value.slice.injEq,fM,Addr.mk.injEq,and_true] at nt
 obtain⟨⟨e1,e2⟩,_,_⟩:=nt
 rw[e1,e2,tH] at hpv
 have hN:i*U.wd x0.τ+U.wd x0.τ<=x0.xs.length*U.wd x0.τ:=by
  have:(i+1)*U.wd x0.τ<=x0.xs.length*U.wd x0.τ:=ze _ hi
  rw[x_,Nv] at this
  exact this
 have hyl:(a.eval y).cells.toList=us:=ve
 have iM:=Rk (P:=E.P) (n:=n) (off:=i*U.wd x0.τ+off) (v:=a.eval y) hs (by rw[sz];exact hn.symm) gM.fJ hb (by omega)
 rw[<-hpv,hyl] at iM
 have exec:(execOp a.eval o).run E.P w=.ok .skip (w.setRow b (cur.toList.take (i*U.wd x0.τ+off)++us++cur.toList.drop (i*U.wd x0.τ+off+n)).toArray):=by
  unfold execOp;simp only[qB]
  rw[Sem.run_bind,iM];rfl
 have sH:∀c,c≠b->(w.setRow b (cur.toList.take (i*U.wd x0.τ+off)++us++cur.toList.drop (i*U.wd x0.τ+off+n)).toArray).heap[c]? =w.heap[c]? :=fun c hc=>setRow_other w b c _ hc
 have abC:∀m u,us[m]? =some u->fI u:=fun m u hm=>by
  have fU:m<z.cs.length:=by
   rw[<-hul]
   rcases nL m us.length with g|g
   ·exact g
   ·rw[nb g] at hm;cases hm
  exact(gM.2 m _ u (eW fU) (by rw[hyl];exact hm)).1
 let T:Nat->Option Value:=fun m=>if i*U.wd x0.τ+off<=m/\m<i*U.wd x0.τ+off+us.length then us[m-(i*U.wd x0.τ+off)]? else none
 have hw:=dK.write (xs':=x0.xs.set i yv) (dead':=dead) nq (h.nodup k _ ew) (fun b' bg=>(h.fj k _ b' ew bg).1) hv hb (setRow_heap w b cur _ _ _ hb) sH T ?_ ?_ ?_ (JC ..) ?_ (fun _ _ _ Ao _=> .inr Ao)
 ·rcases hw with h0|⟨l',g1,g2,g3⟩
  ·rw[h0] at hi;simp at hi
  have XG:=h.fj k _ b ew g3
  have nI:=h.V' (o:=o) (fun d hd=>by rw[ho] at hd;cases hd) k _ (.part ⟨x0.τ,x0.xs.set i yv⟩ dead) ew none undef [i<x0.xs.length,dead i=false] l' (fun _ x hx=>by cases hx) (fun bad=>g1) g2 (fun c hc=>sH c (fun e=>hc (e▸g3)))
   ⟨rfl,rfl,rfl,by simp,fun b' _ IA=>sH b' (fun e=>IA (by rw[e];exact XG.2.1))⟩
  exact NZ exec (Si _ _ _ _ _ nI)
 ·simp only[Q8,na,nE,Jt,D4]
  omega
 ·intro m hm
  have fU:(cur.toList.take (i*U.wd x0.τ+off)).length=i*U.wd x0.τ+off:=by rw[nE,D4];omega
  rw[zed,we]
  simp only[T]
  by_cases h2:m<i*U.wd x0.τ+off
  ·rw[wg (by omega),oT,if_pos h2,if_neg (by omega),JE]
  ·rw[ya (by omega),fU]
   by_cases h3:m<i*U.wd x0.τ+off+us.length
   ·rw[if_pos ⟨by omega,h3⟩,wg (by omega),eW (by omega)]
   ·rw[if_neg (by omega),ya (by omega),Fx,JE]
    show cur[i*U.wd x0.τ+off+n+(m-(i*U.wd x0.τ+off)-us.length)]? =cur[m]?
    congr 1;omega
 ·intro m u _ ht
  simp only[T] at ht
  split at ht
  ·exact abC _ u ht
  ·cases ht
 ·intro q yq j c hdq hq hj
  have MT:j<U.wd x0.τ:=by
   rw[<-U.cY x0.τ yq]
   rcases nL j (U.enc x0.τ yq).length with g|g
   ·exact g
   ·rw[nb g] at hj;cases hj
  by_cases TP:q=i
  ·subst TP
   rw[Ts,if_pos rfl,if_pos hi] at hq
   cases hq
   rw[Gi] at hj
   have uR:=ff (d:=U.ee x0.τ) hi
   have am6:off+(us.map (Cell.lit (Ty:=U.Ty) (T:=U.T))).length<=U.wd x0.τ:=by rw[uW];omega
   have O2:((U.enc x0.τ (x0.xs.getD q (U.ee x0.τ))).take off).length=off:=by simp[U.cY];omega
   by_cases h1:j<off
   ·refine .inr ⟨by simp only[T];rw[if_neg (by omega)],hdq,_,uR,?_⟩
    rw[we,wg (by rw[O2];exact h1),oT,if_pos h1] at hj
    exact hj
   ·by_cases h2:j<off+us.length
    ·left
     rw[we,ya (by rw[O2];omega),O2,wg (by rw[uW];omega),mw] at hj
     cases hu:us[j-off]? with
     |none=>rw[hu] at hj;cases hj
     |some u=>
      rw[hu] at hj
      simp only[D3,fM] at hj
      refine⟨u,?_,hj.symm⟩
      simp only[T]
      rw[if_pos (by omega),show q*U.wd x0.τ+j-(q*U.wd x0.τ+off)=j-off by omega,hu]
    ·refine .inr ⟨by simp only[T];rw[if_neg (by omega)],hdq,_,uR,?_⟩
     have abD:((U.enc x0.τ (x0.xs.getD q (U.ee x0.τ))).take off++us.map Cell.lit).length=off+us.length:=by rw[na,O2,uW]
     rw[ya (by rw[abD];omega),abD,Fx,uW] at hj
     rw[<-hj];congr 1;omega
  ·refine .inr ⟨?_,hdq,yq,?_,hj⟩
   ·simp only[T]
    rw[if_neg (fun o_=>TP (RN MT (show q*U.wd x0.τ+j-i*U.wd x0.τ<U.wd x0.τ by omega) (by omega)).1)]
   ·rw[Ts,if_neg (fun e=>TP e.symm)] at hq
    exact hq
theorem ajs(hE:E.Ok)(h:cG E pm F kv fp σ a w){o:Oper}(hd:∀d,o.dst=some d->d<σ.n){cl:Call}{t e:TypeId}{s:Operand}(qB:o.op=.call cl)(gB:cl.callee=.builtin .clear)
  (kG:cl.args.toList=[s]) (Ai:cl.argTypes.toList=[t]) {τ:U.Ty} (tt:E.elem t=some e) (hc:E.code e=some τ) {ss:SV U} {k:Key} {lo hi:Nat}
  (hs:RS E w F kv fp (bR σ) ss (a.eval s)) (Sg:tG ss=some (.sub k (U.wd τ) lo hi)) {xs:List (U.T τ)} {dead:Nat->Bool} (he:σ.bH k=some (.part ⟨τ,xs⟩ dead)) (h1:lo<=hi) (h2:hi=xs.length) {ps:List Prop}
  {next:Act->World->Prop} {Q:Exit->Act->World->Prop}
  (hn:∀F kv fp a' w',cG E pm F kv fp (AM.apply o ⟨some (.uZ []),[],[],[(k,.part ⟨τ,xs⟩ (fun j=>dead j||Nat.ble lo j))],ps⟩ σ) a' w'->next a' w'):o.wp E.P a w next Q:=by
 obtain⟨yA,ti,z,pa,hz,iL,MF,Uc,MI⟩:=hE.code e τ hc
 have hu:=CH tt
 have hw:=U.kp τ
 subst h2
 have exec:∀{w1},(Builtin.clear_ #[t] o.type #[a.eval s]).run E.P w=.ok (.tuple #[]) w1->(execOp a.eval o).run E.P w=.ok (.value (.tuple #[])) w1:=by
  intro w1 hr
  have ha:cl.args= #[s]:=yn kG
  have ht:cl.argTypes= #[t]:=yn Ai
  unfold execOp;simp only[qB]
  simp[resolve,gB,ha,ht,invoke,builtin,hr]
 have Xt:∀(w1:World)(F1:Nat->Prop) kv1 Zz bad (x:SV U),some (.uZ [])=some x->RS E w1 F1 kv1 Zz bad x (.tuple #[]):=fun w1 F1 kv1 Zz bad x hx=>by
  cases hx
  exact⟨[],rfl,rfl,fun i x u hx=>by simp at hx⟩
 obtain⟨O0,_⟩:=ca (kr hs Sg) rfl
 have nq:dK E w F dead ⟨τ,xs⟩ (kv k) (fp k):=h.cW k _ he
 by_cases Sm:xs.length=lo
 ·
  have fU:∀{i:Nat}{y:U.T τ},xs[i]? =some y->i<lo:=fun{i y} hy=>by
   rcases nL i xs.length with g|g
   ·omega
   ·rw[nb g] at hy;cases hy
  have iM:(Builtin.clear_ #[t] o.type #[a.eval s]).run E.P w=.ok (.tuple #[]) w:=by
   obtain⟨ad,c,hv,_⟩:=nq.NM
   rw[O0,hv]
   simp only[p9,Sm,To]
   split
   ·cases ad<;>simp[Builtin.clear_,run_underlying hu]
   ·cases ad<;>simp[Builtin.clear_,run_underlying hu]
  refine qZ (exec iM) (hn _ _ _ _ _ (h.V' hd k _ _ he _ _ ps (fp k) (fun bad x hx=>Xt _ _ _ _ _ x hx) (fun bad=> ?_) (Tr _) (fun _ _=>rfl) (gq.refl _ _)))
  rcases nq with g|⟨b,cap,cur,vs,gr,g1,g2,g3,g4,g5,g6,g7,g8,g9⟩
  ·exact .inl g
  ·let jT:Nat->List Nat:=fun m=>if m<xs.length*U.wd τ then gr m else[]
   refine .inr ⟨b,cap,cur,vs,jT,g1,g2,g3,g4,g5,g6,fun i y j c Ao hy hj=> ?_,fun i j Ao hj=> ?_,?_⟩
   ·simp only[Nl] at Ao
    simp only[jT,if_pos (fi hy hj)]
    exact g7 i y j c Ao.1 hy hj
   ·simp only[jT]
    split
    ·rename_i Gc
     have MU:i<lo:=by
      have:i*U.wd τ<xs.length*U.wd τ:=by omega
      have:=Nat.lt_of_mul_lt_mul_right this
      omega
     refine g8 i j ?_ hj
     rw[DW] at Ao
     exact Ao.resolve_right (fun e=>by have:=HG e;omega)
    ·rfl
   ·rw[g9]
    congr 1
    rw[LV,LV]
    congr 1
    refine LW fun m hm=> ?_
    simp only[jT,if_pos (n9.1 hm)]
 ·obtain⟨b,cap,cur,hv,hb,yJ,tU⟩:∃b cap cur,kv k=.slice (some ⟨b,0,none⟩) xs.length cap/\w.heap[b]? =some (.cells cur (E.tid τ) (0,0))/\xs.length<=cap/\xs.length*U.wd τ<=cur.size:=by
   rcases nq with⟨h0,_⟩|⟨b,cap,cur,vs,gr,g1,g2,g3,_,g5,_⟩
   ·simp only at h0;subst h0;simp at h1 Sm;omega
   ·exact⟨b,cap,cur,g1,g2,g3,by rw[g5];exact ze _ g3⟩
  have hzl:(Builtin.zeroCells z.cells (xs.length-lo)).toList.length=(xs.length-lo)*U.wd τ:=by rw[D4,size_zeroCells,MF]
  have hmul:lo*U.wd τ+(xs.length-lo)*U.wd τ=xs.length*U.wd τ:=by rw[<-x_];congr 1;omega
  have TH:∀u∈(Builtin.zeroCells z.cells (xs.length-lo)).toList,fI u:=by
   intro u rf
   simp only[Builtin.zeroCells,ZD,Array.toList_range,kW,n9] at rf
   obtain⟨m,_,rfl⟩:=rf
   have fU:m%z.cells.size<U.wd τ:=by rw[MF];exact Nat.mod_lt _ hw
   obtain⟨u',g1,g2⟩:=MI (m%z.cells.size) ((U.enc τ (U.ee τ))[m%z.cells.size]'(by rw[U.cY];exact fU)) (eW _)
   rw[getElem!_def,g1]
   rcases g2 with⟨_,g2⟩|⟨_,_,rfl⟩
   ·exact g2
   ·exact⟨rfl,trivial⟩
  have oW:=run_storeCells_at E.P b (lo*U.wd τ) (E.tid τ) (Builtin.zeroCells z.cells (xs.length-lo)).toList 0 cur w hb (by rw[hzl];omega) (fun u rf=>(TH u rf).1)
  simp only[HD,hzl,hmul] at oW
  have iM:(Builtin.clear_ #[t] o.type #[a.eval s]).run E.P w=.ok (.tuple #[]) (w.setRow b (cur.toList.take (lo*U.wd τ)++(Builtin.zeroCells z.cells (xs.length-lo)).toList++cur.toList.drop (xs.length*U.wd τ)).toArray):=by
   rw[O0,hv]
   obtain⟨n,TS⟩:∃n,xs.length-lo=n+1:=⟨xs.length-lo-1,by omega⟩
   have Sz:¬cap=lo:=by omega
   have M0:(⟨b,0,none⟩:Addr).add (lo*U.wd τ)=⟨b,lo*U.wd τ,none⟩:=by unfold Addr.add;split<;>simp_all
   simp only[p9,Sz,if_false,D3,M0]
   rw[TS] at oW⊢
   simp[Builtin.clear_,run_underlying hu,zeroValue,typeInfo,pa,hz,oW]
  have sH:∀c,c≠b->(w.setRow b (cur.toList.take (lo*U.wd τ)++(Builtin.zeroCells z.cells (xs.length-lo)).toList++cur.toList.drop (xs.length*U.wd τ)).toArray).heap[c]? =w.heap[c]? :=fun c hc=>setRow_other w b c _ hc
  let T:Nat->Option Value:=fun m=>if lo*U.wd τ<=m/\m<xs.length*U.wd τ then(Builtin.zeroCells z.cells (xs.length-lo)).toList[m-lo*U.wd τ]? else none
  have hTs:∀m,lo*U.wd τ<=m->m<xs.length*U.wd τ->(T m).isSome=true:=fun m g1 g2=>by
   simp only[T];rw[if_pos ⟨g1,g2⟩,eW (by omega)];rfl
  have hwr:=dK.write (x:=⟨τ,xs⟩) (xs':=xs) (dead':=fun j=>dead j||Nat.ble lo j) nq (h.nodup k _ he) (fun b' bg=>(h.fj k _ b' he bg).1) hv hb (setRow_heap w b cur _ _ _ hb) sH T ?_ ?_ ?_ rfl ?_ ?_
  ·rcases hwr with h0|⟨l',g1,g2,g3⟩
   ·simp only at h0;subst h0;simp at h1 Sm;omega
   have XG:=h.fj k _ b he g3
   refine qZ (exec iM) (hn _ _ _ _ _ (h.V' hd k _ _ he _ _ ps l' (fun bad x hx=>Xt _ _ _ _ _ x hx) (fun bad=>g1) g2 (fun c hc=>sH c (fun e=>hc (e▸g3)))
    ⟨rfl,rfl,rfl,by simp,fun b' _ IA=>sH b' (fun e=>IA (by rw[e];exact XG.2.1))⟩))
  ·simp only[Q8,na,nE,Jt,D4,size_zeroCells,MF]
   omega
  ·intro m hm
   simp only at hm
   have fU:(cur.toList.take (lo*U.wd τ)).length=lo*U.wd τ:=by rw[nE,D4];omega
   rw[zed,we]
   simp only[T]
   by_cases h3:m<lo*U.wd τ
   ·rw[wg (by omega),oT,if_pos h3,if_neg (by omega),JE]
   ·rw[ya (by omega),fU,if_pos ⟨by omega,hm⟩,wg (by omega),eW (by omega)]
  ·intro m u _ ht
   simp only[T] at ht
   split at ht
   ·exact TH u (Em ht)
   ·cases ht
  ·intro i y j c Gk hy hj
   simp only[Nl] at Gk
   have MU:i<lo:=by
    rcases nL i lo with g|g
    ·exact g
    ·have:=Nat.ble_eq_true_of_le g;rw[this] at Gk;cases Gk.2
   refine .inr ⟨?_,Gk.1,y,hy,hj⟩
   simp only[T]
   have MT:j<U.wd τ:=by
    rw[<-U.cY τ y]
    rcases nL j (U.enc τ y).length with g|g
    ·exact g
    ·have sI:(U.enc τ y)[j]? =some c:=hj
     rw[nb g] at sI;cases sI
   have:(i+1)*U.wd τ<=lo*U.wd τ:=ze _ MU
   rw[x_,Nv] at this
   rw[if_neg (by omega)]
  ·intro i j MU Gk hj
   simp only at MU hj
   rw[DW] at Gk
   rcases Gk with Gk|Gk
   ·exact .inr Gk
   ·left
    have g:=HG Gk
    have:lo*U.wd τ<=i*U.wd τ:=ze _ g
    have:(i+1)*U.wd τ<=xs.length*U.wd τ:=ze _ MU
    rw[x_,Nv] at this
    exact hTs _ (by show lo*U.wd τ<=i*U.wd τ+j;omega) (by show i*U.wd τ+j<xs.length*U.wd τ;omega)
end AM
