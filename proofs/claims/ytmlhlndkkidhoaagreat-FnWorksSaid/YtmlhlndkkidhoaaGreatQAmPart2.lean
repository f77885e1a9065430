/- THE ABSTRACT MACHINE: rows of which some elements are gone: literals are laid into them, their ends are cleared. -/
import Derived.Test.YtmlhlndkkidhoaaGreatQAmPart
import Derived.Test.YtmlhlndkkidhoaaGreatQAmOps10
namespace AM
set_option linter.unusedVariables false
open Go
variable{U:kZ}{E:Env U}{pm:Pm}
variable{F F':Nat->Prop}{kv:Key->Value}{fp:Key->List Nat}{σ:ah U}{a:Act}{w w':World}{bad:Key->Bool}
theorem eo.write{dead dead':Nat->Bool}{x:iX U}{xs':List (U.T x.τ)}{v:Value}{l:List Nat}(h:eo E w F dead x v l)(pL:l.Nodup)(hF:∀b∈l,¬F b){b cap:Nat}{cur cur':Array Value}
  (hv:v=.slice (some ⟨b,0,none⟩) x.xs.length cap) (hb:w.heap[b]? =some (.cells cur (E.tid x.τ) (0,0))) (bf:w'.heap[b]? =some (.cells cur' (E.tid x.τ) (0,0))) (sR:∀c,c≠b->w'.heap[c]? =w.heap[c]?)
  (T:Nat->Option Value) (wy:cur'.size=cur.size) (aoo:∀m,m<x.xs.length*U.wd x.τ->cur'[m]? =(match T m with|some u=>some u|none=>cur[m]?)) (hT:∀m u,m<x.xs.length*U.wd x.τ->T m=some u->gp u)
  (hlen:xs'.length=x.xs.length)
  (Te:∀i y j c,dead' i=false->xs'[i]? =some y->(U.enc x.τ y)[j]? =some c->(∃u,T (i*U.wd x.τ+j)=some u/\c=.lit u)\/(T (i*U.wd x.τ+j)=none/\dead i=false/\∃y0,x.xs[i]? =some y0/\(U.enc x.τ y0)[j]? =some c))
  (hde:∀i j,i<x.xs.length->dead' i=true->j<U.wd x.τ->(T (i*U.wd x.τ+j)).isSome=true\/dead i=true):
  x.xs=[]\/∃l',eo E w' F dead' ⟨x.τ,xs'⟩ v l'/\l'.Sublist l/\b∈l:=by
 rcases h with⟨h0,_⟩|⟨b0,aui,aoJ,vs,gV,g1,g2,hc,hm,hs,hvv,hr,kG,rfl⟩
 ·exact .inl h0
 right
 rw[hv] at g1
 simp only[Value.slice.injEq,gx,Addr.mk.injEq,and_true,true_and] at g1
 obtain⟨rfl,rfl⟩:=g1
 rw[hb] at g2
 simp only[gx,Obj.cells.injEq,and_true] at g2
 subst g2
 have hw:=U.kJ x.τ
 obtain⟨Wl,YM⟩:=sN.1 pL
 let ka:Nat->List Nat:=fun m=>if(T m).isSome=true\/x.xs.length*U.wd x.τ<=m then[] else gV m
 let uZ:Nat->Value:=fun m=>match T m with|some u=>u|none=>vs m
 have pK:((List.range (x.xs.length*U.wd x.τ)).flatMap ka).Sublist ((List.range (x.xs.length*U.wd x.τ)).flatMap gV):=XE fun m _=>by
  simp only[ka];split
  ·exact List.nil_sublist _
  ·exact VJ _
 refine⟨b::(List.range (x.xs.length*U.wd x.τ)).flatMap ka,.inr ⟨b,cap,cur',uZ,ka,by rw[hv,hlen],bf,by rw[hlen];exact hc,hm,by rw[wy,hs],fun m ul=> ?_,fun i y j c hi hy hj=> ?_,fun i j hi hj=> ?_,by rw[hlen]⟩,List.Sublist.cons_cons _ pK,gj⟩
 ·simp only[hlen] at ul
  rw[aoo m ul]
  simp only[uZ]
  cases ht:T m with
  |none=>exact hvv m ul
  |some u=>exact⟨rfl,hT m u ul ht⟩
 ·have gF:i*U.wd x.τ+j<x.xs.length*U.wd x.τ:=by rw[<-hlen];exact fJ hy hj
  show Rp E w' F true c (uZ (i*U.wd x.τ+j)) (ka (i*U.wd x.τ+j))
  rcases Te i y j c hi hy hj with⟨u,h1,rfl⟩|⟨h1,h2,y0,h3,h4⟩
  ·have e1:uZ (i*U.wd x.τ+j)=u:=by simp only[uZ,h1]
   have e2:ka (i*U.wd x.τ+j)=[]:=by simp only[ka];rw[if_pos (.inl (by rw[h1];rfl))]
   rw[e1,e2]
   exact .lit _ _ (hT _ u gF h1)
  ·have e1:uZ (i*U.wd x.τ+j)=vs (i*U.wd x.τ+j):=by simp only[uZ,h1]
   have e2:ka (i*U.wd x.τ+j)=gV (i*U.wd x.τ+j):=by simp only[ka];rw[if_neg (by rw[h1];simp;omega)]
   rw[e1,e2]
   refine(hr i y0 j c h2 h3 h4).f_ (fun c' l4=>⟨l4,sR c' (fun e=> ?_)⟩) (fun c' l4=>sR c' (fun e=> ?_))
   ·subst e;exact hF c' (by simp) l4
   ·subst e;exact Wl (nT.2 ⟨_,oN.2 gF,l4⟩)
 ·show ka (i*U.wd x.τ+j)=[]
  simp only[ka]
  by_cases pN:i<x.xs.length
  ·rcases hde i j pN hi hj with h1|h1
   ·rw[if_pos (.inl h1)]
   ·split
    ·rfl
    ·exact kG i j h1 hj
  ·have:x.xs.length*U.wd x.τ<=i*U.wd x.τ:=zy _ (by omega)
   rw[if_pos (.inr (by omega))]
theorem cE.Xf(h:cE E pm F kv fp σ a w){o:Oper}(hd:∀d,o.dst=some d->d<σ.n)(k:Key)(e0 e:iv U)(om:σ.bJ k=some e0)(sv:Option (SV U))(v:Value)(ps:List Prop)(zP:List Nat)
  (C1:∀bad x,sv=some x->RS E w' F kv (dl fp k zP) bad x v)
  (hE:∀bad,sE E w' F kv (dl fp k zP) bad e (kv k) zP) (pK:zP.Sublist (fp k))
  (sR:∀c,c∉fp k->w'.heap[c]? =w.heap[c]?) (pE:gN (fun b=>pm.W b\/pm.w0.heap.size<=b) w w'):
  cE E pm F kv (dl fp k zP) (AM.apply o ⟨sv,[],[],[(k,e)],ps⟩ σ) (a.put o.dst v) w':=by
 have j_:dG o (⟨sv,[],[],[(k,e)],ps⟩:cd U)=[]:=rfl
 have kF:jE (⟨sv,[],[],[(k,e)],ps⟩:cd U)=[k]:=rfl
 have zW:∀b,F b->F b/\w'.heap[b]? =w.heap[b]? :=fun b hb=>⟨hb,sR b (fun hk=>(h.fK k e0 b om hk).1 hb)⟩
 refine h.apply o _ v hd (fun x hx=>C1 _ x hx) (fun _ _=>rfl) ?_ ?_ zW ?_ ?_ ?_ ?_ ?_ h.sY (h.upto.trans pE) pE.size
 ·intro k' _ hk;rw[kF] at hk;exact Ag (by simpa using hk)
 ·intro k' hk;rw[j_] at hk;simp at hk
 ·intro k' e' _ hk _ he b hb
  rw[kF] at hk
  exact sR b (fun iO=>h.apart k' k e' e0 b (by simpa using hk) he om hb iO)
 ·rintro k' e' (⟨j,_,hj⟩|hk)
  ·simp at hj
  ·simp only[ma,ox] at hk
   obtain⟨rfl,rfl⟩:=hk
   rw[sP]
   refine⟨hE _,pK.nodup (h.nodup k' e0 om),fun b hb=> ?_⟩
   obtain⟨g1,g2,g3⟩:=h.fK k' e0 b om (pK.subset hb)
   exact⟨g1,g2,zds g3 pE.size⟩
 ·intro k' e' b _ _ _ he hb;exact(h.fK k' e' b he hb).1
 ·intro k1 k' b eO hk cO hb
  rw[j_,kF] at hk cO
  simp only[ma,LA,false_or] at hk cO
  subst hk
  rw[sP] at hb
  rcases cO with rfl|⟨_,GH⟩
  ·exact absurd rfl eO
  ·rw[Ag (Ne.symm eO)]
   obtain⟨e',e8⟩:=mI.1 GH
   exact h.apart k1 k' e0 e' b eO om e8 (pK.subset hb)
 ·intro b hb
  have:=h.sZ b hb
  have:=pE.size
  omega
theorem alB(h:cE E pm F kv fp σ a w){o:Oper}(ho:o.dst=none){t:TypeId}{x y:Operand}(rf:o.op=.store t x y){sx:SV U}{yx:AC U}{z:AV U}{n:Nat}{rs:List Key}{r:cd U}
  (hx:RS E w F kv fp (bW σ) sx (a.eval x)) (xc:tT sx=some yx) (hy:RS E w F kv fp (bW σ) (.v z) (a.eval y)) (hs:E.size t=some n) (hn:n=z.cs.length)
  (hr:yr (restrict σ.bJ rs) z yx=some r) (hp:∀p∈r.pre,p) {next:Act->World->Prop} {Q:Exit->Act->World->Prop}
  (YK:∀F kv fp a' w',cE E pm F kv fp (AM.apply o r σ) a' w'->next a' w'):o.wp E.P a w next Q:=by
 have Az:=kP hx xc
 obtain⟨fg,u5⟩:=M0 hy
 unfold yr at hr
 split at hr
 rotate_left
 ·cases hr
 rename_i k i wd off
 split at hr
 rotate_left
 ·cases hr
 rename_i x0 dead us he YS
 have e8:=jS he
 rw[h_] at hr
 split at hr
 rotate_left
 ·cases hr
 rename_i mP
 simp only[cK] at mP
 have ui:=mM mP.1
 have hle:=H5 mP.2
 subst ui
 rw[XI] at hr
 split at hr
 rotate_left
 ·cases hr
 rename_i a' ha'
 split at ha'
 rotate_left
 ·cases ha'
 rename_i yv K8
 cases ha'
 cases hr
 have hi:i<x0.xs.length:=hp _ (by simp)
 have Te:dead i=false:=hp _ (by simp)
 have vr:=TX YS fg
 have hul:us.length=z.cs.length:=by rw[<-vr,El,u5]
 have nI:eo E w F dead x0 (kv k) (fp k):=h.di k _ e8
 have GK:=U.lp x0.τ _ yv K8
 obtain⟨b,cap,cur,hv,hb,wy⟩:∃b cap cur,kv k=.slice (some ⟨b,0,none⟩) x0.xs.length cap/\w.heap[b]? =some (.cells cur (E.tid x0.τ) (0,0))/\x0.xs.length*U.wd x0.τ<=cur.size:=by
  rcases nI with⟨h0,_⟩|⟨b,cap,cur,vs,gV,g1,g2,g3,_,g5,_⟩
  ·rw[h0] at hi;simp at hi
  ·exact⟨b,cap,cur,g1,g2,by rw[g5];exact zy _ g3⟩
 obtain⟨bb,oo,nn,cc,nK,hpv⟩:=cf Az (by simp[iG])
 simp only[oE] at nK
 rw[hv] at nK
 simp only[Value.slice.injEq,gx,Addr.mk.injEq,and_true] at nK
 obtain⟨⟨e1,e2⟩,_,_⟩:=nK
 rw[e1,e2,tY] at hpv
 have hN:i*U.wd x0.τ+U.wd x0.τ<=x0.xs.length*U.wd x0.τ:=by
  have:(i+1)*U.wd x0.τ<=x0.xs.length*U.wd x0.τ:=zy _ hi
  rw[wz,Ol] at this
  exact this
 have hyl:(a.eval y).cells.toList=us:=vr
 have je:=TK (P:=E.P) (n:=n) (off:=i*U.wd x0.τ+off) (v:=a.eval y) hs (by rw[u5];exact hn.symm) fg.gq hb (by omega)
 rw[<-hpv,hyl] at je
 have exec:(execOp a.eval o).run E.P w=.ok .skip (w.setRow b (cur.toList.take (i*U.wd x0.τ+off)++us++cur.toList.drop (i*U.wd x0.τ+off+n)).toArray):=by
  unfold execOp;simp only[rf]
  rw[Sem.run_bind,je];rfl
 have sR:∀c,c≠b->(w.setRow b (cur.toList.take (i*U.wd x0.τ+off)++us++cur.toList.drop (i*U.wd x0.τ+off+n)).toArray).heap[c]? =w.heap[c]? :=fun c hc=>setRow_other w b c _ hc
 have adl:∀m u,us[m]? =some u->gp u:=fun m u hm=>by
  have gF:m<z.cs.length:=by
   rw[<-hul]
   rcases nV m us.length with g|g
   ·exact g
   ·rw[nz g] at hm;cases hm
  exact(fg.2 m _ u (fo gF) (by rw[hyl];exact hm)).1
 let T:Nat->Option Value:=fun m=>if i*U.wd x0.τ+off<=m/\m<i*U.wd x0.τ+off+us.length then us[m-(i*U.wd x0.τ+off)]? else none
 have hw:=eo.write (xs':=x0.xs.set i yv) (dead':=dead) nI (h.nodup k _ e8) (fun b' bf=>(h.fK k _ b' e8 bf).1) hv hb (setRow_heap w b cur _ _ _ hb) sR T ?_ ?_ ?_ (Ly ..) ?_ (fun _ _ _ AD _=> .inr AD)
 ·rcases hw with h0|⟨l',g1,g2,g3⟩
  ·rw[h0] at hi;simp at hi
  have YO:=h.fK k _ b e8 g3
  have n8:=h.Xf (o:=o) (fun d hd=>by rw[ho] at hd;cases hd) k _ (.part ⟨x0.τ,x0.xs.set i yv⟩ dead) e8 none undef [i<x0.xs.length,dead i=false] l' (fun _ x hx=>by cases hx) (fun bad=>g1) g2 (fun c hc=>sR c (fun e=>hc (e▸g3)))
   ⟨rfl,rfl,rfl,by simp,fun b' _ I8=>sR b' (fun e=>I8 (by rw[e];exact YO.2.1))⟩
  exact OT exec (YK _ _ _ _ _ n8)
 ·simp only[VH,kg,oH,J6,El]
  omega
 ·intro m hm
  have gF:(cur.toList.take (i*U.wd x0.τ+off)).length=i*U.wd x0.τ+off:=by rw[oH,El];omega
  rw[zed,wB]
  simp only[T]
  by_cases h2:m<i*U.wd x0.τ+off
  ·rw[vC (by omega),oJ,if_pos h2,if_neg (by omega),Kk]
  ·rw[wC (by omega),gF]
   by_cases h3:m<i*U.wd x0.τ+off+us.length
   ·rw[if_pos ⟨by omega,h3⟩,vC (by omega),fo (by omega)]
   ·rw[if_neg (by omega),wC (by omega),FV,Kk]
    show cur[i*U.wd x0.τ+off+n+(m-(i*U.wd x0.τ+off)-us.length)]? =cur[m]?
    congr 1;omega
 ·intro m u _ ht
  simp only[T] at ht
  split at ht
  ·exact adl _ u ht
  ·cases ht
 ·intro q yq j c hdq hq hj
  have NA:j<U.wd x0.τ:=by
   rw[<-U.dj x0.τ yq]
   rcases nV j (U.enc x0.τ yq).length with g|g
   ·exact g
   ·rw[nz g] at hj;cases hj
  by_cases V5:q=i
  ·subst V5
   rw[To,if_pos rfl,if_pos hi] at hq
   cases hq
   rw[GK] at hj
   have u6:=e9 (d:=U.e_ x0.τ) hi
   have aub:off+(us.map (Cell.lit (Ty:=U.Ty) (T:=U.T))).length<=U.wd x0.τ:=by rw[wv];omega
   have PJ:((U.enc x0.τ (x0.xs.getD q (U.e_ x0.τ))).take off).length=off:=by simp[U.dj];omega
   by_cases h1:j<off
   ·refine .inr ⟨by simp only[T];rw[if_neg (by omega)],hdq,_,u6,?_⟩
    rw[wB,vC (by rw[PJ];exact h1),oJ,if_pos h1] at hj
    exact hj
   ·by_cases h2:j<off+us.length
    ·left
     rw[wB,wC (by rw[PJ];omega),PJ,vC (by rw[wv];omega),nk] at hj
     cases hu:us[j-off]? with
     |none=>rw[hu] at hj;cases hj
     |some u=>
      rw[hu] at hj
      simp only[Ek,gx] at hj
      refine⟨u,?_,hj.symm⟩
      simp only[T]
      rw[if_pos (by omega),show q*U.wd x0.τ+j-(q*U.wd x0.τ+off)=j-off by omega,hu]
    ·refine .inr ⟨by simp only[T];rw[if_neg (by omega)],hdq,_,u6,?_⟩
     have adm:((U.enc x0.τ (x0.xs.getD q (U.e_ x0.τ))).take off++us.map Cell.lit).length=off+us.length:=by rw[kg,PJ,wv]
     rw[wC (by rw[adm];omega),adm,FV,wv] at hj
     rw[<-hj];congr 1;omega
  ·refine .inr ⟨?_,hdq,yq,?_,hj⟩
   ·simp only[T]
    rw[if_neg (fun pM=>V5 (Uh NA (show q*U.wd x0.τ+j-i*U.wd x0.τ<U.wd x0.τ by omega) (by omega)).1)]
   ·rw[To,if_neg (fun e=>V5 e.symm)] at hq
    exact hq
theorem anv(hE:E.Ok)(h:cE E pm F kv fp σ a w){o:Oper}(hd:∀d,o.dst=some d->d<σ.n){cl:Call}{t e:TypeId}{s:Operand}(rf:o.op=.call cl)(iq:cl.callee=.builtin .clear)
  (ld:cl.args.toList=[s]) (Ay:cl.argTypes.toList=[t]) {τ:U.Ty} (tF:E.elem t=some e) (hc:E.code e=some τ) {ss:SV U} {k:Key} {lo hi:Nat}
  (hs:RS E w F kv fp (bW σ) ss (a.eval s)) (UM:tT ss=some (.sub k (U.wd τ) lo hi)) {xs:List (U.T τ)} {dead:Nat->Bool} (he:σ.bJ k=some (.part ⟨τ,xs⟩ dead)) (h1:lo<=hi) (h2:hi=xs.length) {ps:List Prop}
  {next:Act->World->Prop} {Q:Exit->Act->World->Prop}
  (hn:∀F kv fp a' w',cE E pm F kv fp (AM.apply o ⟨some (.vf []),[],[],[(k,.part ⟨τ,xs⟩ (fun j=>dead j||Nat.ble lo j))],ps⟩ σ) a' w'->next a' w'):o.wp E.P a w next Q:=by
 obtain⟨yM,ti,z,pN,hz,jd,Nk,Wk,Nn⟩:=hE.code e τ hc
 have hu:=CD tF
 have hw:=U.kJ τ
 subst h2
 have exec:∀{w1},(Builtin.clear_ #[t] o.type #[a.eval s]).run E.P w=.ok (.tuple #[]) w1->(execOp a.eval o).run E.P w=.ok (.value (.tuple #[])) w1:=by
  intro w1 hr
  have ha:cl.args= #[s]:=yD ld
  have ht:cl.argTypes= #[t]:=yD Ay
  unfold execOp;simp only[rf]
  simp[resolve,iq,ha,ht,invoke,builtin,hr]
 have YA:∀(w1:World)(F1:Nat->Prop) kv1 fp1 bad (x:SV U),some (.vf [])=some x->RS E w1 F1 kv1 fp1 bad x (.tuple #[]):=fun w1 F1 kv1 fp1 bad x hx=>by
  cases hx
  exact⟨[],rfl,rfl,fun i x u hx=>by simp at hx⟩
 obtain⟨PH,_⟩:=cf (kP hs UM) rfl
 have nI:eo E w F dead ⟨τ,xs⟩ (kv k) (fp k):=h.di k _ he
 by_cases V9:xs.length=lo
 ·
  have gF:∀{i:Nat}{y:U.T τ},xs[i]? =some y->i<lo:=fun{i y} hy=>by
   rcases nV i xs.length with g|g
   ·omega
   ·rw[nz g] at hy;cases hy
  have je:(Builtin.clear_ #[t] o.type #[a.eval s]).run E.P w=.ok (.tuple #[]) w:=by
   obtain⟨ad,c,hv,_⟩:=nI.OC
   rw[PH,hv]
   simp only[qo,V9,W0]
   split
   ·cases ad<;>simp[Builtin.clear_,run_underlying hu]
   ·cases ad<;>simp[Builtin.clear_,run_underlying hu]
  refine rD (exec je) (hn _ _ _ _ _ (h.Xf hd k _ _ he _ _ ps (fp k) (fun bad x hx=>YA _ _ _ _ _ x hx) (fun bad=> ?_) (VJ _) (fun _ _=>rfl) (gN.refl _ _)))
  rcases nI with g|⟨b,cap,cur,vs,gV,g1,g2,g3,g4,g5,g6,g7,g8,g9⟩
  ·exact .inl g
  ·let ka:Nat->List Nat:=fun m=>if m<xs.length*U.wd τ then gV m else[]
   refine .inr ⟨b,cap,cur,vs,ka,g1,g2,g3,g4,g5,g6,fun i y j c AD hy hj=> ?_,fun i j AD hj=> ?_,?_⟩
   ·simp only[Oc] at AD
    simp only[ka,if_pos (fJ hy hj)]
    exact g7 i y j c AD.1 hy hj
   ·simp only[ka]
    split
    ·rename_i C4
     have NB:i<lo:=by
      have:i*U.wd τ<xs.length*U.wd τ:=by omega
      have:=Nat.lt_of_mul_lt_mul_right this
      omega
     refine g8 i j ?_ hj
     rw[Ee] at AD
     exact AD.resolve_right (fun e=>by have:=H5 e;omega)
    ·rfl
   ·rw[g9]
    congr 1
    rw[MD,MD]
    congr 1
    refine Ob fun m hm=> ?_
    simp only[ka,if_pos (oN.1 hm)]
 ·obtain⟨b,cap,cur,hv,hb,Dd,wy⟩:∃b cap cur,kv k=.slice (some ⟨b,0,none⟩) xs.length cap/\w.heap[b]? =some (.cells cur (E.tid τ) (0,0))/\xs.length<=cap/\xs.length*U.wd τ<=cur.size:=by
   rcases nI with⟨h0,_⟩|⟨b,cap,cur,vs,gV,g1,g2,g3,_,g5,_⟩
   ·simp only at h0;subst h0;simp at h1 V9;omega
   ·exact⟨b,cap,cur,g1,g2,g3,by rw[g5];exact zy _ g3⟩
  have hzl:(Builtin.zeroCells z.cells (xs.length-lo)).toList.length=(xs.length-lo)*U.wd τ:=by rw[El,size_zeroCells,Nk]
  have hmul:lo*U.wd τ+(xs.length-lo)*U.wd τ=xs.length*U.wd τ:=by rw[<-wz];congr 1;omega
  have VX:∀u∈(Builtin.zeroCells z.cells (xs.length-lo)).toList,gp u:=by
   intro u rI
   simp only[Builtin.zeroCells,zeo,Array.toList_range,lB,oN] at rI
   obtain⟨m,_,rfl⟩:=rI
   have gF:m%z.cells.size<U.wd τ:=by rw[Nk];exact Nat.mod_lt _ hw
   obtain⟨u',g1,g2⟩:=Nn (m%z.cells.size) ((U.enc τ (U.e_ τ))[m%z.cells.size]'(by rw[U.dj];exact gF)) (fo _)
   rw[getElem!_def,g1]
   rcases g2 with⟨_,g2⟩|⟨_,_,rfl⟩
   ·exact g2
   ·exact⟨rfl,trivial⟩
  have p9:=run_storeCells_at E.P b (lo*U.wd τ) (E.tid τ) (Builtin.zeroCells z.cells (xs.length-lo)).toList 0 cur w hb (by rw[hzl];omega) (fun u rI=>(VX u rI).1)
  simp only[H0,hzl,hmul] at p9
  have je:(Builtin.clear_ #[t] o.type #[a.eval s]).run E.P w=.ok (.tuple #[]) (w.setRow b (cur.toList.take (lo*U.wd τ)++(Builtin.zeroCells z.cells (xs.length-lo)).toList++cur.toList.drop (xs.length*U.wd τ)).toArray):=by
   rw[PH,hv]
   obtain⟨n,V8⟩:∃n,xs.length-lo=n+1:=⟨xs.length-lo-1,by omega⟩
   have UY:¬cap=lo:=by omega
   have NI:(⟨b,0,none⟩:Addr).add (lo*U.wd τ)=⟨b,lo*U.wd τ,none⟩:=by unfold Addr.add;split<;>simp_all
   simp only[qo,UY,if_false,Ek,NI]
   rw[V8] at p9⊢
   simp[Builtin.clear_,run_underlying hu,zeroValue,typeInfo,pN,hz,p9]
  have sR:∀c,c≠b->(w.setRow b (cur.toList.take (lo*U.wd τ)++(Builtin.zeroCells z.cells (xs.length-lo)).toList++cur.toList.drop (xs.length*U.wd τ)).toArray).heap[c]? =w.heap[c]? :=fun c hc=>setRow_other w b c _ hc
  let T:Nat->Option Value:=fun m=>if lo*U.wd τ<=m/\m<xs.length*U.wd τ then(Builtin.zeroCells z.cells (xs.length-lo)).toList[m-lo*U.wd τ]? else none
  have hTs:∀m,lo*U.wd τ<=m->m<xs.length*U.wd τ->(T m).isSome=true:=fun m g1 g2=>by
   simp only[T];rw[if_pos ⟨g1,g2⟩,fo (by omega)];rfl
  have hwr:=eo.write (x:=⟨τ,xs⟩) (xs':=xs) (dead':=fun j=>dead j||Nat.ble lo j) nI (h.nodup k _ he) (fun b' bf=>(h.fK k _ b' he bf).1) hv hb (setRow_heap w b cur _ _ _ hb) sR T ?_ ?_ ?_ rfl ?_ ?_
  ·rcases hwr with h0|⟨l',g1,g2,g3⟩
   ·simp only at h0;subst h0;simp at h1 V9;omega
   have YO:=h.fK k _ b he g3
   refine rD (exec je) (hn _ _ _ _ _ (h.Xf hd k _ _ he _ _ ps l' (fun bad x hx=>YA _ _ _ _ _ x hx) (fun bad=>g1) g2 (fun c hc=>sR c (fun e=>hc (e▸g3)))
    ⟨rfl,rfl,rfl,by simp,fun b' _ I8=>sR b' (fun e=>I8 (by rw[e];exact YO.2.1))⟩))
  ·simp only[VH,kg,oH,J6,El,size_zeroCells,Nk]
   omega
  ·intro m hm
   simp only at hm
   have gF:(cur.toList.take (lo*U.wd τ)).length=lo*U.wd τ:=by rw[oH,El];omega
   rw[zed,wB]
   simp only[T]
   by_cases h3:m<lo*U.wd τ
   ·rw[vC (by omega),oJ,if_pos h3,if_neg (by omega),Kk]
   ·rw[wC (by omega),gF,if_pos ⟨by omega,hm⟩,vC (by omega),fo (by omega)]
  ·intro m u _ ht
   simp only[T] at ht
   split at ht
   ·exact VX u (EM ht)
   ·cases ht
  ·intro i y j c Ji hy hj
   simp only[Oc] at Ji
   have NB:i<lo:=by
    rcases nV i lo with g|g
    ·exact g
    ·have:=Nat.ble_eq_true_of_le g;rw[this] at Ji;cases Ji.2
   refine .inr ⟨?_,Ji.1,y,hy,hj⟩
   simp only[T]
   have NA:j<U.wd τ:=by
    rw[<-U.dj τ y]
    rcases nV j (U.enc τ y).length with g|g
    ·exact g
    ·have s8:(U.enc τ y)[j]? =some c:=hj
     rw[nz g] at s8;cases s8
   have:(i+1)*U.wd τ<=lo*U.wd τ:=zy _ NB
   rw[wz,Ol] at this
   rw[if_neg (by omega)]
  ·intro i j NB Ji hj
   simp only at NB hj
   rw[Ee] at Ji
   rcases Ji with Ji|Ji
   ·exact .inr Ji
   ·left
    have g:=H5 Ji
    have:lo*U.wd τ<=i*U.wd τ:=zy _ g
    have:(i+1)*U.wd τ<=xs.length*U.wd τ:=zy _ NB
    rw[wz,Ol] at this
    exact hTs _ (by show lo*U.wd τ<=i*U.wd τ+j;omega) (by show i*U.wd τ+j<xs.length*U.wd τ;omega)
end AM
