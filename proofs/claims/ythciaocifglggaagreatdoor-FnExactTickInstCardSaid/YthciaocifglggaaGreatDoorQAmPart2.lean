import Derived.Test.YthciaocifglggaaGreatDoorQAmPart
import Derived.Test.YthciaocifglggaaGreatDoorQAmOps10
namespace AM
set_option linter.unusedVariables false
open Go
variable{U:kz}{E:Env U}{pm:Pm}
variable{F F':Nat->Prop}{kv:Key->Value}{fp:Key->List Nat}{σ:af U}{a:Act}{w w':World}{bad:Key->Bool}
theorem dU.write{dead dead':Nat->Bool}{x:eK U}{xs':List (U.T x.τ)}{v:Value}{l:List Nat}(h:dU E w F dead x v l)(oi:l.Nodup)(hF:∀b∈l,¬F b){b cap:Nat}{cur cur':Array Value}
  (hv:v=.slice (some ⟨b,0,none⟩) x.xs.length cap) (hb:w.heap[b]? =some (.cells cur (E.tid x.τ) (0,0))) (aY:w'.heap[b]? =some (.cells cur' (E.tid x.τ) (0,0))) (rC:∀c,c≠b->w'.heap[c]? =w.heap[c]?)
  (T:Nat->Option Value) (sL:cur'.size=cur.size) (amp:∀m,m<x.xs.length*U.wd x.τ->cur'[m]? =(match T m with|some u=>some u|none=>cur[m]?)) (hT:∀m u,m<x.xs.length*U.wd x.τ->T m=some u->fA u)
  (hlen:xs'.length=x.xs.length)
  (OW:∀i y j c,dead' i=false->xs'[i]? =some y->(U.enc x.τ y)[j]? =some c->(∃u,T (i*U.wd x.τ+j)=some u/\c=.lit u)\/(T (i*U.wd x.τ+j)=none/\dead i=false/\∃y0,x.xs[i]? =some y0/\(U.enc x.τ y0)[j]? =some c))
  (hde:∀i j,i<x.xs.length->dead' i=true->j<U.wd x.τ->(T (i*U.wd x.τ+j)).isSome=true\/dead i=true):
  x.xs=[]\/∃l',dU E w' F dead' ⟨x.τ,xs'⟩ v l'/\l'.Sublist l/\b∈l:=by
 rcases h with⟨h0,_⟩|⟨b0,ap3,amF,vs,gA,g1,g2,hc,hm,hs,hvv,hr,jU,rfl⟩
 ·exact .inl h0
 right
 rw[hv] at g1
 simp only[Value.slice.injEq,fJ,Addr.mk.injEq,and_true,true_and] at g1
 obtain⟨rfl,rfl⟩:=g1
 rw[hb] at g2
 simp only[fJ,Obj.cells.injEq,and_true] at g2
 subst g2
 have hw:=U.kq x.τ
 obtain⟨SD,Xn⟩:=rv.1 oi
 let jW:Nat->List Nat:=fun m=>if(T m).isSome=true\/x.xs.length*U.wd x.τ<=m then[] else gA m
 let tY:Nat->Value:=fun m=>match T m with|some u=>u|none=>vs m
 have oh:((List.range (x.xs.length*U.wd x.τ)).flatMap jW).Sublist ((List.range (x.xs.length*U.wd x.τ)).flatMap gA):=Wc fun m _=>by
  simp only[jW];split
  ·exact List.nil_sublist _
  ·exact RU _
 refine⟨b::(List.range (x.xs.length*U.wd x.τ)).flatMap jW,.inr ⟨b,cap,cur',tY,jW,by rw[hv,hlen],aY,by rw[hlen];exact hc,hm,by rw[sL,hs],fun m ul=> ?_,fun i y j c hi hy hj=> ?_,fun i j hi hj=> ?_,by rw[hlen]⟩,List.Sublist.cons_cons _ oh,dw⟩
 ·simp only[hlen] at ul
  rw[amp m ul]
  simp only[tY]
  cases ht:T m with
  |none=>exact hvv m ul
  |some u=>exact⟨rfl,hT m u ul ht⟩
 ·have fX:i*U.wd x.τ+j<x.xs.length*U.wd x.τ:=by rw[<-hlen];exact fe hy hj
  show Rp E w' F true c (tY (i*U.wd x.τ+j)) (jW (i*U.wd x.τ+j))
  rcases OW i y j c hi hy hj with⟨u,h1,rfl⟩|⟨h1,h2,y0,h3,h4⟩
  ·have e1:tY (i*U.wd x.τ+j)=u:=by simp only[tY,h1]
   have e2:jW (i*U.wd x.τ+j)=[]:=by simp only[jW];rw[if_pos (.inl (by rw[h1];rfl))]
   rw[e1,e2]
   exact .lit _ _ (hT _ u fX h1)
  ·have e1:tY (i*U.wd x.τ+j)=vs (i*U.wd x.τ+j):=by simp only[tY,h1]
   have e2:jW (i*U.wd x.τ+j)=gA (i*U.wd x.τ+j):=by simp only[jW];rw[if_neg (by rw[h1];simp;omega)]
   rw[e1,e2]
   refine(hr i y0 j c h2 h3 h4).fE (fun c' ln=>⟨ln,rC c' (fun e=> ?_)⟩) (fun c' ln=>rC c' (fun e=> ?_))
   ·subst e;exact hF c' (by simp) ln
   ·subst e;exact SD (nl.2 ⟨_,oc.2 fX,ln⟩)
 ·show jW (i*U.wd x.τ+j)=[]
  simp only[jW]
  by_cases pg:i<x.xs.length
  ·rcases hde i j pg hi hj with h1|h1
   ·rw[if_pos (.inl h1)]
   ·split
    ·rfl
    ·exact jU i j h1 hj
  ·have:x.xs.length*U.wd x.τ<=i*U.wd x.τ:=wH _ (by omega)
   rw[if_pos (.inr (by omega))]
theorem cG.Vj(h:cG E pm F kv fp σ a w){o:Oper}(hd:∀d,o.dst=some d->d<σ.n)(k:Key)(e0 e:ir U)(ni:σ.bH k=some e0)(sv:Option (SV U))(v:Value)(ps:List Prop)(xz:List Nat)
  (A_:∀bad x,sv=some x->RS E w' F kv (db fp k xz) bad x v)
  (hE:∀bad,ri E w' F kv (db fp k xz) bad e (kv k) xz) (oh:xz.Sublist (fp k))
  (rC:∀c,c∉fp k->w'.heap[c]? =w.heap[c]?) (ob:gy (fun b=>pm.W b\/pm.w0.heap.size<=b) w w'):
  cG E pm F kv (db fp k xz) (AM.apply o ⟨sv,[],[],[(k,e)],ps⟩ σ) (a.put o.dst v) w':=by
 have jV:du o (⟨sv,[],[],[(k,e)],ps⟩:ch U)=[]:=rfl
 have kl:jp (⟨sv,[],[],[(k,e)],ps⟩:ch U)=[k]:=rfl
 have xM:∀b,F b->F b/\w'.heap[b]? =w.heap[b]? :=fun b hb=>⟨hb,rC b (fun hk=>(h.ff k e0 b ni hk).1 hb)⟩
 refine h.apply o _ v hd (fun x hx=>A_ _ x hx) (fun _ _=>rfl) ?_ ?_ xM ?_ ?_ ?_ ?_ ?_ h.rH (h.upto.trans ob) ob.size
 ·intro k' _ hk;rw[kl] at hk;exact ye (by simpa using hk)
 ·intro k' hk;rw[jV] at hk;simp at hk
 ·intro k' e' _ hk _ he b hb
  rw[kl] at hk
  exact rC b (fun iq=>h.apart k' k e' e0 b (by simpa using hk) he ni hb iq)
 ·rintro k' e' (⟨j,_,hj⟩|hk)
  ·simp at hj
  ·simp only[oa,nE] at hk
   obtain⟨rfl,rfl⟩:=hk
   rw[rA]
   refine⟨hE _,oh.nodup (h.nodup k' e0 ni),fun b hb=> ?_⟩
   obtain⟨g1,g2,g3⟩:=h.ff k' e0 b ni (oh.subset hb)
   exact⟨g1,g2,Y' g3 ob.size⟩
 ·intro k' e' b _ _ _ he hb;exact(h.ff k' e' b he hb).1
 ·intro k1 k' b et hk cM hb
  rw[jV,kl] at hk cM
  simp only[oa,FE,false_or] at hk cM
  subst hk
  rw[rA] at hb
  rcases cM with rfl|⟨_,D3⟩
  ·exact absurd rfl et
  ·rw[ye (Ne.symm et)]
   obtain⟨e',eG⟩:=lJ.1 D3
   exact h.apart k1 k' e0 e' b et ni eG (oh.subset hb)
 ·intro b hb
  have:=h.rI b hb
  have:=ob.size
  omega
theorem ajF(h:cG E pm F kv fp σ a w){o:Oper}(ho:o.dst=none){t:TypeId}{x y:Operand}(p5:o.op=.store t x y){sx:SV U}{yx:AC U}{z:AV U}{n:Nat}{rs:List Key}{r:ch U}
  (hx:RS E w F kv fp (bW σ) sx (a.eval x)) (vr:sr sx=some yx) (hy:RS E w F kv fp (bW σ) (.v z) (a.eval y)) (hs:E.size t=some n) (hn:n=z.cs.length)
  (hr:wO (restrict σ.bH rs) z yx=some r) (hp:∀p∈r.pre,p) {next:Act->World->Prop} {Q:Exit->Act->World->Prop}
  (Xl:∀F kv fp a' w',cG E pm F kv fp (AM.apply o r σ) a' w'->next a' w'):o.wp E.P a w next Q:=by
 have yA:=kt hx vr
 obtain⟨er,vl⟩:=Ke hy
 unfold wO at hr
 split at hr
 rotate_left
 ·cases hr
 rename_i k i wd off
 split at hr
 rotate_left
 ·cases hr
 rename_i x0 dead us he Xt
 have eG:=jx he
 rw[gT] at hr
 split at hr
 rotate_left
 ·cases hr
 rename_i lU
 simp only[eE] at lU
 have sK:=lN lU.1
 have hle:=FH lU.2
 subst sK
 rw[Wg] at hr
 split at hr
 rotate_left
 ·cases hr
 rename_i a' ha'
 split at ha'
 rotate_left
 ·cases ha'
 rename_i yv Ip
 cases ha'
 cases hr
 have hi:i<x0.xs.length:=hp _ (by simp)
 have OW:dead i=false:=hp _ (by simp)
 have tS:=Py Xt er
 have hul:us.length=z.cs.length:=by rw[<-tS,B6,vl]
 have mM:dU E w F dead x0 (kv k) (fp k):=h.cV k _ eG
 have D6:=U.kV x0.τ _ yv Ip
 obtain⟨b,cap,cur,hv,hb,sL⟩:∃b cap cur,kv k=.slice (some ⟨b,0,none⟩) x0.xs.length cap/\w.heap[b]? =some (.cells cur (E.tid x0.τ) (0,0))/\x0.xs.length*U.wd x0.τ<=cur.size:=by
  rcases mM with⟨h0,_⟩|⟨b,cap,cur,vs,gA,g1,g2,g3,_,g5,_⟩
  ·rw[h0] at hi;simp at hi
  ·exact⟨b,cap,cur,g1,g2,by rw[g5];exact wH _ g3⟩
 obtain⟨bb,oo,nn,cc,mN,hpv⟩:=cn yA (by simp[io])
 simp only[nq] at mN
 rw[hv] at mN
 simp only[Value.slice.injEq,fJ,Addr.mk.injEq,and_true] at mN
 obtain⟨⟨e1,e2⟩,_,_⟩:=mN
 rw[e1,e2,tW] at hpv
 have hN:i*U.wd x0.τ+U.wd x0.τ<=x0.xs.length*U.wd x0.τ:=by
  have:(i+1)*U.wd x0.τ<=x0.xs.length*U.wd x0.τ:=wH _ hi
  rw[wD,Lk] at this
  exact this
 have hyl:(a.eval y).cells.toList=us:=tS
 have iV:=Pj (P:=E.P) (n:=n) (off:=i*U.wd x0.τ+off) (v:=a.eval y) hs (by rw[vl];exact hn.symm) er.fB hb (by omega)
 rw[<-hpv,hyl] at iV
 have exec:(execOp a.eval o).run E.P w=.ok .skip (w.setRow b (cur.toList.take (i*U.wd x0.τ+off)++us++cur.toList.drop (i*U.wd x0.τ+off+n)).toArray):=by
  unfold execOp;simp only[p5]
  rw[Sem.run_bind,iV];rfl
 have rC:∀c,c≠b->(w.setRow b (cur.toList.take (i*U.wd x0.τ+off)++us++cur.toList.drop (i*U.wd x0.τ+off+n)).toArray).heap[c]? =w.heap[c]? :=fun c hc=>setRow_other w b c _ hc
 have abG:∀m u,us[m]? =some u->fA u:=fun m u hm=>by
  have fX:m<z.cs.length:=by
   rw[<-hul]
   rcases mX m us.length with g|g
   ·exact g
   ·rw[mi g] at hm;cases hm
  exact(er.2 m _ u (gg fX) (by rw[hyl];exact hm)).1
 let T:Nat->Option Value:=fun m=>if i*U.wd x0.τ+off<=m/\m<i*U.wd x0.τ+off+us.length then us[m-(i*U.wd x0.τ+off)]? else none
 have hw:=dU.write (xs':=x0.xs.set i yv) (dead':=dead) mM (h.nodup k _ eG) (fun b' aY=>(h.ff k _ b' eG aY).1) hv hb (setRow_heap w b cur _ _ _ hb) rC T ?_ ?_ ?_ (IW ..) ?_ (fun _ _ _ Cm _=> .inr Cm)
 ·rcases hw with h0|⟨l',g1,g2,g3⟩
  ·rw[h0] at hi;simp at hi
  have Xp:=h.ff k _ b eG g3
  have nb:=h.Vj (o:=o) (fun d hd=>by rw[ho] at hd;cases hd) k _ (.part ⟨x0.τ,x0.xs.set i yv⟩ dead) eG none undef [i<x0.xs.length,dead i=false] l' (fun _ x hx=>by cases hx) (fun bad=>g1) g2 (fun c hc=>rC c (fun e=>hc (e▸g3)))
   ⟨rfl,rfl,rfl,by simp,fun b' _ Gs=>rC b' (fun e=>Gs (by rw[e];exact Xp.2.1))⟩
  exact LP exec (Xl _ _ _ _ _ nb)
 ·simp only[O3,wG,od,J0,B6]
  omega
 ·intro m hm
  have fX:(cur.toList.take (i*U.wd x0.τ+off)).length=i*U.wd x0.τ+off:=by rw[od,B6];omega
  rw[zed,xu]
  simp only[T]
  by_cases h2:m<i*U.wd x0.τ+off
  ·rw[wF (by omega),nF,if_pos h2,if_neg (by omega),HJ]
  ·rw[wI (by omega),fX]
   by_cases h3:m<i*U.wd x0.τ+off+us.length
   ·rw[if_pos ⟨by omega,h3⟩,wF (by omega),gg (by omega)]
   ·rw[if_neg (by omega),wI (by omega),Dt,HJ]
    show cur[i*U.wd x0.τ+off+n+(m-(i*U.wd x0.τ+off)-us.length)]? =cur[m]?
    congr 1;omega
 ·intro m u _ ht
  simp only[T] at ht
  split at ht
  ·exact abG _ u ht
  ·cases ht
 ·intro q yq j c hdq hq hj
  have KO:j<U.wd x0.τ:=by
   rw[<-U.cZ x0.τ yq]
   rcases mX j (U.enc x0.τ yq).length with g|g
   ·exact g
   ·rw[mi g] at hj;cases hj
  by_cases Si:q=i
  ·subst Si
   rw[O4,if_pos rfl,if_pos hi] at hq
   cases hq
   rw[D6] at hj
   have tE:=eH (d:=U.eP x0.τ) hi
   have apY:off+(us.map (Cell.lit (Ty:=U.Ty) (T:=U.T))).length<=U.wd x0.τ:=by rw[BV];omega
   have M3:((U.enc x0.τ (x0.xs.getD q (U.eP x0.τ))).take off).length=off:=by simp[U.cZ];omega
   by_cases h1:j<off
   ·refine .inr ⟨by simp only[T];rw[if_neg (by omega)],hdq,_,tE,?_⟩
    rw[xu,wF (by rw[M3];exact h1),nF,if_pos h1] at hj
    exact hj
   ·by_cases h2:j<off+us.length
    ·left
     rw[xu,wI (by rw[M3];omega),M3,wF (by rw[BV];omega),lZ] at hj
     cases hu:us[j-off]? with
     |none=>rw[hu] at hj;cases hj
     |some u=>
      rw[hu] at hj
      simp only[B5,fJ] at hj
      refine⟨u,?_,hj.symm⟩
      simp only[T]
      rw[if_pos (by omega),show q*U.wd x0.τ+j-(q*U.wd x0.τ+off)=j-off by omega,hu]
    ·refine .inr ⟨by simp only[T];rw[if_neg (by omega)],hdq,_,tE,?_⟩
     have abH:((U.enc x0.τ (x0.xs.getD q (U.eP x0.τ))).take off++us.map Cell.lit).length=off+us.length:=by rw[wG,M3,BV]
     rw[wI (by rw[abH];omega),abH,Dt,BV] at hj
     rw[<-hj];congr 1;omega
  ·refine .inr ⟨?_,hdq,yq,?_,hj⟩
   ·simp only[T]
    rw[if_neg (fun px=>Si (PK KO (show q*U.wd x0.τ+j-i*U.wd x0.τ<U.wd x0.τ by omega) (by omega)).1)]
   ·rw[O4,if_neg (fun e=>Si e.symm)] at hq
    exact hq
theorem alA(hE:E.Ok)(h:cG E pm F kv fp σ a w){o:Oper}(hd:∀d,o.dst=some d->d<σ.n){cl:Call}{t e:TypeId}{s:Operand}(p5:o.op=.call cl)(gU:cl.callee=.builtin .clear)
  (kK:cl.args.toList=[s]) (yz:cl.argTypes.toList=[t]) {τ:U.Ty} (se:E.elem t=some e) (hc:E.code e=some τ) {ss:SV U} {k:Key} {lo hi:Nat}
  (hs:RS E w F kv fp (bW σ) ss (a.eval s)) (Qk:sr ss=some (.sub k (U.wd τ) lo hi)) {xs:List (U.T τ)} {dead:Nat->Bool} (he:σ.bH k=some (.part ⟨τ,xs⟩ dead)) (h1:lo<=hi) (h2:hi=xs.length) {ps:List Prop}
  {next:Act->World->Prop} {Q:Exit->Act->World->Prop}
  (hn:∀F kv fp a' w',cG E pm F kv fp (AM.apply o ⟨some (.tJ []),[],[],[(k,.part ⟨τ,xs⟩ (fun j=>dead j||Nat.ble lo j))],ps⟩ σ) a' w'->next a' w'):o.wp E.P a w next Q:=by
 obtain⟨wZ,ti,z,pg,hz,iU,KA,SC,KC⟩:=hE.code e τ hc
 have hu:=AL se
 have hw:=U.kq τ
 subst h2
 have exec:∀{w1},(Builtin.clear_ #[t] o.type #[a.eval s]).run E.P w=.ok (.tuple #[]) w1->(execOp a.eval o).run E.P w=.ok (.value (.tuple #[])) w1:=by
  intro w1 hr
  have ha:cl.args= #[s]:=wT kK
  have ht:cl.argTypes= #[t]:=wT yz
  unfold execOp;simp only[p5]
  simp[resolve,gU,ha,ht,invoke,builtin,hr]
 have W8:∀(w1:World)(F1:Nat->Prop) kv1 Zq bad (x:SV U),some (.tJ [])=some x->RS E w1 F1 kv1 Zq bad x (.tuple #[]):=fun w1 F1 kv1 Zq bad x hx=>by
  cases hx
  exact⟨[],rfl,rfl,fun i x u hx=>by simp at hx⟩
 obtain⟨M1,_⟩:=cn (kt hs Qk) rfl
 have mM:dU E w F dead ⟨τ,xs⟩ (kv k) (fp k):=h.cV k _ he
 by_cases Sm:xs.length=lo
 ·
  have fX:∀{i:Nat}{y:U.T τ},xs[i]? =some y->i<lo:=fun{i y} hy=>by
   rcases mX i xs.length with g|g
   ·omega
   ·rw[mi g] at hy;cases hy
  have iV:(Builtin.clear_ #[t] o.type #[a.eval s]).run E.P w=.ok (.tuple #[]) w:=by
   obtain⟨ad,c,hv,_⟩:=mM.LD
   rw[M1,hv]
   simp only[pB,Sm,Y7]
   split
   ·cases ad<;>simp[Builtin.clear_,run_underlying hu]
   ·cases ad<;>simp[Builtin.clear_,run_underlying hu]
  refine qd (exec iV) (hn _ _ _ _ _ (h.Vj hd k _ _ he _ _ ps (fp k) (fun bad x hx=>W8 _ _ _ _ _ x hx) (fun bad=> ?_) (RU _) (fun _ _=>rfl) (gy.refl _ _)))
  rcases mM with g|⟨b,cap,cur,vs,gA,g1,g2,g3,g4,g5,g6,g7,g8,g9⟩
  ·exact .inl g
  ·let jW:Nat->List Nat:=fun m=>if m<xs.length*U.wd τ then gA m else[]
   refine .inr ⟨b,cap,cur,vs,jW,g1,g2,g3,g4,g5,g6,fun i y j c Cm hy hj=> ?_,fun i j Cm hj=> ?_,?_⟩
   ·simp only[Ld] at Cm
    simp only[jW,if_pos (fe hy hj)]
    exact g7 i y j c Cm.1 hy hj
   ·simp only[jW]
    split
    ·rename_i Bf
     have Jr:i<lo:=by
      have:i*U.wd τ<xs.length*U.wd τ:=by omega
      have:=Nat.lt_of_mul_lt_mul_right this
      omega
     refine g8 i j ?_ hj
     rw[B3] at Cm
     exact Cm.resolve_right (fun e=>by have:=FH e;omega)
    ·rfl
   ·rw[g9]
    congr 1
    rw[JZ,JZ]
    congr 1
    refine J1 fun m hm=> ?_
    simp only[jW,if_pos (oc.1 hm)]
 ·obtain⟨b,cap,cur,hv,hb,w8,sL⟩:∃b cap cur,kv k=.slice (some ⟨b,0,none⟩) xs.length cap/\w.heap[b]? =some (.cells cur (E.tid τ) (0,0))/\xs.length<=cap/\xs.length*U.wd τ<=cur.size:=by
   rcases mM with⟨h0,_⟩|⟨b,cap,cur,vs,gA,g1,g2,g3,_,g5,_⟩
   ·simp only at h0;subst h0;simp at h1 Sm;omega
   ·exact⟨b,cap,cur,g1,g2,g3,by rw[g5];exact wH _ g3⟩
  have hzl:(Builtin.zeroCells z.cells (xs.length-lo)).toList.length=(xs.length-lo)*U.wd τ:=by rw[B6,size_zeroCells,KA]
  have hmul:lo*U.wd τ+(xs.length-lo)*U.wd τ=xs.length*U.wd τ:=by rw[<-wD];congr 1;omega
  have Sa:∀u∈(Builtin.zeroCells z.cells (xs.length-lo)).toList,fA u:=by
   intro u qg
   simp only[Builtin.zeroCells,Zv,Array.toList_range,lH,oc] at qg
   obtain⟨m,_,rfl⟩:=qg
   have fX:m%z.cells.size<U.wd τ:=by rw[KA];exact Nat.mod_lt _ hw
   obtain⟨u',g1,g2⟩:=KC (m%z.cells.size) ((U.enc τ (U.eP τ))[m%z.cells.size]'(by rw[U.cZ];exact fX)) (gg _)
   rw[getElem!_def,g1]
   rcases g2 with⟨_,g2⟩|⟨_,_,rfl⟩
   ·exact g2
   ·exact⟨rfl,trivial⟩
  have pZ:=run_storeCells_at E.P b (lo*U.wd τ) (E.tid τ) (Builtin.zeroCells z.cells (xs.length-lo)).toList 0 cur w hb (by rw[hzl];omega) (fun u qg=>(Sa u qg).1)
  simp only[FD,hzl,hmul] at pZ
  have iV:(Builtin.clear_ #[t] o.type #[a.eval s]).run E.P w=.ok (.tuple #[]) (w.setRow b (cur.toList.take (lo*U.wd τ)++(Builtin.zeroCells z.cells (xs.length-lo)).toList++cur.toList.drop (xs.length*U.wd τ)).toArray):=by
   rw[M1,hv]
   obtain⟨n,Sl⟩:∃n,xs.length-lo=n+1:=⟨xs.length-lo-1,by omega⟩
   have QA:¬cap=lo:=by omega
   have KT:(⟨b,0,none⟩:Addr).add (lo*U.wd τ)=⟨b,lo*U.wd τ,none⟩:=by unfold Addr.add;split<;>simp_all
   simp only[pB,QA,if_false,B5,KT]
   rw[Sl] at pZ⊢
   simp[Builtin.clear_,run_underlying hu,zeroValue,typeInfo,pg,hz,pZ]
  have rC:∀c,c≠b->(w.setRow b (cur.toList.take (lo*U.wd τ)++(Builtin.zeroCells z.cells (xs.length-lo)).toList++cur.toList.drop (xs.length*U.wd τ)).toArray).heap[c]? =w.heap[c]? :=fun c hc=>setRow_other w b c _ hc
  let T:Nat->Option Value:=fun m=>if lo*U.wd τ<=m/\m<xs.length*U.wd τ then(Builtin.zeroCells z.cells (xs.length-lo)).toList[m-lo*U.wd τ]? else none
  have hTs:∀m,lo*U.wd τ<=m->m<xs.length*U.wd τ->(T m).isSome=true:=fun m g1 g2=>by
   simp only[T];rw[if_pos ⟨g1,g2⟩,gg (by omega)];rfl
  have hwr:=dU.write (x:=⟨τ,xs⟩) (xs':=xs) (dead':=fun j=>dead j||Nat.ble lo j) mM (h.nodup k _ he) (fun b' aY=>(h.ff k _ b' he aY).1) hv hb (setRow_heap w b cur _ _ _ hb) rC T ?_ ?_ ?_ rfl ?_ ?_
  ·rcases hwr with h0|⟨l',g1,g2,g3⟩
   ·simp only at h0;subst h0;simp at h1 Sm;omega
   have Xp:=h.ff k _ b he g3
   refine qd (exec iV) (hn _ _ _ _ _ (h.Vj hd k _ _ he _ _ ps l' (fun bad x hx=>W8 _ _ _ _ _ x hx) (fun bad=>g1) g2 (fun c hc=>rC c (fun e=>hc (e▸g3)))
    ⟨rfl,rfl,rfl,by simp,fun b' _ Gs=>rC b' (fun e=>Gs (by rw[e];exact Xp.2.1))⟩))
  ·simp only[O3,wG,od,J0,B6,size_zeroCells,KA]
   omega
  ·intro m hm
   simp only at hm
   have fX:(cur.toList.take (lo*U.wd τ)).length=lo*U.wd τ:=by rw[od,B6];omega
   rw[zed,xu]
   simp only[T]
   by_cases h3:m<lo*U.wd τ
   ·rw[wF (by omega),nF,if_pos h3,if_neg (by omega),HJ]
   ·rw[wI (by omega),fX,if_pos ⟨by omega,hm⟩,wF (by omega),gg (by omega)]
  ·intro m u _ ht
   simp only[T] at ht
   split at ht
   ·exact Sa u (Cs ht)
   ·cases ht
  ·intro i y j c D8 hy hj
   simp only[Ld] at D8
   have Jr:i<lo:=by
    rcases mX i lo with g|g
    ·exact g
    ·have:=Nat.ble_eq_true_of_le g;rw[this] at D8;cases D8.2
   refine .inr ⟨?_,D8.1,y,hy,hj⟩
   simp only[T]
   have KO:j<U.wd τ:=by
    rw[<-U.cZ τ y]
    rcases mX j (U.enc τ y).length with g|g
    ·exact g
    ·have tH:(U.enc τ y)[j]? =some c:=hj
     rw[mi g] at tH;cases tH
   have:(i+1)*U.wd τ<=lo*U.wd τ:=wH _ Jr
   rw[wD,Lk] at this
   rw[if_neg (by omega)]
  ·intro i j Jr D8 hj
   simp only at Jr hj
   rw[B3] at D8
   rcases D8 with D8|D8
   ·exact .inr D8
   ·left
    have g:=FH D8
    have:lo*U.wd τ<=i*U.wd τ:=wH _ g
    have:(i+1)*U.wd τ<=xs.length*U.wd τ:=wH _ Jr
    rw[wD,Lk] at this
    exact hTs _ (by show lo*U.wd τ<=i*U.wd τ+j;omega) (by show i*U.wd τ+j<xs.length*U.wd τ;omega)
end AM
