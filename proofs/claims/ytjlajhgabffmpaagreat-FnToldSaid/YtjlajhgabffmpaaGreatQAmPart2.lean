/- THE ABSTRACT MACHINE: rows of which some elements are gone: literals are laid into them, their ends are cleared. -/
import Derived.Test.YtjlajhgabffmpaaGreatQAmPart
import Derived.Test.YtjlajhgabffmpaaGreatQAmOps10
namespace AM
set_option linter.unusedVariables false
open Go
variable{U:lu}{E:Env U}{pm:Pm}
variable{F F':Nat->Prop}{kv:Key->Value}{fp:Key->List Nat}{σ:ai U}{a:Act}{w w':World}{bad:Key->Bool}
theorem eW.write{dead dead':Nat->Bool}{x:jh U}{xs':List (U.T x.τ)}{v:Value}{l:List Nat}(h:eW E w F dead x v l)(qD:l.Nodup)(hF:∀b∈l,¬F b){b cap:Nat}{cur cur':Array Value}
  (hv:v=.slice (some ⟨b,0,none⟩) x.xs.length cap) (hb:w.heap[b]? =some (.cells cur (E.tid x.τ) (0,0))) (bg:w'.heap[b]? =some (.cells cur' (E.tid x.τ) (0,0))) (tW:∀c,c≠b->w'.heap[c]? =w.heap[c]?)
  (T:Nat->Option Value) (xu:cur'.size=cur.size) (amz:∀m,m<x.xs.length*U.wd x.τ->cur'[m]? =(match T m with|some u=>some u|none=>cur[m]?)) (hT:∀m u,m<x.xs.length*U.wd x.τ->T m=some u->gM u)
  (hlen:xs'.length=x.xs.length)
  (Ut:∀i y j c,dead' i=false->xs'[i]? =some y->(U.enc x.τ y)[j]? =some c->(∃u,T (i*U.wd x.τ+j)=some u/\c=.lit u)\/(T (i*U.wd x.τ+j)=none/\dead i=false/\∃y0,x.xs[i]? =some y0/\(U.enc x.τ y0)[j]? =some c))
  (hde:∀i j,i<x.xs.length->dead' i=true->j<U.wd x.τ->(T (i*U.wd x.τ+j)).isSome=true\/dead i=true):
  x.xs=[]\/∃l',eW E w' F dead' ⟨x.τ,xs'⟩ v l'/\l'.Sublist l/\b∈l:=by
 rcases h with⟨h0,_⟩|⟨b0,apx,amS,vs,ic,g1,g2,hc,hm,hs,hvv,hr,kY,rfl⟩
 ·exact .inl h0
 right
 rw[hv] at g1
 simp only[Value.slice.injEq,gJ,Addr.mk.injEq,and_true,true_and] at g1
 obtain⟨rfl,rfl⟩:=g1
 rw[hb] at g2
 simp only[gJ,Obj.cells.injEq,and_true] at g2
 subst g2
 have hw:=U.la x.τ
 obtain⟨Xi,hnf⟩:=tS.1 qD
 let kG:Nat->List Nat:=fun m=>if(T m).isSome=true\/x.xs.length*U.wd x.τ<=m then[] else ic m
 let wc:Nat->Value:=fun m=>match T m with|some u=>u|none=>vs m
 have qf:((List.range (x.xs.length*U.wd x.τ)).flatMap kG).Sublist ((List.range (x.xs.length*U.wd x.τ)).flatMap ic):=ZC fun m _=>by
  simp only[kG];split
  ·exact List.nil_sublist _
  ·exact WI _
 refine⟨b::(List.range (x.xs.length*U.wd x.τ)).flatMap kG,.inr ⟨b,cap,cur',wc,kG,by rw[hv,hlen],bg,by rw[hlen];exact hc,hm,by rw[xu,hs],fun m vw=> ?_,fun i y j c hi hy hj=> ?_,fun i j hi hj=> ?_,by rw[hlen]⟩,List.Sublist.cons_cons _ qf,gB⟩
 ·simp only[hlen] at vw
  rw[amz m vw]
  simp only[wc]
  cases ht:T m with
  |none=>exact hvv m vw
  |some u=>exact⟨rfl,hT m u vw ht⟩
 ·have gZ:i*U.wd x.τ+j<x.xs.length*U.wd x.τ:=by rw[<-hlen];exact fU hy hj
  show Rp E w' F true c (wc (i*U.wd x.τ+j)) (kG (i*U.wd x.τ+j))
  rcases Ut i y j c hi hy hj with⟨u,h1,rfl⟩|⟨h1,h2,y0,h3,h4⟩
  ·have e1:wc (i*U.wd x.τ+j)=u:=by simp only[wc,h1]
   have e2:kG (i*U.wd x.τ+j)=[]:=by simp only[kG];rw[if_pos (.inl (by rw[h1];rfl))]
   rw[e1,e2]
   exact .lit _ _ (hT _ u gZ h1)
  ·have e1:wc (i*U.wd x.τ+j)=vs (i*U.wd x.τ+j):=by simp only[wc,h1]
   have e2:kG (i*U.wd x.τ+j)=ic (i*U.wd x.τ+j):=by simp only[kG];rw[if_neg (by rw[h1];simp;omega)]
   rw[e1,e2]
   refine(hr i y0 j c h2 h3 h4).gx (fun c' m_=>⟨m_,tW c' (fun e=> ?_)⟩) (fun c' m_=>tW c' (fun e=> ?_))
   ·subst e;exact hF c' (by simp) m_
   ·subst e;exact Xi (ow.2 ⟨_,pq.2 gZ,m_⟩)
 ·show kG (i*U.wd x.τ+j)=[]
  simp only[kG]
  by_cases qh:i<x.xs.length
  ·rcases hde i j qh hi hj with h1|h1
   ·rw[if_pos (.inl h1)]
   ·split
    ·rfl
    ·exact kY i j h1 hj
  ·have:x.xs.length*U.wd x.τ<=i*U.wd x.τ:=AI _ (by omega)
   rw[if_pos (.inr (by omega))]
theorem cQ.Zc(h:cQ E pm F kv fp σ a w){o:Oper}(hd:∀d,o.dst=some d->d<σ.n)(k:Key)(e0 e:i_ U)(nE:σ.bM k=some e0)(sv:Option (SV U))(v:Value)(ps:List Prop)(A1:List Nat)
  (Ey:∀bad x,sv=some x->RS E w' F kv (dQ fp k A1) bad x v)
  (hE:∀bad,tH E w' F kv (dQ fp k A1) bad e (kv k) A1) (qf:A1.Sublist (fp k))
  (tW:∀c,c∉fp k->w'.heap[c]? =w.heap[c]?) (qz:iC (fun b=>pm.W b\/pm.w0.heap.size<=b) w w'):
  cQ E pm F kv (dQ fp k A1) (AM.apply o ⟨sv,[],[],[(k,e)],ps⟩ σ) (a.put o.dst v) w':=by
 have kF:eo o (⟨sv,[],[],[(k,e)],ps⟩:cm U)=[]:=rfl
 have kX:jY (⟨sv,[],[],[(k,e)],ps⟩:cm U)=[k]:=rfl
 have A':∀b,F b->F b/\w'.heap[b]? =w.heap[b]? :=fun b hb=>⟨hb,tW b (fun hk=>(h.fV k e0 b nE hk).1 hb)⟩
 refine h.apply o _ v hd (fun x hx=>Ey _ x hx) (fun _ _=>rfl) ?_ ?_ A' ?_ ?_ ?_ ?_ ?_ h.ub (h.upto.trans qz) qz.size
 ·intro k' _ hk;rw[kX] at hk;exact Bu (by simpa using hk)
 ·intro k' hk;rw[kF] at hk;simp at hk
 ·intro k' e' _ hk _ he b hb
  rw[kX] at hk
  exact tW b (fun jg=>h.apart k' k e' e0 b (by simpa using hk) he nE hb jg)
 ·rintro k' e' (⟨j,_,hj⟩|hk)
  ·simp at hj
  ·simp only[mF,pb] at hk
   obtain⟨rfl,rfl⟩:=hk
   rw[tU]
   refine⟨hE _,qf.nodup (h.nodup k' e0 nE),fun b hb=> ?_⟩
   obtain⟨g1,g2,g3⟩:=h.fV k' e0 b nE (qf.subset hb)
   exact⟨g1,g2,zds g3 qz.size⟩
 ·intro k' e' b _ _ _ he hb;exact(h.fV k' e' b he hb).1
 ·intro k1 k' b fg hk db hb
  rw[kF,kX] at hk db
  simp only[mF,NO,false_or] at hk db
  subst hk
  rw[tU] at hb
  rcases db with rfl|⟨_,H_⟩
  ·exact absurd rfl fg
  ·rw[Bu (Ne.symm fg)]
   obtain⟨e',fo⟩:=m8.1 H_
   exact h.apart k1 k' e0 e' b fg nE fo (qf.subset hb)
 ·intro b hb
  have:=h.uc b hb
  have:=qz.size
  omega
theorem ajO(h:cQ E pm F kv fp σ a w){o:Oper}(ho:o.dst=none){t:TypeId}{x y:Operand}(sj:o.op=.store t x y){sx:SV U}{yx:AC U}{z:AV U}{n:Nat}{rs:List Key}{r:cm U}
  (hx:RS E w F kv fp (bR σ) sx (a.eval x)) (yc:u5 sx=some yx) (hy:RS E w F kv fp (bR σ) (.v z) (a.eval y)) (hs:E.size t=some n) (hn:n=z.cs.length)
  (hr:zC (restrict σ.bM rs) z yx=some r) (hp:∀p∈r.pre,p) {next:Act->World->Prop} {Q:Exit->Act->World->Prop}
  (hnx:∀F kv fp a' w',cQ E pm F kv fp (AM.apply o r σ) a' w'->next a' w'):o.wp E.P a w next Q:=by
 have BQ:=li hx yc
 obtain⟨dw,sM⟩:=Pt hy
 unfold zC at hr
 split at hr
 rotate_left
 ·cases hr
 rename_i k i wd off
 split at hr
 rotate_left
 ·cases hr
 rename_i x0 dead us he aaA
 have fo:=kj he
 rw[iu] at hr
 split at hr
 rotate_left
 ·cases hr
 rename_i ni
 simp only[cO] at ni
 have vt:=nc ni.1
 have hle:=JZ ni.2
 subst vt
 rw[ZG] at hr
 split at hr
 rotate_left
 ·cases hr
 rename_i a' ha'
 split at ha'
 rotate_left
 ·cases ha'
 rename_i yv No
 cases ha'
 cases hr
 have hi:i<x0.xs.length:=hp _ (by simp)
 have Ut:dead i=false:=hp _ (by simp)
 have wC:=U6 aaA dw
 have hul:us.length=z.cs.length:=by rw[<-wC,FT,sM]
 have oa:eW E w F dead x0 (kv k) (fp k):=h.dV k _ fo
 have Ic:=U.mQ x0.τ _ yv No
 obtain⟨b,cap,cur,hv,hb,xu⟩:∃b cap cur,kv k=.slice (some ⟨b,0,none⟩) x0.xs.length cap/\w.heap[b]? =some (.cells cur (E.tid x0.τ) (0,0))/\x0.xs.length*U.wd x0.τ<=cur.size:=by
  rcases oa with⟨h0,_⟩|⟨b,cap,cur,vs,ic,g1,g2,g3,_,g5,_⟩
  ·rw[h0] at hi;simp at hi
  ·exact⟨b,cap,cur,g1,g2,by rw[g5];exact AI _ g3⟩
 obtain⟨bb,oo,nn,cc,oc,hpv⟩:=cw BQ (by simp[iX])
 simp only[pe] at oc
 rw[hv] at oc
 simp only[Value.slice.injEq,gJ,Addr.mk.injEq,and_true] at oc
 obtain⟨⟨e1,e2⟩,_,_⟩:=oc
 rw[e1,e2,vf] at hpv
 have hN:i*U.wd x0.τ+U.wd x0.τ<=x0.xs.length*U.wd x0.τ:=by
  have:(i+1)*U.wd x0.τ<=x0.xs.length*U.wd x0.τ:=AI _ hi
  rw[xv,QU] at this
  exact this
 have hyl:(a.eval y).cells.toList=us:=wC
 have jz:=UQ (P:=E.P) (n:=n) (off:=i*U.wd x0.τ+off) (v:=a.eval y) hs (by rw[sM];exact hn.symm) dw.gD hb (by omega)
 rw[<-hpv,hyl] at jz
 have exec:(execOp a.eval o).run E.P w=.ok .skip (w.setRow b (cur.toList.take (i*U.wd x0.τ+off)++us++cur.toList.drop (i*U.wd x0.τ+off+n)).toArray):=by
  unfold execOp;simp only[sj]
  rw[Sem.run_bind,jz];rfl
 have tW:∀c,c≠b->(w.setRow b (cur.toList.take (i*U.wd x0.τ+off)++us++cur.toList.drop (i*U.wd x0.τ+off+n)).toArray).heap[c]? =w.heap[c]? :=fun c hc=>setRow_other w b c _ hc
 have adE:∀m u,us[m]? =some u->gM u:=fun m u hm=>by
  have gZ:m<z.cs.length:=by
   rw[<-hul]
   rcases pa m us.length with g|g
   ·exact g
   ·rw[ox g] at hm;cases hm
  exact(dw.2 m _ u (fH gZ) (by rw[hyl];exact hm)).1
 let T:Nat->Option Value:=fun m=>if i*U.wd x0.τ+off<=m/\m<i*U.wd x0.τ+off+us.length then us[m-(i*U.wd x0.τ+off)]? else none
 have hw:=eW.write (xs':=x0.xs.set i yv) (dead':=dead) oa (h.nodup k _ fo) (fun b' bg=>(h.fV k _ b' fo bg).1) hv hb (setRow_heap w b cur _ _ _ hb) tW T ?_ ?_ ?_ (Md ..) ?_ (fun _ _ _ BT _=> .inr BT)
 ·rcases hw with h0|⟨l',g1,g2,g3⟩
  ·rw[h0] at hi;simp at hi
  have hmk:=h.fV k _ b fo g3
  have oJ:=h.Zc (o:=o) (fun d hd=>by rw[ho] at hd;cases hd) k _ (.part ⟨x0.τ,x0.xs.set i yv⟩ dead) fo none undef [i<x0.xs.length,dead i=false] l' (fun _ x hx=>by cases hx) (fun bad=>g1) g2 (fun c hc=>tW c (fun e=>hc (e▸g3)))
   ⟨rfl,rfl,rfl,by simp,fun b' _ KX=>tW b' (fun e=>KX (by rw[e];exact hmk.2.1))⟩
  exact Rn exec (hnx _ _ _ _ _ oJ)
 ·simp only[WH,kI,oz,Me,FT]
  omega
 ·intro m hm
  have gZ:(cur.toList.take (i*U.wd x0.τ+off)).length=i*U.wd x0.τ+off:=by rw[oz,FT];omega
  rw[zed,xw]
  simp only[T]
  by_cases h2:m<i*U.wd x0.τ+off
  ·rw[xx (by omega),qa,if_pos h2,if_neg (by omega),Mt]
  ·rw[zu (by omega),gZ]
   by_cases h3:m<i*U.wd x0.τ+off+us.length
   ·rw[if_pos ⟨by omega,h3⟩,xx (by omega),fH (by omega)]
   ·rw[if_neg (by omega),zu (by omega),Hu,Mt]
    show cur[i*U.wd x0.τ+off+n+(m-(i*U.wd x0.τ+off)-us.length)]? =cur[m]?
    congr 1;omega
 ·intro m u _ ht
  simp only[T] at ht
  split at ht
  ·exact adE _ u ht
  ·cases ht
 ·intro q yq j c hdq hq hj
  have P9:j<U.wd x0.τ:=by
   rw[<-U.dK x0.τ yq]
   rcases pa j (U.enc x0.τ yq).length with g|g
   ·exact g
   ·rw[ox g] at hj;cases hj
  by_cases W3:q=i
  ·subst W3
   rw[WJ,if_pos rfl,if_pos hi] at hq
   cases hq
   rw[Ic] at hj
   have wg:=fM (d:=U.fq x0.τ) hi
   have apr:off+(us.map (Cell.lit (Ty:=U.Ty) (T:=U.T))).length<=U.wd x0.τ:=by rw[xp];omega
   have Sj:((U.enc x0.τ (x0.xs.getD q (U.fq x0.τ))).take off).length=off:=by simp[U.dK];omega
   by_cases h1:j<off
   ·refine .inr ⟨by simp only[T];rw[if_neg (by omega)],hdq,_,wg,?_⟩
    rw[xw,xx (by rw[Sj];exact h1),qa,if_pos h1] at hj
    exact hj
   ·by_cases h2:j<off+us.length
    ·left
     rw[xw,zu (by rw[Sj];omega),Sj,xx (by rw[xp];omega),nO] at hj
     cases hu:us[j-off]? with
     |none=>rw[hu] at hj;cases hj
     |some u=>
      rw[hu] at hj
      simp only[FR,gJ] at hj
      refine⟨u,?_,hj.symm⟩
      simp only[T]
      rw[if_pos (by omega),show q*U.wd x0.τ+j-(q*U.wd x0.τ+off)=j-off by omega,hu]
    ·refine .inr ⟨by simp only[T];rw[if_neg (by omega)],hdq,_,wg,?_⟩
     have adF:((U.enc x0.τ (x0.xs.getD q (U.fq x0.τ))).take off++us.map Cell.lit).length=off+us.length:=by rw[kI,Sj,xp]
     rw[zu (by rw[adF];omega),adF,Hu,xp] at hj
     rw[<-hj];congr 1;omega
  ·refine .inr ⟨?_,hdq,yq,?_,hj⟩
   ·simp only[T]
    rw[if_neg (fun qg=>W3 (Vg P9 (show q*U.wd x0.τ+j-i*U.wd x0.τ<U.wd x0.τ by omega) (by omega)).1)]
   ·rw[WJ,if_neg (fun e=>W3 e.symm)] at hq
    exact hq
theorem alJ(hE:E.Ok)(h:cQ E pm F kv fp σ a w){o:Oper}(hd:∀d,o.dst=some d->d<σ.n){cl:Call}{t e:TypeId}{s:Operand}(sj:o.op=.call cl)(iH:cl.callee=.builtin .clear)
  (lH:cl.args.toList=[s]) (BP:cl.argTypes.toList=[t]) {τ:U.Ty} (uM:E.elem t=some e) (hc:E.code e=some τ) {ss:SV U} {k:Key} {lo hi:Nat}
  (hs:RS E w F kv fp (bR σ) ss (a.eval s)) (VN:u5 ss=some (.sub k (U.wd τ) lo hi)) {xs:List (U.T τ)} {dead:Nat->Bool} (he:σ.bM k=some (.part ⟨τ,xs⟩ dead)) (h1:lo<=hi) (h2:hi=xs.length) {ps:List Prop}
  {next:Act->World->Prop} {Q:Exit->Act->World->Prop}
  (hn:∀F kv fp a' w',cQ E pm F kv fp (AM.apply o ⟨some (.wm []),[],[],[(k,.part ⟨τ,xs⟩ (fun j=>dead j||Nat.ble lo j))],ps⟩ σ) a' w'->next a' w'):o.wp E.P a w next Q:=by
 obtain⟨zR,ti,z,qh,hz,jy,PO,Xh,PR⟩:=hE.code e τ hc
 have hu:=D9 uM
 have hw:=U.la τ
 subst h2
 have exec:∀{w1},(Builtin.clear_ #[t] o.type #[a.eval s]).run E.P w=.ok (.tuple #[]) w1->(execOp a.eval o).run E.P w=.ok (.value (.tuple #[])) w1:=by
  intro w1 hr
  have ha:cl.args= #[s]:=zJ lH
  have ht:cl.argTypes= #[t]:=zJ BP
  unfold execOp;simp only[sj]
  simp[resolve,iH,ha,ht,invoke,builtin,hr]
 have hrs:∀(w1:World)(F1:Nat->Prop) kv1 fp1 bad (x:SV U),some (.wm [])=some x->RS E w1 F1 kv1 fp1 bad x (.tuple #[]):=fun w1 F1 kv1 fp1 bad x hx=>by
  cases hx
  exact⟨[],rfl,rfl,fun i x u hx=>by simp at hx⟩
 obtain⟨Sh,_⟩:=cw (li hs VN) rfl
 have oa:eW E w F dead ⟨τ,xs⟩ (kv k) (fp k):=h.dV k _ he
 by_cases W7:xs.length=lo
 ·
  have gZ:∀{i:Nat}{y:U.T τ},xs[i]? =some y->i<lo:=fun{i y} hy=>by
   rcases pa i xs.length with g|g
   ·omega
   ·rw[ox g] at hy;cases hy
  have jz:(Builtin.clear_ #[t] o.type #[a.eval s]).run E.P w=.ok (.tuple #[]) w:=by
   obtain⟨ad,c,hv,_⟩:=oa.Q8
   rw[Sh,hv]
   simp only[rA,W7,YV]
   split
   ·cases ad<;>simp[Builtin.clear_,run_underlying hu]
   ·cases ad<;>simp[Builtin.clear_,run_underlying hu]
  refine sH (exec jz) (hn _ _ _ _ _ (h.Zc hd k _ _ he _ _ ps (fp k) (fun bad x hx=>hrs _ _ _ _ _ x hx) (fun bad=> ?_) (WI _) (fun _ _=>rfl) (iC.refl _ _)))
  rcases oa with g|⟨b,cap,cur,vs,ic,g1,g2,g3,g4,g5,g6,g7,g8,g9⟩
  ·exact .inl g
  ·let kG:Nat->List Nat:=fun m=>if m<xs.length*U.wd τ then ic m else[]
   refine .inr ⟨b,cap,cur,vs,kG,g1,g2,g3,g4,g5,g6,fun i y j c BT hy hj=> ?_,fun i j BT hj=> ?_,?_⟩
   ·simp only[QL] at BT
    simp only[kG,if_pos (fU hy hj)]
    exact g7 i y j c BT.1 hy hj
   ·simp only[kG]
    split
    ·rename_i EB
     have P':i<lo:=by
      have:i*U.wd τ<xs.length*U.wd τ:=by omega
      have:=Nat.lt_of_mul_lt_mul_right this
      omega
     refine g8 i j ?_ hj
     rw[FL] at BT
     exact BT.resolve_right (fun e=>by have:=JZ e;omega)
    ·rfl
   ·rw[g9]
    congr 1
    rw[O6,O6]
    congr 1
    refine QK fun m hm=> ?_
    simp only[kG,if_pos (pq.1 hm)]
 ·obtain⟨b,cap,cur,hv,hb,EO,xu⟩:∃b cap cur,kv k=.slice (some ⟨b,0,none⟩) xs.length cap/\w.heap[b]? =some (.cells cur (E.tid τ) (0,0))/\xs.length<=cap/\xs.length*U.wd τ<=cur.size:=by
   rcases oa with⟨h0,_⟩|⟨b,cap,cur,vs,ic,g1,g2,g3,_,g5,_⟩
   ·simp only at h0;subst h0;simp at h1 W7;omega
   ·exact⟨b,cap,cur,g1,g2,g3,by rw[g5];exact AI _ g3⟩
  have hzl:(Builtin.zeroCells z.cells (xs.length-lo)).toList.length=(xs.length-lo)*U.wd τ:=by rw[FT,size_zeroCells,PO]
  have hmul:lo*U.wd τ+(xs.length-lo)*U.wd τ=xs.length*U.wd τ:=by rw[<-xv];congr 1;omega
  have WV:∀u∈(Builtin.zeroCells z.cells (xs.length-lo)).toList,gM u:=by
   intro u sN
   simp only[Builtin.zeroCells,zeo,Array.toList_range,l_,pq] at sN
   obtain⟨m,_,rfl⟩:=sN
   have gZ:m%z.cells.size<U.wd τ:=by rw[PO];exact Nat.mod_lt _ hw
   obtain⟨u',g1,g2⟩:=PR (m%z.cells.size) ((U.enc τ (U.fq τ))[m%z.cells.size]'(by rw[U.dK];exact gZ)) (fH _)
   rw[getElem!_def,g1]
   rcases g2 with⟨_,g2⟩|⟨_,_,rfl⟩
   ·exact g2
   ·exact⟨rfl,trivial⟩
  have qB:=run_storeCells_at E.P b (lo*U.wd τ) (E.tid τ) (Builtin.zeroCells z.cells (xs.length-lo)).toList 0 cur w hb (by rw[hzl];omega) (fun u sN=>(WV u sN).1)
  simp only[JV,hzl,hmul] at qB
  have jz:(Builtin.clear_ #[t] o.type #[a.eval s]).run E.P w=.ok (.tuple #[]) (w.setRow b (cur.toList.take (lo*U.wd τ)++(Builtin.zeroCells z.cells (xs.length-lo)).toList++cur.toList.drop (xs.length*U.wd τ)).toArray):=by
   rw[Sh,hv]
   obtain⟨n,W6⟩:∃n,xs.length-lo=n+1:=⟨xs.length-lo-1,by omega⟩
   have V1:¬cap=lo:=by omega
   have Qf:(⟨b,0,none⟩:Addr).add (lo*U.wd τ)=⟨b,lo*U.wd τ,none⟩:=by unfold Addr.add;split<;>simp_all
   simp only[rA,V1,if_false,FR,Qf]
   rw[W6] at qB⊢
   simp[Builtin.clear_,run_underlying hu,zeroValue,typeInfo,qh,hz,qB]
  have tW:∀c,c≠b->(w.setRow b (cur.toList.take (lo*U.wd τ)++(Builtin.zeroCells z.cells (xs.length-lo)).toList++cur.toList.drop (xs.length*U.wd τ)).toArray).heap[c]? =w.heap[c]? :=fun c hc=>setRow_other w b c _ hc
  let T:Nat->Option Value:=fun m=>if lo*U.wd τ<=m/\m<xs.length*U.wd τ then(Builtin.zeroCells z.cells (xs.length-lo)).toList[m-lo*U.wd τ]? else none
  have hTs:∀m,lo*U.wd τ<=m->m<xs.length*U.wd τ->(T m).isSome=true:=fun m g1 g2=>by
   simp only[T];rw[if_pos ⟨g1,g2⟩,fH (by omega)];rfl
  have hwr:=eW.write (x:=⟨τ,xs⟩) (xs':=xs) (dead':=fun j=>dead j||Nat.ble lo j) oa (h.nodup k _ he) (fun b' bg=>(h.fV k _ b' he bg).1) hv hb (setRow_heap w b cur _ _ _ hb) tW T ?_ ?_ ?_ rfl ?_ ?_
  ·rcases hwr with h0|⟨l',g1,g2,g3⟩
   ·simp only at h0;subst h0;simp at h1 W7;omega
   have hmk:=h.fV k _ b he g3
   refine sH (exec jz) (hn _ _ _ _ _ (h.Zc hd k _ _ he _ _ ps l' (fun bad x hx=>hrs _ _ _ _ _ x hx) (fun bad=>g1) g2 (fun c hc=>tW c (fun e=>hc (e▸g3)))
    ⟨rfl,rfl,rfl,by simp,fun b' _ KX=>tW b' (fun e=>KX (by rw[e];exact hmk.2.1))⟩))
  ·simp only[WH,kI,oz,Me,FT,size_zeroCells,PO]
   omega
  ·intro m hm
   simp only at hm
   have gZ:(cur.toList.take (lo*U.wd τ)).length=lo*U.wd τ:=by rw[oz,FT];omega
   rw[zed,xw]
   simp only[T]
   by_cases h3:m<lo*U.wd τ
   ·rw[xx (by omega),qa,if_pos h3,if_neg (by omega),Mt]
   ·rw[zu (by omega),gZ,if_pos ⟨by omega,hm⟩,xx (by omega),fH (by omega)]
  ·intro m u _ ht
   simp only[T] at ht
   split at ht
   ·exact WV u (Gn ht)
   ·cases ht
  ·intro i y j c Ld hy hj
   simp only[QL] at Ld
   have P':i<lo:=by
    rcases pa i lo with g|g
    ·exact g
    ·have:=Nat.ble_eq_true_of_le g;rw[this] at Ld;cases Ld.2
   refine .inr ⟨?_,Ld.1,y,hy,hj⟩
   simp only[T]
   have P9:j<U.wd τ:=by
    rw[<-U.dK τ y]
    rcases pa j (U.enc τ y).length with g|g
    ·exact g
    ·have ug:(U.enc τ y)[j]? =some c:=hj
     rw[ox g] at ug;cases ug
   have:(i+1)*U.wd τ<=lo*U.wd τ:=AI _ P'
   rw[xv,QU] at this
   rw[if_neg (by omega)]
  ·intro i j P' Ld hj
   simp only at P' hj
   rw[FL] at Ld
   rcases Ld with Ld|Ld
   ·exact .inr Ld
   ·left
    have g:=JZ Ld
    have:lo*U.wd τ<=i*U.wd τ:=AI _ g
    have:(i+1)*U.wd τ<=xs.length*U.wd τ:=AI _ P'
    rw[xv,QU] at this
    exact hTs _ (by show lo*U.wd τ<=i*U.wd τ+j;omega) (by show i*U.wd τ+j<xs.length*U.wd τ;omega)
end AM
