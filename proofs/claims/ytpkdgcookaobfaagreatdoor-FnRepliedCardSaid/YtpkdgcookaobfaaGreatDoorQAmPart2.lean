/- THE ABSTRACT MACHINE: rows of which some elements are gone: literals are laid into them, their ends are cleared. -/
import Derived.Test.YtpkdgcookaobfaaGreatDoorQAmPart
import Derived.Test.YtpkdgcookaobfaaGreatDoorQAmOps10
namespace AM
set_option linter.unusedVariables false
open Go
variable{U:lz}{E:Env U}{pm:Pm}
variable{F F':Nat->Prop}{kv:Key->Value}{fp:Key->List Nat}{σ:ak U}{a:Act}{w w':World}{bad:Key->Bool}
theorem eE.write{dead dead':Nat->Bool}{x:fu U}{xs':List (U.T x.τ)}{v:Value}{l:List Nat}(h:eE E w F dead x v l)(qu:l.Nodup)(hF:∀b∈l,¬F b){b cap:Nat}{cur cur':Array Value}
  (hv:v=.slice (some ⟨b,0,none⟩) x.xs.length cap) (hb:w.heap[b]? =some (.cells cur (E.tid x.τ) (0,0))) (bj:w'.heap[b]? =some (.cells cur' (E.tid x.τ) (0,0))) (ud:∀c,c≠b->w'.heap[c]? =w.heap[c]?)
  (T:Nat->Option Value) (xx:cur'.size=cur.size) (anp:∀m,m<x.xs.length*U.wd x.τ->cur'[m]? =(match T m with|some u=>some u|none=>cur[m]?)) (hT:∀m u,m<x.xs.length*U.wd x.τ->T m=some u->gr u)
  (hlen:xs'.length=x.xs.length)
  (Uu:∀i y j c,dead' i=false->xs'[i]? =some y->(U.enc x.τ y)[j]? =some c->(∃u,T (i*U.wd x.τ+j)=some u/\c=.lit u)\/(T (i*U.wd x.τ+j)=none/\dead i=false/\∃y0,x.xs[i]? =some y0/\(U.enc x.τ y0)[j]? =some c))
  (hde:∀i j,i<x.xs.length->dead' i=true->j<U.wd x.τ->(T (i*U.wd x.τ+j)).isSome=true\/dead i=true):
  x.xs=[]\/∃l',eE E w' F dead' ⟨x.τ,xs'⟩ v l'/\l'.Sublist l/\b∈l:=by
 rcases h with⟨h0,_⟩|⟨b0,aqf,anJ,vs,hZ,g1,g2,hc,hm,hs,hvv,hr,kY,rfl⟩
 ·exact .inl h0
 right
 rw[hv] at g1
 simp only[Value.slice.injEq,gA,Addr.mk.injEq,and_true,true_and] at g1
 obtain⟨rfl,rfl⟩:=g1
 rw[hb] at g2
 simp only[gA,Obj.cells.injEq,and_true] at g2
 subst g2
 have hw:=U.la x.τ
 obtain⟨Xs,hnf⟩:=tY.1 qu
 let kx:Nat->List Nat:=fun m=>if(T m).isSome=true\/x.xs.length*U.wd x.τ<=m then[] else hZ m
 let wj:Nat->Value:=fun m=>match T m with|some u=>u|none=>vs m
 have qt:((List.range (x.xs.length*U.wd x.τ)).flatMap kx).Sublist ((List.range (x.xs.length*U.wd x.τ)).flatMap hZ):=ZW fun m _=>by
  simp only[kx];split
  ·exact List.nil_sublist _
  ·exact WQ _
 refine⟨b::(List.range (x.xs.length*U.wd x.τ)).flatMap kx,.inr ⟨b,cap,cur',wj,kx,by rw[hv,hlen],bj,by rw[hlen];exact hc,hm,by rw[xx,hs],fun m vz=> ?_,fun i y j c hi hy hj=> ?_,fun i j hi hj=> ?_,by rw[hlen]⟩,List.Sublist.cons_cons _ qt,iy⟩
 ·simp only[hlen] at vz
  rw[anp m vz]
  simp only[wj]
  cases ht:T m with
  |none=>exact hvv m vz
  |some u=>exact⟨rfl,hT m u vz ht⟩
 ·have gI:i*U.wd x.τ+j<x.xs.length*U.wd x.τ:=by rw[<-hlen];exact fP hy hj
  show Rp E w' F true c (wj (i*U.wd x.τ+j)) (kx (i*U.wd x.τ+j))
  rcases Uu i y j c hi hy hj with⟨u,h1,rfl⟩|⟨h1,h2,y0,h3,h4⟩
  ·have e1:wj (i*U.wd x.τ+j)=u:=by simp only[wj,h1]
   have e2:kx (i*U.wd x.τ+j)=[]:=by simp only[kx];rw[if_pos (.inl (by rw[h1];rfl))]
   rw[e1,e2]
   exact .lit _ _ (hT _ u gI h1)
  ·have e1:wj (i*U.wd x.τ+j)=vs (i*U.wd x.τ+j):=by simp only[wj,h1]
   have e2:kx (i*U.wd x.τ+j)=hZ (i*U.wd x.τ+j):=by simp only[kx];rw[if_neg (by rw[h1];simp;omega)]
   rw[e1,e2]
   refine(hr i y0 j c h2 h3 h4).gg (fun c' ni=>⟨ni,ud c' (fun e=> ?_)⟩) (fun c' ni=>ud c' (fun e=> ?_))
   ·subst e;exact hF c' (by simp) ni
   ·subst e;exact Xs (oQ.2 ⟨_,pD.2 gI,ni⟩)
 ·show kx (i*U.wd x.τ+j)=[]
  simp only[kx]
  by_cases qw:i<x.xs.length
  ·rcases hde i j qw hi hj with h1|h1
   ·rw[if_pos (.inl h1)]
   ·split
    ·rfl
    ·exact kY i j h1 hj
  ·have:x.xs.length*U.wd x.τ<=i*U.wd x.τ:=AL _ (by omega)
   rw[if_pos (.inr (by omega))]
theorem cM.Zt(h:cM E pm F kv fp σ a w){o:Oper}(hd:∀d,o.dst=some d->d<σ.n)(k:Key)(e0 e:iN U)(nK:σ.bO k=some e0)(sv:Option (SV U))(v:Value)(ps:List Prop)(A6:List Nat)
  (EI:∀bad x,sv=some x->RS E w' F kv (dD fp k A6) bad x v)
  (hE:∀bad,tP E w' F kv (dD fp k A6) bad e (kv k) A6) (qt:A6.Sublist (fp k))
  (ud:∀c,c∉fp k->w'.heap[c]? =w.heap[c]?) (ql:hU (fun b=>pm.W b\/pm.w0.heap.size<=b) w w'):
  cM E pm F kv (dD fp k A6) (AM.apply o ⟨sv,[],[],[(k,e)],ps⟩ σ) (a.put o.dst v) w':=by
 have kw:dR o (⟨sv,[],[],[(k,e)],ps⟩:cn U)=[]:=rfl
 have kX:jQ (⟨sv,[],[],[(k,e)],ps⟩:cn U)=[k]:=rfl
 have Bf:∀b,F b->F b/\w'.heap[b]? =w.heap[b]? :=fun b hb=>⟨hb,ud b (fun hk=>(h.fQ k e0 b nK hk).1 hb)⟩
 refine h.apply o _ v hd (fun x hx=>EI _ x hx) (fun _ _=>rfl) ?_ ?_ Bf ?_ ?_ ?_ ?_ ?_ h.uj (h.upto.trans ql) ql.size
 ·intro k' _ hk;rw[kX] at hk;exact BC (by simpa using hk)
 ·intro k' hk;rw[kw] at hk;simp at hk
 ·intro k' e' _ hk _ he b hb
  rw[kX] at hk
  exact ud b (fun iM=>h.apart k' k e' e0 b (by simpa using hk) he nK hb iM)
 ·rintro k' e' (⟨j,_,hj⟩|hk)
  ·simp at hj
  ·simp only[mI,pq] at hk
   obtain⟨rfl,rfl⟩:=hk
   rw[t_]
   refine⟨hE _,qt.nodup (h.nodup k' e0 nK),fun b hb=> ?_⟩
   obtain⟨g1,g2,g3⟩:=h.fQ k' e0 b nK (qt.subset hb)
   exact⟨g1,g2,zds g3 ql.size⟩
 ·intro k' e' b _ _ _ he hb;exact(h.fQ k' e' b he hb).1
 ·intro k1 k' b eZ hk cU hb
  rw[kw,kX] at hk cU
  simp only[mI,NG,false_or] at hk cU
  subst hk
  rw[t_] at hb
  rcases cU with rfl|⟨_,Ii⟩
  ·exact absurd rfl eZ
  ·rw[BC (Ne.symm eZ)]
   obtain⟨e',fc⟩:=nf.1 Ii
   exact h.apart k1 k' e0 e' b eZ nK fc (qt.subset hb)
 ·intro b hb
  have:=h.uk b hb
  have:=ql.size
  omega
theorem akB(h:cM E pm F kv fp σ a w){o:Oper}(ho:o.dst=none){t:TypeId}{x y:Operand}(sF:o.op=.store t x y){sx:SV U}{yx:AC U}{z:AV U}{n:Nat}{rs:List Key}{r:cn U}
  (hx:RS E w F kv fp (bW σ) sx (a.eval x)) (yi:vd sx=some yx) (hy:RS E w F kv fp (bW σ) (.v z) (a.eval y)) (hs:E.size t=some n) (hn:n=z.cs.length)
  (hr:zI (restrict σ.bO rs) z yx=some r) (hp:∀p∈r.pre,p) {next:Act->World->Prop} {Q:Exit->Act->World->Prop}
  (hnx:∀F kv fp a' w',cM E pm F kv fp (AM.apply o r σ) a' w'->next a' w'):o.wp E.P a w next Q:=by
 have BW:=li hx yi
 obtain⟨gZ,xw⟩:=Pp hy
 unfold zI at hr
 split at hr
 rotate_left
 ·cases hr
 rename_i k i wd off
 split at hr
 rotate_left
 ·cases hr
 rename_i x0 dead us he aaR
 have fc:=j0 he
 rw[im] at hr
 split at hr
 rotate_left
 ·cases hr
 rename_i nt
 simp only[cJ] at nt
 have vw:=nk nt.1
 have hle:=J' nt.2
 subst vw
 rw[Z0] at hr
 split at hr
 rotate_left
 ·cases hr
 rename_i a' ha'
 split at ha'
 rotate_left
 ·cases ha'
 rename_i yv Nd
 cases ha'
 cases hr
 have hi:i<x0.xs.length:=hp _ (by simp)
 have Uu:dead i=false:=hp _ (by simp)
 have wF:=U9 aaR gZ
 have hul:us.length=z.cs.length:=by rw[<-wF,FU,xw]
 have om:eE E w F dead x0 (kv k) (fp k):=h.dH k _ fc
 have Il:=U.mT x0.τ _ yv Nd
 obtain⟨b,cap,cur,hv,hb,xx⟩:∃b cap cur,kv k=.slice (some ⟨b,0,none⟩) x0.xs.length cap/\w.heap[b]? =some (.cells cur (E.tid x0.τ) (0,0))/\x0.xs.length*U.wd x0.τ<=cur.size:=by
  rcases om with⟨h0,_⟩|⟨b,cap,cur,vs,hZ,g1,g2,g3,_,g5,_⟩
  ·rw[h0] at hi;simp at hi
  ·exact⟨b,cap,cur,g1,g2,by rw[g5];exact AL _ g3⟩
 obtain⟨bb,oo,nn,cc,ot,hpv⟩:=cw BW (by simp[iJ])
 simp only[pu] at ot
 rw[hv] at ot
 simp only[Value.slice.injEq,gA,Addr.mk.injEq,and_true] at ot
 obtain⟨⟨e1,e2⟩,_,_⟩:=ot
 rw[e1,e2,vk] at hpv
 have hN:i*U.wd x0.τ+U.wd x0.τ<=x0.xs.length*U.wd x0.τ:=by
  have:(i+1)*U.wd x0.τ<=x0.xs.length*U.wd x0.τ:=AL _ hi
  rw[xy,QL] at this
  exact this
 have hyl:(a.eval y).cells.toList=us:=wF
 have jn:=UT (P:=E.P) (n:=n) (off:=i*U.wd x0.τ+off) (v:=a.eval y) hs (by rw[xw];exact hn.symm) gZ.gv hb (by omega)
 rw[<-hpv,hyl] at jn
 have exec:(execOp a.eval o).run E.P w=.ok .skip (w.setRow b (cur.toList.take (i*U.wd x0.τ+off)++us++cur.toList.drop (i*U.wd x0.τ+off+n)).toArray):=by
  unfold execOp;simp only[sF]
  rw[Sem.run_bind,jn];rfl
 have ud:∀c,c≠b->(w.setRow b (cur.toList.take (i*U.wd x0.τ+off)++us++cur.toList.drop (i*U.wd x0.τ+off+n)).toArray).heap[c]? =w.heap[c]? :=fun c hc=>setRow_other w b c _ hc
 have ad5:∀m u,us[m]? =some u->gr u:=fun m u hm=>by
  have gI:m<z.cs.length:=by
   rw[<-hul]
   rcases pe m us.length with g|g
   ·exact g
   ·rw[od g] at hm;cases hm
  exact(gZ.2 m _ u (fw gI) (by rw[hyl];exact hm)).1
 let T:Nat->Option Value:=fun m=>if i*U.wd x0.τ+off<=m/\m<i*U.wd x0.τ+off+us.length then us[m-(i*U.wd x0.τ+off)]? else none
 have hw:=eE.write (xs':=x0.xs.set i yv) (dead':=dead) om (h.nodup k _ fc) (fun b' bj=>(h.fQ k _ b' fc bj).1) hv hb (setRow_heap w b cur _ _ _ hb) ud T ?_ ?_ ?_ (Me ..) ?_ (fun _ _ _ BZ _=> .inr BZ)
 ·rcases hw with h0|⟨l',g1,g2,g3⟩
  ·rw[h0] at hi;simp at hi
  have hmk:=h.fQ k _ b fc g3
  have o8:=h.Zt (o:=o) (fun d hd=>by rw[ho] at hd;cases hd) k _ (.part ⟨x0.τ,x0.xs.set i yv⟩ dead) fc none undef [i<x0.xs.length,dead i=false] l' (fun _ x hx=>by cases hx) (fun bad=>g1) g2 (fun c hc=>ud c (fun e=>hc (e▸g3)))
   ⟨rfl,rfl,rfl,by simp,fun b' _ K8=>ud b' (fun e=>K8 (by rw[e];exact hmk.2.1))⟩
  exact Rg exec (hnx _ _ _ _ _ o8)
 ·simp only[UD,ko,oc,Mf,FU]
  omega
 ·intro m hm
  have gI:(cur.toList.take (i*U.wd x0.τ+off)).length=i*U.wd x0.τ+off:=by rw[oc,FU];omega
  rw[zed,xz]
  simp only[T]
  by_cases h2:m<i*U.wd x0.τ+off
  ·rw[xA (by omega),qn,if_pos h2,if_neg (by omega),Mt]
  ·rw[zC (by omega),gI]
   by_cases h3:m<i*U.wd x0.τ+off+us.length
   ·rw[if_pos ⟨by omega,h3⟩,xA (by omega),fw (by omega)]
   ·rw[if_neg (by omega),zC (by omega),HB,Mt]
    show cur[i*U.wd x0.τ+off+n+(m-(i*U.wd x0.τ+off)-us.length)]? =cur[m]?
    congr 1;omega
 ·intro m u _ ht
  simp only[T] at ht
  split at ht
  ·exact ad5 _ u ht
  ·cases ht
 ·intro q yq j c hdq hq hj
  have PY:j<U.wd x0.τ:=by
   rw[<-U.dz x0.τ yq]
   rcases pe j (U.enc x0.τ yq).length with g|g
   ·exact g
   ·rw[od g] at hj;cases hj
  by_cases W9:q=i
  ·subst W9
   rw[WR,if_pos rfl,if_pos hi] at hq
   cases hq
   rw[Il] at hj
   have wl:=fF (d:=U.e6 x0.τ) hi
   have aqa:off+(us.map (Cell.lit (Ty:=U.Ty) (T:=U.T))).length<=U.wd x0.τ:=by rw[xt];omega
   have Se:((U.enc x0.τ (x0.xs.getD q (U.e6 x0.τ))).take off).length=off:=by simp[U.dz];omega
   by_cases h1:j<off
   ·refine .inr ⟨by simp only[T];rw[if_neg (by omega)],hdq,_,wl,?_⟩
    rw[xz,xA (by rw[Se];exact h1),qn,if_pos h1] at hj
    exact hj
   ·by_cases h2:j<off+us.length
    ·left
     rw[xz,zC (by rw[Se];omega),Se,xA (by rw[xt];omega),nT] at hj
     cases hu:us[j-off]? with
     |none=>rw[hu] at hj;cases hj
     |some u=>
      rw[hu] at hj
      simp only[FT,gA] at hj
      refine⟨u,?_,hj.symm⟩
      simp only[T]
      rw[if_pos (by omega),show q*U.wd x0.τ+j-(q*U.wd x0.τ+off)=j-off by omega,hu]
    ·refine .inr ⟨by simp only[T];rw[if_neg (by omega)],hdq,_,wl,?_⟩
     have ad6:((U.enc x0.τ (x0.xs.getD q (U.e6 x0.τ))).take off++us.map Cell.lit).length=off+us.length:=by rw[ko,Se,xt]
     rw[zC (by rw[ad6];omega),ad6,HB,xt] at hj
     rw[<-hj];congr 1;omega
  ·refine .inr ⟨?_,hdq,yq,?_,hj⟩
   ·simp only[T]
    rw[if_neg (fun qv=>W9 (Vj PY (show q*U.wd x0.τ+j-i*U.wd x0.τ<U.wd x0.τ by omega) (by omega)).1)]
   ·rw[WR,if_neg (fun e=>W9 e.symm)] at hq
    exact hq
theorem amw(hE:E.Ok)(h:cM E pm F kv fp σ a w){o:Oper}(hd:∀d,o.dst=some d->d<σ.n){cl:Call}{t e:TypeId}{s:Operand}(sF:o.op=.call cl)(iv:cl.callee=.builtin .clear)
  (lK:cl.args.toList=[s]) (BV:cl.argTypes.toList=[t]) {τ:U.Ty} (uW:E.elem t=some e) (hc:E.code e=some τ) {ss:SV U} {k:Key} {lo hi:Nat}
  (hs:RS E w F kv fp (bW σ) ss (a.eval s)) (VP:vd ss=some (.sub k (U.wd τ) lo hi)) {xs:List (U.T τ)} {dead:Nat->Bool} (he:σ.bO k=some (.part ⟨τ,xs⟩ dead)) (h1:lo<=hi) (h2:hi=xs.length) {ps:List Prop}
  {next:Act->World->Prop} {Q:Exit->Act->World->Prop}
  (hn:∀F kv fp a' w',cM E pm F kv fp (AM.apply o ⟨some (.wv []),[],[],[(k,.part ⟨τ,xs⟩ (fun j=>dead j||Nat.ble lo j))],ps⟩ σ) a' w'->next a' w'):o.wp E.P a w next Q:=by
 obtain⟨zW,ti,z,qw,hz,jm,PJ,Xr,PM⟩:=hE.code e τ hc
 have hu:=Ei uW
 have hw:=U.la τ
 subst h2
 have exec:∀{w1},(Builtin.clear_ #[t] o.type #[a.eval s]).run E.P w=.ok (.tuple #[]) w1->(execOp a.eval o).run E.P w=.ok (.value (.tuple #[])) w1:=by
  intro w1 hr
  have ha:cl.args= #[s]:=zO lK
  have ht:cl.argTypes= #[t]:=zO BV
  unfold execOp;simp only[sF]
  simp[resolve,iv,ha,ht,invoke,builtin,hr]
 have hrs:∀(w1:World)(F1:Nat->Prop) kv1 fp1 bad (x:SV U),some (.wv [])=some x->RS E w1 F1 kv1 fp1 bad x (.tuple #[]):=fun w1 F1 kv1 fp1 bad x hx=>by
  cases hx
  exact⟨[],rfl,rfl,fun i x u hx=>by simp at hx⟩
 obtain⟨Sc,_⟩:=cw (li hs VP) rfl
 have om:eE E w F dead ⟨τ,xs⟩ (kv k) (fp k):=h.dH k _ he
 by_cases Xc:xs.length=lo
 ·
  have gI:∀{i:Nat}{y:U.T τ},xs[i]? =some y->i<lo:=fun{i y} hy=>by
   rcases pe i xs.length with g|g
   ·omega
   ·rw[od g] at hy;cases hy
  have jn:(Builtin.clear_ #[t] o.type #[a.eval s]).run E.P w=.ok (.tuple #[]) w:=by
   obtain⟨ad,c,hv,_⟩:=om.Q0
   rw[Sc,hv]
   simp only[rL,Xc,Za]
   split
   ·cases ad<;>simp[Builtin.clear_,run_underlying hu]
   ·cases ad<;>simp[Builtin.clear_,run_underlying hu]
  refine sQ (exec jn) (hn _ _ _ _ _ (h.Zt hd k _ _ he _ _ ps (fp k) (fun bad x hx=>hrs _ _ _ _ _ x hx) (fun bad=> ?_) (WQ _) (fun _ _=>rfl) (hU.refl _ _)))
  rcases om with g|⟨b,cap,cur,vs,hZ,g1,g2,g3,g4,g5,g6,g7,g8,g9⟩
  ·exact .inl g
  ·let kx:Nat->List Nat:=fun m=>if m<xs.length*U.wd τ then hZ m else[]
   refine .inr ⟨b,cap,cur,vs,kx,g1,g2,g3,g4,g5,g6,fun i y j c BZ hy hj=> ?_,fun i j BZ hj=> ?_,?_⟩
   ·simp only[QA] at BZ
    simp only[kx,if_pos (fP hy hj)]
    exact g7 i y j c BZ.1 hy hj
   ·simp only[kx]
    split
    ·rename_i EL
     have PZ:i<lo:=by
      have:i*U.wd τ<xs.length*U.wd τ:=by omega
      have:=Nat.lt_of_mul_lt_mul_right this
      omega
     refine g8 i j ?_ hj
     rw[FI] at BZ
     exact BZ.resolve_right (fun e=>by have:=J' e;omega)
    ·rfl
   ·rw[g9]
    congr 1
    rw[O0,O0]
    congr 1
    refine O1 fun m hm=> ?_
    simp only[kx,if_pos (pD.1 hm)]
 ·obtain⟨b,cap,cur,hv,hb,Ac,xx⟩:∃b cap cur,kv k=.slice (some ⟨b,0,none⟩) xs.length cap/\w.heap[b]? =some (.cells cur (E.tid τ) (0,0))/\xs.length<=cap/\xs.length*U.wd τ<=cur.size:=by
   rcases om with⟨h0,_⟩|⟨b,cap,cur,vs,hZ,g1,g2,g3,_,g5,_⟩
   ·simp only at h0;subst h0;simp at h1 Xc;omega
   ·exact⟨b,cap,cur,g1,g2,g3,by rw[g5];exact AL _ g3⟩
  have hzl:(Builtin.zeroCells z.cells (xs.length-lo)).toList.length=(xs.length-lo)*U.wd τ:=by rw[FU,size_zeroCells,PJ]
  have hmul:lo*U.wd τ+(xs.length-lo)*U.wd τ=xs.length*U.wd τ:=by rw[<-xy];congr 1;omega
  have W2:∀u∈(Builtin.zeroCells z.cells (xs.length-lo)).toList,gr u:=by
   intro u sV
   simp only[Builtin.zeroCells,zeo,Array.toList_range,mf,pD] at sV
   obtain⟨m,_,rfl⟩:=sV
   have gI:m%z.cells.size<U.wd τ:=by rw[PJ];exact Nat.mod_lt _ hw
   obtain⟨u',g1,g2⟩:=PM (m%z.cells.size) ((U.enc τ (U.e6 τ))[m%z.cells.size]'(by rw[U.dz];exact gI)) (fw _)
   rw[getElem!_def,g1]
   rcases g2 with⟨_,g2⟩|⟨_,_,rfl⟩
   ·exact g2
   ·exact⟨rfl,trivial⟩
  have qR:=run_storeCells_at E.P b (lo*U.wd τ) (E.tid τ) (Builtin.zeroCells z.cells (xs.length-lo)).toList 0 cur w hb (by rw[hzl];omega) (fun u sV=>(W2 u sV).1)
  simp only[J6,hzl,hmul] at qR
  have jn:(Builtin.clear_ #[t] o.type #[a.eval s]).run E.P w=.ok (.tuple #[]) (w.setRow b (cur.toList.take (lo*U.wd τ)++(Builtin.zeroCells z.cells (xs.length-lo)).toList++cur.toList.drop (xs.length*U.wd τ)).toArray):=by
   rw[Sc,hv]
   obtain⟨n,Xb⟩:∃n,xs.length-lo=n+1:=⟨xs.length-lo-1,by omega⟩
   have V6:¬cap=lo:=by omega
   have P8:(⟨b,0,none⟩:Addr).add (lo*U.wd τ)=⟨b,lo*U.wd τ,none⟩:=by unfold Addr.add;split<;>simp_all
   simp only[rL,V6,if_false,FT,P8]
   rw[Xb] at qR⊢
   simp[Builtin.clear_,run_underlying hu,zeroValue,typeInfo,qw,hz,qR]
  have ud:∀c,c≠b->(w.setRow b (cur.toList.take (lo*U.wd τ)++(Builtin.zeroCells z.cells (xs.length-lo)).toList++cur.toList.drop (xs.length*U.wd τ)).toArray).heap[c]? =w.heap[c]? :=fun c hc=>setRow_other w b c _ hc
  let T:Nat->Option Value:=fun m=>if lo*U.wd τ<=m/\m<xs.length*U.wd τ then(Builtin.zeroCells z.cells (xs.length-lo)).toList[m-lo*U.wd τ]? else none
  have hTs:∀m,lo*U.wd τ<=m->m<xs.length*U.wd τ->(T m).isSome=true:=fun m g1 g2=>by
   simp only[T];rw[if_pos ⟨g1,g2⟩,fw (by omega)];rfl
  have hwr:=eE.write (x:=⟨τ,xs⟩) (xs':=xs) (dead':=fun j=>dead j||Nat.ble lo j) om (h.nodup k _ he) (fun b' bj=>(h.fQ k _ b' he bj).1) hv hb (setRow_heap w b cur _ _ _ hb) ud T ?_ ?_ ?_ rfl ?_ ?_
  ·rcases hwr with h0|⟨l',g1,g2,g3⟩
   ·simp only at h0;subst h0;simp at h1 Xc;omega
   have hmk:=h.fQ k _ b he g3
   refine sQ (exec jn) (hn _ _ _ _ _ (h.Zt hd k _ _ he _ _ ps l' (fun bad x hx=>hrs _ _ _ _ _ x hx) (fun bad=>g1) g2 (fun c hc=>ud c (fun e=>hc (e▸g3)))
    ⟨rfl,rfl,rfl,by simp,fun b' _ K8=>ud b' (fun e=>K8 (by rw[e];exact hmk.2.1))⟩))
  ·simp only[UD,ko,oc,Mf,FU,size_zeroCells,PJ]
   omega
  ·intro m hm
   simp only at hm
   have gI:(cur.toList.take (lo*U.wd τ)).length=lo*U.wd τ:=by rw[oc,FU];omega
   rw[zed,xz]
   simp only[T]
   by_cases h3:m<lo*U.wd τ
   ·rw[xA (by omega),qn,if_pos h3,if_neg (by omega),Mt]
   ·rw[zC (by omega),gI,if_pos ⟨by omega,hm⟩,xA (by omega),fw (by omega)]
  ·intro m u _ ht
   simp only[T] at ht
   split at ht
   ·exact W2 u (Gl ht)
   ·cases ht
  ·intro i y j c Lc hy hj
   simp only[QA] at Lc
   have PZ:i<lo:=by
    rcases pe i lo with g|g
    ·exact g
    ·have:=Nat.ble_eq_true_of_le g;rw[this] at Lc;cases Lc.2
   refine .inr ⟨?_,Lc.1,y,hy,hj⟩
   simp only[T]
   have PY:j<U.wd τ:=by
    rw[<-U.dz τ y]
    rcases pe j (U.enc τ y).length with g|g
    ·exact g
    ·have ue:(U.enc τ y)[j]? =some c:=hj
     rw[od g] at ue;cases ue
   have:(i+1)*U.wd τ<=lo*U.wd τ:=AL _ PZ
   rw[xy,QL] at this
   rw[if_neg (by omega)]
  ·intro i j PZ Lc hj
   simp only at PZ hj
   rw[FI] at Lc
   rcases Lc with Lc|Lc
   ·exact .inr Lc
   ·left
    have g:=J' Lc
    have:lo*U.wd τ<=i*U.wd τ:=AL _ g
    have:(i+1)*U.wd τ<=xs.length*U.wd τ:=AL _ PZ
    rw[xy,QL] at this
    exact hTs _ (by show lo*U.wd τ<=i*U.wd τ+j;omega) (by show i*U.wd τ+j<xs.length*U.wd τ;omega)
end AM
