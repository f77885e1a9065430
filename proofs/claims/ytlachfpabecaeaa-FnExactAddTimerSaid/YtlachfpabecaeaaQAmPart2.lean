/- THE ABSTRACT MACHINE: rows of which some elements are gone: literals are laid into them, their ends are cleared. -/
import Derived.Test.YtlachfpabecaeaaQAmPart
import Derived.Test.YtlachfpabecaeaaQAmOps10
namespace AM
set_option linter.unusedVariables false
open Go
variable{U:dh}{E:Env U}{pm:Pm}
variable{F F':Nat->Prop}{kv:Key->Value}{fp:Key->List Nat}{σ:aa U}{a:Act}{w w':World}{bad:Key->Bool}
theorem aW.write{dead dead':Nat->Bool}{x:eT U}{xs':List (U.T x.τ)}{v:Value}{l:List Nat}(h:aW E w F dead x v l)(eH:l.Nodup)(hF:∀b∈l,¬F b){b cap:Nat}{cur cur':Array Value}
  (hv:v=.slice (some ⟨b,0,none⟩) x.xs.length cap) (hb:w.heap[b]? =some (.cells cur (E.tid x.τ) (0,0))) (aj:w'.heap[b]? =some (.cells cur' (E.tid x.τ) (0,0))) (gX:∀c,c≠b->w'.heap[c]? =w.heap[c]?)
  (T:Nat->Option Value) (iG:cur'.size=cur.size) (KJ:∀m,m<x.xs.length*U.wd x.τ->cur'[m]? =(match T m with|some u=>some u|none=>cur[m]?)) (hT:∀m u,m<x.xs.length*U.wd x.τ->T m=some u->bI u)
  (hlen:xs'.length=x.xs.length)
  (vC:∀i y j c,dead' i=false->xs'[i]? =some y->(U.enc x.τ y)[j]? =some c->(∃u,T (i*U.wd x.τ+j)=some u/\c=.lit u)\/(T (i*U.wd x.τ+j)=none/\dead i=false/\∃y0,x.xs[i]? =some y0/\(U.enc x.τ y0)[j]? =some c))
  (P0:∀i j,i<x.xs.length->dead' i=true->j<U.wd x.τ->(T (i*U.wd x.τ+j)).isSome=true\/dead i=true):
  x.xs=[]\/∃l',aW E w' F dead' ⟨x.τ,xs'⟩ v l'/\l'.Sublist l/\b∈l:=by
 rcases h with⟨h0,_⟩|⟨b0,QB,Ll,vs,bT,g1,g2,hc,hm,hs,Po,hr,dq,rfl⟩
 ·exact .inl h0
 right
 rw[hv] at g1
 simp only[Value.slice.injEq,bM,Addr.mk.injEq,and_true,true_and] at g1
 obtain⟨rfl,rfl⟩:=g1
 rw[hb] at g2
 simp only[bM,Obj.cells.injEq,and_true] at g2
 subst g2
 have hw:=U.c_ x.τ
 obtain⟨uP,zQ⟩:=fU.1 eH
 let cQ:Nat->List Nat:=fun m=>if(T m).isSome=true\/x.xs.length*U.wd x.τ<=m then[] else bT m
 let jh:Nat->Value:=fun m=>match T m with|some u=>u|none=>vs m
 have eg:((List.range (x.xs.length*U.wd x.τ)).flatMap cQ).Sublist ((List.range (x.xs.length*U.wd x.τ)).flatMap bT):=yE fun m _=>by
  simp only[cQ];split
  ·exact List.nil_sublist _
  ·exact xj _
 refine⟨b::(List.range (x.xs.length*U.wd x.τ)).flatMap cQ,.inr ⟨b,cap,cur',jh,cQ,by rw[hv,hlen],aj,by rw[hlen];exact hc,hm,by rw[iG,hs],fun m jQ=> ?_,fun i y j c hi hy hj=> ?_,fun i j hi hj=> ?_,by rw[hlen]⟩,List.Sublist.cons_cons _ eg,e_⟩
 ·simp only[hlen] at jQ
  rw[KJ m jQ]
  simp only[jh]
  cases ht:T m with
  |none=>exact Po m jQ
  |some u=>exact⟨rfl,hT m u jQ ht⟩
 ·have bZ:i*U.wd x.τ+j<x.xs.length*U.wd x.τ:=by rw[<-hlen];exact bw hy hj
  show Rp E w' F true c (jh (i*U.wd x.τ+j)) (cQ (i*U.wd x.τ+j))
  rcases vC i y j c hi hy hj with⟨u,h1,rfl⟩|⟨h1,h2,y0,h3,h4⟩
  ·have e1:jh (i*U.wd x.τ+j)=u:=by simp only[jh,h1]
   have e2:cQ (i*U.wd x.τ+j)=[]:=by simp only[cQ];rw[if_pos (.inl (by rw[h1];rfl))]
   rw[e1,e2]
   exact .lit _ _ (hT _ u bZ h1)
  ·have e1:jh (i*U.wd x.τ+j)=vs (i*U.wd x.τ+j):=by simp only[jh,h1]
   have e2:cQ (i*U.wd x.τ+j)=bT (i*U.wd x.τ+j):=by simp only[cQ];rw[if_neg (by rw[h1];simp;omega)]
   rw[e1,e2]
   refine(hr i y0 j c h2 h3 h4).bD (fun c' dM=>⟨dM,gX c' (fun e=> ?_)⟩) (fun c' dM=>gX c' (fun e=> ?_))
   ·subst e;exact hF c' (by simp) dM
   ·subst e;exact uP (eY.2 ⟨_,hU.2 bZ,dM⟩)
 ·show cQ (i*U.wd x.τ+j)=[]
  simp only[cQ]
  by_cases fP:i<x.xs.length
  ·rcases P0 i j fP hi hj with h1|h1
   ·rw[if_pos (.inl h1)]
   ·split
    ·rfl
    ·exact dq i j h1 hj
  ·have:x.xs.length*U.wd x.τ<=i*U.wd x.τ:=kf _ (by omega)
   rw[if_pos (.inr (by omega))]
theorem aC.yk(h:aC E pm F kv fp σ a w){o:Oper}(hd:∀d,o.dst=some d->d<σ.n)(k:Key)(e0 e:b9 U)(eL:σ.aq k=some e0)(sv:Option (SV U))(v:Value)(ps:List Prop)(kU:List Nat)
  (mg:∀bad x,sv=some x->RS E w' F kv (aO fp k kU) bad x v)
  (hE:∀bad,gO E w' F kv (aO fp k kU) bad e (kv k) kU) (eg:kU.Sublist (fp k))
  (gX:∀c,c∉fp k->w'.heap[c]? =w.heap[c]?) (eJ:bH (fun b=>pm.W b\/pm.w0.heap.size<=b) w w'):
  aC E pm F kv (aO fp k kU) (AM.apply o ⟨sv,[],[],[(k,e)],ps⟩ σ) (a.put o.dst v) w':=by
 have cP:aQ o (⟨sv,[],[],[(k,e)],ps⟩:aw U)=[]:=rfl
 have cX:cF (⟨sv,[],[],[(k,e)],ps⟩:aw U)=[k]:=rfl
 have kY:∀b,F b->F b/\w'.heap[b]? =w.heap[b]? :=fun b hb=>⟨hb,gX b (fun hk=>(h.bC k e0 b eL hk).1 hb)⟩
 refine h.apply o _ v hd (fun x hx=>mg _ x hx) (fun _ _=>rfl) ?_ ?_ kY ?_ ?_ ?_ ?_ ?_ h.hH (h.upto.trans eJ) eJ.size
 ·intro k' _ hk;rw[cX] at hk;exact la (by simpa using hk)
 ·intro k' hk;rw[cP] at hk;simp at hk
 ·intro k' e' _ hk _ he b hb
  rw[cX] at hk
  exact gX b (fun cq=>h.apart k' k e' e0 b (by simpa using hk) he eL hb cq)
 ·rintro k' e' (⟨j,_,hj⟩|hk)
  ·simp at hj
  ·simp only[gj,eX] at hk
   obtain⟨rfl,rfl⟩:=hk
   rw[gV]
   refine⟨hE _,eg.nodup (h.nodup k' e0 eL),fun b hb=> ?_⟩
   obtain⟨g1,g2,g3⟩:=h.bC k' e0 b eL (eg.subset hb)
   exact⟨g1,g2,BI g3 eJ.size⟩
 ·intro k' e' b _ _ _ he hb;exact(h.bC k' e' b he hb).1
 ·intro k1 k' b a_ hk aG hb
  rw[cP,cX] at hk aG
  simp only[gj,vt,false_or] at hk aG
  subst hk
  rw[gV] at hb
  rcases aG with rfl|⟨_,p5⟩
  ·exact absurd rfl a_
  ·rw[la (Ne.symm a_)]
   obtain⟨e',bf⟩:=ef.1 p5
   exact h.apart k1 k' e0 e' b a_ eL bf (eg.subset hb)
 ·intro b hb
  have:=h.hJ b hb
  have:=eJ.size
  omega
theorem Hq(h:aC E pm F kv fp σ a w){o:Oper}(ho:o.dst=none){t:TypeId}{x y:Operand}(fV:o.op=.store t x y){sx:SV U}{yx:AC U}{z:AV U}{n:Nat}{rs:List Key}{r:aw U}
  (hx:RS E w F kv fp (av σ) sx (a.eval x)) (jT:iA sx=some yx) (hy:RS E w F kv fp (av σ) (.v z) (a.eval y)) (hs:E.size t=some n) (hn:n=z.cs.length)
  (hr:kp (restrict σ.aq rs) z yx=some r) (hp:∀p∈r.pre,p) {next:Act->World->Prop} {Q:Exit->Act->World->Prop}
  (zO:∀F kv fp a' w',aC E pm F kv fp (AM.apply o r σ) a' w'->next a' w'):o.wp E.P a w next Q:=by
 have lz:=de hx jT
 obtain⟨jy,mY⟩:=sj hy
 unfold kp at hr
 split at hr
 rotate_left
 ·cases hr
 rename_i k i wd off
 split at hr
 rotate_left
 ·cases hr
 rename_i x0 dead us he zV
 have bf:=cJ he
 rw[bY] at hr
 split at hr
 rotate_left
 ·cases hr
 rename_i eo
 simp only[dR] at eo
 have iF:=en eo.1
 have hle:=pz eo.2
 subst iF
 rw[yJ] at hr
 split at hr
 rotate_left
 ·cases hr
 rename_i a' KY
 split at KY
 rotate_left
 ·cases KY
 rename_i yv qX
 cases KY
 cases hr
 have hi:i<x0.xs.length:=hp _ (by simp)
 have vC:dead i=false:=hp _ (by simp)
 have fv:=v_ zV jy
 have kA:us.length=z.cs.length:=by rw[<-fv,mS,mY]
 have ei:aW E w F dead x0 (kv k) (fp k):=h.aJ k _ bf
 have om:=U.dB x0.τ _ yv qX
 obtain⟨b,cap,cur,hv,hb,iG⟩:∃b cap cur,kv k=.slice (some ⟨b,0,none⟩) x0.xs.length cap/\w.heap[b]? =some (.cells cur (E.tid x0.τ) (0,0))/\x0.xs.length*U.wd x0.τ<=cur.size:=by
  rcases ei with⟨h0,_⟩|⟨b,cap,cur,vs,bT,g1,g2,g3,_,g5,_⟩
  ·rw[h0] at hi;simp at hi
  ·exact⟨b,cap,cur,g1,g2,by rw[g5];exact kf _ g3⟩
 obtain⟨bb,oo,nn,cc,eG,EC⟩:=ax lz (by simp[ck])
 simp only[eR] at eG
 rw[hv] at eG
 simp only[Value.slice.injEq,bM,Addr.mk.injEq,and_true] at eG
 obtain⟨⟨e1,e2⟩,_,_⟩:=eG
 rw[e1,e2,ke] at EC
 have hN:i*U.wd x0.τ+U.wd x0.τ<=x0.xs.length*U.wd x0.τ:=by
  have:(i+1)*U.wd x0.τ<=x0.xs.length*U.wd x0.τ:=kf _ hi
  rw[kc,ta] at this
  exact this
 have Ou:(a.eval y).cells.toList=us:=fv
 have cu:=vS (P:=E.P) (n:=n) (off:=i*U.wd x0.τ+off) (v:=a.eval y) hs (by rw[mY];exact hn.symm) jy.bx hb (by omega)
 rw[<-EC,Ou] at cu
 have exec:(execOp a.eval o).run E.P w=.ok .skip (w.setRow b (cur.toList.take (i*U.wd x0.τ+off)++us++cur.toList.drop (i*U.wd x0.τ+off+n)).toArray):=by
  unfold execOp;simp only[fV]
  rw[Sem.run_bind,cu];rfl
 have gX:∀c,c≠b->(w.setRow b (cur.toList.take (i*U.wd x0.τ+off)++us++cur.toList.drop (i*U.wd x0.τ+off+n)).toArray).heap[c]? =w.heap[c]? :=fun c hc=>setRow_other w b c _ hc
 have Es:∀m u,us[m]? =some u->bI u:=fun m u hm=>by
  have bZ:m<z.cs.length:=by
   rw[<-kA]
   rcases eW m us.length with g|g
   ·exact g
   ·rw[eD g] at hm;cases hm
  exact(jy.2 m _ u (cE bZ) (by rw[Ou];exact hm)).1
 let T:Nat->Option Value:=fun m=>if i*U.wd x0.τ+off<=m/\m<i*U.wd x0.τ+off+us.length then us[m-(i*U.wd x0.τ+off)]? else none
 have hw:=aW.write (xs':=x0.xs.set i yv) (dead':=dead) ei (h.nodup k _ bf) (fun b' aj=>(h.bC k _ b' bf aj).1) hv hb (setRow_heap w b cur _ _ _ hb) gX T ?_ ?_ ?_ (r9 ..) ?_ (fun _ _ _ nc _=> .inr nc)
 ·rcases hw with h0|⟨l',g1,g2,g3⟩
  ·rw[h0] at hi;simp at hi
  have BX:=h.bC k _ b bf g3
  have eI:=h.yk (o:=o) (fun d hd=>by rw[ho] at hd;cases hd) k _ (.part ⟨x0.τ,x0.xs.set i yv⟩ dead) bf none undef [i<x0.xs.length,dead i=false] l' (fun _ x hx=>by cases hx) (fun bad=>g1) g2 (fun c hc=>gX c (fun e=>hc (e▸g3)))
   ⟨rfl,rfl,rfl,by simp,fun b' _ pW=>gX b' (fun e=>pW (by rw[e];exact BX.2.1))⟩
  exact tx exec (zO _ _ _ _ _ eI)
 ·simp only[xi,rj,kg,px,mS]
  omega
 ·intro m hm
  have bZ:(cur.toList.take (i*U.wd x0.τ+off)).length=i*U.wd x0.τ+off:=by rw[kg,mS];omega
  rw[F4,jz]
  simp only[T]
  by_cases h2:m<i*U.wd x0.τ+off
  ·rw[jA (by omega),eP,if_pos h2,if_neg (by omega),qt]
  ·rw[kj (by omega),bZ]
   by_cases h3:m<i*U.wd x0.τ+off+us.length
   ·rw[if_pos ⟨by omega,h3⟩,jA (by omega),cE (by omega)]
   ·rw[if_neg (by omega),kj (by omega),mQ,qt]
    show cur[i*U.wd x0.τ+off+n+(m-(i*U.wd x0.τ+off)-us.length)]? =cur[m]?
    congr 1;omega
 ·intro m u _ ht
  simp only[T] at ht
  split at ht
  ·exact Es _ u ht
  ·cases ht
 ·intro q yq j c EV hq hj
  have sR:j<U.wd x0.τ:=by
   rw[<-U.aM x0.τ yq]
   rcases eW j (U.enc x0.τ yq).length with g|g
   ·exact g
   ·rw[eD g] at hj;cases hj
  by_cases xI:q=i
  ·subst xI
   rw[vI,if_pos rfl,if_pos hi] at hq
   cases hq
   rw[om] at hj
   have iS:=bg (d:=U.bn x0.τ) hi
   have PO:off+(us.map (Cell.lit (Ty:=U.Ty) (T:=U.T))).length<=U.wd x0.τ:=by rw[tj];omega
   have uk:((U.enc x0.τ (x0.xs.getD q (U.bn x0.τ))).take off).length=off:=by simp[U.aM];omega
   by_cases h1:j<off
   ·refine .inr ⟨by simp only[T];rw[if_neg (by omega)],EV,_,iS,?_⟩
    rw[jz,jA (by rw[uk];exact h1),eP,if_pos h1] at hj
    exact hj
   ·by_cases h2:j<off+us.length
    ·left
     rw[jz,kj (by rw[uk];omega),uk,jA (by rw[tj];omega),eC] at hj
     cases hu:us[j-off]? with
     |none=>rw[hu] at hj;cases hj
     |some u=>
      rw[hu] at hj
      simp only[mP,bM] at hj
      refine⟨u,?_,hj.symm⟩
      simp only[T]
      rw[if_pos (by omega),show q*U.wd x0.τ+j-(q*U.wd x0.τ+off)=j-off by omega,hu]
    ·refine .inr ⟨by simp only[T];rw[if_neg (by omega)],EV,_,iS,?_⟩
     have Et:((U.enc x0.τ (x0.xs.getD q (U.bn x0.τ))).take off++us.map Cell.lit).length=off+us.length:=by rw[rj,uk,tj]
     rw[kj (by rw[Et];omega),Et,mQ,tj] at hj
     rw[<-hj];congr 1;omega
  ·refine .inr ⟨?_,EV,yq,?_,hj⟩
   ·simp only[T]
    rw[if_neg (fun eU=>xI (wo sR (show q*U.wd x0.τ+j-i*U.wd x0.τ<U.wd x0.τ by omega) (by omega)).1)]
   ·rw[vI,if_neg (fun e=>xI e.symm)] at hq
    exact hq
theorem Jp(hE:E.Ok)(h:aC E pm F kv fp σ a w){o:Oper}(hd:∀d,o.dst=some d->d<σ.n){cl:Call}{t e:TypeId}{s:Operand}(fV:o.op=.call cl)(cp:cl.callee=.builtin .clear)
  (dr:cl.args.toList=[s]) (ly:cl.argTypes.toList=[t]) {τ:U.Ty} (iq:E.elem t=some e) (hc:E.code e=some τ) {ss:SV U} {k:Key} {lo hi:Nat}
  (hs:RS E w F kv fp (av σ) ss (a.eval s)) (wJ:iA ss=some (.sub k (U.wd τ) lo hi)) {xs:List (U.T τ)} {dead:Nat->Bool} (he:σ.aq k=some (.part ⟨τ,xs⟩ dead)) (h1:lo<=hi) (h2:hi=xs.length) {ps:List Prop}
  {next:Act->World->Prop} {Q:Exit->Act->World->Prop}
  (hn:∀F kv fp a' w',aC E pm F kv fp (AM.apply o ⟨some (.iV []),[],[],[(k,.part ⟨τ,xs⟩ (fun j=>dead j||Nat.ble lo j))],ps⟩ σ) a' w'->next a' w'):o.wp E.P a w next Q:=by
 obtain⟨jM,ti,z,fP,hz,ci,kz,pu,sH⟩:=hE.code e τ hc
 have hu:=l5 iq
 have hw:=U.c_ τ
 subst h2
 have exec:∀{w1},(Builtin.clear_ #[t] o.type #[a.eval s]).run E.P w=.ok (.tuple #[]) w1->(execOp a.eval o).run E.P w=.ok (.value (.tuple #[])) w1:=by
  intro w1 hr
  have ha:cl.args= #[s]:=ku dr
  have ht:cl.argTypes= #[t]:=ku ly
  unfold execOp;simp only[fV]
  simp[resolve,cp,ha,ht,invoke,builtin,hr]
 have zE:∀(w1:World)(F1:Nat->Prop) JS B' bad (x:SV U),some (.iV [])=some x->RS E w1 F1 JS B' bad x (.tuple #[]):=fun w1 F1 JS B' bad x hx=>by
  cases hx
  exact⟨[],rfl,rfl,fun i x u hx=>by simp at hx⟩
 obtain⟨ui,_⟩:=ax (de hs wJ) rfl
 have ei:aW E w F dead ⟨τ,xs⟩ (kv k) (fp k):=h.aJ k _ he
 by_cases xM:xs.length=lo
 ·
  have bZ:∀{i:Nat}{y:U.T τ},xs[i]? =some y->i<lo:=fun{i y} hy=>by
   rcases eW i xs.length with g|g
   ·omega
   ·rw[eD g] at hy;cases hy
  have cu:(Builtin.clear_ #[t] o.type #[a.eval s]).run E.P w=.ok (.tuple #[]) w:=by
   obtain⟨ad,c,hv,_⟩:=ei.tt
   rw[ui,hv]
   simp only[fM,xM,Cf]
   split
   ·cases ad<;>simp[Builtin.clear_,run_underlying hu]
   ·cases ad<;>simp[Builtin.clear_,run_underlying hu]
  refine gq (exec cu) (hn _ _ _ _ _ (h.yk hd k _ _ he _ _ ps (fp k) (fun bad x hx=>zE _ _ _ _ _ x hx) (fun bad=> ?_) (xj _) (fun _ _=>rfl) (bH.refl _ _)))
  rcases ei with g|⟨b,cap,cur,vs,bT,g1,g2,g3,g4,g5,g6,g7,g8,g9⟩
  ·exact .inl g
  ·let cQ:Nat->List Nat:=fun m=>if m<xs.length*U.wd τ then bT m else[]
   refine .inr ⟨b,cap,cur,vs,cQ,g1,g2,g3,g4,g5,g6,fun i y j c nc hy hj=> ?_,fun i j nc hj=> ?_,?_⟩
   ·simp only[vr] at nc
    simp only[cQ,if_pos (bw hy hj)]
    exact g7 i y j c nc.1 hy hj
   ·simp only[cQ]
    split
    ·rename_i qS
     have EP:i<lo:=by
      have:i*U.wd τ<xs.length*U.wd τ:=by omega
      have:=Nat.lt_of_mul_lt_mul_right this
      omega
     refine g8 i j ?_ hj
     rw[qo] at nc
     exact nc.resolve_right (fun e=>by have:=pz e;omega)
    ·rfl
   ·rw[g9]
    congr 1
    rw[r_,r_]
    congr 1
    refine th fun m hm=> ?_
    simp only[cQ,if_pos (hU.1 hm)]
 ·obtain⟨b,cap,cur,hv,hb,jR,iG⟩:∃b cap cur,kv k=.slice (some ⟨b,0,none⟩) xs.length cap/\w.heap[b]? =some (.cells cur (E.tid τ) (0,0))/\xs.length<=cap/\xs.length*U.wd τ<=cur.size:=by
   rcases ei with⟨h0,_⟩|⟨b,cap,cur,vs,bT,g1,g2,g3,_,g5,_⟩
   ·simp only at h0;subst h0;simp at h1 xM;omega
   ·exact⟨b,cap,cur,g1,g2,g3,by rw[g5];exact kf _ g3⟩
  have Eh:(Builtin.zeroCells z.cells (xs.length-lo)).toList.length=(xs.length-lo)*U.wd τ:=by rw[mS,size_zeroCells,kz]
  have hmul:lo*U.wd τ+(xs.length-lo)*U.wd τ=xs.length*U.wd τ:=by rw[<-kc];congr 1;omega
  have xA:∀u∈(Builtin.zeroCells z.cells (xs.length-lo)).toList,bI u:=by
   intro u ga
   simp only[Builtin.zeroCells,Cg,Array.toList_range,ez,hU] at ga
   obtain⟨m,_,rfl⟩:=ga
   have bZ:m%z.cells.size<U.wd τ:=by rw[kz];exact Nat.mod_lt _ hw
   obtain⟨u',g1,g2⟩:=sH (m%z.cells.size) ((U.enc τ (U.bn τ))[m%z.cells.size]'(by rw[U.aM];exact bZ)) (cE _)
   rw[getElem!_def,g1]
   rcases g2 with⟨_,g2⟩|⟨_,_,rfl⟩
   ·exact g2
   ·exact⟨rfl,trivial⟩
  have gW:=run_storeCells_at E.P b (lo*U.wd τ) (E.tid τ) (Builtin.zeroCells z.cells (xs.length-lo)).toList 0 cur w hb (by rw[Eh];omega) (fun u ga=>(xA u ga).1)
  simp only[pn,Eh,hmul] at gW
  have cu:(Builtin.clear_ #[t] o.type #[a.eval s]).run E.P w=.ok (.tuple #[]) (w.setRow b (cur.toList.take (lo*U.wd τ)++(Builtin.zeroCells z.cells (xs.length-lo)).toList++cur.toList.drop (xs.length*U.wd τ)).toArray):=by
   rw[ui,hv]
   obtain⟨n,wL⟩:∃n,xs.length-lo=n+1:=⟨xs.length-lo-1,by omega⟩
   have wV:¬cap=lo:=by omega
   have sW:(⟨b,0,none⟩:Addr).add (lo*U.wd τ)=⟨b,lo*U.wd τ,none⟩:=by unfold Addr.add;split<;>simp_all
   simp only[fM,wV,if_false,mP,sW]
   rw[wL] at gW⊢
   simp[Builtin.clear_,run_underlying hu,zeroValue,typeInfo,fP,hz,gW]
  have gX:∀c,c≠b->(w.setRow b (cur.toList.take (lo*U.wd τ)++(Builtin.zeroCells z.cells (xs.length-lo)).toList++cur.toList.drop (xs.length*U.wd τ)).toArray).heap[c]? =w.heap[c]? :=fun c hc=>setRow_other w b c _ hc
  let T:Nat->Option Value:=fun m=>if lo*U.wd τ<=m/\m<xs.length*U.wd τ then(Builtin.zeroCells z.cells (xs.length-lo)).toList[m-lo*U.wd τ]? else none
  have Qa:∀m,lo*U.wd τ<=m->m<xs.length*U.wd τ->(T m).isSome=true:=fun m g1 g2=>by
   simp only[T];rw[if_pos ⟨g1,g2⟩,cE (by omega)];rfl
  have Pl:=aW.write (x:=⟨τ,xs⟩) (xs':=xs) (dead':=fun j=>dead j||Nat.ble lo j) ei (h.nodup k _ he) (fun b' aj=>(h.bC k _ b' he aj).1) hv hb (setRow_heap w b cur _ _ _ hb) gX T ?_ ?_ ?_ rfl ?_ ?_
  ·rcases Pl with h0|⟨l',g1,g2,g3⟩
   ·simp only at h0;subst h0;simp at h1 xM;omega
   have BX:=h.bC k _ b he g3
   refine gq (exec cu) (hn _ _ _ _ _ (h.yk hd k _ _ he _ _ ps l' (fun bad x hx=>zE _ _ _ _ _ x hx) (fun bad=>g1) g2 (fun c hc=>gX c (fun e=>hc (e▸g3)))
    ⟨rfl,rfl,rfl,by simp,fun b' _ pW=>gX b' (fun e=>pW (by rw[e];exact BX.2.1))⟩))
  ·simp only[xi,rj,kg,px,mS,size_zeroCells,kz]
   omega
  ·intro m hm
   simp only at hm
   have bZ:(cur.toList.take (lo*U.wd τ)).length=lo*U.wd τ:=by rw[kg,mS];omega
   rw[F4,jz]
   simp only[T]
   by_cases h3:m<lo*U.wd τ
   ·rw[jA (by omega),eP,if_pos h3,if_neg (by omega),qt]
   ·rw[kj (by omega),bZ,if_pos ⟨by omega,hm⟩,jA (by omega),cE (by omega)]
  ·intro m u _ ht
   simp only[T] at ht
   split at ht
   ·exact xA u (np ht)
   ·cases ht
  ·intro i y j c sU hy hj
   simp only[vr] at sU
   have EP:i<lo:=by
    rcases eW i lo with g|g
    ·exact g
    ·have:=Nat.ble_eq_true_of_le g;rw[this] at sU;cases sU.2
   refine .inr ⟨?_,sU.1,y,hy,hj⟩
   simp only[T]
   have sR:j<U.wd τ:=by
    rw[<-U.aM τ y]
    rcases eW j (U.enc τ y).length with g|g
    ·exact g
    ·have gY:(U.enc τ y)[j]? =some c:=hj
     rw[eD g] at gY;cases gY
   have:(i+1)*U.wd τ<=lo*U.wd τ:=kf _ EP
   rw[kc,ta] at this
   rw[if_neg (by omega)]
  ·intro i j EP sU hj
   simp only at EP hj
   rw[qo] at sU
   rcases sU with sU|sU
   ·exact .inr sU
   ·left
    have g:=pz sU
    have:lo*U.wd τ<=i*U.wd τ:=kf _ g
    have:(i+1)*U.wd τ<=xs.length*U.wd τ:=kf _ EP
    rw[kc,ta] at this
    exact Qa _ (by show lo*U.wd τ<=i*U.wd τ+j;omega) (by show i*U.wd τ+j<xs.length*U.wd τ;omega)
end AM
