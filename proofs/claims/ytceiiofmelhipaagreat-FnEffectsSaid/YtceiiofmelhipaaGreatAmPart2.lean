/- THE ABSTRACT MACHINE: rows of which some elements are gone: literals are laid into them, their ends are cleared. -/
import Derived.Test.YtceiiofmelhipaaGreatAmPart
import Derived.Test.YtceiiofmelhipaaGreatAmOps10
namespace AM
set_option linter.unusedVariables false
open Go
variable{U:Uni}{E:Env U}{pm:Pm}
variable{F F':Nat→Prop}{kv:Key→Value}{fp:Key→List Nat}{σ:AState U}{a:Act}{w w':World}{bad:Key→Bool}
theorem ROwnP.write{dead dead':Nat→Bool}{x:Arr U}{xs':List (U.T x.τ)}{v:Value}{l:List Nat}(h:ROwnP E w F dead x v l)(hnd:l.Nodup)(hF:∀b∈l,¬F b){b cap:Nat}{cur cur':Array Value}
  (hv:v=.slice (some ⟨b,0,none⟩) x.xs.length cap) (hb:w.heap[b]? =some (.cells cur (E.tid x.τ) (0,0))) (hb':w'.heap[b]? =some (.cells cur' (E.tid x.τ) (0,0))) (hoth:∀c,c≠b→w'.heap[c]? =w.heap[c]?)
  (T:Nat→Option Value) (hsz:cur'.size=cur.size) (hcur:∀m,m<x.xs.length*U.wd x.τ→cur'[m]? =(match T m with|some u=>some u|none=>cur[m]?)) (hT:∀m u,m<x.xs.length*U.wd x.τ→T m=some u→LitOk u)
  (hlen:xs'.length=x.xs.length)
  (hal:∀i y j c,dead' i=false→xs'[i]? =some y→(U.enc x.τ y)[j]? =some c→(∃u,T (i*U.wd x.τ+j)=some u∧c=.lit u)∨(T (i*U.wd x.τ+j)=none∧dead i=false∧∃y0,x.xs[i]? =some y0∧(U.enc x.τ y0)[j]? =some c))
  (hde:∀i j,i<x.xs.length→dead' i=true→j<U.wd x.τ→(T (i*U.wd x.τ+j)).isSome=true∨dead i=true):
  x.xs=[]∨∃l',ROwnP E w' F dead' ⟨x.τ,xs'⟩ v l'∧l'.Sublist l∧b∈l:=by
 rcases h with⟨h0,_⟩|⟨b0,cap0,cur0,vs,fps,g1,g2,hc,hm,hs,hvv,hr,hdd,rfl⟩
 ·exact .inl h0
 right
 rw[hv] at g1
 simp only[Value.slice.injEq,zae,Addr.mk.injEq,and_true,true_and] at g1
 obtain⟨rfl,rfl⟩:=g1
 rw[hb] at g2
 simp only[zae,Obj.cells.injEq,and_true] at g2
 subst g2
 have hw:=U.wd_pos x.τ
 obtain⟨hbn,hnf⟩:=zbe.1 hnd
 let fps':Nat→List Nat:=fun m=>if(T m).isSome=true∨x.xs.length*U.wd x.τ≤m then[] else fps m
 let vs':Nat→Value:=fun m=>match T m with|some u=>u|none=>vs m
 have hsub:((List.range (x.xs.length*U.wd x.τ)).flatMap fps').Sublist ((List.range (x.xs.length*U.wd x.τ)).flatMap fps):=qanb fun m _=>by
  simp only[fps'];split
  ·exact List.nil_sublist _
  ·exact zdi _
 refine⟨b::(List.range (x.xs.length*U.wd x.τ)).flatMap fps',.inr ⟨b,cap,cur',vs',fps',by rw[hv,hlen],hb',by rw[hlen];exact hc,hm,by rw[hsz,hs],fun m hm'=> ?_,fun i y j c hi hy hj=> ?_,fun i j hi hj=> ?_,by rw[hlen]⟩,List.Sublist.cons_cons _ hsub,zab⟩
 ·simp only[hlen] at hm'
  rw[hcur m hm']
  simp only[vs']
  cases ht:T m with
  |none=>exact hvv m hm'
  |some u=>exact⟨rfl,hT m u hm' ht⟩
 ·have hlt:i*U.wd x.τ+j<x.xs.length*U.wd x.τ:=by rw[←hlen];exact row_lt hy hj
  show Rp E w' F true c (vs' (i*U.wd x.τ+j)) (fps' (i*U.wd x.τ+j))
  rcases hal i y j c hi hy hj with⟨u,h1,rfl⟩|⟨h1,h2,y0,h3,h4⟩
  ·have e1:vs' (i*U.wd x.τ+j)=u:=by simp only[vs',h1]
   have e2:fps' (i*U.wd x.τ+j)=[]:=by simp only[fps'];rw[if_pos (.inl (by rw[h1];rfl))]
   rw[e1,e2]
   exact .lit _ _ (hT _ u hlt h1)
  ·have e1:vs' (i*U.wd x.τ+j)=vs (i*U.wd x.τ+j):=by simp only[vs',h1]
   have e2:fps' (i*U.wd x.τ+j)=fps (i*U.wd x.τ+j):=by simp only[fps'];rw[if_neg (by rw[h1];simp;omega)]
   rw[e1,e2]
   refine(hr i y0 j c h2 h3 h4).keep (fun c' hc'=>⟨hc',hoth c' (fun e=> ?_)⟩) (fun c' hc'=>hoth c' (fun e=> ?_))
   ·subst e;exact hF c' (by simp) hc'
   ·subst e;exact hbn (zat.2 ⟨_,zay.2 hlt,hc'⟩)
 ·show fps' (i*U.wd x.τ+j)=[]
  simp only[fps']
  by_cases hi':i<x.xs.length
  ·rcases hde i j hi' hi hj with h1|h1
   ·rw[if_pos (.inl h1)]
   ·split
    ·rfl
    ·exact hdd i j h1 hj
  ·have:x.xs.length*U.wd x.τ≤i*U.wd x.τ:=zbc _ (by omega)
   rw[if_pos (.inr (by omega))]
theorem Sim.updV(h:Sim E pm F kv fp σ a w){o:Oper}(hd:∀d,o.dst=some d→d<σ.n)(k:Key)(e0 e:Ent U)(he0:σ.ent k=some e0)(sv:Option (SV U))(v:Value)(ps:List Prop)(nfp:List Nat)
  (hsv:∀bad x,sv=some x→RS E w' F kv (setKey fp k nfp) bad x v)
  (hE:∀bad,REnt E w' F kv (setKey fp k nfp) bad e (kv k) nfp) (hsub:nfp.Sublist (fp k))
  (hoth:∀c,c∉fp k→w'.heap[c]? =w.heap[c]?) (hup:Upto (fun b=>pm.W b∨pm.w0.heap.size≤b) w w'):
  Sim E pm F kv (setKey fp k nfp) (AM.apply o ⟨sv,[],[],[(k,e)],ps⟩ σ) (a.put o.dst v) w':=by
 have hadds:adds o (⟨sv,[],[],[(k,e)],ps⟩:Rslt U)=[]:=rfl
 have hupds:upds (⟨sv,[],[],[(k,e)],ps⟩:Rslt U)=[k]:=rfl
 have hFF:∀b,F b→F b∧w'.heap[b]? =w.heap[b]? :=fun b hb=>⟨hb,hoth b (fun hk=>(h.mine k e0 b he0 hk).1 hb)⟩
 refine h.apply o _ v hd (fun x hx=>hsv _ x hx) (fun _ _=>rfl) ?_ ?_ hFF ?_ ?_ ?_ ?_ ?_ h.Fsub (h.upto.trans hup) hup.size
 ·intro k' _ hk;rw[hupds] at hk;exact qalv (by simpa using hk)
 ·intro k' hk;rw[hadds] at hk;simp at hk
 ·intro k' e' _ hk _ he b hb
  rw[hupds] at hk
  exact hoth b (fun hbk=>h.apart k' k e' e0 b (by simpa using hk) he he0 hb hbk)
 ·rintro k' e' (⟨j,_,hj⟩|hk)
  ·simp at hj
  ·simp only[zau,zax] at hk
   obtain⟨rfl,rfl⟩:=hk
   rw[qalw]
   refine⟨hE _,hsub.nodup (h.nodup k' e0 he0),fun b hb=> ?_⟩
   obtain⟨g1,g2,g3⟩:=h.mine k' e0 b he0 (hsub.subset hb)
   exact⟨g1,g2,zds g3 hup.size⟩
 ·intro k' e' b _ _ _ he hb;exact(h.mine k' e' b he hb).1
 ·intro k1 k' b hne hk hk' hb
  rw[hadds,hupds] at hk hk'
  simp only[zau,zcf,false_or] at hk hk'
  subst hk
  rw[qalw] at hb
  rcases hk' with rfl|⟨_,hl'⟩
  ·exact absurd rfl hne
  ·rw[qalv (Ne.symm hne)]
   obtain⟨e',he'⟩:=zag.1 hl'
   exact h.apart k1 k' e0 e' b hne he0 he' (hsub.subset hb)
 ·intro b hb
  have:=h.Flt b hb
  have:=hup.size
  omega
theorem qamw(h:Sim E pm F kv fp σ a w){o:Oper}(ho:o.dst=none){t:TypeId}{x y:Operand}(hop:o.op=.store t x y){sx:SV U}{yx:AC U}{z:AV U}{n:Nat}{rs:List Key}{r:Rslt U}
  (hx:RS E w F kv fp (badK σ) sx (a.eval x)) (hac:ac? sx=some yx) (hy:RS E w F kv fp (badK σ) (.v z) (a.eval y)) (hs:E.size t=some n) (hn:n=z.cs.length)
  (hr:storeLits (restrict σ.ent rs) z yx=some r) (hp:∀p∈r.pre,p) {next:Act→World→Prop} {Q:Exit→Act→World→Prop}
  (hnx:∀F kv fp a' w',Sim E pm F kv fp (AM.apply o r σ) a' w'→next a' w'):o.wp E.P a w next Q:=by
 have hrd:=qaaf hx hac
 obtain⟨hz1,hz2⟩:=qaaj hy
 unfold storeLits at hr
 split at hr
 rotate_left
 ·cases hr
 rename_i k i wd off
 split at hr
 rotate_left
 ·cases hr
 rename_i x0 dead us he hlit
 have he':=qald he
 rw[zah] at hr
 split at hr
 rotate_left
 ·cases hr
 rename_i hcond
 simp only[zaf] at hcond
 have hwd:=zai hcond.1
 have hle:=zbu hcond.2
 subst hwd
 rw[qalg] at hr
 split at hr
 rotate_left
 ·cases hr
 rename_i a' ha'
 split at ha'
 rotate_left
 ·cases ha'
 rename_i yv hdec
 cases ha'
 cases hr
 have hi:i<x0.xs.length:=hp _ (by simp)
 have hal:dead i=false:=hp _ (by simp)
 have hus:=qagq hlit hz1
 have hul:us.length=z.cs.length:=by rw[←hus,zbn,hz2]
 have hown:ROwnP E w F dead x0 (kv k) (fp k):=h.ents k _ he'
 have henc:=U.enc_dec x0.τ _ yv hdec
 obtain⟨b,cap,cur,hv,hb,hsz⟩:∃b cap cur,kv k=.slice (some ⟨b,0,none⟩) x0.xs.length cap∧w.heap[b]? =some (.cells cur (E.tid x0.τ) (0,0))∧x0.xs.length*U.wd x0.τ≤cur.size:=by
  rcases hown with⟨h0,_⟩|⟨b,cap,cur,vs,fps,g1,g2,g3,_,g5,_⟩
  ·rw[h0] at hi;simp at hi
  ·exact⟨b,cap,cur,g1,g2,by rw[g5];exact zbc _ g3⟩
 obtain⟨bb,oo,nn,cc,hnav,hpv⟩:=RA_of hrd (by simp[badAC])
 simp only[navS] at hnav
 rw[hv] at hnav
 simp only[Value.slice.injEq,zae,Addr.mk.injEq,and_true] at hnav
 obtain⟨⟨e1,e2⟩,_,_⟩:=hnav
 rw[e1,e2,zbw] at hpv
 have hN:i*U.wd x0.τ+U.wd x0.τ≤x0.xs.length*U.wd x0.τ:=by
  have:(i+1)*U.wd x0.τ≤x0.xs.length*U.wd x0.τ:=zbc _ hi
  rw[zci,zdw] at this
  exact this
 have hyl:(a.eval y).cells.toList=us:=hus
 have hrun:=qamv (P:=E.P) (n:=n) (off:=i*U.wd x0.τ+off) (v:=a.eval y) hs (by rw[hz2];exact hn.symm) hz1.oneCell hb (by omega)
 rw[←hpv,hyl] at hrun
 have exec:(execOp a.eval o).run E.P w=.ok .skip (w.setRow b (cur.toList.take (i*U.wd x0.τ+off)++us++cur.toList.drop (i*U.wd x0.τ+off+n)).toArray):=by
  unfold execOp;simp only[hop]
  rw[Sem.run_bind,hrun];rfl
 have hoth:∀c,c≠b→(w.setRow b (cur.toList.take (i*U.wd x0.τ+off)++us++cur.toList.drop (i*U.wd x0.τ+off+n)).toArray).heap[c]? =w.heap[c]? :=fun c hc=>setRow_other w b c _ hc
 have hulit:∀m u,us[m]? =some u→LitOk u:=fun m u hm=>by
  have hlt:m<z.cs.length:=by
   rw[←hul]
   rcases zba m us.length with g|g
   ·exact g
   ·rw[zaj g] at hm;cases hm
  exact(hz1.2 m _ u (zad hlt) (by rw[hyl];exact hm)).1
 let T:Nat→Option Value:=fun m=>if i*U.wd x0.τ+off≤m∧m<i*U.wd x0.τ+off+us.length then us[m-(i*U.wd x0.τ+off)]? else none
 have hw:=ROwnP.write (xs':=x0.xs.set i yv) (dead':=dead) hown (h.nodup k _ he') (fun b' hb'=>(h.mine k _ b' he' hb').1) hv hb (setRow_heap w b cur _ _ _ hb) hoth T ?_ ?_ ?_ (zcu ..) ?_ (fun _ _ _ hd' _=> .inr hd')
 ·rcases hw with h0|⟨l',g1,g2,g3⟩
  ·rw[h0] at hi;simp at hi
  have hmk:=h.mine k _ b he' g3
  have hsim:=h.updV (o:=o) (fun d hd=>by rw[ho] at hd;cases hd) k _ (.part ⟨x0.τ,x0.xs.set i yv⟩ dead) he' none undef [i<x0.xs.length,dead i=false] l' (fun _ x hx=>by cases hx) (fun bad=>g1) g2 (fun c hc=>hoth c (fun e=>hc (e▸g3)))
   ⟨rfl,rfl,rfl,by simp,fun b' _ hnw=>hoth b' (fun e=>hnw (by rw[e];exact hmk.2.1))⟩
  exact qant exec (hnx _ _ _ _ _ hsim)
 ·simp only[zdj,zce,zaw,zcs,zbn]
  omega
 ·intro m hm
  have hlt:(cur.toList.take (i*U.wd x0.τ+off)).length=i*U.wd x0.τ+off:=by rw[zaw,zbn];omega
  rw[zed,zbr]
  simp only[T]
  by_cases h2:m<i*U.wd x0.τ+off
  ·rw[zaq (by omega),zan,if_pos h2,if_neg (by omega),zbx]
  ·rw[zap (by omega),hlt]
   by_cases h3:m<i*U.wd x0.τ+off+us.length
   ·rw[if_pos ⟨by omega,h3⟩,zaq (by omega),zad (by omega)]
   ·rw[if_neg (by omega),zap (by omega),zbv,zbx]
    show cur[i*U.wd x0.τ+off+n+(m-(i*U.wd x0.τ+off)-us.length)]? =cur[m]?
    congr 1;omega
 ·intro m u _ ht
  simp only[T] at ht
  split at ht
  ·exact hulit _ u ht
  ·cases ht
 ·intro q yq j c hdq hq hj
  have hjw:j<U.wd x0.τ:=by
   rw[←U.enc_len x0.τ yq]
   rcases zba j (U.enc x0.τ yq).length with g|g
   ·exact g
   ·rw[zaj g] at hj;cases hj
  by_cases hqi:q=i
  ·subst hqi
   rw[zdh,if_pos rfl,if_pos hi] at hq
   cases hq
   rw[henc] at hj
   have hxi:=getD_of_lt (d:=U.dflt x0.τ) hi
   have hle':off+(us.map (Cell.lit (Ty:=U.Ty) (T:=U.T))).length≤U.wd x0.τ:=by rw[zco];omega
   have hto:((U.enc x0.τ (x0.xs.getD q (U.dflt x0.τ))).take off).length=off:=by simp[U.enc_len];omega
   by_cases h1:j<off
   ·refine .inr ⟨by simp only[T];rw[if_neg (by omega)],hdq,_,hxi,?_⟩
    rw[zbr,zaq (by rw[hto];exact h1),zan,if_pos h1] at hj
    exact hj
   ·by_cases h2:j<off+us.length
    ·left
     rw[zbr,zap (by rw[hto];omega),hto,zaq (by rw[zco];omega),zal] at hj
     cases hu:us[j-off]? with
     |none=>rw[hu] at hj;cases hj
     |some u=>
      rw[hu] at hj
      simp only[zcd,zae] at hj
      refine⟨u,?_,hj.symm⟩
      simp only[T]
      rw[if_pos (by omega),show q*U.wd x0.τ+j-(q*U.wd x0.τ+off)=j-off by omega,hu]
    ·refine .inr ⟨by simp only[T];rw[if_neg (by omega)],hdq,_,hxi,?_⟩
     have hto2:((U.enc x0.τ (x0.xs.getD q (U.dflt x0.τ))).take off++us.map Cell.lit).length=off+us.length:=by rw[zce,hto,zco]
     rw[zap (by rw[hto2];omega),hto2,zbv,zco] at hj
     rw[←hj];congr 1;omega
  ·refine .inr ⟨?_,hdq,yq,?_,hj⟩
   ·simp only[T]
    rw[if_neg (fun hin=>hqi (qacj hjw (show q*U.wd x0.τ+j-i*U.wd x0.τ<U.wd x0.τ by omega) (by omega)).1)]
   ·rw[zdh,if_neg (fun e=>hqi e.symm)] at hq
    exact hq
theorem qacp(hE:E.Ok)(h:Sim E pm F kv fp σ a w){o:Oper}(hd:∀d,o.dst=some d→d<σ.n){cl:Call}{t e:TypeId}{s:Operand}(hop:o.op=.call cl)(hcl:cl.callee=.builtin .clear)
  (hargs:cl.args.toList=[s]) (hty:cl.argTypes.toList=[t]) {τ:U.Ty} (hel:E.elem t=some e) (hc:E.code e=some τ) {ss:SV U} {k:Key} {lo hi:Nat}
  (hs:RS E w F kv fp (badK σ) ss (a.eval s)) (hss:ac? ss=some (.sub k (U.wd τ) lo hi)) {xs:List (U.T τ)} {dead:Nat→Bool} (he:σ.ent k=some (.part ⟨τ,xs⟩ dead)) (h1:lo≤hi) (h2:hi=xs.length) {ps:List Prop}
  {next:Act→World→Prop} {Q:Exit→Act→World→Prop}
  (hn:∀F kv fp a' w',Sim E pm F kv fp (AM.apply o ⟨some (.tup []),[],[],[(k,.part ⟨τ,xs⟩ (fun j=>dead j||Nat.ble lo j))],ps⟩ σ) a' w'→next a' w'):o.wp E.P a w next Q:=by
 obtain⟨htid,ti,z,hi',hz,hsize,hzs,hby,hrep⟩:=hE.code e τ hc
 have hu:=qadk hel
 have hw:=U.wd_pos τ
 subst h2
 have exec:∀{w1},(Builtin.clear_ #[t] o.type #[a.eval s]).run E.P w=.ok (.tuple #[]) w1→(execOp a.eval o).run E.P w=.ok (.value (.tuple #[])) w1:=by
  intro w1 hr
  have ha:cl.args= #[s]:=qabq hargs
  have ht:cl.argTypes= #[t]:=qabq hty
  unfold execOp;simp only[hop]
  simp[resolve,hcl,ha,ht,invoke,builtin,hr]
 have hrs:∀(w1:World)(F1:Nat→Prop) kv1 fp1 bad (x:SV U),some (.tup [])=some x→RS E w1 F1 kv1 fp1 bad x (.tuple #[]):=fun w1 F1 kv1 fp1 bad x hx=>by
  cases hx
  exact⟨[],rfl,rfl,fun i x u hx=>by simp at hx⟩
 obtain⟨hv0,_⟩:=RA_of (qaaf hs hss) rfl
 have hown:ROwnP E w F dead ⟨τ,xs⟩ (kv k) (fp k):=h.ents k _ he
 by_cases hn0:xs.length=lo
 ·
  have hlt:∀{i:Nat}{y:U.T τ},xs[i]? =some y→i<lo:=fun{i y} hy=>by
   rcases zba i xs.length with g|g
   ·omega
   ·rw[zaj g] at hy;cases hy
  have hrun:(Builtin.clear_ #[t] o.type #[a.eval s]).run E.P w=.ok (.tuple #[]) w:=by
   obtain⟨ad,c,hv,_⟩:=hown.slice0
   rw[hv0,hv]
   simp only[subV,hn0,zev]
   split
   ·cases ad<;>simp[Builtin.clear_,run_underlying hu]
   ·cases ad<;>simp[Builtin.clear_,run_underlying hu]
  refine qanv (exec hrun) (hn _ _ _ _ _ (h.updV hd k _ _ he _ _ ps (fp k) (fun bad x hx=>hrs _ _ _ _ _ x hx) (fun bad=> ?_) (zdi _) (fun _ _=>rfl) (Upto.refl _ _)))
  rcases hown with g|⟨b,cap,cur,vs,fps,g1,g2,g3,g4,g5,g6,g7,g8,g9⟩
  ·exact .inl g
  ·let fps':Nat→List Nat:=fun m=>if m<xs.length*U.wd τ then fps m else[]
   refine .inr ⟨b,cap,cur,vs,fps',g1,g2,g3,g4,g5,g6,fun i y j c hd' hy hj=> ?_,fun i j hd' hj=> ?_,?_⟩
   ·simp only[zcp] at hd'
    simp only[fps',if_pos (row_lt hy hj)]
    exact g7 i y j c hd'.1 hy hj
   ·simp only[fps']
    split
    ·rename_i hlt'
     have hi2:i<lo:=by
      have:i*U.wd τ<xs.length*U.wd τ:=by omega
      have:=Nat.lt_of_mul_lt_mul_right this
      omega
     refine g8 i j ?_ hj
     rw[zcn] at hd'
     exact hd'.resolve_right (fun e=>by have:=zbu e;omega)
    ·rfl
   ·rw[g9]
    congr 1
    rw[zct,zct]
    congr 1
    refine zcr fun m hm=> ?_
    simp only[fps',if_pos (zay.1 hm)]
 ·obtain⟨b,cap,cur,hv,hb,hcap,hsz⟩:∃b cap cur,kv k=.slice (some ⟨b,0,none⟩) xs.length cap∧w.heap[b]? =some (.cells cur (E.tid τ) (0,0))∧xs.length≤cap∧xs.length*U.wd τ≤cur.size:=by
   rcases hown with⟨h0,_⟩|⟨b,cap,cur,vs,fps,g1,g2,g3,_,g5,_⟩
   ·simp only at h0;subst h0;simp at h1 hn0;omega
   ·exact⟨b,cap,cur,g1,g2,g3,by rw[g5];exact zbc _ g3⟩
  have hzl:(Builtin.zeroCells z.cells (xs.length-lo)).toList.length=(xs.length-lo)*U.wd τ:=by rw[zbn,size_zeroCells,hzs]
  have hmul:lo*U.wd τ+(xs.length-lo)*U.wd τ=xs.length*U.wd τ:=by rw[←zci];congr 1;omega
  have hzlit:∀u∈(Builtin.zeroCells z.cells (xs.length-lo)).toList,LitOk u:=by
   intro u hu'
   simp only[Builtin.zeroCells,zeo,Array.toList_range,zaz,zay] at hu'
   obtain⟨m,_,rfl⟩:=hu'
   have hlt:m%z.cells.size<U.wd τ:=by rw[hzs];exact Nat.mod_lt _ hw
   obtain⟨u',g1,g2⟩:=hrep (m%z.cells.size) ((U.enc τ (U.dflt τ))[m%z.cells.size]'(by rw[U.enc_len];exact hlt)) (zad _)
   rw[getElem!_def,g1]
   rcases g2 with⟨_,g2⟩|⟨_,_,rfl⟩
   ·exact g2
   ·exact⟨rfl,trivial⟩
  have hst:=run_storeCells_at E.P b (lo*U.wd τ) (E.tid τ) (Builtin.zeroCells z.cells (xs.length-lo)).toList 0 cur w hb (by rw[hzl];omega) (fun u hu'=>(hzlit u hu').1)
  simp only[zcv,hzl,hmul] at hst
  have hrun:(Builtin.clear_ #[t] o.type #[a.eval s]).run E.P w=.ok (.tuple #[]) (w.setRow b (cur.toList.take (lo*U.wd τ)++(Builtin.zeroCells z.cells (xs.length-lo)).toList++cur.toList.drop (xs.length*U.wd τ)).toArray):=by
   rw[hv0,hv]
   obtain⟨n,hnn⟩:∃n,xs.length-lo=n+1:=⟨xs.length-lo-1,by omega⟩
   have hcl':¬cap=lo:=by omega
   have hadd:(⟨b,0,none⟩:Addr).add (lo*U.wd τ)=⟨b,lo*U.wd τ,none⟩:=by unfold Addr.add;split<;>simp_all
   simp only[subV,hcl',if_false,zcd,hadd]
   rw[hnn] at hst⊢
   simp[Builtin.clear_,run_underlying hu,zeroValue,typeInfo,hi',hz,hst]
  have hoth:∀c,c≠b→(w.setRow b (cur.toList.take (lo*U.wd τ)++(Builtin.zeroCells z.cells (xs.length-lo)).toList++cur.toList.drop (xs.length*U.wd τ)).toArray).heap[c]? =w.heap[c]? :=fun c hc=>setRow_other w b c _ hc
  let T:Nat→Option Value:=fun m=>if lo*U.wd τ≤m∧m<xs.length*U.wd τ then(Builtin.zeroCells z.cells (xs.length-lo)).toList[m-lo*U.wd τ]? else none
  have hTs:∀m,lo*U.wd τ≤m→m<xs.length*U.wd τ→(T m).isSome=true:=fun m g1 g2=>by
   simp only[T];rw[if_pos ⟨g1,g2⟩,zad (by omega)];rfl
  have hwr:=ROwnP.write (x:=⟨τ,xs⟩) (xs':=xs) (dead':=fun j=>dead j||Nat.ble lo j) hown (h.nodup k _ he) (fun b' hb'=>(h.mine k _ b' he hb').1) hv hb (setRow_heap w b cur _ _ _ hb) hoth T ?_ ?_ ?_ rfl ?_ ?_
  ·rcases hwr with h0|⟨l',g1,g2,g3⟩
   ·simp only at h0;subst h0;simp at h1 hn0;omega
   have hmk:=h.mine k _ b he g3
   refine qanv (exec hrun) (hn _ _ _ _ _ (h.updV hd k _ _ he _ _ ps l' (fun bad x hx=>hrs _ _ _ _ _ x hx) (fun bad=>g1) g2 (fun c hc=>hoth c (fun e=>hc (e▸g3)))
    ⟨rfl,rfl,rfl,by simp,fun b' _ hnw=>hoth b' (fun e=>hnw (by rw[e];exact hmk.2.1))⟩))
  ·simp only[zdj,zce,zaw,zcs,zbn,size_zeroCells,hzs]
   omega
  ·intro m hm
   simp only at hm
   have hlt:(cur.toList.take (lo*U.wd τ)).length=lo*U.wd τ:=by rw[zaw,zbn];omega
   rw[zed,zbr]
   simp only[T]
   by_cases h3:m<lo*U.wd τ
   ·rw[zaq (by omega),zan,if_pos h3,if_neg (by omega),zbx]
   ·rw[zap (by omega),hlt,if_pos ⟨by omega,hm⟩,zaq (by omega),zad (by omega)]
  ·intro m u _ ht
   simp only[T] at ht
   split at ht
   ·exact hzlit u (zbl ht)
   ·cases ht
  ·intro i y j c hdi hy hj
   simp only[zcp] at hdi
   have hi2:i<lo:=by
    rcases zba i lo with g|g
    ·exact g
    ·have:=Nat.ble_eq_true_of_le g;rw[this] at hdi;cases hdi.2
   refine .inr ⟨?_,hdi.1,y,hy,hj⟩
   simp only[T]
   have hjw:j<U.wd τ:=by
    rw[←U.enc_len τ y]
    rcases zba j (U.enc τ y).length with g|g
    ·exact g
    ·have hj':(U.enc τ y)[j]? =some c:=hj
     rw[zaj g] at hj';cases hj'
   have:(i+1)*U.wd τ≤lo*U.wd τ:=zbc _ hi2
   rw[zci,zdw] at this
   rw[if_neg (by omega)]
  ·intro i j hi2 hdi hj
   simp only at hi2 hj
   rw[zcn] at hdi
   rcases hdi with hdi|hdi
   ·exact .inr hdi
   ·left
    have g:=zbu hdi
    have:lo*U.wd τ≤i*U.wd τ:=zbc _ g
    have:(i+1)*U.wd τ≤xs.length*U.wd τ:=zbc _ hi2
    rw[zci,zdw] at this
    exact hTs _ (by show lo*U.wd τ≤i*U.wd τ+j;omega) (by show i*U.wd τ+j<xs.length*U.wd τ;omega)
end AM
