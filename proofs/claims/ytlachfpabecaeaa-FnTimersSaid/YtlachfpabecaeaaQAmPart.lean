/- THE ABSTRACT MACHINE: rows of which some elements are gone: they are made, grow, are filled again. -/
import Derived.Test.YtlachfpabecaeaaQAmMove
namespace AM
set_option linter.unusedVariables false
open Go
variable{U:dw}{E:Env U}{pm:Pm}
variable{F F':Nat->Prop}{kv:Key->Value}{fp:Key->List Nat}{σ:aa U}{a:Act}{w w':World}{bad:Key->Bool}
variable(E) in
def te(w:World)(F:Nat->Prop)(dead:Nat->Bool)(τ:U.Ty)(xs:List (U.T τ))(vs:List Value)(fl:List (List Nat)):Prop:=
 vs.length=xs.length*U.wd τ/\fl.length=xs.length*U.wd τ/\(∀v∈vs,bD v)/\
 (∀(i:Nat)(x:U.T τ)(j:Nat)(c:U.C),dead i=false->xs[i]? =some x->(U.enc τ x)[j]? =some c->Rp E w F true c (vs.getD (i*U.wd τ+j) undef) (fl.getD (i*U.wd τ+j) []))/\
 ∀i j,dead i=true->j<U.wd τ->fl.getD (i*U.wd τ+j) []=[]
theorem D2{fl:List (List Nat)}{n:Nat}(h:fl.length=n):fl.flatten=(List.range n).flatMap fun m=>fl.getD m []:=by
 rw[tj]
 congr 1
 refine wR fun m=> ?_
 rw[eW]
 by_cases hn:m<n
 ·rw[sB hn,nG,cB,cF (by rw[h];exact hn)]
  rfl
 ·rw[fb (by rw[h];omega),fb (by simp;omega)]
  rfl
theorem aU.er{dead:Nat->Bool}{τ:U.Ty}{xs:List (U.T τ)}{b cap:Nat}{cur:Array Value}{vs:List Value}{fl:List (List Nat)}(h2:w.heap[b]? =some (.cells cur (E.tid τ) (0,0)))(h3:xs.length<=cap)(h4:cap<=maxLen)
  (h5:cur.size=cap*U.wd τ) (h6:cur.toList.take (xs.length*U.wd τ)=vs) (h7:te E w F dead τ xs vs fl):aU E w F dead ⟨τ,xs⟩ (.slice (some ⟨b,0,none⟩) xs.length cap) (b::fl.flatten):=by
 have hle:xs.length*U.wd τ<=cap*U.wd τ:=kS _ h3
 refine .inr ⟨b,cap,cur,fun n=>vs.getD n undef,fun n=>fl.getD n [],rfl,h2,h3,h4,h5,fun i hi=> ?_,h7.2.2.2.1,h7.2.2.2.2,by rw[D2 h7.2.1]⟩
 have gu:i<xs.length*U.wd τ:=hi
 have GP:vs[i]? =some (vs.getD i undef):=ba (by rw[h7.1];exact gu)
 refine⟨?_,h7.2.2.1 _ (n6 GP)⟩
 show cur[i]? =some (vs.getD i undef)
 rw[<-GP,<-h6,fg,if_pos gu,rK]
theorem aU.rows{dead:Nat->Bool}{x:fx U}{v:Value}{l:List Nat}(h:aU E w F dead x v l):
  (x.xs=[]/\(∃ad,v=.slice ad 0 0)/\l=[])\/
  ∃(b cap:Nat)(cur:Array Value)(vs:List Value)(fl:List (List Nat)),v=.slice (some ⟨b,0,none⟩) x.xs.length cap/\w.heap[b]? =some (.cells cur (E.tid x.τ) (0,0))/\x.xs.length<=cap/\cap<=maxLen/\
   cur.size=cap*U.wd x.τ/\cur.toList.take (x.xs.length*U.wd x.τ)=vs/\te E w F dead x.τ x.xs vs fl/\l=b::fl.flatten:=by
 rcases h with h|⟨b,cap,cur,vs,bM,h1,h2,h3,h4,h5,h6,h7,h8,h9⟩
 ·exact .inl h
 have hle:x.xs.length*U.wd x.τ<=cap*U.wd x.τ:=kS _ h3
 have gZ:∀n,n<x.xs.length*U.wd x.τ->(cur.toList.take (x.xs.length*U.wd x.τ))[n]? =some (vs n):=fun n hn=>by
  rw[fg,if_pos hn,rK];exact(h6 n hn).1
 refine .inr ⟨b,cap,cur,_,(List.range (x.xs.length*U.wd x.τ)).map bM,h1,h2,h3,h4,h5,rfl,⟨by simp;omega,by simp,fun u hu=> ?_,fun i y j c hi hx hj=> ?_,fun i j hi hj=> ?_⟩,by rw[h9,tj]⟩
 ·obtain⟨n,hn,rfl⟩:=nJ hu
  have ju:n<x.xs.length*U.wd x.τ:=by simp at hn;omega
  have jV:=gZ n ju
  rw[cF hn] at jV
  rw[zp jV]
  exact(h6 n ju).2
 ·have bU:=bm hx hj
  have:=h7 i y j c hi hx hj
  rw[cB,gZ _ bU,cB,eW,sB bU]
  exact this
 ·rw[cB,eW]
  by_cases bU:i*U.wd x.τ+j<x.xs.length*U.wd x.τ
  ·rw[sB bU];exact h8 i j hi hj
  ·rw[fb (by simp;omega)];rfl
theorem aO.mU{deep:Bool}{τ:U.Ty}{xs:List (U.T τ)}{vs:List Value}{fl:List (List Nat)}(h:aO E w F deep τ xs vs fl):∀v∈vs,bD v:=by
 intro v hv
 obtain⟨n,hn,rfl⟩:=nJ hv
 obtain⟨i,x,j,c,rfl,_,_,hx,hj⟩:=Dp (xs:=xs) (by rw[<-h.1];exact hn)
 have:=h.2.2 i x j c hx hj
 rw[cB,cF hn] at this
 exact this.bn
theorem aO.dead{τ:U.Ty}{xs zs:List (U.T τ)}{vs us:List Value}{fl:List (List Nat)}(h:aO E w F true τ xs vs fl)(hl:us.length=zs.length*U.wd τ)(ho:∀u∈us,bD u):
  te E w F (fun i=>Nat.ble xs.length i) τ (xs++zs) (vs++us) (fl++List.replicate (zs.length*U.wd τ) []):=by
 refine⟨by simp[h.1,hl,j8],by simp[h.2.1,j8],fun v hv=> ?_,fun i x j c hi hx hj=> ?_,fun i j hi hj=> ?_⟩
 ·rcases cY.1 hv with hv|hv
  ·exact h.mU v hv
  ·exact ho v hv
 ·have gu:i<xs.length:=by
   rcases fA i xs.length with g|g
   ·exact g
   ·exact absurd ((Nat.ble_eq_true_of_le g).symm.trans hi) (by decide)
  rw[j7 gu] at hx
  have:=bm hx hj
  rw[qD (by rw[h.1];exact this),qD (by rw[h.2.1];exact this)]
  exact h.2.2 i x j c hx hj
 ·have gu:=qj hi
  have:xs.length*U.wd τ<=i*U.wd τ:=kS _ gu
  rw[tv (by rw[h.2.1];omega),oT]
theorem DP:∀{xs:List (SV U)}{us:List Value}{wd:Nat},mW wd xs=true->xs.length=us.length->(∀(i:Nat)(x:SV U)(u:Value),xs[i]? =some x->us[i]? =some u->RS E w F kv fp bad x u)->
  (∀u∈us,u.cells.size=wd)/\∀v∈us.flatMap (fun u=>u.cells.toList),bD v
 |[],[],_,_,_,_=>⟨by simp,by simp⟩
 |[],_::_,_,_,hl,_=>by simp at hl
 |_::_,[],_,_,hl,_=>by simp at hl
 |x::xs,u::us,wd,hk,hl,hx=>by
  cases x with
  |jx l=>cases hk
  |fn p=>cases hk
  |ox g l=>cases hk
  |v x=>
   simp only[mW,c9] at hk
   obtain⟨r1,r2⟩:=tz (hx 0 (.v x) u rfl rfl)
   obtain⟨i1,i2⟩:=DP hk.2 (by simpa using hl) (fun i z v hz hv=>hx (i+1) z v (by simpa using hz) (by simpa using hv))
   refine⟨fun v hv=> ?_,fun v hv=> ?_⟩
   ·rcases dJ.1 hv with rfl|hv
    ·rw[r2];exact eI hk.1
    ·exact i1 v hv
   ·rw[mf,cY] at hv
    rcases hv with hv|hv
    ·obtain⟨n,hn,rfl⟩:=nJ hv
     have ju:n<x.cs.length:=by rw[r1.1];exact hn
     exact(r1.2 n x.cs[n] _ (cF ju) (cF hn)).1
    ·exact i2 v hv
theorem Ja(hE:E.Ok)(h:aE E pm F kv fp σ a w){o:Oper}{d:Nat}(ho:o.dst=some d)(hd:d<σ.n){t e:TypeId}{len:Nat}{parts:Array (Nat×Operand)}(gy:o.op=.buildSlice t len parts)
  {τ:U.Ty} (iT:E.elem t=some e) (hc:E.code e=some τ) {xs:List (SV U)} (hx:xs.length=parts.toList.length)
  (hv:∀(i:Nat)(x:SV U)(q:Nat×Operand),xs[i]? =some x->parts.toList[i]? =some q->RS E w F kv fp (ay σ) x (a.eval q.2))
  (hlen:(parts.toList.map (·.1)).length=len) (Bk:((parts.toList.map (·.1)).zipIdx).all (fun(a,b)=>Nat.beq a b)=true) (Oe:len*U.wd τ<=1000000)
  (KS:mW (U.wd τ) xs=true)
  (fj:¬Names σ (d,0)) {next:Act->World->Prop} {Q:Exit->Act->World->Prop}
  (hn:∀F kv fp a' w',aE E pm F kv fp (AM.apply o ⟨some (one (.ref (d,0) [])),[(0,.part ⟨τ,List.replicate len (U.bj τ)⟩ (fun _=>true))],[],[],[]⟩ σ) a' w'->next a' w'):o.wp E.P a w next Q:=by
 obtain⟨kr,i,z,hi,hz,b9,lg,qg,_⟩:=hE.code e τ hc
 have hu:=mO iT
 have hw:=U.dq τ
 obtain⟨r2,r3⟩:=DP (us:=parts.toList.map fun q=>a.eval q.2) KS (by simp[hx]) (fun i x u tN gG=>by
  rw[eW] at gG
  cases hq:parts.toList[i]? with
  |none=>rw[hq] at gG;cases gG
  |some q=>rw[hq] at gG;cases gG;exact hv i x q tN hq)
 have pf:parts.toList.length=len:=by rw[<-hlen];simp
 have sa:(parts.map fun(i,x)=>(i,a.eval x)).toList=((parts.toList.map fun q=>a.eval q.2).zipIdx 0).map fun x=>(x.2,x.1):=by
  rw[Cv]
  refine wR fun n=> ?_
  rw[eW,eW,Gx,eW]
  cases hq:parts.toList[n]? with
  |none=>rfl
  |some q=>
   simp only[nG,bH,fB,kO,and_true]
   have h1:((parts.toList.map (·.1)).zipIdx)[n]? =some (q.1,n):=by
    rw[Gx,eW,hq];simp
   have:=(qc.1 Bk) (q.1,n) (n6 h1)
   exact eI this
 have AN:¬len*i.size>2^24:=by rw[b9];omega
 have sd:len<=maxLen:=by
  have:len<=len*U.wd τ:=Nat.le_mul_of_pos_right _ hw
  simp only[maxLen];omega
 have rc:∀(l:List Value),(∀u∈l,u.cells.size=U.wd τ)->(l.flatMap fun u=>u.cells.toList).length=l.length*U.wd τ:=by
  intro l
  induction l with
  |nil=>intro _;simp
  |cons u l ih=>
   intro hl
   rw[mf,kR,ih (fun v hv=>hl v (d_ _ hv)),nI,hl u gp,kQ,j8,uA,BX]
 have fin:∀cells:Array Value,cells.toList=(parts.toList.map fun q=>a.eval q.2).flatMap (fun u=>u.cells.toList)->
   (Instr.buildSlice t len (parts.map fun(i,x)=>(i,a.eval x))).run E.P w=.ok (.slice (some ⟨w.heap.size,0,none⟩) len len) (w.alloc (.cells cells e))->o.wp E.P a w next Q:=by
  intro cells jT cx
  have ck:cells.toList.length=len*U.wd τ:=by rw[jT,rc _ r2];simp[pf]
  have ik:cells.size=len*U.wd τ:=by simpa using ck
  have cR:te E (w.alloc (.cells cells e)) F (fun _=>true) τ (List.replicate len (U.bj τ)) cells.toList (List.replicate (len*U.wd τ) []):=by
   refine⟨by rw[ck];simp,by simp,fun v hv=>r3 v (by rw[<-jT];exact hv),fun i x j c hi=>Bool.noConfusion hi,fun i j _ _=>oT⟩
  have ff:=h.nv (w':=w.alloc (.cells cells e)) (F':=F) ho hd (.part ⟨τ,List.replicate len (U.bj τ)⟩ (fun _=>true)) (one (.ref (d,0) [])) [] [] (.slice (some ⟨w.heap.size,0,none⟩) len len) (.slice (some ⟨w.heap.size,0,none⟩) len len) [w.heap.size] fj
   (fun bad=>bY ⟨⟨rfl,trivial⟩,.inr (by simp only[RA,im];rfl)⟩)
   (fun bad=>by
    have:=aU.er (F:=F) (b:=w.heap.size) (cap:=len) (by rw[kr];exact heap_alloc_new w _) (by simp) sd ik (by rw[zt (by rw[ck];simp)]) cR
    rw[Gy,k_] at this
    exact this)
   (fun b hb=>⟨hb,l8 w _ (h.iz b hb)⟩) (fun b hb=> .inl hb) (fun k e _ he b hb=>l8 w _ (oV h he hb)) (by simp)
   (fun b hb=>by
    rw[gn.1 hb]
    exact⟨fun hF=>by have:=h.iz _ hF;omega,.inr ⟨nC _,by simp⟩⟩) (bB.alloc _ _ _)
  refine gW (v:=.slice (some ⟨w.heap.size,0,none⟩) len len) (w':=w.alloc (.cells cells e)) ?_ (hn F _ _ _ _ ff)
  unfold execOp;simp only[gy];exact b8 cx
 by_cases h0:len=0
 ·have sb:parts.toList=[]:=qk (by omega)
  have vB:parts= #[]:=la sb
  subst h0
  refine fin #[] (by simp[sb]) ?_
  simp[Instr.buildSlice,run_underlying hu,Go.sizeOf,typeInfo,hi,vB,Instr.fill,newRow,Array.range_zero']
 ·have pe:¬len*i.size=0:=by
   rw[b9]
   have:=Nat.mul_pos (Nat.pos_of_ne_zero h0) hw
   omega
  have vP:=Great.fill_whole (s:=i.size) (by rw[b9];exact hw) (parts.toList.map fun q=>a.eval q.2) ((Array.range (len*i.size)).map (z.cells[·%z.cells.size]!)) (fun v hv=>by rw[b9];exact r2 v hv) (by simp[pf])
  refine fin ((parts.toList.map fun q=>a.eval q.2).flatMap fun v=>v.cells.toList).toArray rfl (run_buildSlice w t e len _ _ i z hu hi hz AN pe ?_)
  rw[sa]
  exact vP
theorem Ka(hE:E.Ok)(h:aE E pm F kv fp σ a w){o:Oper}{d:Nat}(ho:o.dst=some d)(hd:d<σ.n){cl:Call}{t e:TypeId}{s x:Operand}(gy:o.op=.call cl)(ck:cl.callee=.builtin .append)
  (dE:cl.args.toList=[s,x]) (mq:cl.argTypes.toList=[t,t]) {τ:U.Ty} (iT:E.elem t=some e) (hc:E.code e=some τ) {ss sx:SV U} {ys yx:AC U}
  (hs:RS E w F kv fp (ay σ) ss (a.eval s)) (xP:i_ ss=some ys) (hx:RS E w F kv fp (ay σ) sx (a.eval x)) (EM:i_ sx=some yx)
  {rs:List Key} {ps:List Prop} {xs zs:List (U.T τ)} {ks ks':List Key} {pall:List Prop}
  (A1:iM τ (restrict σ.aw rs) ys=some (ps,xs,ks,true)) (qV:o7 τ (restrict σ.aw rs) yx=some (zs,ks')) (hp:∀p∈ps,p) (pj:(ks++ks').Nodup) (hle:xs.length+zs.length<=4294967296)
  (fj:¬Names σ (d,0)) {next:Act->World->Prop} {Q:Exit->Act->World->Prop}
  (hn:∀F kv fp a' w',aE E pm F kv fp (AM.apply o ⟨some (one (.ref (d,0) [])),[(0,.part ⟨τ,xs++zs⟩ (fun i=>Nat.ble xs.length i))],ks++ks',[],pall⟩ σ) a' w'->next a' w'):o.wp E.P a w next Q:=by
 obtain⟨kr,i,z,hi,hz,b9,lg,qg,_⟩:=hE.code e τ hc
 have hu:=mO iT
 have hw:=U.dq τ
 obtain⟨ll,eH,l,qf,nT,tY⟩:=DF h A1 hp (du hs xP)
 obtain⟨m8,us,fS,AH,en⟩:(∀k∈ks',(σ.aw k).isSome=true)/\∃us,us.length=zs.length*U.wd τ/\(∀u∈us,bD u)/\Src E.P w t (a.eval x) (U.wd τ) zs.length us:=by
  unfold o7 at qV
  split at qV
  ·rename_i k
   split at qV
   ·rename_i y dead he
    split at qV
    ·rename_i PE yP
     cases qV
     have:=aP yP
     subst this
     have a_:=cQ he
     have h1:a.eval x=kv k:=aA (du hx EM) rfl
     have h2:aU E w F dead ⟨τ,zs⟩ (kv k) (fp k):=h.aJ k _ a_
     rw[<-h1] at h2
     refine⟨by simp[a_],?_⟩
     rcases h2.rows with⟨h3,⟨ad,h4⟩,h5⟩|⟨b,cap,cur,vs,fl,h3,h4,h5,h6,h7,h8,h9,jV⟩
     ·simp only at h3;subst h3
      exact⟨[],by simp,by simp,by rw[h4];exact Src.slice hu (by simp) (fun hh=>by simp at hh)⟩
     ·simp only at h3 h4 h5 h7 h8 h9
      refine⟨vs,h9.1,h9.2.2.1,?_⟩
      rw[h3]
      refine Src.slice hu (h9.1) (fun _=>⟨b,0,rfl,fun i u gG=> ?_⟩)
      rw[<-h8,fg] at gG
      split at gG
      ·rw[cell_of_row w b _ cur _ (0,0) h4];simpa using gG
      ·cases gG
    ·cases qV
   ·cases qV
  ·cases qV
 rw[<-b9] at en
 have cM:∀k∈ks++ks',(σ.aw k).isSome=true:=fun k hk=>(cY.1 hk).elim (eH k) (m8 k)
 have exec:∀{v w1},(Builtin.append_ #[t,t] o.type #[a.eval s,a.eval x]).run E.P w=.ok v w1->(execOp a.eval o).run E.P w=.ok (.value v) w1:=by
  intro v w1 hr
  have ha:cl.args= #[s,x]:=la dE
  have ht:cl.argTypes= #[t,t]:=la mq
  unfold execOp;simp only[gy]
  simp[resolve,ck,ha,ht,invoke,builtin,hr]
 have sd:∀{n:Nat},n<=4294967296->n<=maxLen:=fun hh=>by simp only[maxLen];omega
 have Ca:∀k∈ks++ks',∀b∈fp k,¬F b:=fun k hk b hb=>by
  obtain⟨e,he⟩:=eD.1 (cM k hk)
  exact(h.bt k e b he hb).1
 have GZ:∀k∈ks++ks',∀b∈fp k,(pm.W b\/pm.w0.heap.size<=b)/\b<w.heap.size:=fun k hk b hb=>by
  obtain⟨e,he⟩:=eD.1 (cM k hk)
  exact(h.bt k e b he hb).2
 have tQ:∀(fl:List (List Nat)),(fl++List.replicate (zs.length*U.wd τ) ([]:List Nat)).flatten=fl.flatten:=fun fl=>by rw[qb,k_,oG]
 have grow:∀(vs:List Value)(fl:List (List Nat)),aO E w F true τ xs vs fl->fl.flatten.Nodup->(∀b∈fl.flatten,∃k∈ks,b∈fp k)->
   ∀{cap:Nat}{cur:Array Value}{w1:World},(∀b,b<w.heap.size->w1.heap[b]? =w.heap[b]?)->bB (fun b=>pm.W b\/pm.w0.heap.size<=b) w w1->w.heap.size<w1.heap.size->
   w1.heap[w.heap.size]? =some (.cells cur (E.tid τ) (0,0))->(xs++zs).length<=cap->cap<=maxLen->cur.size=cap*U.wd τ->cur.toList.take ((xs++zs).length*U.wd τ)=vs++us->
   next (a.put o.dst (.slice (some ⟨w.heap.size,0,none⟩) (xs++zs).length cap)) w1:=by
  intro vs fl h1 h2 h3 cap cur w1 kq fi jf hb ec hm ik gY
  have bU:∀b∈fl.flatten,b<w.heap.size:=fun b hb=>by obtain⟨k,hk,hb⟩:=h3 b hb;exact(GZ k (by simp[hk]) b hb).2
  have ff:=h.nv ho hd (.part ⟨τ,xs++zs⟩ (fun i=>Nat.ble xs.length i)) (one (.ref (d,0) [])) (ks++ks') pall (.slice (some ⟨w.heap.size,0,none⟩) (xs++zs).length cap) (.slice (some ⟨w.heap.size,0,none⟩) (xs++zs).length cap) (w.heap.size::fl.flatten) (w':=w1) (F':=F) fj
   (fun bad=>bY ⟨⟨rfl,trivial⟩,.inr (by simp only[RA,im];rfl)⟩)
   (fun bad=>by
    have:=aU.er hb ec hm ik gY ((h1.bu (fun b' ap=>⟨ap,kq b' (h.iz b' ap)⟩) (fun b' ap=>kq b' (bU b' ap))).dead fS AH)
    rw[tQ] at this
    exact this)
   (fun b' ap=>⟨ap,kq b' (h.iz b' ap)⟩) (fun b' ap=> .inl ap) (fun k e _ he b' ap=>kq b' (oV h he ap))
   (gx.2 ⟨fun ap=>by have:=bU _ ap;omega,h2⟩)
   (fun b' ap=>by
    rcases dJ.1 ap with rfl|ap
    ·exact⟨fun hF=>by have:=h.iz _ hF;omega,.inr ⟨nC _,jf⟩⟩
    ·obtain⟨k,hk,cn⟩:=h3 b' ap
     exact⟨Ca k (by simp[hk]) b' cn,.inl ⟨k,by simp[hk],eH k hk,cn⟩⟩) fi
  exact hn _ _ _ _ _ ff
 have gb:∀{b cap:Nat}{cur':Array Value}{vs:List Value}{fl:List (List Nat)}{w1:World},aO E w F true τ xs vs fl->l=b::fl.flatten->(∀b',b'≠b->w1.heap[b']? =w.heap[b']?)->w1.heap.size=w.heap.size->
   w1.os=w.os->w1.tape=w.tape->w1.output=w.output->w1.heap[b]? =some (.cells cur' (E.tid τ) (0,0))->(xs++zs).length<=cap->cap<=maxLen->cur'.size=cap*U.wd τ->cur'.toList.take ((xs++zs).length*U.wd τ)=vs++us->
   next (a.put o.dst (.slice (some ⟨b,0,none⟩) (xs++zs).length cap)) w1:=by
  intro b cap cur' vs fl w1 cR hl kq jf KB Kr jQ hb ec hm ik gY
  subst hl
  have cn:∃k∈ks,b∈fp k:=tY b (by simp)
  obtain⟨kb,t_,pq⟩:=cn
  have Bz:¬F b:=Ca kb (by simp[t_]) b pq
  have fi:bB (fun b=>pm.W b\/pm.w0.heap.size<=b) w w1:=⟨KB,Kr,jQ,by omega,fun k hk qW=>kq k (fun e=>qW (e▸(GZ kb (by simp[t_]) b pq).1))⟩
  have pi:∀k e,k∉ks++ks'->σ.aw k=some e->∀b'∈fp k,w1.heap[b']? =w.heap[b']? :=fun k e hk he b' ap=>kq b' (fun e'=>by
   subst e'
   obtain⟨eb,K5⟩:=eD.1 (eH kb t_)
   exact h.apart kb k eb e b' (fun e'=>hk (by subst e';simp[t_])) K5 he pq ap)
  have vX:=(gx.1 nT).1
  have ff:=h.nv ho hd (.part ⟨τ,xs++zs⟩ (fun i=>Nat.ble xs.length i)) (one (.ref (d,0) [])) (ks++ks') pall _ (.slice (some ⟨b,0,none⟩) (xs++zs).length cap) (b::fl.flatten) (w':=w1) (F':=F) fj
   (fun bad=>bY ⟨⟨rfl,trivial⟩,.inr (by simp only[RA,im];rfl)⟩)
   (fun bad=>by
    have:=aU.er hb ec hm ik gY ((cR.bu (fun b' ap=>⟨ap,kq b' (fun e=>Bz (e▸ap))⟩) (fun b' ap=>kq b' (fun e=>vX (e▸ap)))).dead fS AH)
    rw[tQ] at this
    exact this)
   (fun b' ap=>⟨ap,kq b' (fun e=>Bz (e▸ap))⟩) (fun b' ap=> .inl ap) pi nT
   (fun b' ap=>by obtain⟨k,hk,ap⟩:=tY b' ap;exact⟨Ca k (by simp[hk]) b' ap,.inl ⟨k,by simp[hk],eH k hk,ap⟩⟩) fi
  exact hn _ _ _ _ _ ff
 have AG:∀u∈us,u.oneCell'=true:=fun u hu=>(AH u hu).1
 have m9:(xs.length+zs.length)*i.bytes<=140737488355328:=by
  have:=Nat.mul_le_mul hle qg
  omega
 by_cases mo:zs.length=0
 ·have vp:zs=[]:=qk mo
  subst vp
  have jP:us=[]:=qk (by simpa using fS)
  rcases qf.rows with⟨h3,⟨ur,h4⟩,h5⟩|⟨b,cap,cur,vs,fl,h3,h4,h5,h6,h7,h8,h9,jV⟩
  ·simp only at h3;subst h3
   have hr:=exec (v:=.slice ur 0 0) (w1:=w) (by rw[h4];exact w8 w hu hi _ _ _ (by rw[jP] at en;exact en) (nC _))
   refine gW hr ?_
   have ff:=h.nv ho hd (.part ⟨τ,[]⟩ (fun i=>Nat.ble ([]:List (U.T τ)).length i)) (one (.ref (d,0) [])) (ks++ks') pall (.slice ur 0 0) (.slice ur 0 0) [] (w':=w) (F':=F) fj
    (fun bad=>bY ⟨⟨rfl,trivial⟩,.inr (by simp only[RA,im];rfl)⟩) (fun bad=> .inl ⟨rfl,⟨ur,rfl⟩,rfl⟩) (fun b hb=>⟨hb,rfl⟩) (fun b hb=> .inl hb) (fun _ _ _ _ _ _=>rfl) (by simp) (by simp) (bB.refl _ _)
   exact hn _ _ _ _ _ ff
  ·simp only at h3 h4 h5 h7 h8 h9
   have hr:=exec (v:=.slice (some ⟨b,0,none⟩) xs.length cap) (w1:=w) (by rw[h3];exact w8 w hu hi _ _ _ (by rw[jP] at en;exact en) h5)
   refine gW hr ?_
   have:=gb (b:=b) (cap:=cap) (cur':=cur) (vs:=vs) (fl:=fl) (w1:=w) h9 jV (fun _ _=>rfl) rfl rfl rfl rfl h4 (by simpa using h5) h6 h7 (by rw[jP,oG,oG];exact h8)
   simpa using this
 ·have A7:us.length=zs.length*i.size:=by rw[b9];exact fS
  have grown:∀(vs:List Value)(fl:List (List Nat)),vs.length=xs.length*U.wd τ->aO E w F true τ xs vs fl->fl.flatten.Nodup->(∀b∈fl.flatten,∃k∈ks,b∈fp k)->
    ∀o8:Nat,o8<xs.length+zs.length->(Builtin.append_ #[t,t] o.type #[a.eval s,a.eval x]).run E.P w=
     .ok (.slice (some ⟨w.heap.size,0,none⟩) (xs.length+zs.length) (grownCap w (xs.length+zs.length) o8 e)) (w.drew.alloc (.cells (vs.toArray++us.toArray++Builtin.zeroCells z.cells (grownCap w (xs.length+zs.length) o8 e-(xs.length+zs.length))) e))->
    o.wp E.P a w next Q:=by
   intro vs fl oc h1 h2 h3 o8 hold cx
   refine gW (exec cx) ?_
   have Bm:=grownCap_ge w (xs.length+zs.length) o8 e
   have:=grow vs fl h1 h2 h3 (cap:=grownCap w (xs.length+zs.length) o8 e) (cur:=vs.toArray++us.toArray++Builtin.zeroCells z.cells (grownCap w (xs.length+zs.length) o8 e-(xs.length+zs.length)))
    (w1:=w.drew.alloc (.cells (vs.toArray++us.toArray++Builtin.zeroCells z.cells (grownCap w (xs.length+zs.length) o8 e-(xs.length+zs.length))) e))
    (fun b hb=>l8 w.drew _ hb) ((bB.drew _ _).trans (bB.alloc _ _ _)) (by simp) (by rw[kr];exact heap_alloc_new w.drew _) (by simpa using Bm) (grownCap_le_maxLen w _ o8 e (sd hle))
    (by
     simp only[Array.size_append,yt,size_zeroCells,lg,oc,fS,<-j8]
     congr 1;omega)
    (by
     have nT:((xs++zs).length*U.wd τ)=(vs++us).length:=by simp[oc,fS,j8]
     simp only[Array.toList_append,kP]
     rw[<-kP,nT]
     exact List.take_left)
   simpa using this
  rcases qf.rows with⟨h3,⟨ur,h4⟩,h5⟩|⟨b,cap,cur,vs,fl,h3,h4,h5,h6,h7,h8,h9,jV⟩
  ·simp only at h3;subst h3
   refine grown [] [] (by simp) aO.nil (by simp) (by simp) 0 (by omega) ?_
   rw[h4]
   simp only[j9,kO] at m9 hle⊢
   cases ur with
   |none=>
    have hr:=Dn (ty:=o.type) w hu hi hz en (by omega) (by omega) (by omega)
    simpa using hr
   |some a'=>
    have hr:=w9 (ty:=o.type) w hu hi hz a' 0 0 [] (by simp) (by simp) en (by omega) (by omega) (growslice_fits (by omega) (by simpa using m9))
    simpa using hr
  ·simp only at h3 h4 h5 h7 h8 h9
   have oc:vs.length=xs.length*U.wd τ:=h9.1
   by_cases eu:xs.length+zs.length<=cap
   ·have re:xs.length*i.size+us.length<=cur.size:=by rw[A7,b9,h7,<-j8];exact kS _ eu
    have hr:=Dm (ty:=o.type) w hu hi b xs.length cap cur (by rw[<-kr];exact h4) en AG eu re
    rw[<-h3] at hr
    refine gW (exec hr) ?_
    have:=gb (b:=b) (cap:=cap) (cur':=(cur.toList.take (xs.length*i.size)++us++cur.toList.drop (xs.length*i.size+us.length)).toArray) (vs:=vs) (fl:=fl)
     (w1:=w.setRow b (cur.toList.take (xs.length*i.size)++us++cur.toList.drop (xs.length*i.size+us.length)).toArray) h9 jV (fun b' ap=>setRow_other w b b' _ ap) (by simp) rfl rfl rfl (setRow_heap w b cur _ _ _ h4) (by simpa using eu) h6
     (by
      simp only[yt,kR,jw,n0,nI]
      omega)
     (by
      have nT:((xs++zs).length*U.wd τ)=(vs++us).length:=by simp[oc,fS,j8]
      rw[b9,h8,nT]
      exact List.take_left)
    simpa using this
   ·refine grown vs fl oc h9 (by rw[jV] at nT;exact(gx.1 nT).2) (fun b' ap=>tY b' (by rw[jV];simp[ap])) cap (by omega) ?_
    rw[h3]
    refine w9 (ty:=o.type) w hu hi hz ⟨b,0,none⟩ xs.length cap vs (by rw[b9];exact oc) (fun j u hu=> ?_) en (by omega) (by omega) (growslice_fits (by omega) m9)
    rw[Addr.add_mid,kO,cell_of_row w b _ cur _ (0,0) h4]
    rw[<-h8,fg] at hu
    split at hu
    ·simpa using hu
    ·cases hu
theorem HQ(h:aE E pm F kv fp σ a w){o:Oper}(ho:o.dst=none){t:TypeId}{x y:Operand}(gy:o.op=.store t x y){sx:SV U}{yx:AC U}{z:AV U}{n:Nat}{rs:List Key}{r:az U}
  (hx:RS E w F kv fp (ay σ) sx (a.eval x)) (kz:i_ sx=some yx) (hy:RS E w F kv fp (ay σ) (.v z) (a.eval y)) (hs:E.size t=some n) (hn:n=z.cs.length)
  (hr:kY (restrict σ.aw rs) z yx=some r) (hp:∀p∈r.pre,p) {next:Act->World->Prop} {Q:Exit->Act->World->Prop}
  (A2:∀F kv fp a' w',aE E pm F kv fp (AM.apply o r σ) a' w'->next a' w'):o.wp E.P a w next Q:=by
 have mr:=du hx kz
 obtain⟨mn,nN⟩:=tz hy
 unfold kY at hr
 split at hr
 rotate_left
 ·cases hr
 rename_i k i wd
 split at hr
 rotate_left
 ·cases hr
 rename_i x0 dead he
 have a_:=cQ he
 rw[bV] at hr
 split at hr
 rotate_left
 ·cases hr
 rename_i eK
 simp only[c9] at eK
 have je:=eI eK.1
 have Ez:=eI eK.2
 subst je
 split at hr
 rotate_left
 ·cases hr
 rename_i qs ds ks gY
 split at hr
 rotate_left
 ·cases hr
 rename_i yv sj
 rw[bV] at hr
 split at hr
 rotate_left
 ·cases hr
 rename_i hJ
 cases hr
 have lT:=gx.1 (iL.1 hJ)
 have hi:i<x0.xs.length:=hp _ (by simp)
 obtain⟨t1,t2,t3,_⟩:=rO h gY (fun q hq=>hp q (by simp[hq])) mn lT.2
 obtain⟨fl,f1,f2,f3,f4⟩:=t3 rfl
 have pn:=U.dN x0.τ ds yv sj
 have K6:ds.length=U.wd x0.τ:=by rw[<-pn,U.aK]
 have eG:aU E w F dead x0 (kv k) (fp k):=h.aJ k _ a_
 have fc:=h.nodup k _ a_
 rcases eG with⟨h0,_⟩|⟨b,cap,cur,vs,bM,h1,hb,hc,hm,ik,hv,AR,dD,g_⟩
 ·rw[h0] at hi;simp at hi
 obtain⟨bb,oo,nn,cc,eZ,EV⟩:=aA mr (by simp[cd])
 simp only[fw] at eZ
 rw[h1] at eZ
 simp only[Value.slice.injEq,bH,Addr.mk.injEq,and_true] at eZ
 obtain⟨⟨e1,e2⟩,_,_⟩:=eZ
 rw[e1,e2,kO,qh] at EV
 have hN:i*U.wd x0.τ+U.wd x0.τ<=x0.xs.length*U.wd x0.τ:=by
  have:(i+1)*U.wd x0.τ<=x0.xs.length*U.wd x0.τ:=kS _ hi
  rw[j8,uA] at this
  exact this
 have PZ:x0.xs.length*U.wd x0.τ<=cap*U.wd x0.τ:=kS _ hc
 have qW:n=U.wd x0.τ:=by rw[hn,Ez]
 have Cj:(a.eval y).cells.toList.length=U.wd x0.τ:=by rw[nI,nN,Ez]
 have cx:=w5 (P:=E.P) (n:=n) (off:=i*U.wd x0.τ) (v:=a.eval y) hs (by rw[nN];exact hn.symm) mn.bn hb (by rw[ik,qW];omega)
 rw[<-EV] at cx
 have exec:(execOp a.eval o).run E.P w=.ok .skip (w.setRow b (cur.toList.take (i*U.wd x0.τ)++(a.eval y).cells.toList++cur.toList.drop (i*U.wd x0.τ+n)).toArray):=by
  unfold execOp;simp only[gy]
  rw[Sem.run_bind,cx];rfl
 have cn:b∈fp k:=by rw[g_];simp
 have Cc:=h.bt k _ b a_ cn
 rw[g_] at fc
 obtain⟨vX,A4⟩:=gx.1 fc
 have AY:∀m,(cur.toList.take (i*U.wd x0.τ)++(a.eval y).cells.toList++cur.toList.drop (i*U.wd x0.τ+n)).toArray[m]? =
   if i*U.wd x0.τ<=m/\m<i*U.wd x0.τ+U.wd x0.τ then(a.eval y).cells.toList[m-i*U.wd x0.τ]? else cur[m]? :=by
  intro m
  have bU:(cur.toList.take (i*U.wd x0.τ)).length=i*U.wd x0.τ:=by rw[jw,nI,ik];omega
  rw[Gz,kP]
  by_cases h2:m<i*U.wd x0.τ
  ·rw[j7 (by omega),fg,if_pos h2,if_neg (by omega),rK]
  ·rw[kT (by omega),bU]
   by_cases h3:m<i*U.wd x0.τ+U.wd x0.τ
   ·rw[if_pos ⟨by omega,h3⟩,j7 (by omega)]
   ·rw[if_neg (by omega),kT (by omega),nH,Cj,qW,rK]
    congr 1;omega
 have EB:∀j,j<U.wd x0.τ->(a.eval y).cells.toList[j]? =some ((a.eval y).cells.toList.getD j undef):=fun j hj=>ba (by rw[Cj];exact hj)
 have EA:∀j,j<U.wd x0.τ->bD ((a.eval y).cells.toList.getD j undef):=fun j hj=>by
  obtain⟨c,vV⟩:∃c,ds[j]? =some c:=⟨ds[j]'(by rw[K6];exact hj),cF _⟩
  exact(f2 j c vV).bn
 let jJ:Nat->Value:=fun m=>if i*U.wd x0.τ<=m/\m<i*U.wd x0.τ+U.wd x0.τ then(a.eval y).cells.toList.getD (m-i*U.wd x0.τ) undef else vs m
 let df:Nat->List Nat:=fun m=>if i*U.wd x0.τ<=m/\m<i*U.wd x0.τ+U.wd x0.τ then fl.getD (m-i*U.wd x0.τ) [] else bM m
 have pd:∀j,j<U.wd x0.τ->jJ (i*U.wd x0.τ+j)=(a.eval y).cells.toList.getD j undef/\df (i*U.wd x0.τ+j)=fl.getD j []:=fun j hj=>by
  simp only[jJ,df]
  rw[if_pos ⟨by omega,by omega⟩,if_pos ⟨by omega,by omega⟩,show i*U.wd x0.τ+j-i*U.wd x0.τ=j by omega]
  exact⟨rfl,rfl⟩
 have jA:∀m,¬(i*U.wd x0.τ<=m/\m<i*U.wd x0.τ+U.wd x0.τ)->jJ m=vs m/\df m=bM m:=fun m hm=>⟨if_neg hm,if_neg hm⟩
 have jQ:∀{q j},j<U.wd x0.τ->q≠i->¬(i*U.wd x0.τ<=q*U.wd x0.τ+j/\q*U.wd x0.τ+j<i*U.wd x0.τ+U.wd x0.τ):=fun{q j} hj hq fy=>
  hq (xv hj (show q*U.wd x0.τ+j-i*U.wd x0.τ<U.wd x0.τ by omega) (by omega)).1
 have vO:∀j b',b'∈fl.getD j []->b'∈fl.flatten:=fun j b' ap=>by
  rcases fA j fl.length with g|g
  ·rw[cB,cF g] at ap
   exact zr.2 ⟨_,wQ g,ap⟩
  ·rw[cB,fb g] at ap;cases ap
 have KZ:fl.length=U.wd x0.τ:=by rw[f1,K6]
 have xV:∀b',b'∈fl.flatten->b'∉fp k:=fun b' ap Bx=>by
  obtain⟨k',aG,nX⟩:=f4 b' ap
  obtain⟨e',Bp⟩:=eD.1 (t2 k' aG)
  exact h.apart k' k e' _ b' (fun e=>lT.1 (e▸aG)) Bp a_ nX Bx
 have Bo:∀m,m<x0.xs.length*U.wd x0.τ->∀b',b'∈bM m->b'∈fp k:=fun m hm b' ap=>by
  rw[g_];exact d_ _ (fC.2 ⟨m,iD.2 hm,ap⟩)
 have fy:∀b'∈b::(List.range (x0.xs.length*U.wd x0.τ)).flatMap df,b'∈fl.flatten\/b'∈fp k:=by
  intro b' ap
  rcases dJ.1 ap with rfl|ap
  ·exact .inr cn
  ·obtain⟨m,lR,ap⟩:=fC.1 ap
   rw[iD] at lR
   by_cases fy:i*U.wd x0.τ<=m/\m<i*U.wd x0.τ+U.wd x0.τ
   ·have:=(pd (m-i*U.wd x0.τ) (by omega)).2
    rw[show i*U.wd x0.τ+(m-i*U.wd x0.τ)=m by omega] at this
    rw[this] at ap
    exact .inl (vO _ b' ap)
   ·rw[(jA m fy).2] at ap
    exact .inr (Bo m lR b' ap)
 have qZ:(b::(List.range (x0.xs.length*U.wd x0.τ)).flatMap df).Nodup:=by
  refine gx.2 ⟨fun ap=> ?_,?_⟩
  ·obtain⟨m,lR,ap⟩:=fC.1 ap
   rw[iD] at lR
   by_cases fy:i*U.wd x0.τ<=m/\m<i*U.wd x0.τ+U.wd x0.τ
   ·have:=(pd (m-i*U.wd x0.τ) (by omega)).2
    rw[show i*U.wd x0.τ+(m-i*U.wd x0.τ)=m by omega] at this
    rw[this] at ap
    exact xV b (vO _ b ap) cn
   ·rw[(jA m fy).2] at ap
    exact vX (fC.2 ⟨m,iD.2 lR,ap⟩)
  ·rw[D2 KZ] at f3
   rw[CB,List.pairwise_flatMap]
   refine⟨fun m lR=> ?_,?_⟩
   ·rw[<-CB]
    rw[iD] at lR
    by_cases fy:i*U.wd x0.τ<=m/\m<i*U.wd x0.τ+U.wd x0.τ
    ·have:=(pd (m-i*U.wd x0.τ) (by omega)).2
     rw[show i*U.wd x0.τ+(m-i*U.wd x0.τ)=m by omega] at this
     rw[this]
     exact xp f3 (t:=m-i*U.wd x0.τ) (iD.2 (by omega))
    ·rw[(jA m fy).2]
     exact xp A4 (iD.2 lR)
   ·refine List.Pairwise.imp_of_mem ?_ (List.nodup_range (n:=x0.xs.length*U.wd x0.τ))
    intro m m' tV qe aX b1 hM b2 il iw
    subst iw
    rw[iD] at tV qe
    by_cases fy:i*U.wd x0.τ<=m/\m<i*U.wd x0.τ+U.wd x0.τ
    ·have e1:=(pd (m-i*U.wd x0.τ) (by omega)).2
     rw[show i*U.wd x0.τ+(m-i*U.wd x0.τ)=m by omega] at e1
     rw[e1] at hM
     by_cases Bj:i*U.wd x0.τ<=m'/\m'<i*U.wd x0.τ+U.wd x0.τ
     ·have e2:=(pd (m'-i*U.wd x0.τ) (by omega)).2
      rw[show i*U.wd x0.τ+(m'-i*U.wd x0.τ)=m' by omega] at e2
      rw[e2] at il
      exact uY f3 (t:=m-i*U.wd x0.τ) (t':=m'-i*U.wd x0.τ) (iD.2 (by omega)) (iD.2 (by omega)) (fun e=>aX (by omega)) hM il
     ·rw[(jA m' Bj).2] at il
      exact xV b1 (vO _ b1 hM) (Bo m' qe b1 il)
    ·rw[(jA m fy).2] at hM
     by_cases Bj:i*U.wd x0.τ<=m'/\m'<i*U.wd x0.τ+U.wd x0.τ
     ·have e2:=(pd (m'-i*U.wd x0.τ) (by omega)).2
      rw[show i*U.wd x0.τ+(m'-i*U.wd x0.τ)=m' by omega] at e2
      rw[e2] at il
      exact xV b1 (vO _ b1 il) (Bo m tV b1 hM)
     ·rw[(jA m' Bj).2] at il
      exact uY A4 (iD.2 tV) (iD.2 qe) aX hM il
 have jU:∀b',F b'->F b'/\(w.setRow b (cur.toList.take (i*U.wd x0.τ)++(a.eval y).cells.toList++cur.toList.drop (i*U.wd x0.τ+n)).toArray).heap[b']? =w.heap[b']? :=fun b' ap=>
  ⟨ap,setRow_other w b b' _ (fun e=>Cc.1 (e▸ap))⟩
 have iq:∀b',b'≠b->(w.setRow b (cur.toList.take (i*U.wd x0.τ)++(a.eval y).cells.toList++cur.toList.drop (i*U.wd x0.τ+n)).toArray).heap[b']? =w.heap[b']? :=fun b' ap=>setRow_other w b b' _ ap
 refine uO exec (A2 F kv (aL fp k (b::(List.range (x0.xs.length*U.wd x0.τ)).flatMap df)) _ _ (h.wV ho k _ _ a_ ks _ _ lT.1 ?_ jU (fun b' ap=> .inl ap) ?_ qZ ?_ ?_))
 ·intro bad io
  show aU E _ F _ ⟨x0.τ,x0.xs.set i yv⟩ (kv k) _
  refine .inr ⟨b,cap,_,jJ,df,by rw[h1,th],setRow_heap w b cur _ _ _ hb,by rw[th];exact hc,hm,?_,fun m lR=> ?_,fun q xq j c hq Ni hj=> ?_,fun q j hq hj=> ?_,by rw[th]⟩
  ·simp only[yt,kR,jw,n0,nI]
   have:=Cj
   rw[nI] at this
   rw[this,ik,qW];omega
  ·simp only[th] at lR
   rw[AY m]
   by_cases fy:i*U.wd x0.τ<=m/\m<i*U.wd x0.τ+U.wd x0.τ
   ·have e1:=(pd (m-i*U.wd x0.τ) (by omega)).1
    rw[show i*U.wd x0.τ+(m-i*U.wd x0.τ)=m by omega] at e1
    rw[if_pos fy,e1]
    exact⟨EB _ (by omega),EA _ (by omega)⟩
   ·rw[if_neg fy,(jA m fy).1]
    exact hv m lR
  ·have ua:j<U.wd x0.τ:=by
    rw[<-U.aK x0.τ xq]
    rcases fA j (U.enc x0.τ xq).length with g|g
    ·exact g
    ·have ir:(U.enc x0.τ xq)[j]? =some c:=hj
     rw[fb g] at ir;cases ir
   by_cases yX:q=i
   ·subst yX
    have nO:xq=yv:=by
     have nO:(x0.xs.set q yv)[q]? =some xq:=Ni
     rw[yw,if_pos rfl,if_pos hi] at nO
     exact(zp nO).symm
    have hj:(U.enc x0.τ xq)[j]? =some c:=hj
    rw[nO] at hj
    show Rp E _ F true c (jJ (q*U.wd x0.τ+j)) (df (q*U.wd x0.τ+j))
    rw[(pd j ua).1,(pd j ua).2]
    have ir:ds[j]? =some c:=by rw[<-pn];exact hj
    refine(f2 j c ir).bu jU (fun b' ap=>iq b' (fun e=> ?_))
    exact xV b' (vO j b' ap) (e▸cn)
   ·show Rp E _ F true c (jJ (q*U.wd x0.τ+j)) (df (q*U.wd x0.τ+j))
    have uy:=jQ ua yX
    rw[(jA _ uy).1,(jA _ uy).2]
    have nO:x0.xs[q]? =some xq:=by
     have nO:(x0.xs.set i yv)[q]? =some xq:=Ni
     rw[yw,if_neg (fun e=>yX e.symm)] at nO
     exact nO
    have Fb:dead q=false:=by
     have hq:(!(Nat.beq q i)&&dead q)=false:=hq
     have OX:Nat.beq q i=false:=by rw[<-n7,uC];exact yX
     rw[OX] at hq
     simpa using hq
    refine(AR q xq j c Fb nO hj).bu jU (fun b' ap=>iq b' (fun e=> ?_))
    subst e
    exact vX (fC.2 ⟨_,iD.2 (bm nO hj),ap⟩)
  ·have Nn:¬q=i/\dead q=true:=by
    have hq:(!(Nat.beq q i)&&dead q)=true:=hq
    rw[c9,l6,<-n7,uC] at hq
    exact hq
   show df (q*U.wd x0.τ+j)=[]
   have uy:=jQ hj Nn.1
   rw[(jA _ uy).2]
   exact dD q j Nn.2 hj
 ·intro k' e' aG eH iw b' ap
  exact iq b' (fun e=>h.apart k' k _ _ b' aG iw a_ ap (by rw[e];exact cn))
 ·intro b' ap
  rcases fy b' ap with g|g
  ·obtain⟨k',aG,nX⟩:=f4 b' g
   obtain⟨e',Bp⟩:=eD.1 (t2 k' aG)
   exact⟨(h.bt k' e' b' Bp nX).1,k',by simp[aG],t2 k' aG,nX⟩
  ·exact⟨(h.bt k _ b' a_ g).1,k,by simp,by simp[a_],g⟩
 ·exact⟨rfl,rfl,rfl,by simp,fun b' _ qW=>iq b' (fun e=>qW (by rw[e];exact Cc.2.1))⟩
end AM
