/- THE ABSTRACT MACHINE: rows of which some elements are gone: they are made, grow, are filled again. -/
import Derived.Test.YtlachfpabecaeaaQAmMove
namespace AM
set_option linter.unusedVariables false
open Go
variable{U:dh}{E:Env U}{pm:Pm}
variable{F F':Nat->Prop}{kv:Key->Value}{fp:Key->List Nat}{σ:aa U}{a:Act}{w w':World}{bad:Key->Bool}
variable(E) in
def rZ(w:World)(F:Nat->Prop)(dead:Nat->Bool)(τ:U.Ty)(xs:List (U.T τ))(vs:List Value)(fl:List (List Nat)):Prop:=
 vs.length=xs.length*U.wd τ/\fl.length=xs.length*U.wd τ/\(∀v∈vs,bI v)/\
 (∀(i:Nat)(x:U.T τ)(j:Nat)(c:U.C),dead i=false->xs[i]? =some x->(U.enc τ x)[j]? =some c->Rp E w F true c (vs.getD (i*U.wd τ+j) undef) (fl.getD (i*U.wd τ+j) []))/\
 ∀i j,dead i=true->j<U.wd τ->fl.getD (i*U.wd τ+j) []=[]
theorem DL{fl:List (List Nat)}{n:Nat}(h:fl.length=n):fl.flatten=(List.range n).flatMap fun m=>fl.getD m []:=by
 rw[r_]
 congr 1
 refine vp fun m=> ?_
 rw[eC]
 by_cases hn:m<n
 ·rw[ri hn,mP,cI,cE (by rw[h];exact hn)]
  rfl
 ·rw[eD (by rw[h];omega),eD (by simp;omega)]
  rfl
theorem aW.d_{dead:Nat->Bool}{τ:U.Ty}{xs:List (U.T τ)}{b cap:Nat}{cur:Array Value}{vs:List Value}{fl:List (List Nat)}(h2:w.heap[b]? =some (.cells cur (E.tid τ) (0,0)))(h3:xs.length<=cap)(h4:cap<=maxLen)
  (h5:cur.size=cap*U.wd τ) (h6:cur.toList.take (xs.length*U.wd τ)=vs) (h7:rZ E w F dead τ xs vs fl):aW E w F dead ⟨τ,xs⟩ (.slice (some ⟨b,0,none⟩) xs.length cap) (b::fl.flatten):=by
 have hle:xs.length*U.wd τ<=cap*U.wd τ:=kf _ h3
 refine .inr ⟨b,cap,cur,fun n=>vs.getD n undef,fun n=>fl.getD n [],rfl,h2,h3,h4,h5,fun i hi=> ?_,h7.2.2.2.1,h7.2.2.2.2,by rw[DL h7.2.1]⟩
 have fP:i<xs.length*U.wd τ:=hi
 have Gm:vs[i]? =some (vs.getD i undef):=bg (by rw[h7.1];exact fP)
 refine⟨?_,h7.2.2.1 _ (np Gm)⟩
 show cur[i]? =some (vs.getD i undef)
 rw[<-Gm,<-h6,eP,if_pos fP,qt]
theorem aW.rows{dead:Nat->Bool}{x:eT U}{v:Value}{l:List Nat}(h:aW E w F dead x v l):
  (x.xs=[]/\(∃ad,v=.slice ad 0 0)/\l=[])\/
  ∃(b cap:Nat)(cur:Array Value)(vs:List Value)(fl:List (List Nat)),v=.slice (some ⟨b,0,none⟩) x.xs.length cap/\w.heap[b]? =some (.cells cur (E.tid x.τ) (0,0))/\x.xs.length<=cap/\cap<=maxLen/\
   cur.size=cap*U.wd x.τ/\cur.toList.take (x.xs.length*U.wd x.τ)=vs/\rZ E w F dead x.τ x.xs vs fl/\l=b::fl.flatten:=by
 rcases h with h|⟨b,cap,cur,vs,bT,h1,h2,h3,h4,h5,h6,h7,h8,h9⟩
 ·exact .inl h
 have hle:x.xs.length*U.wd x.τ<=cap*U.wd x.τ:=kf _ h3
 have gA:∀n,n<x.xs.length*U.wd x.τ->(cur.toList.take (x.xs.length*U.wd x.τ))[n]? =some (vs n):=fun n hn=>by
  rw[eP,if_pos hn,qt];exact(h6 n hn).1
 refine .inr ⟨b,cap,cur,_,(List.range (x.xs.length*U.wd x.τ)).map bT,h1,h2,h3,h4,h5,rfl,⟨by simp;omega,by simp,fun u hu=> ?_,fun i y j c hi hx hj=> ?_,fun i j hi hj=> ?_⟩,by rw[h9,r_]⟩
 ·obtain⟨n,hn,rfl⟩:=pA hu
  have iT:n<x.xs.length*U.wd x.τ:=by simp at hn;omega
  have js:=gA n iT
  rw[cE hn] at js
  rw[yf js]
  exact(h6 n iT).2
 ·have bZ:=bw hx hj
  have:=h7 i y j c hi hx hj
  rw[cI,gA _ bZ,cI,eC,ri bZ]
  exact this
 ·rw[cI,eC]
  by_cases bZ:i*U.wd x.τ+j<x.xs.length*U.wd x.τ
  ·rw[ri bZ];exact h8 i j hi hj
  ·rw[eD (by simp;omega)];rfl
theorem aR.mc{deep:Bool}{τ:U.Ty}{xs:List (U.T τ)}{vs:List Value}{fl:List (List Nat)}(h:aR E w F deep τ xs vs fl):∀v∈vs,bI v:=by
 intro v hv
 obtain⟨n,hn,rfl⟩:=pA hv
 obtain⟨i,x,j,c,rfl,_,_,hx,hj⟩:=C' (xs:=xs) (by rw[<-h.1];exact hn)
 have:=h.2.2 i x j c hx hj
 rw[cI,cE hn] at this
 exact this.bx
theorem aR.dead{τ:U.Ty}{xs zs:List (U.T τ)}{vs us:List Value}{fl:List (List Nat)}(h:aR E w F true τ xs vs fl)(hl:us.length=zs.length*U.wd τ)(ho:∀u∈us,bI u):
  rZ E w F (fun i=>Nat.ble xs.length i) τ (xs++zs) (vs++us) (fl++List.replicate (zs.length*U.wd τ) []):=by
 refine⟨by simp[h.1,hl,kc],by simp[h.2.1,kc],fun v hv=> ?_,fun i x j c hi hx hj=> ?_,fun i j hi hj=> ?_⟩
 ·rcases cZ.1 hv with hv|hv
  ·exact h.mc v hv
  ·exact ho v hv
 ·have fP:i<xs.length:=by
   rcases eW i xs.length with g|g
   ·exact g
   ·exact absurd ((Nat.ble_eq_true_of_le g).symm.trans hi) (by decide)
  rw[jA fP] at hx
  have:=bw hx hj
  rw[pN (by rw[h.1];exact this),pN (by rw[h.2.1];exact this)]
  exact h.2.2 i x j c hx hj
 ·have fP:=pz hi
  have:xs.length*U.wd τ<=i*U.wd τ:=kf _ fP
  rw[sg (by rw[h.2.1];omega),nT]
theorem Dy:∀{xs:List (SV U)}{us:List Value}{wd:Nat},mf wd xs=true->xs.length=us.length->(∀(i:Nat)(x:SV U)(u:Value),xs[i]? =some x->us[i]? =some u->RS E w F kv fp bad x u)->
  (∀u∈us,u.cells.size=wd)/\∀v∈us.flatMap (fun u=>u.cells.toList),bI v
 |[],[],_,_,_,_=>⟨by simp,by simp⟩
 |[],_::_,_,_,hl,_=>by simp at hl
 |_::_,[],_,_,hl,_=>by simp at hl
 |x::xs,u::us,wd,hk,hl,hx=>by
  cases x with
  |iV l=>cases hk
  |fn p=>cases hk
  |nH g l=>cases hk
  |v x=>
   simp only[mf,dR] at hk
   obtain⟨r1,r2⟩:=sj (hx 0 (.v x) u rfl rfl)
   obtain⟨i1,i2⟩:=Dy hk.2 (by simpa using hl) (fun i z v hz hv=>hx (i+1) z v (by simpa using hz) (by simpa using hv))
   refine⟨fun v hv=> ?_,fun v hv=> ?_⟩
   ·rcases dQ.1 hv with rfl|hv
    ·rw[r2];exact en hk.1
    ·exact i1 v hv
   ·rw[ln,cZ] at hv
    rcases hv with hv|hv
    ·obtain⟨n,hn,rfl⟩:=pA hv
     have iT:n<x.cs.length:=by rw[r1.1];exact hn
     exact(r1.2 n x.cs[n] _ (cE iT) (cE hn)).1
    ·exact i2 v hv
theorem IM(hE:E.Ok)(h:aC E pm F kv fp σ a w){o:Oper}{d:Nat}(ho:o.dst=some d)(hd:d<σ.n){t e:TypeId}{len:Nat}{parts:Array (Nat×Operand)}(fV:o.op=.buildSlice t len parts)
  {τ:U.Ty} (iq:E.elem t=some e) (hc:E.code e=some τ) {xs:List (SV U)} (hx:xs.length=parts.toList.length)
  (hv:∀(i:Nat)(x:SV U)(q:Nat×Operand),xs[i]? =some x->parts.toList[i]? =some q->RS E w F kv fp (av σ) x (a.eval q.2))
  (hlen:(parts.toList.map (·.1)).length=len) (Ae:((parts.toList.map (·.1)).zipIdx).all (fun(a,b)=>Nat.beq a b)=true) (Pu:len*U.wd τ<=1000000)
  (Kv:mf (U.wd τ) xs=true)
  (eK:¬Names σ (d,0)) {next:Act->World->Prop} {Q:Exit->Act->World->Prop}
  (hn:∀F kv fp a' w',aC E pm F kv fp (AM.apply o ⟨some (one (.ref (d,0) [])),[(0,.part ⟨τ,List.replicate len (U.bn τ)⟩ (fun _=>true))],[],[],[]⟩ σ) a' w'->next a' w'):o.wp E.P a w next Q:=by
 obtain⟨jM,i,z,hi,hz,ci,kz,pu,_⟩:=hE.code e τ hc
 have hu:=l5 iq
 have hw:=U.c_ τ
 obtain⟨r2,r3⟩:=Dy (us:=parts.toList.map fun q=>a.eval q.2) Kv (by simp[hx]) (fun i x u sF ga=>by
  rw[eC] at ga
  cases hq:parts.toList[i]? with
  |none=>rw[hq] at ga;cases ga
  |some q=>rw[hq] at ga;cases ga;exact hv i x q sF hq)
 have oe:parts.toList.length=len:=by rw[<-hlen];simp
 have qP:(parts.map fun(i,x)=>(i,a.eval x)).toList=((parts.toList.map fun q=>a.eval q.2).zipIdx 0).map fun x=>(x.2,x.1):=by
  rw[Cg]
  refine vp fun n=> ?_
  rw[eC,eC,FX,eC]
  cases hq:parts.toList[n]? with
  |none=>rfl
  |some q=>
   simp only[mP,bM,eX,ke,and_true]
   have h1:((parts.toList.map (·.1)).zipIdx)[n]? =some (q.1,n):=by
    rw[FX,eC,hq];simp
   have:=(qp.1 Ae) (q.1,n) (np h1)
   exact en this
 have zA:¬len*i.size>2^24:=by rw[ci];omega
 have qR:len<=maxLen:=by
  have:len<=len*U.wd τ:=Nat.le_mul_of_pos_right _ hw
  simp only[maxLen];omega
 have p6:∀(l:List Value),(∀u∈l,u.cells.size=U.wd τ)->(l.flatMap fun u=>u.cells.toList).length=l.length*U.wd τ:=by
  intro l
  induction l with
  |nil=>intro _;simp
  |cons u l ih=>
   intro hl
   rw[ln,rj,ih (fun v hv=>hl v (c9 _ hv)),mS,hl u e_,xl,kc,ta,BG]
 have fin:∀cells:Array Value,cells.toList=(parts.toList.map fun q=>a.eval q.2).flatMap (fun u=>u.cells.toList)->
   (Instr.buildSlice t len (parts.map fun(i,x)=>(i,a.eval x))).run E.P w=.ok (.slice (some ⟨w.heap.size,0,none⟩) len len) (w.alloc (.cells cells e))->o.wp E.P a w next Q:=by
  intro cells jq cu
  have cp:cells.toList.length=len*U.wd τ:=by rw[jq,p6 _ r2];simp[oe]
  have gS:cells.size=len*U.wd τ:=by simpa using cp
  have cK:rZ E (w.alloc (.cells cells e)) F (fun _=>true) τ (List.replicate len (U.bn τ)) cells.toList (List.replicate (len*U.wd τ) []):=by
   refine⟨by rw[cp];simp,by simp,fun v hv=>r3 v (by rw[<-jq];exact hv),fun i x j c hi=>Bool.noConfusion hi,fun i j _ _=>nT⟩
  have eI:=h.mG (w':=w.alloc (.cells cells e)) (F':=F) ho hd (.part ⟨τ,List.replicate len (U.bn τ)⟩ (fun _=>true)) (one (.ref (d,0) [])) [] [] (.slice (some ⟨w.heap.size,0,none⟩) len len) (.slice (some ⟨w.heap.size,0,none⟩) len len) [w.heap.size] eK
   (fun bad=>b8 ⟨⟨rfl,trivial⟩,.inr (by simp only[RA,gV];rfl)⟩)
   (fun bad=>by
    have:=aW.d_ (F:=F) (b:=w.heap.size) (cap:=len) (by rw[jM];exact heap_alloc_new w _) (by simp) qR gS (by rw[yj (by rw[cp];simp)]) cK
    rw[FY,kt] at this
    exact this)
   (fun b hb=>⟨hb,lc w _ (h.hJ b hb)⟩) (fun b hb=> .inl hb) (fun k e _ he b hb=>lc w _ (nU h he hb)) (by simp)
   (fun b hb=>by
    rw[gj.1 hb]
    exact⟨fun hF=>by have:=h.hJ _ hF;omega,.inr ⟨nl _,by simp⟩⟩) (bH.alloc _ _ _)
  refine gq (v:=.slice (some ⟨w.heap.size,0,none⟩) len len) (w':=w.alloc (.cells cells e)) ?_ (hn F _ _ _ _ eI)
  unfold execOp;simp only[fV];exact cd cu
 by_cases h0:len=0
 ·have qQ:parts.toList=[]:=pB (by omega)
  have ur:parts= #[]:=ku qQ
  subst h0
  refine fin #[] (by simp[qQ]) ?_
  simp[Instr.buildSlice,run_underlying hu,Go.sizeOf,typeInfo,hi,ur,Instr.fill,newRow,Array.range_zero']
 ·have od:¬len*i.size=0:=by
   rw[ci]
   have:=Nat.mul_pos (Nat.pos_of_ne_zero h0) hw
   omega
  have uH:=Great.fill_whole (s:=i.size) (by rw[ci];exact hw) (parts.toList.map fun q=>a.eval q.2) ((Array.range (len*i.size)).map (z.cells[·%z.cells.size]!)) (fun v hv=>by rw[ci];exact r2 v hv) (by simp[oe])
  refine fin ((parts.toList.map fun q=>a.eval q.2).flatMap fun v=>v.cells.toList).toArray rfl (run_buildSlice w t e len _ _ i z hu hi hz zA od ?_)
  rw[qP]
  exact uH
theorem JN(hE:E.Ok)(h:aC E pm F kv fp σ a w){o:Oper}{d:Nat}(ho:o.dst=some d)(hd:d<σ.n){cl:Call}{t e:TypeId}{s x:Operand}(fV:o.op=.call cl)(cp:cl.callee=.builtin .append)
  (dr:cl.args.toList=[s,x]) (ly:cl.argTypes.toList=[t,t]) {τ:U.Ty} (iq:E.elem t=some e) (hc:E.code e=some τ) {ss sx:SV U} {ys yx:AC U}
  (hs:RS E w F kv fp (av σ) ss (a.eval s)) (wJ:iA ss=some ys) (hx:RS E w F kv fp (av σ) sx (a.eval x)) (Eu:iA sx=some yx)
  {rs:List Key} {ps:List Prop} {xs zs:List (U.T τ)} {ks ks':List Key} {pall:List Prop}
  (zN:ie τ (restrict σ.aq rs) ys=some (ps,xs,ks,true)) (pV:nZ τ (restrict σ.aq rs) yx=some (zs,ks')) (hp:∀p∈ps,p) (oj:(ks++ks').Nodup) (hle:xs.length+zs.length<=4294967296)
  (eK:¬Names σ (d,0)) {next:Act->World->Prop} {Q:Exit->Act->World->Prop}
  (hn:∀F kv fp a' w',aC E pm F kv fp (AM.apply o ⟨some (one (.ref (d,0) [])),[(0,.part ⟨τ,xs++zs⟩ (fun i=>Nat.ble xs.length i))],ks++ks',[],pall⟩ σ) a' w'->next a' w'):o.wp E.P a w next Q:=by
 obtain⟨jM,i,z,hi,hz,ci,kz,pu,_⟩:=hE.code e τ hc
 have hu:=l5 iq
 have hw:=U.c_ τ
 obtain⟨kF,ej,l,rI,nb,sO⟩:=Dn h zN hp (de hs wJ)
 obtain⟨mi,us,fv,zv,dU⟩:(∀k∈ks',(σ.aq k).isSome=true)/\∃us,us.length=zs.length*U.wd τ/\(∀u∈us,bI u)/\Src E.P w t (a.eval x) (U.wd τ) zs.length us:=by
  unfold nZ at pV
  split at pV
  ·rename_i k
   split at pV
   ·rename_i y dead he
    split at pV
    ·rename_i QZ xB
     cases pV
     have:=aT xB
     subst this
     have bf:=cJ he
     have h1:a.eval x=kv k:=ax (de hx Eu) rfl
     have h2:aW E w F dead ⟨τ,zs⟩ (kv k) (fp k):=h.aJ k _ bf
     rw[<-h1] at h2
     refine⟨by simp[bf],?_⟩
     rcases h2.rows with⟨h3,⟨ad,h4⟩,h5⟩|⟨b,cap,cur,vs,fl,h3,h4,h5,h6,h7,h8,h9,js⟩
     ·simp only at h3;subst h3
      exact⟨[],by simp,by simp,by rw[h4];exact Src.slice hu (by simp) (fun hh=>by simp at hh)⟩
     ·simp only at h3 h4 h5 h7 h8 h9
      refine⟨vs,h9.1,h9.2.2.1,?_⟩
      rw[h3]
      refine Src.slice hu (h9.1) (fun _=>⟨b,0,rfl,fun i u ga=> ?_⟩)
      rw[<-h8,eP] at ga
      split at ga
      ·rw[cell_of_row w b _ cur _ (0,0) h4];simpa using ga
      ·cases ga
    ·cases pV
   ·cases pV
  ·cases pV
 rw[<-ci] at dU
 have cG:∀k∈ks++ks',(σ.aq k).isSome=true:=fun k hk=>(cZ.1 hk).elim (ej k) (mi k)
 have exec:∀{v w1},(Builtin.append_ #[t,t] o.type #[a.eval s,a.eval x]).run E.P w=.ok v w1->(execOp a.eval o).run E.P w=.ok (.value v) w1:=by
  intro v w1 hr
  have ha:cl.args= #[s,x]:=ku dr
  have ht:cl.argTypes= #[t,t]:=ku ly
  unfold execOp;simp only[fV]
  simp[resolve,cp,ha,ht,invoke,builtin,hr]
 have qR:∀{n:Nat},n<=4294967296->n<=maxLen:=fun hh=>by simp only[maxLen];omega
 have BV:∀k∈ks++ks',∀b∈fp k,¬F b:=fun k hk b hb=>by
  obtain⟨e,he⟩:=ef.1 (cG k hk)
  exact(h.bC k e b he hb).1
 have Gv:∀k∈ks++ks',∀b∈fp k,(pm.W b\/pm.w0.heap.size<=b)/\b<w.heap.size:=fun k hk b hb=>by
  obtain⟨e,he⟩:=ef.1 (cG k hk)
  exact(h.bC k e b he hb).2
 have sH:∀(fl:List (List Nat)),(fl++List.replicate (zs.length*U.wd τ) ([]:List Nat)).flatten=fl.flatten:=fun fl=>by rw[pq,kt,nk]
 have grow:∀(vs:List Value)(fl:List (List Nat)),aR E w F true τ xs vs fl->fl.flatten.Nodup->(∀b∈fl.flatten,∃k∈ks,b∈fp k)->
   ∀{cap:Nat}{cur:Array Value}{w1:World},(∀b,b<w.heap.size->w1.heap[b]? =w.heap[b]?)->bH (fun b=>pm.W b\/pm.w0.heap.size<=b) w w1->w.heap.size<w1.heap.size->
   w1.heap[w.heap.size]? =some (.cells cur (E.tid τ) (0,0))->(xs++zs).length<=cap->cap<=maxLen->cur.size=cap*U.wd τ->cur.toList.take ((xs++zs).length*U.wd τ)=vs++us->
   next (a.put o.dst (.slice (some ⟨w.heap.size,0,none⟩) (xs++zs).length cap)) w1:=by
  intro vs fl h1 h2 h3 cap cur w1 jL eJ iG hb dM hm gS gy
  have bZ:∀b∈fl.flatten,b<w.heap.size:=fun b hb=>by obtain⟨k,hk,hb⟩:=h3 b hb;exact(Gv k (by simp[hk]) b hb).2
  have eI:=h.mG ho hd (.part ⟨τ,xs++zs⟩ (fun i=>Nat.ble xs.length i)) (one (.ref (d,0) [])) (ks++ks') pall (.slice (some ⟨w.heap.size,0,none⟩) (xs++zs).length cap) (.slice (some ⟨w.heap.size,0,none⟩) (xs++zs).length cap) (w.heap.size::fl.flatten) (w':=w1) (F':=F) eK
   (fun bad=>b8 ⟨⟨rfl,trivial⟩,.inr (by simp only[RA,gV];rfl)⟩)
   (fun bad=>by
    have:=aW.d_ hb dM hm gS gy ((h1.bD (fun b' aj=>⟨aj,jL b' (h.hJ b' aj)⟩) (fun b' aj=>jL b' (bZ b' aj))).dead fv zv)
    rw[sH] at this
    exact this)
   (fun b' aj=>⟨aj,jL b' (h.hJ b' aj)⟩) (fun b' aj=> .inl aj) (fun k e _ he b' aj=>jL b' (nU h he aj))
   (fU.2 ⟨fun aj=>by have:=bZ _ aj;omega,h2⟩)
   (fun b' aj=>by
    rcases dQ.1 aj with rfl|aj
    ·exact⟨fun hF=>by have:=h.hJ _ hF;omega,.inr ⟨nl _,iG⟩⟩
    ·obtain⟨k,hk,cq⟩:=h3 b' aj
     exact⟨BV k (by simp[hk]) b' cq,.inl ⟨k,by simp[hk],ej k hk,cq⟩⟩) eJ
  exact hn _ _ _ _ _ eI
 have fC:∀{b cap:Nat}{cur':Array Value}{vs:List Value}{fl:List (List Nat)}{w1:World},aR E w F true τ xs vs fl->l=b::fl.flatten->(∀b',b'≠b->w1.heap[b']? =w.heap[b']?)->w1.heap.size=w.heap.size->
   w1.os=w.os->w1.tape=w.tape->w1.output=w.output->w1.heap[b]? =some (.cells cur' (E.tid τ) (0,0))->(xs++zs).length<=cap->cap<=maxLen->cur'.size=cap*U.wd τ->cur'.toList.take ((xs++zs).length*U.wd τ)=vs++us->
   next (a.put o.dst (.slice (some ⟨b,0,none⟩) (xs++zs).length cap)) w1:=by
  intro b cap cur' vs fl w1 cK hl jL iG Kd J4 jn hb dM hm gS gy
  subst hl
  have cq:∃k∈ks,b∈fp k:=sO b (by simp)
  obtain⟨kb,sQ,ot⟩:=cq
  have As:¬F b:=BV kb (by simp[sQ]) b ot
  have eJ:bH (fun b=>pm.W b\/pm.w0.heap.size<=b) w w1:=⟨Kd,J4,jn,by omega,fun k hk pW=>jL k (fun e=>pW (e▸(Gv kb (by simp[sQ]) b ot).1))⟩
  have oi:∀k e,k∉ks++ks'->σ.aq k=some e->∀b'∈fp k,w1.heap[b']? =w.heap[b']? :=fun k e hk he b' aj=>jL b' (fun e'=>by
   subst e'
   obtain⟨eb,KH⟩:=ef.1 (ej kb sQ)
   exact h.apart kb k eb e b' (fun e'=>hk (by subst e';simp[sQ])) KH he ot aj)
  have uP:=(fU.1 nb).1
  have eI:=h.mG ho hd (.part ⟨τ,xs++zs⟩ (fun i=>Nat.ble xs.length i)) (one (.ref (d,0) [])) (ks++ks') pall _ (.slice (some ⟨b,0,none⟩) (xs++zs).length cap) (b::fl.flatten) (w':=w1) (F':=F) eK
   (fun bad=>b8 ⟨⟨rfl,trivial⟩,.inr (by simp only[RA,gV];rfl)⟩)
   (fun bad=>by
    have:=aW.d_ hb dM hm gS gy ((cK.bD (fun b' aj=>⟨aj,jL b' (fun e=>As (e▸aj))⟩) (fun b' aj=>jL b' (fun e=>uP (e▸aj)))).dead fv zv)
    rw[sH] at this
    exact this)
   (fun b' aj=>⟨aj,jL b' (fun e=>As (e▸aj))⟩) (fun b' aj=> .inl aj) oi nb
   (fun b' aj=>by obtain⟨k,hk,aj⟩:=sO b' aj;exact⟨BV k (by simp[hk]) b' aj,.inl ⟨k,by simp[hk],ej k hk,aj⟩⟩) eJ
  exact hn _ _ _ _ _ eI
 have zu:∀u∈us,u.oneCell'=true:=fun u hu=>(zv u hu).1
 have mj:(xs.length+zs.length)*i.bytes<=140737488355328:=by
  have:=Nat.mul_le_mul hle pu
  omega
 by_cases fu:zs.length=0
 ·have ug:zs=[]:=pB fu
  subst ug
  have jm:us=[]:=pB (by simpa using fv)
  rcases rI.rows with⟨h3,⟨s6,h4⟩,h5⟩|⟨b,cap,cur,vs,fl,h3,h4,h5,h6,h7,h8,h9,js⟩
  ·simp only at h3;subst h3
   have hr:=exec (v:=.slice s6 0 0) (w1:=w) (by rw[h4];exact vV w hu hi _ _ _ (by rw[jm] at dU;exact dU) (nl _))
   refine gq hr ?_
   have eI:=h.mG ho hd (.part ⟨τ,[]⟩ (fun i=>Nat.ble ([]:List (U.T τ)).length i)) (one (.ref (d,0) [])) (ks++ks') pall (.slice s6 0 0) (.slice s6 0 0) [] (w':=w) (F':=F) eK
    (fun bad=>b8 ⟨⟨rfl,trivial⟩,.inr (by simp only[RA,gV];rfl)⟩) (fun bad=> .inl ⟨rfl,⟨s6,rfl⟩,rfl⟩) (fun b hb=>⟨hb,rfl⟩) (fun b hb=> .inl hb) (fun _ _ _ _ _ _=>rfl) (by simp) (by simp) (bH.refl _ _)
   exact hn _ _ _ _ _ eI
  ·simp only at h3 h4 h5 h7 h8 h9
   have hr:=exec (v:=.slice (some ⟨b,0,none⟩) xs.length cap) (w1:=w) (by rw[h3];exact vV w hu hi _ _ _ (by rw[jm] at dU;exact dU) h5)
   refine gq hr ?_
   have:=fC (b:=b) (cap:=cap) (cur':=cur) (vs:=vs) (fl:=fl) (w1:=w) h9 js (fun _ _=>rfl) rfl rfl rfl rfl h4 (by simpa using h5) h6 h7 (by rw[jm,nk,nk];exact h8)
   simpa using this
 ·have zT:us.length=zs.length*i.size:=by rw[ci];exact fv
  have grown:∀(vs:List Value)(fl:List (List Nat)),vs.length=xs.length*U.wd τ->aR E w F true τ xs vs fl->fl.flatten.Nodup->(∀b∈fl.flatten,∃k∈ks,b∈fp k)->
    ∀n0:Nat,n0<xs.length+zs.length->(Builtin.append_ #[t,t] o.type #[a.eval s,a.eval x]).run E.P w=
     .ok (.slice (some ⟨w.heap.size,0,none⟩) (xs.length+zs.length) (grownCap w (xs.length+zs.length) n0 e)) (w.drew.alloc (.cells (vs.toArray++us.toArray++Builtin.zeroCells z.cells (grownCap w (xs.length+zs.length) n0 e-(xs.length+zs.length))) e))->
    o.wp E.P a w next Q:=by
   intro vs fl nv h1 h2 h3 n0 hold cu
   refine gq (exec cu) ?_
   have Ag:=grownCap_ge w (xs.length+zs.length) n0 e
   have:=grow vs fl h1 h2 h3 (cap:=grownCap w (xs.length+zs.length) n0 e) (cur:=vs.toArray++us.toArray++Builtin.zeroCells z.cells (grownCap w (xs.length+zs.length) n0 e-(xs.length+zs.length)))
    (w1:=w.drew.alloc (.cells (vs.toArray++us.toArray++Builtin.zeroCells z.cells (grownCap w (xs.length+zs.length) n0 e-(xs.length+zs.length))) e))
    (fun b hb=>lc w.drew _ hb) ((bH.drew _ _).trans (bH.alloc _ _ _)) (by simp) (by rw[jM];exact heap_alloc_new w.drew _) (by simpa using Ag) (grownCap_le_maxLen w _ n0 e (qR hle))
    (by
     simp only[Array.size_append,xi,size_zeroCells,kz,nv,fv,<-kc]
     congr 1;omega)
    (by
     have nb:((xs++zs).length*U.wd τ)=(vs++us).length:=by simp[nv,fv,kc]
     simp only[Array.toList_append,jz]
     rw[<-jz,nb]
     exact List.take_left)
   simpa using this
  rcases rI.rows with⟨h3,⟨s6,h4⟩,h5⟩|⟨b,cap,cur,vs,fl,h3,h4,h5,h6,h7,h8,h9,js⟩
  ·simp only at h3;subst h3
   refine grown [] [] (by simp) aR.nil (by simp) (by simp) 0 (by omega) ?_
   rw[h4]
   simp only[vu,ke] at mj hle⊢
   cases s6 with
   |none=>
    have hr:=C9 (ty:=o.type) w hu hi hz dU (by omega) (by omega) (by omega)
    simpa using hr
   |some a'=>
    have hr:=vW (ty:=o.type) w hu hi hz a' 0 0 [] (by simp) (by simp) dU (by omega) (by omega) (growslice_fits (by omega) (by simpa using mj))
    simpa using hr
  ·simp only at h3 h4 h5 h7 h8 h9
   have nv:vs.length=xs.length*U.wd τ:=h9.1
   by_cases ea:xs.length+zs.length<=cap
   ·have p7:xs.length*i.size+us.length<=cur.size:=by rw[zT,ci,h7,<-kc];exact kf _ ea
    have hr:=C8 (ty:=o.type) w hu hi b xs.length cap cur (by rw[<-jM];exact h4) dU zu ea p7
    rw[<-h3] at hr
    refine gq (exec hr) ?_
    have:=fC (b:=b) (cap:=cap) (cur':=(cur.toList.take (xs.length*i.size)++us++cur.toList.drop (xs.length*i.size+us.length)).toArray) (vs:=vs) (fl:=fl)
     (w1:=w.setRow b (cur.toList.take (xs.length*i.size)++us++cur.toList.drop (xs.length*i.size+us.length)).toArray) h9 js (fun b' aj=>setRow_other w b b' _ aj) (by simp) rfl rfl rfl (setRow_heap w b cur _ _ _ h4) (by simpa using ea) h6
     (by
      simp only[xi,rj,kg,px,mS]
      omega)
     (by
      have nb:((xs++zs).length*U.wd τ)=(vs++us).length:=by simp[nv,fv,kc]
      rw[ci,h8,nb]
      exact List.take_left)
    simpa using this
   ·refine grown vs fl nv h9 (by rw[js] at nb;exact(fU.1 nb).2) (fun b' aj=>sO b' (by rw[js];simp[aj])) cap (by omega) ?_
    rw[h3]
    refine vW (ty:=o.type) w hu hi hz ⟨b,0,none⟩ xs.length cap vs (by rw[ci];exact nv) (fun j u hu=> ?_) dU (by omega) (by omega) (growslice_fits (by omega) mj)
    rw[Addr.add_mid,ke,cell_of_row w b _ cur _ (0,0) h4]
    rw[<-h8,eP] at hu
    split at hu
    ·simpa using hu
    ·cases hu
theorem Hp(h:aC E pm F kv fp σ a w){o:Oper}(ho:o.dst=none){t:TypeId}{x y:Operand}(fV:o.op=.store t x y){sx:SV U}{yx:AC U}{z:AV U}{n:Nat}{rs:List Key}{r:aw U}
  (hx:RS E w F kv fp (av σ) sx (a.eval x)) (jT:iA sx=some yx) (hy:RS E w F kv fp (av σ) (.v z) (a.eval y)) (hs:E.size t=some n) (hn:n=z.cs.length)
  (hr:ko (restrict σ.aq rs) z yx=some r) (hp:∀p∈r.pre,p) {next:Act->World->Prop} {Q:Exit->Act->World->Prop}
  (zO:∀F kv fp a' w',aC E pm F kv fp (AM.apply o r σ) a' w'->next a' w'):o.wp E.P a w next Q:=by
 have lz:=de hx jT
 obtain⟨jy,mY⟩:=sj hy
 unfold ko at hr
 split at hr
 rotate_left
 ·cases hr
 rename_i k i wd
 split at hr
 rotate_left
 ·cases hr
 rename_i x0 dead he
 have bf:=cJ he
 rw[bY] at hr
 split at hr
 rotate_left
 ·cases hr
 rename_i eo
 simp only[dR] at eo
 have iF:=en eo.1
 have Eh:=en eo.2
 subst iF
 split at hr
 rotate_left
 ·cases hr
 rename_i qs ds ks gy
 split at hr
 rotate_left
 ·cases hr
 rename_i yv qX
 rw[bY] at hr
 split at hr
 rotate_left
 ·cases hr
 rename_i gD
 cases hr
 have kW:=fU.1 (ic.1 gD)
 have hi:i<x0.xs.length:=hp _ (by simp)
 obtain⟨t1,t2,t3,_⟩:=qy h gy (fun q hq=>hp q (by simp[hq])) jy kW.2
 obtain⟨fl,f1,f2,f3,f4⟩:=t3 rfl
 have om:=U.dB x0.τ ds yv qX
 have KI:ds.length=U.wd x0.τ:=by rw[<-om,U.aM]
 have ei:aW E w F dead x0 (kv k) (fp k):=h.aJ k _ bf
 have eH:=h.nodup k _ bf
 rcases ei with⟨h0,_⟩|⟨b,cap,cur,vs,bT,h1,hb,hc,hm,gS,hv,zF,dq,gB⟩
 ·rw[h0] at hi;simp at hi
 obtain⟨bb,oo,nn,cc,eG,EC⟩:=ax lz (by simp[ck])
 simp only[eR] at eG
 rw[h1] at eG
 simp only[Value.slice.injEq,bM,Addr.mk.injEq,and_true] at eG
 obtain⟨⟨e1,e2⟩,_,_⟩:=eG
 rw[e1,e2,ke,pn] at EC
 have hN:i*U.wd x0.τ+U.wd x0.τ<=x0.xs.length*U.wd x0.τ:=by
  have:(i+1)*U.wd x0.τ<=x0.xs.length*U.wd x0.τ:=kf _ hi
  rw[kc,ta] at this
  exact this
 have Rk:x0.xs.length*U.wd x0.τ<=cap*U.wd x0.τ:=kf _ hc
 have pW:n=U.wd x0.τ:=by rw[hn,Eh]
 have B4:(a.eval y).cells.toList.length=U.wd x0.τ:=by rw[mS,mY,Eh]
 have cu:=vS (P:=E.P) (n:=n) (off:=i*U.wd x0.τ) (v:=a.eval y) hs (by rw[mY];exact hn.symm) jy.bx hb (by rw[gS,pW];omega)
 rw[<-EC] at cu
 have exec:(execOp a.eval o).run E.P w=.ok .skip (w.setRow b (cur.toList.take (i*U.wd x0.τ)++(a.eval y).cells.toList++cur.toList.drop (i*U.wd x0.τ+n)).toArray):=by
  unfold execOp;simp only[fV]
  rw[Sem.run_bind,cu];rfl
 have cq:b∈fp k:=by rw[gB];simp
 have BX:=h.bC k _ b bf cq
 rw[gB] at eH
 obtain⟨uP,zQ⟩:=fU.1 eH
 have zK:∀m,(cur.toList.take (i*U.wd x0.τ)++(a.eval y).cells.toList++cur.toList.drop (i*U.wd x0.τ+n)).toArray[m]? =
   if i*U.wd x0.τ<=m/\m<i*U.wd x0.τ+U.wd x0.τ then(a.eval y).cells.toList[m-i*U.wd x0.τ]? else cur[m]? :=by
  intro m
  have bZ:(cur.toList.take (i*U.wd x0.τ)).length=i*U.wd x0.τ:=by rw[kg,mS,gS];omega
  rw[F4,jz]
  by_cases h2:m<i*U.wd x0.τ
  ·rw[jA (by omega),eP,if_pos h2,if_neg (by omega),qt]
  ·rw[kj (by omega),bZ]
   by_cases h3:m<i*U.wd x0.τ+U.wd x0.τ
   ·rw[if_pos ⟨by omega,h3⟩,jA (by omega)]
   ·rw[if_neg (by omega),kj (by omega),mQ,B4,pW,qt]
    congr 1;omega
 have Ej:∀j,j<U.wd x0.τ->(a.eval y).cells.toList[j]? =some ((a.eval y).cells.toList.getD j undef):=fun j hj=>bg (by rw[B4];exact hj)
 have Ei:∀j,j<U.wd x0.τ->bI ((a.eval y).cells.toList.getD j undef):=fun j hj=>by
  obtain⟨c,uN⟩:∃c,ds[j]? =some c:=⟨ds[j]'(by rw[KI];exact hj),cE _⟩
  exact(f2 j c uN).bx
 let jh:Nat->Value:=fun m=>if i*U.wd x0.τ<=m/\m<i*U.wd x0.τ+U.wd x0.τ then(a.eval y).cells.toList.getD (m-i*U.wd x0.τ) undef else vs m
 let cQ:Nat->List Nat:=fun m=>if i*U.wd x0.τ<=m/\m<i*U.wd x0.τ+U.wd x0.τ then fl.getD (m-i*U.wd x0.τ) [] else bT m
 have oc:∀j,j<U.wd x0.τ->jh (i*U.wd x0.τ+j)=(a.eval y).cells.toList.getD j undef/\cQ (i*U.wd x0.τ+j)=fl.getD j []:=fun j hj=>by
  simp only[jh,cQ]
  rw[if_pos ⟨by omega,by omega⟩,if_pos ⟨by omega,by omega⟩,show i*U.wd x0.τ+j-i*U.wd x0.τ=j by omega]
  exact⟨rfl,rfl⟩
 have iZ:∀m,¬(i*U.wd x0.τ<=m/\m<i*U.wd x0.τ+U.wd x0.τ)->jh m=vs m/\cQ m=bT m:=fun m hm=>⟨if_neg hm,if_neg hm⟩
 have jn:∀{q j},j<U.wd x0.τ->q≠i->¬(i*U.wd x0.τ<=q*U.wd x0.τ+j/\q*U.wd x0.τ+j<i*U.wd x0.τ+U.wd x0.τ):=fun{q j} hj hq eU=>
  hq (wo hj (show q*U.wd x0.τ+j-i*U.wd x0.τ<U.wd x0.τ by omega) (by omega)).1
 have uG:∀j b',b'∈fl.getD j []->b'∈fl.flatten:=fun j b' aj=>by
  rcases eW j fl.length with g|g
  ·rw[cI,cE g] at aj
   exact yh.2 ⟨_,yi g,aj⟩
  ·rw[cI,eD g] at aj;cases aj
 have KC:fl.length=U.wd x0.τ:=by rw[f1,KI]
 have wP:∀b',b'∈fl.flatten->b'∉fp k:=fun b' aj Aq=>by
  obtain⟨k',aG,nf⟩:=f4 b' aj
  obtain⟨e',Aj⟩:=ef.1 (t2 k' aG)
  exact h.apart k' k e' _ b' (fun e=>kW.1 (e▸aG)) Aj bf nf Aq
 have Ai:∀m,m<x0.xs.length*U.wd x0.τ->∀b',b'∈bT m->b'∈fp k:=fun m hm b' aj=>by
  rw[gB];exact c9 _ (eY.2 ⟨m,hU.2 hm,aj⟩)
 have eU:∀b'∈b::(List.range (x0.xs.length*U.wd x0.τ)).flatMap cQ,b'∈fl.flatten\/b'∈fp k:=by
  intro b' aj
  rcases dQ.1 aj with rfl|aj
  ·exact .inr cq
  ·obtain⟨m,jQ,aj⟩:=eY.1 aj
   rw[hU] at jQ
   by_cases eU:i*U.wd x0.τ<=m/\m<i*U.wd x0.τ+U.wd x0.τ
   ·have:=(oc (m-i*U.wd x0.τ) (by omega)).2
    rw[show i*U.wd x0.τ+(m-i*U.wd x0.τ)=m by omega] at this
    rw[this] at aj
    exact .inl (uG _ b' aj)
   ·rw[(iZ m eU).2] at aj
    exact .inr (Ai m jQ b' aj)
 have pX:(b::(List.range (x0.xs.length*U.wd x0.τ)).flatMap cQ).Nodup:=by
  refine fU.2 ⟨fun aj=> ?_,?_⟩
  ·obtain⟨m,jQ,aj⟩:=eY.1 aj
   rw[hU] at jQ
   by_cases eU:i*U.wd x0.τ<=m/\m<i*U.wd x0.τ+U.wd x0.τ
   ·have:=(oc (m-i*U.wd x0.τ) (by omega)).2
    rw[show i*U.wd x0.τ+(m-i*U.wd x0.τ)=m by omega] at this
    rw[this] at aj
    exact wP b (uG _ b aj) cq
   ·rw[(iZ m eU).2] at aj
    exact uP (eY.2 ⟨m,hU.2 jQ,aj⟩)
  ·rw[DL KC] at f3
   rw[Cj,List.pairwise_flatMap]
   refine⟨fun m jQ=> ?_,?_⟩
   ·rw[<-Cj]
    rw[hU] at jQ
    by_cases eU:i*U.wd x0.τ<=m/\m<i*U.wd x0.τ+U.wd x0.τ
    ·have:=(oc (m-i*U.wd x0.τ) (by omega)).2
     rw[show i*U.wd x0.τ+(m-i*U.wd x0.τ)=m by omega] at this
     rw[this]
     exact wj f3 (t:=m-i*U.wd x0.τ) (hU.2 (by omega))
    ·rw[(iZ m eU).2]
     exact wj zQ (hU.2 jQ)
   ·refine List.Pairwise.imp_of_mem ?_ (List.nodup_range (n:=x0.xs.length*U.wd x0.τ))
    intro m m' sL pt a_ b1 gE b2 gT g_
    subst g_
    rw[hU] at sL pt
    by_cases eU:i*U.wd x0.τ<=m/\m<i*U.wd x0.τ+U.wd x0.τ
    ·have e1:=(oc (m-i*U.wd x0.τ) (by omega)).2
     rw[show i*U.wd x0.τ+(m-i*U.wd x0.τ)=m by omega] at e1
     rw[e1] at gE
     by_cases Ad:i*U.wd x0.τ<=m'/\m'<i*U.wd x0.τ+U.wd x0.τ
     ·have e2:=(oc (m'-i*U.wd x0.τ) (by omega)).2
      rw[show i*U.wd x0.τ+(m'-i*U.wd x0.τ)=m' by omega] at e2
      rw[e2] at gT
      exact tI f3 (t:=m-i*U.wd x0.τ) (t':=m'-i*U.wd x0.τ) (hU.2 (by omega)) (hU.2 (by omega)) (fun e=>a_ (by omega)) gE gT
     ·rw[(iZ m' Ad).2] at gT
      exact wP b1 (uG _ b1 gE) (Ai m' pt b1 gT)
    ·rw[(iZ m eU).2] at gE
     by_cases Ad:i*U.wd x0.τ<=m'/\m'<i*U.wd x0.τ+U.wd x0.τ
     ·have e2:=(oc (m'-i*U.wd x0.τ) (by omega)).2
      rw[show i*U.wd x0.τ+(m'-i*U.wd x0.τ)=m' by omega] at e2
      rw[e2] at gT
      exact wP b1 (uG _ b1 gT) (Ai m sL b1 gE)
     ·rw[(iZ m' Ad).2] at gT
      exact tI zQ (hU.2 sL) (hU.2 pt) a_ gE gT
 have jr:∀b',F b'->F b'/\(w.setRow b (cur.toList.take (i*U.wd x0.τ)++(a.eval y).cells.toList++cur.toList.drop (i*U.wd x0.τ+n)).toArray).heap[b']? =w.heap[b']? :=fun b' aj=>
  ⟨aj,setRow_other w b b' _ (fun e=>BX.1 (e▸aj))⟩
 have gX:∀b',b'≠b->(w.setRow b (cur.toList.take (i*U.wd x0.τ)++(a.eval y).cells.toList++cur.toList.drop (i*U.wd x0.τ+n)).toArray).heap[b']? =w.heap[b']? :=fun b' aj=>setRow_other w b b' _ aj
 refine tx exec (zO F kv (aO fp k (b::(List.range (x0.xs.length*U.wd x0.τ)).flatMap cQ)) _ _ (h.vL ho k _ _ bf ks _ _ kW.1 ?_ jr (fun b' aj=> .inl aj) ?_ pX ?_ ?_))
 ·intro bad gW
  show aW E _ F _ ⟨x0.τ,x0.xs.set i yv⟩ (kv k) _
  refine .inr ⟨b,cap,_,jh,cQ,by rw[h1,r9],setRow_heap w b cur _ _ _ hb,by rw[r9];exact hc,hm,?_,fun m jQ=> ?_,fun q xq j c hq Ov hj=> ?_,fun q j hq hj=> ?_,by rw[r9]⟩
  ·simp only[xi,rj,kg,px,mS]
   have:=B4
   rw[mS] at this
   rw[this,gS,pW];omega
  ·simp only[r9] at jQ
   rw[zK m]
   by_cases eU:i*U.wd x0.τ<=m/\m<i*U.wd x0.τ+U.wd x0.τ
   ·have e1:=(oc (m-i*U.wd x0.τ) (by omega)).1
    rw[show i*U.wd x0.τ+(m-i*U.wd x0.τ)=m by omega] at e1
    rw[if_pos eU,e1]
    exact⟨Ej _ (by omega),Ei _ (by omega)⟩
   ·rw[if_neg eU,(iZ m eU).1]
    exact hv m jQ
  ·have sR:j<U.wd x0.τ:=by
    rw[<-U.aM x0.τ xq]
    rcases eW j (U.enc x0.τ xq).length with g|g
    ·exact g
    ·have gY:(U.enc x0.τ xq)[j]? =some c:=hj
     rw[eD g] at gY;cases gY
   by_cases xI:q=i
   ·subst xI
    have mZ:xq=yv:=by
     have mZ:(x0.xs.set q yv)[q]? =some xq:=Ov
     rw[vI,if_pos rfl,if_pos hi] at mZ
     exact(yf mZ).symm
    have hj:(U.enc x0.τ xq)[j]? =some c:=hj
    rw[mZ] at hj
    show Rp E _ F true c (jh (q*U.wd x0.τ+j)) (cQ (q*U.wd x0.τ+j))
    rw[(oc j sR).1,(oc j sR).2]
    have gY:ds[j]? =some c:=by rw[<-om];exact hj
    refine(f2 j c gY).bD jr (fun b' aj=>gX b' (fun e=> ?_))
    exact wP b' (uG j b' aj) (e▸cq)
   ·show Rp E _ F true c (jh (q*U.wd x0.τ+j)) (cQ (q*U.wd x0.τ+j))
    have s_:=jn sR xI
    rw[(iZ _ s_).1,(iZ _ s_).2]
    have mZ:x0.xs[q]? =some xq:=by
     have mZ:(x0.xs.set i yv)[q]? =some xq:=Ov
     rw[vI,if_neg (fun e=>xI e.symm)] at mZ
     exact mZ
    have EV:dead q=false:=by
     have hq:(!(Nat.beq q i)&&dead q)=false:=hq
     have P8:Nat.beq q i=false:=by rw[<-nq,te];exact xI
     rw[P8] at hq
     simpa using hq
    refine(zF q xq j c EV mZ hj).bD jr (fun b' aj=>gX b' (fun e=> ?_))
    subst e
    exact uP (eY.2 ⟨_,hU.2 (bw mZ hj),aj⟩)
  ·have OA:¬q=i/\dead q=true:=by
    have hq:(!(Nat.beq q i)&&dead q)=true:=hq
    rw[dR,k_,<-nq,te] at hq
    exact hq
   show cQ (q*U.wd x0.τ+j)=[]
   have s_:=jn hj OA.1
   rw[(iZ _ s_).2]
   exact dq q j OA.2 hj
 ·intro k' e' aG ej g_ b' aj
  exact gX b' (fun e=>h.apart k' k _ _ b' aG g_ bf aj (by rw[e];exact cq))
 ·intro b' aj
  rcases eU b' aj with g|g
  ·obtain⟨k',aG,nf⟩:=f4 b' g
   obtain⟨e',Aj⟩:=ef.1 (t2 k' aG)
   exact⟨(h.bC k' e' b' Aj nf).1,k',by simp[aG],t2 k' aG,nf⟩
  ·exact⟨(h.bC k _ b' bf g).1,k,by simp,by simp[bf],g⟩
 ·exact⟨rfl,rfl,rfl,by simp,fun b' _ pW=>gX b' (fun e=>pW (by rw[e];exact BX.2.1))⟩
end AM
