import Derived.Test.YtknfcngfhlpaeaaGreatDoorQAmMove
namespace AM
set_option linter.unusedVariables false
open Go
variable{U:kz}{E:Env U}{pm:Pm}
variable{F F':Nat->Prop}{kv:Key->Value}{fp:Key->List Nat}{σ:ak U}{a:Act}{w w':World}{bad:Key->Bool}
variable(E) in
def LU(w:World)(F:Nat->Prop)(dead:Nat->Bool)(τ:U.Ty)(xs:List (U.T τ))(vs:List Value)(fl:List (List Nat)):Prop:=
 vs.length=xs.length*U.wd τ/\fl.length=xs.length*U.wd τ/\(∀v∈vs,fI v)/\
 (∀(i:Nat)(x:U.T τ)(j:Nat)(c:U.C),dead i=false->xs[i]? =some x->(U.enc τ x)[j]? =some c->Rp E w F true c (vs.getD (i*U.wd τ+j) undef) (fl.getD (i*U.wd τ+j) []))/\
 ∀i j,dead i=true->j<U.wd τ->fl.getD (i*U.wd τ+j) []=[]
theorem aa5{fl:List (List Nat)}{n:Nat}(h:fl.length=n):fl.flatten=(List.range n).flatMap fun m=>fl.getD m []:=by
 rw[LV]
 congr 1
 refine QO fun m=> ?_
 rw[mw]
 by_cases hn:m<n
 ·rw[KL hn,D3,dB,eW (by rw[h];exact hn)]
  rfl
 ·rw[nb (by rw[h];omega),nb (by simp;omega)]
  rfl
theorem dK.mU{dead:Nat->Bool}{τ:U.Ty}{xs:List (U.T τ)}{b cap:Nat}{cur:Array Value}{vs:List Value}{fl:List (List Nat)}(h2:w.heap[b]? =some (.cells cur (E.tid τ) (0,0)))(h3:xs.length<=cap)(h4:cap<=maxLen)
  (h5:cur.size=cap*U.wd τ) (h6:cur.toList.take (xs.length*U.wd τ)=vs) (h7:LU E w F dead τ xs vs fl):dK E w F dead ⟨τ,xs⟩ (.slice (some ⟨b,0,none⟩) xs.length cap) (b::fl.flatten):=by
 have hle:xs.length*U.wd τ<=cap*U.wd τ:=ze _ h3
 refine .inr ⟨b,cap,cur,fun n=>vs.getD n undef,fun n=>fl.getD n [],rfl,h2,h3,h4,h5,fun i hi=> ?_,h7.2.2.2.1,h7.2.2.2.2,by rw[aa5 h7.2.1]⟩
 have pa:i<xs.length*U.wd τ:=hi
 have hvi:vs[i]? =some (vs.getD i undef):=ff (by rw[h7.1];exact pa)
 refine⟨?_,h7.2.2.1 _ (Em hvi)⟩
 show cur[i]? =some (vs.getD i undef)
 rw[<-hvi,<-h6,oT,if_pos pa,JE]
theorem dK.rows{dead:Nat->Bool}{x:cC U}{v:Value}{l:List Nat}(h:dK E w F dead x v l):
  (x.xs=[]/\(∃ad,v=.slice ad 0 0)/\l=[])\/
  ∃(b cap:Nat)(cur:Array Value)(vs:List Value)(fl:List (List Nat)),v=.slice (some ⟨b,0,none⟩) x.xs.length cap/\w.heap[b]? =some (.cells cur (E.tid x.τ) (0,0))/\x.xs.length<=cap/\cap<=maxLen/\
   cur.size=cap*U.wd x.τ/\cur.toList.take (x.xs.length*U.wd x.τ)=vs/\LU E w F dead x.τ x.xs vs fl/\l=b::fl.flatten:=by
 rcases h with h|⟨b,cap,cur,vs,gr,h1,h2,h3,h4,h5,h6,h7,h8,h9⟩
 ·exact .inl h
 have hle:x.xs.length*U.wd x.τ<=cap*U.wd x.τ:=ze _ h3
 have rk:∀n,n<x.xs.length*U.wd x.τ->(cur.toList.take (x.xs.length*U.wd x.τ))[n]? =some (vs n):=fun n hn=>by
  rw[oT,if_pos hn,JE];exact(h6 n hn).1
 refine .inr ⟨b,cap,cur,_,(List.range (x.xs.length*U.wd x.τ)).map gr,h1,h2,h3,h4,h5,rfl,⟨by simp;omega,by simp,fun u hu=> ?_,fun i y j c hi hx hj=> ?_,fun i j hi hj=> ?_⟩,by rw[h9,LV]⟩
 ·obtain⟨n,hn,rfl⟩:=qD hu
  have uS:n<x.xs.length*U.wd x.τ:=by simp at hn;omega
  have rv:=rk n uS
  rw[eW hn] at rv
  rw[VU rv]
  exact(h6 n uS).2
 ·have fU:=fi hx hj
  have:=h7 i y j c hi hx hj
  rw[dB,rk _ fU,dB,mw,KL fU]
  exact this
 ·rw[dB,mw]
  by_cases fU:i*U.wd x.τ+j<x.xs.length*U.wd x.τ
  ·rw[KL fU];exact h8 i j hi hj
  ·rw[nb (by simp;omega)];rfl
theorem eg.CZ{deep:Bool}{τ:U.Ty}{xs:List (U.T τ)}{vs:List Value}{fl:List (List Nat)}(h:eg E w F deep τ xs vs fl):∀v∈vs,fI v:=by
 intro v hv
 obtain⟨n,hn,rfl⟩:=qD hv
 obtain⟨i,x,j,c,rfl,_,_,hx,hj⟩:=aaw (xs:=xs) (by rw[<-h.1];exact hn)
 have:=h.2.2 i x j c hx hj
 rw[dB,eW hn] at this
 exact this.fJ
theorem eg.dead{τ:U.Ty}{xs zs:List (U.T τ)}{vs us:List Value}{fl:List (List Nat)}(h:eg E w F true τ xs vs fl)(hl:us.length=zs.length*U.wd τ)(ho:∀u∈us,fI u):
  LU E w F (fun i=>Nat.ble xs.length i) τ (xs++zs) (vs++us) (fl++List.replicate (zs.length*U.wd τ) []):=by
 refine⟨by simp[h.1,hl,x_],by simp[h.2.1,x_],fun v hv=> ?_,fun i x j c hi hx hj=> ?_,fun i j hi hj=> ?_⟩
 ·rcases jE.1 hv with hv|hv
  ·exact h.CZ v hv
  ·exact ho v hv
 ·have pa:i<xs.length:=by
   rcases nL i xs.length with g|g
   ·exact g
   ·exact absurd ((Nat.ble_eq_true_of_le g).symm.trans hi) (by decide)
  rw[wg pa] at hx
  have:=fi hx hj
  rw[H8 (by rw[h.1];exact this),H8 (by rw[h.2.1];exact this)]
  exact h.2.2 i x j c hx hj
 ·have pa:=HG hi
  have:xs.length*U.wd τ<=i*U.wd τ:=ze _ pa
  rw[Mf (by rw[h.2.1];omega),FJ]
theorem aaT:∀{xs:List (SV U)}{us:List Value}{wd:Nat},C2 wd xs=true->xs.length=us.length->(∀(i:Nat)(x:SV U)(u:Value),xs[i]? =some x->us[i]? =some u->RS E w F kv fp bad x u)->
  (∀u∈us,u.cells.size=wd)/\∀v∈us.flatMap (fun u=>u.cells.toList),fI v
 |[],[],_,_,_,_=>⟨by simp,by simp⟩
 |[],_::_,_,_,hl,_=>by simp at hl
 |_::_,[],_,_,hl,_=>by simp at hl
 |x::xs,u::us,wd,hk,hl,hx=>by
  cases x with
  |uZ l=>cases hk
  |fn p=>cases hk
  |Ff g l=>cases hk
  |v x=>
   simp only[C2,cH] at hk
   obtain⟨r1,r2⟩:=Mi (hx 0 (.v x) u rfl rfl)
   obtain⟨i1,i2⟩:=aaT hk.2 (by simpa using hl) (fun i z v hz hv=>hx (i+1) z v (by simpa using hz) (by simpa using hv))
   refine⟨fun v hv=> ?_,fun v hv=> ?_⟩
   ·rcases jF.1 hv with rfl|hv
    ·rw[r2];exact mc hk.1
    ·exact i1 v hv
   ·rw[yb,jE] at hv
    rcases hv with hv|hv
    ·obtain⟨n,hn,rfl⟩:=qD hv
     have uS:n<x.cs.length:=by rw[r1.1];exact hn
     exact(r1.2 n x.cs[n] _ (eW uS) (eW hn)).1
    ·exact i2 v hv
theorem aiQ(hE:E.Ok)(h:cG E pm F kv fp σ a w){o:Oper}{d:Nat}(ho:o.dst=some d)(hd:d<σ.n){t e:TypeId}{len:Nat}{parts:Array (Nat×Operand)}(qB:o.op=.buildSlice t len parts)
  {τ:U.Ty} (tt:E.elem t=some e) (hc:E.code e=some τ) {xs:List (SV U)} (hx:xs.length=parts.toList.length)
  (hv:∀(i:Nat)(x:SV U)(q:Nat×Operand),xs[i]? =some x->parts.toList[i]? =some q->RS E w F kv fp (bR σ) x (a.eval q.2))
  (hlen:(parts.toList.map (·.1)).length=len) (Yd:((parts.toList.map (·.1)).zipIdx).all (fun(a,b)=>Nat.beq a b)=true) (hsm:len*U.wd τ<=1000000)
  (hkp:C2 (U.wd τ) xs=true)
  (nu:¬Names σ (d,0)) {next:Act->World->Prop} {Q:Exit->Act->World->Prop}
  (hn:∀F kv fp a' w',cG E pm F kv fp (AM.apply o ⟨some (one (.ref (d,0) [])),[(0,.part ⟨τ,List.replicate len (U.ee τ)⟩ (fun _=>true))],[],[],[]⟩ σ) a' w'->next a' w'):o.wp E.P a w next Q:=by
 obtain⟨yA,i,z,hi,hz,iL,MF,Uc,_⟩:=hE.code e τ hc
 have hu:=CH tt
 have hw:=U.kp τ
 obtain⟨r2,r3⟩:=aaT (us:=parts.toList.map fun q=>a.eval q.2) hkp (by simp[hx]) (fun i x u QT rf=>by
  rw[mw] at rf
  cases hq:parts.toList[i]? with
  |none=>rw[hq] at rf;cases rf
  |some q=>rw[hq] at rf;cases rf;exact hv i x q QT hq)
 have zU:parts.toList.length=len:=by rw[<-hlen];simp
 have Kh:(parts.map fun(i,x)=>(i,a.eval x)).toList=((parts.toList.map fun q=>a.eval q.2).zipIdx 0).map fun x=>(x.2,x.1):=by
  rw[ZD]
  refine QO fun n=> ?_
  rw[mw,mw,zej,mw]
  cases hq:parts.toList[n]? with
  |none=>rfl
  |some q=>
   simp only[D3,fM,nT,tH,and_true]
   have h1:((parts.toList.map (·.1)).zipIdx)[n]? =some (q.1,n):=by
    rw[zej,mw,hq];simp
   have:=(sh.1 Yd) (q.1,n) (Em h1)
   exact mc this
 have Xq:¬len*i.size>2^24:=by rw[iL];omega
 have Kj:len<=maxLen:=by
  have:len<=len*U.wd τ:=Nat.le_mul_of_pos_right _ hw
  simp only[maxLen];omega
 have An:∀(l:List Value),(∀u∈l,u.cells.size=U.wd τ)->(l.flatMap fun u=>u.cells.toList).length=l.length*U.wd τ:=by
  intro l
  induction l with
  |nil=>intro _;simp
  |cons u l ih=>
   intro hl
   rw[yb,na,ih (fun v hv=>hl v (e8 _ hv)),D4,hl u gS,ir,x_,Nv,Y5]
 have fin:∀cells:Array Value,cells.toList=(parts.toList.map fun q=>a.eval q.2).flatMap (fun u=>u.cells.toList)->
   (Instr.buildSlice t len (parts.map fun(i,x)=>(i,a.eval x))).run E.P w=.ok (.slice (some ⟨w.heap.size,0,none⟩) len len) (w.alloc (.cells cells e))->o.wp E.P a w next Q:=by
  intro cells rr iM
  have gB:cells.toList.length=len*U.wd τ:=by rw[rr,An _ r2];simp[zU]
  have tY:cells.size=len*U.wd τ:=by simpa using gB
  have jz:LU E (w.alloc (.cells cells e)) F (fun _=>true) τ (List.replicate len (U.ee τ)) cells.toList (List.replicate (len*U.wd τ) []):=by
   refine⟨by rw[gB];simp,by simp,fun v hv=>r3 v (by rw[<-rr];exact hv),fun i x j c hi=>Bool.noConfusion hi,fun i j _ _=>FJ⟩
  have nI:=h.Dy (w':=w.alloc (.cells cells e)) (F':=F) ho hd (.part ⟨τ,List.replicate len (U.ee τ)⟩ (fun _=>true)) (one (.ref (d,0) [])) [] [] (.slice (some ⟨w.heap.size,0,none⟩) len len) (.slice (some ⟨w.heap.size,0,none⟩) len len) [w.heap.size] nu
   (fun bad=>gP ⟨⟨rfl,trivial⟩,.inr (by simp only[RA,sE];rfl)⟩)
   (fun bad=>by
    have:=dK.mU (F:=F) (b:=w.heap.size) (cap:=len) (by rw[yA];exact heap_alloc_new w _) (by simp) Kj tY (by rw[QN (by rw[gB];simp)]) jz
    rw[zee,ym] at this
    exact this)
   (fun b hb=>⟨hb,zS w _ (h.sO b hb)⟩) (fun b hb=> .inl hb) (fun k e _ he b hb=>zS w _ (FL h he hb)) (by simp)
   (fun b hb=>by
    rw[mb.1 hb]
    exact⟨fun hF=>by have:=h.sO _ hF;omega,.inr ⟨sB _,by simp⟩⟩) (gq.alloc _ _ _)
  refine qZ (v:=.slice (some ⟨w.heap.size,0,none⟩) len len) (w':=w.alloc (.cells cells e)) ?_ (hn F _ _ _ _ nI)
  unfold execOp;simp only[qB];exact gY iM
 by_cases h0:len=0
 ·have Ki:parts.toList=[]:=Fy (by omega)
  have O9:parts= #[]:=yn Ki
  subst h0
  refine fin #[] (by simp[Ki]) ?_
  simp[Instr.buildSlice,run_underlying hu,Go.sizeOf,typeInfo,hi,O9,Instr.fill,newRow,Array.range_zero']
 ·have Ix:¬len*i.size=0:=by
   rw[iL]
   have:=Nat.mul_pos (Nat.pos_of_ne_zero h0) hw
   omega
  have Pl:=Great.fill_whole (s:=i.size) (by rw[iL];exact hw) (parts.toList.map fun q=>a.eval q.2) ((Array.range (len*i.size)).map (z.cells[·%z.cells.size]!)) (fun v hv=>by rw[iL];exact r2 v hv) (by simp[zU])
  refine fin ((parts.toList.map fun q=>a.eval q.2).flatMap fun v=>v.cells.toList).toArray rfl (run_buildSlice w t e len _ _ i z hu hi hz Xq Ix ?_)
  rw[Kh]
  exact Pl
theorem ajQ(hE:E.Ok)(h:cG E pm F kv fp σ a w){o:Oper}{d:Nat}(ho:o.dst=some d)(hd:d<σ.n){cl:Call}{t e:TypeId}{s x:Operand}(qB:o.op=.call cl)(gB:cl.callee=.builtin .append)
  (kG:cl.args.toList=[s,x]) (Ai:cl.argTypes.toList=[t,t]) {τ:U.Ty} (tt:E.elem t=some e) (hc:E.code e=some τ) {ss sx:SV U} {ys yx:AC U}
  (hs:RS E w F kv fp (bR σ) ss (a.eval s)) (Sg:tG ss=some ys) (hx:RS E w F kv fp (bR σ) sx (a.eval x)) (hsx:tG sx=some yx)
  {rs:List Key} {ps:List Prop} {xs zs:List (U.T τ)} {ks ks':List Key} {pall:List Prop}
  (XC:tm τ (restrict σ.bH rs) ys=some (ps,xs,ks,true)) (Iz:FU τ (restrict σ.bH rs) yx=some (zs,ks')) (hp:∀p∈ps,p) (Gg:(ks++ks').Nodup) (hle:xs.length+zs.length<=4294967296)
  (nu:¬Names σ (d,0)) {next:Act->World->Prop} {Q:Exit->Act->World->Prop}
  (hn:∀F kv fp a' w',cG E pm F kv fp (AM.apply o ⟨some (one (.ref (d,0) [])),[(0,.part ⟨τ,xs++zs⟩ (fun i=>Nat.ble xs.length i))],ks++ks',[],pall⟩ σ) a' w'->next a' w'):o.wp E.P a w next Q:=by
 obtain⟨yA,i,z,hi,hz,iL,MF,Uc,_⟩:=hE.code e τ hc
 have hu:=CH tt
 have hw:=U.kp τ
 obtain⟨yH,kx,l,Ls,zv,MQ⟩:=aaJ h XC hp (kr hs Sg)
 obtain⟨C9,us,ve,Xm,rh⟩:(∀k∈ks',(σ.bH k).isSome=true)/\∃us,us.length=zs.length*U.wd τ/\(∀u∈us,fI u)/\Src E.P w t (a.eval x) (U.wd τ) zs.length us:=by
  unfold FU at Iz
  split at Iz
  ·rename_i k
   split at Iz
   ·rename_i y dead he
    split at Iz
    ·rename_i zs' QS
     cases Iz
     have:=dr QS
     subst this
     have ew:=jx he
     have h1:a.eval x=kv k:=ca (kr hx hsx) rfl
     have h2:dK E w F dead ⟨τ,zs⟩ (kv k) (fp k):=h.cW k _ ew
     rw[<-h1] at h2
     refine⟨by simp[ew],?_⟩
     rcases h2.rows with⟨h3,⟨ad,h4⟩,h5⟩|⟨b,cap,cur,vs,fl,h3,h4,h5,h6,h7,h8,h9,rv⟩
     ·simp only at h3;subst h3
      exact⟨[],by simp,by simp,by rw[h4];exact Src.slice hu (by simp) (fun hh=>by simp at hh)⟩
     ·simp only at h3 h4 h5 h7 h8 h9
      refine⟨vs,h9.1,h9.2.2.1,?_⟩
      rw[h3]
      refine Src.slice hu (h9.1) (fun _=>⟨b,0,rfl,fun i u rf=> ?_⟩)
      rw[<-h8,oT] at rf
      split at rf
      ·rw[cell_of_row w b _ cur _ (0,0) h4];simpa using rf
      ·cases rf
    ·cases Iz
   ·cases Iz
  ·cases Iz
 rw[<-iL] at rh
 have iN:∀k∈ks++ks',(σ.bH k).isSome=true:=fun k hk=>(jE.1 hk).elim (kx k) (C9 k)
 have exec:∀{v w1},(Builtin.append_ #[t,t] o.type #[a.eval s,a.eval x]).run E.P w=.ok v w1->(execOp a.eval o).run E.P w=.ok (.value v) w1:=by
  intro v w1 hr
  have ha:cl.args= #[s,x]:=yn kG
  have ht:cl.argTypes= #[t,t]:=yn Ai
  unfold execOp;simp only[qB]
  simp[resolve,gB,ha,ht,invoke,builtin,hr]
 have Kj:∀{n:Nat},n<=4294967296->n<=maxLen:=fun hh=>by simp only[maxLen];omega
 have Zj:∀k∈ks++ks',∀b∈fp k,¬F b:=fun k hk b hb=>by
  obtain⟨e,he⟩:=l6.1 (iN k hk)
  exact(h.fj k e b he hb).1
 have hWb:∀k∈ks++ks',∀b∈fp k,(pm.W b\/pm.w0.heap.size<=b)/\b<w.heap.size:=fun k hk b hb=>by
  obtain⟨e,he⟩:=l6.1 (iN k hk)
  exact(h.fj k e b he hb).2
 have MI:∀(fl:List (List Nat)),(fl++List.replicate (zs.length*U.wd τ) ([]:List Nat)).flatten=fl.flatten:=fun fl=>by rw[Ju,ym,sR]
 have grow:∀(vs:List Value)(fl:List (List Nat)),eg E w F true τ xs vs fl->fl.flatten.Nodup->(∀b∈fl.flatten,∃k∈ks,b∈fp k)->
   ∀{cap:Nat}{cur:Array Value}{w1:World},(∀b,b<w.heap.size->w1.heap[b]? =w.heap[b]?)->gq (fun b=>pm.W b\/pm.w0.heap.size<=b) w w1->w.heap.size<w1.heap.size->
   w1.heap[w.heap.size]? =some (.cells cur (E.tid τ) (0,0))->(xs++zs).length<=cap->cap<=maxLen->cur.size=cap*U.wd τ->cur.toList.take ((xs++zs).length*U.wd τ)=vs++us->
   next (a.put o.dst (.slice (some ⟨w.heap.size,0,none⟩) (xs++zs).length cap)) w1:=by
  intro vs fl h1 h2 h3 cap cur w1 yz oV tU hb l_ hm tY zu
  have fU:∀b∈fl.flatten,b<w.heap.size:=fun b hb=>by obtain⟨k,hk,hb⟩:=h3 b hb;exact(hWb k (by simp[hk]) b hb).2
  have nI:=h.Dy ho hd (.part ⟨τ,xs++zs⟩ (fun i=>Nat.ble xs.length i)) (one (.ref (d,0) [])) (ks++ks') pall (.slice (some ⟨w.heap.size,0,none⟩) (xs++zs).length cap) (.slice (some ⟨w.heap.size,0,none⟩) (xs++zs).length cap) (w.heap.size::fl.flatten) (w':=w1) (F':=F) nu
   (fun bad=>gP ⟨⟨rfl,trivial⟩,.inr (by simp only[RA,sE];rfl)⟩)
   (fun bad=>by
    have:=dK.mU hb l_ hm tY zu ((h1.fC (fun b' bg=>⟨bg,yz b' (h.sO b' bg)⟩) (fun b' bg=>yz b' (fU b' bg))).dead ve Xm)
    rw[MI] at this
    exact this)
   (fun b' bg=>⟨bg,yz b' (h.sO b' bg)⟩) (fun b' bg=> .inl bg) (fun k e _ he b' bg=>yz b' (FL h he bg))
   (sC.2 ⟨fun bg=>by have:=fU _ bg;omega,h2⟩)
   (fun b' bg=>by
    rcases jF.1 bg with rfl|bg
    ·exact⟨fun hF=>by have:=h.sO _ hF;omega,.inr ⟨sB _,tU⟩⟩
    ·obtain⟨k,hk,ic⟩:=h3 b' bg
     exact⟨Zj k (by simp[hk]) b' ic,.inl ⟨k,by simp[hk],kx k hk,ic⟩⟩) oV
  exact hn _ _ _ _ _ nI
 have wW:∀{b cap:Nat}{cur':Array Value}{vs:List Value}{fl:List (List Nat)}{w1:World},eg E w F true τ xs vs fl->l=b::fl.flatten->(∀b',b'≠b->w1.heap[b']? =w.heap[b']?)->w1.heap.size=w.heap.size->
   w1.os=w.os->w1.tape=w.tape->w1.output=w.output->w1.heap[b]? =some (.cells cur' (E.tid τ) (0,0))->(xs++zs).length<=cap->cap<=maxLen->cur'.size=cap*U.wd τ->cur'.toList.take ((xs++zs).length*U.wd τ)=vs++us->
   next (a.put o.dst (.slice (some ⟨b,0,none⟩) (xs++zs).length cap)) w1:=by
  intro b cap cur' vs fl w1 jz hl yz tU hos htp vB hb l_ hm tY zu
  subst hl
  have ic:∃k∈ks,b∈fp k:=MQ b (by simp)
  obtain⟨kb,MS,Gl⟩:=ic
  have Yt:¬F b:=Zj kb (by simp[MS]) b Gl
  have oV:gq (fun b=>pm.W b\/pm.w0.heap.size<=b) w w1:=⟨hos,htp,vB,by omega,fun k hk IA=>yz k (fun e=>IA (e▸(hWb kb (by simp[MS]) b Gl).1))⟩
  have Gd:∀k e,k∉ks++ks'->σ.bH k=some e->∀b'∈fp k,w1.heap[b']? =w.heap[b']? :=fun k e hk he b' bg=>yz b' (fun e'=>by
   subst e'
   obtain⟨eb,heb⟩:=l6.1 (kx kb MS)
   exact h.apart kb k eb e b' (fun e'=>hk (by subst e';simp[MS])) heb he Gl bg)
  have Ud:=(sC.1 zv).1
  have nI:=h.Dy ho hd (.part ⟨τ,xs++zs⟩ (fun i=>Nat.ble xs.length i)) (one (.ref (d,0) [])) (ks++ks') pall _ (.slice (some ⟨b,0,none⟩) (xs++zs).length cap) (b::fl.flatten) (w':=w1) (F':=F) nu
   (fun bad=>gP ⟨⟨rfl,trivial⟩,.inr (by simp only[RA,sE];rfl)⟩)
   (fun bad=>by
    have:=dK.mU hb l_ hm tY zu ((jz.fC (fun b' bg=>⟨bg,yz b' (fun e=>Yt (e▸bg))⟩) (fun b' bg=>yz b' (fun e=>Ud (e▸bg)))).dead ve Xm)
    rw[MI] at this
    exact this)
   (fun b' bg=>⟨bg,yz b' (fun e=>Yt (e▸bg))⟩) (fun b' bg=> .inl bg) Gd zv
   (fun b' bg=>by obtain⟨k,hk,bg⟩:=MQ b' bg;exact⟨Zj k (by simp[hk]) b' bg,.inl ⟨k,by simp[hk],kx k hk,bg⟩⟩) oV
  exact hn _ _ _ _ _ nI
 have Xl:∀u∈us,u.oneCell'=true:=fun u hu=>(Xm u hu).1
 have C':(xs.length+zs.length)*i.bytes<=140737488355328:=by
  have:=Nat.mul_le_mul hle Uc
  omega
 by_cases dG:zs.length=0
 ·have OY:zs=[]:=Fy dG
  subst OY
  have vA:us=[]:=Fy (by simpa using ve)
  rcases Ls.rows with⟨h3,⟨Nh,h4⟩,h5⟩|⟨b,cap,cur,vs,fl,h3,h4,h5,h6,h7,h8,h9,rv⟩
  ·simp only at h3;subst h3
   have hr:=exec (v:=.slice Nh 0 0) (w1:=w) (by rw[h4];exact Rn w hu hi _ _ _ (by rw[vA] at rh;exact rh) (sB _))
   refine qZ hr ?_
   have nI:=h.Dy ho hd (.part ⟨τ,[]⟩ (fun i=>Nat.ble ([]:List (U.T τ)).length i)) (one (.ref (d,0) [])) (ks++ks') pall (.slice Nh 0 0) (.slice Nh 0 0) [] (w':=w) (F':=F) nu
    (fun bad=>gP ⟨⟨rfl,trivial⟩,.inr (by simp only[RA,sE];rfl)⟩) (fun bad=> .inl ⟨rfl,⟨Nh,rfl⟩,rfl⟩) (fun b hb=>⟨hb,rfl⟩) (fun b hb=> .inl hb) (fun _ _ _ _ _ _=>rfl) (by simp) (by simp) (gq.refl _ _)
   exact hn _ _ _ _ _ nI
  ·simp only at h3 h4 h5 h7 h8 h9
   have hr:=exec (v:=.slice (some ⟨b,0,none⟩) xs.length cap) (w1:=w) (by rw[h3];exact Rn w hu hi _ _ _ (by rw[vA] at rh;exact rh) h5)
   refine qZ hr ?_
   have:=wW (b:=b) (cap:=cap) (cur':=cur) (vs:=vs) (fl:=fl) (w1:=w) h9 rv (fun _ _=>rfl) rfl rfl rfl rfl h4 (by simpa using h5) h6 h7 (by rw[vA,sR,sR];exact h8)
   simpa using this
 ·have XI:us.length=zs.length*i.size:=by rw[iL];exact ve
  have grown:∀(vs:List Value)(fl:List (List Nat)),vs.length=xs.length*U.wd τ->eg E w F true τ xs vs fl->fl.flatten.Nodup->(∀b∈fl.flatten,∃k∈ks,b∈fp k)->
    ∀FV:Nat,FV<xs.length+zs.length->(Builtin.append_ #[t,t] o.type #[a.eval s,a.eval x]).run E.P w=
     .ok (.slice (some ⟨w.heap.size,0,none⟩) (xs.length+zs.length) (grownCap w (xs.length+zs.length) FV e)) (w.drew.alloc (.cells (vs.toArray++us.toArray++Builtin.zeroCells z.cells (grownCap w (xs.length+zs.length) FV e-(xs.length+zs.length))) e))->
    o.wp E.P a w next Q:=by
   intro vs fl Ec h1 h2 h3 FV hold iM
   refine qZ (exec iM) ?_
   have Yf:=grownCap_ge w (xs.length+zs.length) FV e
   have:=grow vs fl h1 h2 h3 (cap:=grownCap w (xs.length+zs.length) FV e) (cur:=vs.toArray++us.toArray++Builtin.zeroCells z.cells (grownCap w (xs.length+zs.length) FV e-(xs.length+zs.length)))
    (w1:=w.drew.alloc (.cells (vs.toArray++us.toArray++Builtin.zeroCells z.cells (grownCap w (xs.length+zs.length) FV e-(xs.length+zs.length))) e))
    (fun b hb=>zS w.drew _ hb) ((gq.drew _ _).trans (gq.alloc _ _ _)) (by simp) (by rw[yA];exact heap_alloc_new w.drew _) (by simpa using Yf) (grownCap_le_maxLen w _ FV e (Kj hle))
    (by
     simp only[Array.size_append,Q8,size_zeroCells,MF,Ec,ve,<-x_]
     congr 1;omega)
    (by
     have zv:((xs++zs).length*U.wd τ)=(vs++us).length:=by simp[Ec,ve,x_]
     simp only[Array.toList_append,we]
     rw[<-we,zv]
     exact List.take_left)
   simpa using this
  rcases Ls.rows with⟨h3,⟨Nh,h4⟩,h5⟩|⟨b,cap,cur,vs,fl,h3,h4,h5,h6,h7,h8,h9,rv⟩
  ·simp only at h3;subst h3
   refine grown [] [] (by simp) eg.nil (by simp) (by simp) 0 (by omega) ?_
   rw[h4]
   simp only[ig,tH] at C' hle⊢
   cases Nh with
   |none=>
    have hr:=aav (ty:=o.type) w hu hi hz rh (by omega) (by omega) (by omega)
    simpa using hr
   |some a'=>
    have hr:=Ro (ty:=o.type) w hu hi hz a' 0 0 [] (by simp) (by simp) rh (by omega) (by omega) (growslice_fits (by omega) (by simpa using C'))
    simpa using hr
  ·simp only at h3 h4 h5 h7 h8 h9
   have Ec:vs.length=xs.length*U.wd τ:=h9.1
   by_cases wX:xs.length+zs.length<=cap
   ·have MX:xs.length*i.size+us.length<=cur.size:=by rw[XI,iL,h7,<-x_];exact ze _ wX
    have hr:=aau (ty:=o.type) w hu hi b xs.length cap cur (by rw[<-yA];exact h4) rh Xl wX MX
    rw[<-h3] at hr
    refine qZ (exec hr) ?_
    have:=wW (b:=b) (cap:=cap) (cur':=(cur.toList.take (xs.length*i.size)++us++cur.toList.drop (xs.length*i.size+us.length)).toArray) (vs:=vs) (fl:=fl)
     (w1:=w.setRow b (cur.toList.take (xs.length*i.size)++us++cur.toList.drop (xs.length*i.size+us.length)).toArray) h9 rv (fun b' bg=>setRow_other w b b' _ bg) (by simp) rfl rfl rfl (setRow_heap w b cur _ _ _ h4) (by simpa using wX) h6
     (by
      simp only[Q8,na,nE,Jt,D4]
      omega)
     (by
      have zv:((xs++zs).length*U.wd τ)=(vs++us).length:=by simp[Ec,ve,x_]
      rw[iL,h8,zv]
      exact List.take_left)
    simpa using this
   ·refine grown vs fl Ec h9 (by rw[rv] at zv;exact(sC.1 zv).2) (fun b' bg=>MQ b' (by rw[rv];simp[bg])) cap (by omega) ?_
    rw[h3]
    refine Ro (ty:=o.type) w hu hi hz ⟨b,0,none⟩ xs.length cap vs (by rw[iL];exact Ec) (fun j u hu=> ?_) rh (by omega) (by omega) (growslice_fits (by omega) C')
    rw[Addr.add_mid,tH,cell_of_row w b _ cur _ (0,0) h4]
    rw[<-h8,oT] at hu
    split at hu
    ·simpa using hu
    ·cases hu
theorem ahx(h:cG E pm F kv fp σ a w){o:Oper}(ho:o.dst=none){t:TypeId}{x y:Operand}(qB:o.op=.store t x y){sx:SV U}{yx:AC U}{z:AV U}{n:Nat}{rs:List Key}{r:bX U}
  (hx:RS E w F kv fp (bR σ) sx (a.eval x)) (w6:tG sx=some yx) (hy:RS E w F kv fp (bR σ) (.v z) (a.eval y)) (hs:E.size t=some n) (hn:n=z.cs.length)
  (hr:yg (restrict σ.bH rs) z yx=some r) (hp:∀p∈r.pre,p) {next:Act->World->Prop} {Q:Exit->Act->World->Prop}
  (Si:∀F kv fp a' w',cG E pm F kv fp (AM.apply o r σ) a' w'->next a' w'):o.wp E.P a w next Q:=by
 have Aj:=kr hx w6
 obtain⟨gM,sz⟩:=Mi hy
 unfold yg at hr
 split at hr
 rotate_left
 ·cases hr
 rename_i k i wd
 split at hr
 rotate_left
 ·cases hr
 rename_i x0 dead he
 have ew:=jx he
 rw[gI] at hr
 split at hr
 rotate_left
 ·cases hr
 rename_i mi
 simp only[cH] at mi
 have tT:=mc mi.1
 have hzl:=mc mi.2
 subst tT
 split at hr
 rotate_left
 ·cases hr
 rename_i qs ds ks zu
 split at hr
 rotate_left
 ·cases hr
 rename_i yv Km
 rw[gI] at hr
 split at hr
 rotate_left
 ·cases hr
 rename_i rq
 cases hr
 have sP:=sC.1 (tf.1 rq)
 have hi:i<x0.xs.length:=hp _ (by simp)
 obtain⟨t1,t2,t3,_⟩:=JZ h zu (fun q hq=>hp q (by simp[hq])) gM sP.2
 obtain⟨fl,f1,f2,f3,f4⟩:=t3 rfl
 have Gi:=U.lK x0.τ ds yv Km
 have hdl:ds.length=U.wd x0.τ:=by rw[<-Gi,U.cY]
 have nq:dK E w F dead x0 (kv k) (fp k):=h.cW k _ ew
 have o9:=h.nodup k _ ew
 rcases nq with⟨h0,_⟩|⟨b,cap,cur,vs,gr,h1,hb,hc,hm,tY,hv,Xu,jR,rl⟩
 ·rw[h0] at hi;simp at hi
 obtain⟨bb,oo,nn,cc,nt,hpv⟩:=ca Aj (by simp[hJ])
 simp only[nU] at nt
 rw[h1] at nt
 simp only[Value.slice.injEq,fM,Addr.mk.injEq,and_true] at nt
 obtain⟨⟨e1,e2⟩,_,_⟩:=nt
 rw[e1,e2,tH,HD] at hpv
 have hN:i*U.wd x0.τ+U.wd x0.τ<=x0.xs.length*U.wd x0.τ:=by
  have:(i+1)*U.wd x0.τ<=x0.xs.length*U.wd x0.τ:=ze _ hi
  rw[x_,Nv] at this
  exact this
 have hNc:x0.xs.length*U.wd x0.τ<=cap*U.wd x0.τ:=ze _ hc
 have IA:n=U.wd x0.τ:=by rw[hn,hzl]
 have Zu:(a.eval y).cells.toList.length=U.wd x0.τ:=by rw[D4,sz,hzl]
 have iM:=Rk (P:=E.P) (n:=n) (off:=i*U.wd x0.τ) (v:=a.eval y) hs (by rw[sz];exact hn.symm) gM.fJ hb (by rw[tY,IA];omega)
 rw[<-hpv] at iM
 have exec:(execOp a.eval o).run E.P w=.ok .skip (w.setRow b (cur.toList.take (i*U.wd x0.τ)++(a.eval y).cells.toList++cur.toList.drop (i*U.wd x0.τ+n)).toArray):=by
  unfold execOp;simp only[qB]
  rw[Sem.run_bind,iM];rfl
 have ic:b∈fp k:=by rw[rl];simp
 have XG:=h.fj k _ b ew ic
 rw[rl] at o9
 obtain⟨Ud,XE⟩:=sC.1 o9
 have Xz:∀m,(cur.toList.take (i*U.wd x0.τ)++(a.eval y).cells.toList++cur.toList.drop (i*U.wd x0.τ+n)).toArray[m]? =
   if i*U.wd x0.τ<=m/\m<i*U.wd x0.τ+U.wd x0.τ then(a.eval y).cells.toList[m-i*U.wd x0.τ]? else cur[m]? :=by
  intro m
  have fU:(cur.toList.take (i*U.wd x0.τ)).length=i*U.wd x0.τ:=by rw[nE,D4,tY];omega
  rw[zed,we]
  by_cases h2:m<i*U.wd x0.τ
  ·rw[wg (by omega),oT,if_pos h2,if_neg (by omega),JE]
  ·rw[ya (by omega),fU]
   by_cases h3:m<i*U.wd x0.τ+U.wd x0.τ
   ·rw[if_pos ⟨by omega,h3⟩,wg (by omega)]
   ·rw[if_neg (by omega),ya (by omega),Fx,Zu,IA,JE]
    congr 1;omega
 have abz:∀j,j<U.wd x0.τ->(a.eval y).cells.toList[j]? =some ((a.eval y).cells.toList.getD j undef):=fun j hj=>ff (by rw[Zu];exact hj)
 have aby:∀j,j<U.wd x0.τ->fI ((a.eval y).cells.toList.getD j undef):=fun j hj=>by
  obtain⟨c,Ps⟩:∃c,ds[j]? =some c:=⟨ds[j]'(by rw[hdl];exact hj),eW _⟩
  exact(f2 j c Ps).fJ
 let uP:Nat->Value:=fun m=>if i*U.wd x0.τ<=m/\m<i*U.wd x0.τ+U.wd x0.τ then(a.eval y).cells.toList.getD (m-i*U.wd x0.τ) undef else vs m
 let jT:Nat->List Nat:=fun m=>if i*U.wd x0.τ<=m/\m<i*U.wd x0.τ+U.wd x0.τ then fl.getD (m-i*U.wd x0.τ) [] else gr m
 have F_:∀j,j<U.wd x0.τ->uP (i*U.wd x0.τ+j)=(a.eval y).cells.toList.getD j undef/\jT (i*U.wd x0.τ+j)=fl.getD j []:=fun j hj=>by
  simp only[uP,jT]
  rw[if_pos ⟨by omega,by omega⟩,if_pos ⟨by omega,by omega⟩,show i*U.wd x0.τ+j-i*U.wd x0.τ=j by omega]
  exact⟨rfl,rfl⟩
 have vd:∀m,¬(i*U.wd x0.τ<=m/\m<i*U.wd x0.τ+U.wd x0.τ)->uP m=vs m/\jT m=gr m:=fun m hm=>⟨if_neg hm,if_neg hm⟩
 have vB:∀{q j},j<U.wd x0.τ->q≠i->¬(i*U.wd x0.τ<=q*U.wd x0.τ+j/\q*U.wd x0.τ+j<i*U.wd x0.τ+U.wd x0.τ):=fun{q j} hj hq o_=>
  hq (RN hj (show q*U.wd x0.τ+j-i*U.wd x0.τ<U.wd x0.τ by omega) (by omega)).1
 have Pk:∀j b',b'∈fl.getD j []->b'∈fl.flatten:=fun j b' bg=>by
  rcases nL j fl.length with g|g
  ·rw[dB,eW g] at bg
   exact VW.2 ⟨_,DU g,bg⟩
  ·rw[dB,nb g] at bg;cases bg
 have akf:fl.length=U.wd x0.τ:=by rw[f1,hdl]
 have Su:∀b',b'∈fl.flatten->b'∉fp k:=fun b' bg Yp=>by
  obtain⟨k',cK,Ei⟩:=f4 b' bg
  obtain⟨e',Yj⟩:=l6.1 (t2 k' cK)
  exact h.apart k' k e' _ b' (fun e=>sP.1 (e▸cK)) Yj ew Ei Yp
 have Yh:∀m,m<x0.xs.length*U.wd x0.τ->∀b',b'∈gr m->b'∈fp k:=fun m hm b' bg=>by
  rw[rl];exact e8 _ (nF.2 ⟨m,n9.2 hm,bg⟩)
 have o_:∀b'∈b::(List.range (x0.xs.length*U.wd x0.τ)).flatMap jT,b'∈fl.flatten\/b'∈fp k:=by
  intro b' bg
  rcases jF.1 bg with rfl|bg
  ·exact .inr ic
  ·obtain⟨m,tX,bg⟩:=nF.1 bg
   rw[n9] at tX
   by_cases o_:i*U.wd x0.τ<=m/\m<i*U.wd x0.τ+U.wd x0.τ
   ·have:=(F_ (m-i*U.wd x0.τ) (by omega)).2
    rw[show i*U.wd x0.τ+(m-i*U.wd x0.τ)=m by omega] at this
    rw[this] at bg
    exact .inl (Pk _ b' bg)
   ·rw[(vd m o_).2] at bg
    exact .inr (Yh m tX b' bg)
 have Sj:(b::(List.range (x0.xs.length*U.wd x0.τ)).flatMap jT).Nodup:=by
  refine sC.2 ⟨fun bg=> ?_,?_⟩
  ·obtain⟨m,tX,bg⟩:=nF.1 bg
   rw[n9] at tX
   by_cases o_:i*U.wd x0.τ<=m/\m<i*U.wd x0.τ+U.wd x0.τ
   ·have:=(F_ (m-i*U.wd x0.τ) (by omega)).2
    rw[show i*U.wd x0.τ+(m-i*U.wd x0.τ)=m by omega] at this
    rw[this] at bg
    exact Su b (Pk _ b bg) ic
   ·rw[(vd m o_).2] at bg
    exact Ud (nF.2 ⟨m,n9.2 tX,bg⟩)
  ·rw[aa5 akf] at f3
   rw[ZH,List.pairwise_flatMap]
   refine⟨fun m tX=> ?_,?_⟩
   ·rw[<-ZH]
    rw[n9] at tX
    by_cases o_:i*U.wd x0.τ<=m/\m<i*U.wd x0.τ+U.wd x0.τ
    ·have:=(F_ (m-i*U.wd x0.τ) (by omega)).2
     rw[show i*U.wd x0.τ+(m-i*U.wd x0.τ)=m by omega] at this
     rw[this]
     exact RJ f3 (t:=m-i*U.wd x0.τ) (n9.2 (by omega))
    ·rw[(vd m o_).2]
     exact RJ XE (n9.2 tX)
   ·refine List.Pairwise.imp_of_mem ?_ (List.nodup_range (n:=x0.xs.length*U.wd x0.τ))
    intro m m' ML HE d_ b1 sM b2 sL sJ
    subst sJ
    rw[n9] at ML HE
    by_cases o_:i*U.wd x0.τ<=m/\m<i*U.wd x0.τ+U.wd x0.τ
    ·have e1:=(F_ (m-i*U.wd x0.τ) (by omega)).2
     rw[show i*U.wd x0.τ+(m-i*U.wd x0.τ)=m by omega] at e1
     rw[e1] at sM
     by_cases Yc:i*U.wd x0.τ<=m'/\m'<i*U.wd x0.τ+U.wd x0.τ
     ·have e2:=(F_ (m'-i*U.wd x0.τ) (by omega)).2
      rw[show i*U.wd x0.τ+(m'-i*U.wd x0.τ)=m' by omega] at e2
      rw[e2] at sL
      exact N8 f3 (t:=m-i*U.wd x0.τ) (t':=m'-i*U.wd x0.τ) (n9.2 (by omega)) (n9.2 (by omega)) (fun e=>d_ (by omega)) sM sL
     ·rw[(vd m' Yc).2] at sL
      exact Su b1 (Pk _ b1 sM) (Yh m' HE b1 sL)
    ·rw[(vd m o_).2] at sM
     by_cases Yc:i*U.wd x0.τ<=m'/\m'<i*U.wd x0.τ+U.wd x0.τ
     ·have e2:=(F_ (m'-i*U.wd x0.τ) (by omega)).2
      rw[show i*U.wd x0.τ+(m'-i*U.wd x0.τ)=m' by omega] at e2
      rw[e2] at sL
      exact Su b1 (Pk _ b1 sL) (Yh m ML b1 sM)
     ·rw[(vd m' Yc).2] at sL
      exact N8 XE (n9.2 ML) (n9.2 HE) d_ sM sL
 have uT:∀b',F b'->F b'/\(w.setRow b (cur.toList.take (i*U.wd x0.τ)++(a.eval y).cells.toList++cur.toList.drop (i*U.wd x0.τ+n)).toArray).heap[b']? =w.heap[b']? :=fun b' bg=>
  ⟨bg,setRow_other w b b' _ (fun e=>XG.1 (e▸bg))⟩
 have sH:∀b',b'≠b->(w.setRow b (cur.toList.take (i*U.wd x0.τ)++(a.eval y).cells.toList++cur.toList.drop (i*U.wd x0.τ+n)).toArray).heap[b']? =w.heap[b']? :=fun b' bg=>setRow_other w b b' _ bg
 refine NZ exec (Si F kv (c_ fp k (b::(List.range (x0.xs.length*U.wd x0.τ)).flatMap jT)) _ _ (h.Q_ ho k _ _ ew ks _ _ sP.1 ?_ uT (fun b' bg=> .inl bg) ?_ Sj ?_ ?_))
 ·intro bad oW
  show dK E _ F _ ⟨x0.τ,x0.xs.set i yv⟩ (kv k) _
  refine .inr ⟨b,cap,_,uP,jT,by rw[h1,JC],setRow_heap w b cur _ _ _ hb,by rw[JC];exact hc,hm,?_,fun m tX=> ?_,fun q xq j c hq hxq hj=> ?_,fun q j hq hj=> ?_,by rw[JC]⟩
  ·simp only[Q8,na,nE,Jt,D4]
   have:=Zu
   rw[D4] at this
   rw[this,tY,IA];omega
  ·simp only[JC] at tX
   rw[Xz m]
   by_cases o_:i*U.wd x0.τ<=m/\m<i*U.wd x0.τ+U.wd x0.τ
   ·have e1:=(F_ (m-i*U.wd x0.τ) (by omega)).1
    rw[show i*U.wd x0.τ+(m-i*U.wd x0.τ)=m by omega] at e1
    rw[if_pos o_,e1]
    exact⟨abz _ (by omega),aby _ (by omega)⟩
   ·rw[if_neg o_,(vd m o_).1]
    exact hv m tX
  ·have MT:j<U.wd x0.τ:=by
    rw[<-U.cY x0.τ xq]
    rcases nL j (U.enc x0.τ xq).length with g|g
    ·exact g
    ·have sI:(U.enc x0.τ xq)[j]? =some c:=hj
     rw[nb g] at sI;cases sI
   by_cases TP:q=i
   ·subst TP
    have Eb:xq=yv:=by
     have Eb:(x0.xs.set q yv)[q]? =some xq:=hxq
     rw[Ts,if_pos rfl,if_pos hi] at Eb
     exact(VU Eb).symm
    have hj:(U.enc x0.τ xq)[j]? =some c:=hj
    rw[Eb] at hj
    show Rp E _ F true c (uP (q*U.wd x0.τ+j)) (jT (q*U.wd x0.τ+j))
    rw[(F_ j MT).1,(F_ j MT).2]
    have sI:ds[j]? =some c:=by rw[<-Gi];exact hj
    refine(f2 j c sI).fC uT (fun b' bg=>sH b' (fun e=> ?_))
    exact Su b' (Pk j b' bg) (e▸ic)
   ·show Rp E _ F true c (uP (q*U.wd x0.τ+j)) (jT (q*U.wd x0.τ+j))
    have IB:=vB MT TP
    rw[(vd _ IB).1,(vd _ IB).2]
    have Eb:x0.xs[q]? =some xq:=by
     have Eb:(x0.xs.set i yv)[q]? =some xq:=hxq
     rw[Ts,if_neg (fun e=>TP e.symm)] at Eb
     exact Eb
    have hdq:dead q=false:=by
     have hq:(!(Nat.beq q i)&&dead q)=false:=hq
     have hb0:Nat.beq q i=false:=by rw[<-uO,Fv];exact TP
     rw[hb0] at hq
     simpa using hq
    refine(Xu q xq j c hdq Eb hj).fC uT (fun b' bg=>sH b' (fun e=> ?_))
    subst e
    exact Ud (nF.2 ⟨_,n9.2 (fi Eb hj),bg⟩)
  ·have hq2:¬q=i/\dead q=true:=by
    have hq:(!(Nat.beq q i)&&dead q)=true:=hq
    rw[cH,pc,<-uO,Fv] at hq
    exact hq
   show jT (q*U.wd x0.τ+j)=[]
   have IB:=vB hj hq2.1
   rw[(vd _ IB).2]
   exact jR q j hq2.2 hj
 ·intro k' e' cK kx sJ b' bg
  exact sH b' (fun e=>h.apart k' k _ _ b' cK sJ ew bg (by rw[e];exact ic))
 ·intro b' bg
  rcases o_ b' bg with g|g
  ·obtain⟨k',cK,Ei⟩:=f4 b' g
   obtain⟨e',Yj⟩:=l6.1 (t2 k' cK)
   exact⟨(h.fj k' e' b' Yj Ei).1,k',by simp[cK],t2 k' cK,Ei⟩
  ·exact⟨(h.fj k _ b' ew g).1,k,by simp,by simp[ew],g⟩
 ·exact⟨rfl,rfl,rfl,by simp,fun b' _ IA=>sH b' (fun e=>IA (by rw[e];exact XG.2.1))⟩
end AM
