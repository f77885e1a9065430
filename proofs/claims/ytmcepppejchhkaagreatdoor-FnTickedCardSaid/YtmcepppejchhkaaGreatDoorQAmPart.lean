import Derived.Test.YtmcepppejchhkaaGreatDoorQAmMove
namespace AM
set_option linter.unusedVariables false
open Go
variable{U:lQ}{E:Env U}{pm:Pm}
variable{F F':Nat->Prop}{kv:Key->Value}{fp:Key->List Nat}{σ:ak U}{a:Act}{w w':World}{bad:Key->Bool}
variable(E) in
def O_(w:World)(F:Nat->Prop)(dead:Nat->Bool)(τ:U.Ty)(xs:List (U.T τ))(vs:List Value)(fl:List (List Nat)):Prop:=
 vs.length=xs.length*U.wd τ/\fl.length=xs.length*U.wd τ/\(∀v∈vs,gD v)/\
 (∀(i:Nat)(x:U.T τ)(j:Nat)(c:U.C),dead i=false->xs[i]? =some x->(U.enc τ x)[j]? =some c->Rp E w F true c (vs.getD (i*U.wd τ+j) undef) (fl.getD (i*U.wd τ+j) []))/\
 ∀i j,dead i=true->j<U.wd τ->fl.getD (i*U.wd τ+j) []=[]
theorem adQ{fl:List (List Nat)}{n:Nat}(h:fl.length=n):fl.flatten=(List.range n).flatMap fun m=>fl.getD m []:=by
 rw[Pa]
 congr 1
 refine Uu fun m=> ?_
 rw[nS]
 by_cases hn:m<n
 ·rw[NU hn,Gj,eV,fE (by rw[h];exact hn)]
  rfl
 ·rw[ot (by rw[h];omega),ot (by simp;omega)]
  rfl
theorem eK.og{dead:Nat->Bool}{τ:U.Ty}{xs:List (U.T τ)}{b cap:Nat}{cur:Array Value}{vs:List Value}{fl:List (List Nat)}(h2:w.heap[b]? =some (.cells cur (E.tid τ) (0,0)))(h3:xs.length<=cap)(h4:cap<=maxLen)
  (h5:cur.size=cap*U.wd τ) (h6:cur.toList.take (xs.length*U.wd τ)=vs) (h7:O_ E w F dead τ xs vs fl):eK E w F dead ⟨τ,xs⟩ (.slice (some ⟨b,0,none⟩) xs.length cap) (b::fl.flatten):=by
 have hle:xs.length*U.wd τ<=cap*U.wd τ:=Be _ h3
 refine .inr ⟨b,cap,cur,fun n=>vs.getD n undef,fun n=>fl.getD n [],rfl,h2,h3,h4,h5,fun i hi=> ?_,h7.2.2.2.1,h7.2.2.2.2,by rw[adQ h7.2.1]⟩
 have qH:i<xs.length*U.wd τ:=hi
 have hvi:vs[i]? =some (vs.getD i undef):=fM (by rw[h7.1];exact qH)
 refine⟨?_,h7.2.2.1 _ (GK hvi)⟩
 show cur[i]? =some (vs.getD i undef)
 rw[<-hvi,<-h6,qy,if_pos qH,MK]
theorem eK.rows{dead:Nat->Bool}{x:iE U}{v:Value}{l:List Nat}(h:eK E w F dead x v l):
  (x.xs=[]/\(∃ad,v=.slice ad 0 0)/\l=[])\/
  ∃(b cap:Nat)(cur:Array Value)(vs:List Value)(fl:List (List Nat)),v=.slice (some ⟨b,0,none⟩) x.xs.length cap/\w.heap[b]? =some (.cells cur (E.tid x.τ) (0,0))/\x.xs.length<=cap/\cap<=maxLen/\
   cur.size=cap*U.wd x.τ/\cur.toList.take (x.xs.length*U.wd x.τ)=vs/\O_ E w F dead x.τ x.xs vs fl/\l=b::fl.flatten:=by
 rcases h with h|⟨b,cap,cur,vs,ie,h1,h2,h3,h4,h5,h6,h7,h8,h9⟩
 ·exact .inl h
 have hle:x.xs.length*U.wd x.τ<=cap*U.wd x.τ:=Be _ h3
 have tv:∀n,n<x.xs.length*U.wd x.τ->(cur.toList.take (x.xs.length*U.wd x.τ))[n]? =some (vs n):=fun n hn=>by
  rw[qy,if_pos hn,MK];exact(h6 n hn).1
 refine .inr ⟨b,cap,cur,_,(List.range (x.xs.length*U.wd x.τ)).map ie,h1,h2,h3,h4,h5,rfl,⟨by simp;omega,by simp,fun u hu=> ?_,fun i y j c hi hx hj=> ?_,fun i j hi hj=> ?_⟩,by rw[h9,Pa]⟩
 ·obtain⟨n,hn,rfl⟩:=sT hu
  have wN:n<x.xs.length*U.wd x.τ:=by simp at hn;omega
  have tC:=tv n wN
  rw[fE hn] at tC
  rw[ZA tC]
  exact(h6 n wN).2
 ·have gy:=fS hx hj
  have:=h7 i y j c hi hx hj
  rw[eV,tv _ gy,eV,nS,NU gy]
  exact this
 ·rw[eV,nS]
  by_cases gy:i*U.wd x.τ+j<x.xs.length*U.wd x.τ
  ·rw[NU gy];exact h8 i j hi hj
  ·rw[ot (by simp;omega)];rfl
theorem e9.EY{deep:Bool}{τ:U.Ty}{xs:List (U.T τ)}{vs:List Value}{fl:List (List Nat)}(h:e9 E w F deep τ xs vs fl):∀v∈vs,gD v:=by
 intro v hv
 obtain⟨n,hn,rfl⟩:=sT hv
 obtain⟨i,x,j,c,rfl,_,_,hx,hj⟩:=adh (xs:=xs) (by rw[<-h.1];exact hn)
 have:=h.2.2 i x j c hx hj
 rw[eV,fE hn] at this
 exact this.gF
theorem e9.dead{τ:U.Ty}{xs zs:List (U.T τ)}{vs us:List Value}{fl:List (List Nat)}(h:e9 E w F true τ xs vs fl)(hl:us.length=zs.length*U.wd τ)(ho:∀u∈us,gD u):
  O_ E w F (fun i=>Nat.ble xs.length i) τ (xs++zs) (vs++us) (fl++List.replicate (zs.length*U.wd τ) []):=by
 refine⟨by simp[h.1,hl,xT],by simp[h.2.1,xT],fun v hv=> ?_,fun i x j c hi hx hj=> ?_,fun i j hi hj=> ?_⟩
 ·rcases jI.1 hv with hv|hv
  ·exact h.EY v hv
  ·exact ho v hv
 ·have qH:i<xs.length:=by
   rcases pt i xs.length with g|g
   ·exact g
   ·exact absurd ((Nat.ble_eq_true_of_le g).symm.trans hi) (by decide)
  rw[zY qH] at hx
  have:=fS hx hj
  rw[K3 (by rw[h.1];exact this),K3 (by rw[h.2.1];exact this)]
  exact h.2.2 i x j c hx hj
 ·have qH:=Kp hi
  have:xs.length*U.wd τ<=i*U.wd τ:=Be _ qH
  rw[Pw (by rw[h.2.1];omega),H3]
theorem adE:∀{xs:List (SV U)}{us:List Value}{wd:Nat},E3 wd xs=true->xs.length=us.length->(∀(i:Nat)(x:SV U)(u:Value),xs[i]? =some x->us[i]? =some u->RS E w F kv fp bad x u)->
  (∀u∈us,u.cells.size=wd)/\∀v∈us.flatMap (fun u=>u.cells.toList),gD v
 |[],[],_,_,_,_=>⟨by simp,by simp⟩
 |[],_::_,_,_,hl,_=>by simp at hl
 |_::_,[],_,_,hl,_=>by simp at hl
 |x::xs,u::us,wd,hk,hl,hx=>by
  cases x with
  |wR l=>cases hk
  |fn p=>cases hk
  |Hy g l=>cases hk
  |v x=>
   simp only[E3,cN] at hk
   obtain⟨r1,r2⟩:=Pz (hx 0 (.v x) u rfl rfl)
   obtain⟨i1,i2⟩:=adE hk.2 (by simpa using hl) (fun i z v hz hv=>hx (i+1) z v (by simpa using hz) (by simpa using hv))
   refine⟨fun v hv=> ?_,fun v hv=> ?_⟩
   ·rcases kc.1 hv with rfl|hv
    ·rw[r2];exact nF hk.1
    ·exact i1 v hv
   ·rw[zZ,jI] at hv
    rcases hv with hv|hv
    ·obtain⟨n,hn,rfl⟩:=sT hv
     have wN:n<x.cs.length:=by rw[r1.1];exact hn
     exact(r1.2 n x.cs[n] _ (fE wN) (fE hn)).1
    ·exact i2 v hv
theorem amj(hE:E.Ok)(h:cR E pm F kv fp σ a w){o:Oper}{d:Nat}(ho:o.dst=some d)(hd:d<σ.n){t e:TypeId}{len:Nat}{parts:Array (Nat×Operand)}(sR:o.op=.buildSlice t len parts)
  {τ:U.Ty} (vj:E.elem t=some e) (hc:E.code e=some τ) {xs:List (SV U)} (hx:xs.length=parts.toList.length)
  (hv:∀(i:Nat)(x:SV U)(q:Nat×Operand),xs[i]? =some x->parts.toList[i]? =some q->RS E w F kv fp (bY σ) x (a.eval q.2))
  (hlen:(parts.toList.map (·.1)).length=len) (abw:((parts.toList.map (·.1)).zipIdx).all (fun(a,b)=>Nat.beq a b)=true) (hsm:len*U.wd τ<=1000000)
  (hkp:E3 (U.wd τ) xs=true)
  (oG:¬Names σ (d,0)) {next:Act->World->Prop} {Q:Exit->Act->World->Prop}
  (hn:∀F kv fp a' w',cR E pm F kv fp (AM.apply o ⟨some (one (.ref (d,0) [])),[(0,.part ⟨τ,List.replicate len (U.ff τ)⟩ (fun _=>true))],[],[],[]⟩ σ) a' w'->next a' w'):o.wp E.P a w next Q:=by
 obtain⟨Ax,i,z,hi,hz,jy,PV,XN,_⟩:=hE.code e τ hc
 have hu:=EG vj
 have hw:=U.lq τ
 obtain⟨r2,r3⟩:=adE (us:=parts.toList.map fun q=>a.eval q.2) hkp (by simp[hx]) (fun i x u Ux tr=>by
  rw[nS] at tr
  cases hq:parts.toList[i]? with
  |none=>rw[hq] at tr;cases tr
  |some q=>rw[hq] at tr;cases tr;exact hv i x q Ux hq)
 have By:parts.toList.length=len:=by rw[<-hlen];simp
 have No:(parts.map fun(i,x)=>(i,a.eval x)).toList=((parts.toList.map fun q=>a.eval q.2).zipIdx 0).map fun x=>(x.2,x.1):=by
  rw[zeo]
  refine Uu fun n=> ?_
  rw[nS,nS,zej,nS]
  cases hq:parts.toList[n]? with
  |none=>rfl
  |some q=>
   simp only[Gj,gI,pE,vB,and_true]
   have h1:((parts.toList.map (·.1)).zipIdx)[n]? =some (q.1,n):=by
    rw[zej,nS,hq];simp
   have:=(sP.1 abw) (q.1,n) (GK h1)
   exact nF this
 have aaY:¬len*i.size>2^24:=by rw[jy];omega
 have Nq:len<=maxLen:=by
  have:len<=len*U.wd τ:=Nat.le_mul_of_pos_right _ hw
  simp only[maxLen];omega
 have Cj:∀(l:List Value),(∀u∈l,u.cells.size=U.wd τ)->(l.flatMap fun u=>u.cells.toList).length=l.length*U.wd τ:=by
  intro l
  induction l with
  |nil=>intro _;simp
  |cons u l ih=>
   intro hl
   rw[zZ,kF,ih (fun v hv=>hl v (fF _ hv)),Gk,hl u iH,fP,xT,QU,zew]
 have fin:∀cells:Array Value,cells.toList=(parts.toList.map fun q=>a.eval q.2).flatMap (fun u=>u.cells.toList)->
   (Instr.buildSlice t len (parts.map fun(i,x)=>(i,a.eval x))).run E.P w=.ok (.slice (some ⟨w.heap.size,0,none⟩) len len) (w.alloc (.cells cells e))->o.wp E.P a w next Q:=by
  intro cells tA jz
  have ix:cells.toList.length=len*U.wd τ:=by rw[tA,Cj _ r2];simp[By]
  have vU:cells.size=len*U.wd τ:=by simpa using ix
  have kj:O_ E (w.alloc (.cells cells e)) F (fun _=>true) τ (List.replicate len (U.ff τ)) cells.toList (List.replicate (len*U.wd τ) []):=by
   refine⟨by rw[ix];simp,by simp,fun v hv=>r3 v (by rw[<-tA];exact hv),fun i x j c hi=>Bool.noConfusion hi,fun i j _ _=>H3⟩
  have pf:=h.FO (w':=w.alloc (.cells cells e)) (F':=F) ho hd (.part ⟨τ,List.replicate len (U.ff τ)⟩ (fun _=>true)) (one (.ref (d,0) [])) [] [] (.slice (some ⟨w.heap.size,0,none⟩) len len) (.slice (some ⟨w.heap.size,0,none⟩) len len) [w.heap.size] oG
   (fun bad=>iD ⟨⟨rfl,trivial⟩,.inr (by simp only[RA,uw];rfl)⟩)
   (fun bad=>by
    have:=eK.og (F:=F) (b:=w.heap.size) (cap:=len) (by rw[Ax];exact heap_alloc_new w _) (by simp) Nq vU (by rw[Ut (by rw[ix];simp)]) kj
    rw[zee,An] at this
    exact this)
   (fun b hb=>⟨hb,BW w _ (h.uI b hb)⟩) (fun b hb=> .inl hb) (fun k e _ he b hb=>BW w _ (H4 h he hb)) (by simp)
   (fun b hb=>by
    rw[mW.1 hb]
    exact⟨fun hF=>by have:=h.uI _ hF;omega,.inr ⟨uh _,by simp⟩⟩) (ic.alloc _ _ _)
  refine te (v:=.slice (some ⟨w.heap.size,0,none⟩) len len) (w':=w.alloc (.cells cells e)) ?_ (hn F _ _ _ _ pf)
  unfold execOp;simp only[sR];exact iM jz
 by_cases h0:len=0
 ·have Np:parts.toList=[]:=Gl (by omega)
  have St:parts= #[]:=Ao Np
  subst h0
  refine fin #[] (by simp[Np]) ?_
  simp[Instr.buildSlice,run_underlying hu,Go.sizeOf,typeInfo,hi,St,Instr.fill,newRow,Array.range_zero']
 ·have PZ:¬len*i.size=0:=by
   rw[jy]
   have:=Nat.mul_pos (Nat.pos_of_ne_zero h0) hw
   omega
  have SG:=Great.fill_whole (s:=i.size) (by rw[jy];exact hw) (parts.toList.map fun q=>a.eval q.2) ((Array.range (len*i.size)).map (z.cells[·%z.cells.size]!)) (fun v hv=>by rw[jy];exact r2 v hv) (by simp[By])
  refine fin ((parts.toList.map fun q=>a.eval q.2).flatMap fun v=>v.cells.toList).toArray rfl (run_buildSlice w t e len _ _ i z hu hi hz aaY PZ ?_)
  rw[No]
  exact SG
theorem ank(hE:E.Ok)(h:cR E pm F kv fp σ a w){o:Oper}{d:Nat}(ho:o.dst=some d)(hd:d<σ.n){cl:Call}{t e:TypeId}{s x:Operand}(sR:o.op=.call cl)(ix:cl.callee=.builtin .append)
  (l5:cl.args.toList=[s,x]) (Ce:cl.argTypes.toList=[t,t]) {τ:U.Ty} (vj:E.elem t=some e) (hc:E.code e=some τ) {ss sx:SV U} {ys yx:AC U}
  (hs:RS E w F kv fp (bY σ) ss (a.eval s)) (V2:vx ss=some ys) (hx:RS E w F kv fp (bY σ) sx (a.eval x)) (hsx:vx sx=some yx)
  {rs:List Key} {ps:List Prop} {xs zs:List (U.T τ)} {ks ks':List Key} {pall:List Prop}
  (ho1:vf τ (restrict σ.bP rs) ys=some (ps,xs,ks,true)) (Lt:Ia τ (restrict σ.bP rs) yx=some (zs,ks')) (hp:∀p∈ps,p) (Ix:(ks++ks').Nodup) (hle:xs.length+zs.length<=4294967296)
  (oG:¬Names σ (d,0)) {next:Act->World->Prop} {Q:Exit->Act->World->Prop}
  (hn:∀F kv fp a' w',cR E pm F kv fp (AM.apply o ⟨some (one (.ref (d,0) [])),[(0,.part ⟨τ,xs++zs⟩ (fun i=>Nat.ble xs.length i))],ks++ks',[],pall⟩ σ) a' w'->next a' w'):o.wp E.P a w next Q:=by
 obtain⟨Ax,i,z,hi,hz,jy,PV,XN,_⟩:=hE.code e τ hc
 have hu:=EG vj
 have hw:=U.lq τ
 obtain⟨AB,lH,l,Ot,Bz,P8⟩:=adu h ho1 hp (lD hs V2)
 obtain⟨Fa,us,w5,aaU,tt⟩:(∀k∈ks',(σ.bP k).isSome=true)/\∃us,us.length=zs.length*U.wd τ/\(∀u∈us,gD u)/\Src E.P w t (a.eval x) (U.wd τ) zs.length us:=by
  unfold Ia at Lt
  split at Lt
  ·rename_i k
   split at Lt
   ·rename_i y dead he
    split at Lt
    ·rename_i zs' Xo
     cases Lt
     have:=eh Xo
     subst this
     have fi:=kf he
     have h1:a.eval x=kv k:=cx (lD hx hsx) rfl
     have h2:eK E w F dead ⟨τ,zs⟩ (kv k) (fp k):=h.dD k _ fi
     rw[<-h1] at h2
     refine⟨by simp[fi],?_⟩
     rcases h2.rows with⟨h3,⟨ad,h4⟩,h5⟩|⟨b,cap,cur,vs,fl,h3,h4,h5,h6,h7,h8,h9,tC⟩
     ·simp only at h3;subst h3
      exact⟨[],by simp,by simp,by rw[h4];exact Src.slice hu (by simp) (fun hh=>by simp at hh)⟩
     ·simp only at h3 h4 h5 h7 h8 h9
      refine⟨vs,h9.1,h9.2.2.1,?_⟩
      rw[h3]
      refine Src.slice hu (h9.1) (fun _=>⟨b,0,rfl,fun i u tr=> ?_⟩)
      rw[<-h8,qy] at tr
      split at tr
      ·rw[cell_of_row w b _ cur _ (0,0) h4];simpa using tr
      ·cases tr
    ·cases Lt
   ·cases Lt
  ·cases Lt
 rw[<-jy] at tt
 have jA:∀k∈ks++ks',(σ.bP k).isSome=true:=fun k hk=>(jI.1 hk).elim (lH k) (Fa k)
 have exec:∀{v w1},(Builtin.append_ #[t,t] o.type #[a.eval s,a.eval x]).run E.P w=.ok v w1->(execOp a.eval o).run E.P w=.ok (.value v) w1:=by
  intro v w1 hr
  have ha:cl.args= #[s,x]:=Ao l5
  have ht:cl.argTypes= #[t,t]:=Ao Ce
  unfold execOp;simp only[sR]
  simp[resolve,ix,ha,ht,invoke,builtin,hr]
 have Nq:∀{n:Nat},n<=4294967296->n<=maxLen:=fun hh=>by simp only[maxLen];omega
 have hnF:∀k∈ks++ks',∀b∈fp k,¬F b:=fun k hk b hb=>by
  obtain⟨e,he⟩:=nA.1 (jA k hk)
  exact(h.fT k e b he hb).1
 have hWb:∀k∈ks++ks',∀b∈fp k,(pm.W b\/pm.w0.heap.size<=b)/\b<w.heap.size:=fun k hk b hb=>by
  obtain⟨e,he⟩:=nA.1 (jA k hk)
  exact(h.fT k e b he hb).2
 have PY:∀(fl:List (List Nat)),(fl++List.replicate (zs.length*U.wd τ) ([]:List Nat)).flatten=fl.flatten:=fun fl=>by rw[Mz,An,uJ]
 have grow:∀(vs:List Value)(fl:List (List Nat)),e9 E w F true τ xs vs fl->fl.flatten.Nodup->(∀b∈fl.flatten,∃k∈ks,b∈fp k)->
   ∀{cap:Nat}{cur:Array Value}{w1:World},(∀b,b<w.heap.size->w1.heap[b]? =w.heap[b]?)->ic (fun b=>pm.W b\/pm.w0.heap.size<=b) w w1->w.heap.size<w1.heap.size->
   w1.heap[w.heap.size]? =some (.cells cur (E.tid τ) (0,0))->(xs++zs).length<=cap->cap<=maxLen->cur.size=cap*U.wd τ->cur.toList.take ((xs++zs).length*U.wd τ)=vs++us->
   next (a.put o.dst (.slice (some ⟨w.heap.size,0,none⟩) (xs++zs).length cap)) w1:=by
  intro vs fl h1 h2 h3 cap cur w1 Aw qw vQ hb nC hm vU Bx
  have gy:∀b∈fl.flatten,b<w.heap.size:=fun b hb=>by obtain⟨k,hk,hb⟩:=h3 b hb;exact(hWb k (by simp[hk]) b hb).2
  have pf:=h.FO ho hd (.part ⟨τ,xs++zs⟩ (fun i=>Nat.ble xs.length i)) (one (.ref (d,0) [])) (ks++ks') pall (.slice (some ⟨w.heap.size,0,none⟩) (xs++zs).length cap) (.slice (some ⟨w.heap.size,0,none⟩) (xs++zs).length cap) (w.heap.size::fl.flatten) (w':=w1) (F':=F) oG
   (fun bad=>iD ⟨⟨rfl,trivial⟩,.inr (by simp only[RA,uw];rfl)⟩)
   (fun bad=>by
    have:=eK.og hb nC hm vU Bx ((h1.gv (fun b' bj=>⟨bj,Aw b' (h.uI b' bj)⟩) (fun b' bj=>Aw b' (gy b' bj))).dead w5 aaU)
    rw[PY] at this
    exact this)
   (fun b' bj=>⟨bj,Aw b' (h.uI b' bj)⟩) (fun b' bj=> .inl bj) (fun k e _ he b' bj=>Aw b' (H4 h he bj))
   (ur.2 ⟨fun bj=>by have:=gy _ bj;omega,h2⟩)
   (fun b' bj=>by
    rcases kc.1 bj with rfl|bj
    ·exact⟨fun hF=>by have:=h.uI _ hF;omega,.inr ⟨uh _,vQ⟩⟩
    ·obtain⟨k,hk,iW⟩:=h3 b' bj
     exact⟨hnF k (by simp[hk]) b' iW,.inl ⟨k,by simp[hk],lH k hk,iW⟩⟩) qw
  exact hn _ _ _ _ _ pf
 have yI:∀{b cap:Nat}{cur':Array Value}{vs:List Value}{fl:List (List Nat)}{w1:World},e9 E w F true τ xs vs fl->l=b::fl.flatten->(∀b',b'≠b->w1.heap[b']? =w.heap[b']?)->w1.heap.size=w.heap.size->
   w1.os=w.os->w1.tape=w.tape->w1.output=w.output->w1.heap[b]? =some (.cells cur' (E.tid τ) (0,0))->(xs++zs).length<=cap->cap<=maxLen->cur'.size=cap*U.wd τ->cur'.toList.take ((xs++zs).length*U.wd τ)=vs++us->
   next (a.put o.dst (.slice (some ⟨b,0,none⟩) (xs++zs).length cap)) w1:=by
  intro b cap cur' vs fl w1 kj hl Aw vQ hos htp xp hb nC hm vU Bx
  subst hl
  have iW:∃k∈ks,b∈fp k:=P8 b (by simp)
  obtain⟨kb,P',IC⟩:=iW
  have hbF:¬F b:=hnF kb (by simp[P']) b IC
  have qw:ic (fun b=>pm.W b\/pm.w0.heap.size<=b) w w1:=⟨hos,htp,xp,by omega,fun k hk Lu=>Aw k (fun e=>Lu (e▸(hWb kb (by simp[P']) b IC).1))⟩
  have Iu:∀k e,k∉ks++ks'->σ.bP k=some e->∀b'∈fp k,w1.heap[b']? =w.heap[b']? :=fun k e hk he b' bj=>Aw b' (fun e'=>by
   subst e'
   obtain⟨eb,heb⟩:=nA.1 (lH kb P')
   exact h.apart kb k eb e b' (fun e'=>hk (by subst e';simp[P'])) heb he IC bj)
  have XO:=(ur.1 Bz).1
  have pf:=h.FO ho hd (.part ⟨τ,xs++zs⟩ (fun i=>Nat.ble xs.length i)) (one (.ref (d,0) [])) (ks++ks') pall _ (.slice (some ⟨b,0,none⟩) (xs++zs).length cap) (b::fl.flatten) (w':=w1) (F':=F) oG
   (fun bad=>iD ⟨⟨rfl,trivial⟩,.inr (by simp only[RA,uw];rfl)⟩)
   (fun bad=>by
    have:=eK.og hb nC hm vU Bx ((kj.gv (fun b' bj=>⟨bj,Aw b' (fun e=>hbF (e▸bj))⟩) (fun b' bj=>Aw b' (fun e=>XO (e▸bj)))).dead w5 aaU)
    rw[PY] at this
    exact this)
   (fun b' bj=>⟨bj,Aw b' (fun e=>hbF (e▸bj))⟩) (fun b' bj=> .inl bj) Iu Bz
   (fun b' bj=>by obtain⟨k,hk,bj⟩:=P8 b' bj;exact⟨hnF k (by simp[hk]) b' bj,.inl ⟨k,by simp[hk],lH k hk,bj⟩⟩) qw
  exact hn _ _ _ _ _ pf
 have aaT:∀u∈us,u.oneCell'=true:=fun u hu=>(aaU u hu).1
 have Fb:(xs.length+zs.length)*i.bytes<=140737488355328:=by
  have:=Nat.mul_le_mul hle XN
  omega
 by_cases ey:zs.length=0
 ·have Si:zs=[]:=Gl ey
  subst Si
  have xo:us=[]:=Gl (by simpa using w5)
  rcases Ot.rows with⟨h3,⟨QD,h4⟩,h5⟩|⟨b,cap,cur,vs,fl,h3,h4,h5,h6,h7,h8,h9,tC⟩
  ·simp only at h3;subst h3
   have hr:=exec (v:=.slice QD 0 0) (w1:=w) (by rw[h4];exact U8 w hu hi _ _ _ (by rw[xo] at tt;exact tt) (uh _))
   refine te hr ?_
   have pf:=h.FO ho hd (.part ⟨τ,[]⟩ (fun i=>Nat.ble ([]:List (U.T τ)).length i)) (one (.ref (d,0) [])) (ks++ks') pall (.slice QD 0 0) (.slice QD 0 0) [] (w':=w) (F':=F) oG
    (fun bad=>iD ⟨⟨rfl,trivial⟩,.inr (by simp only[RA,uw];rfl)⟩) (fun bad=> .inl ⟨rfl,⟨QD,rfl⟩,rfl⟩) (fun b hb=>⟨hb,rfl⟩) (fun b hb=> .inl hb) (fun _ _ _ _ _ _=>rfl) (by simp) (by simp) (ic.refl _ _)
   exact hn _ _ _ _ _ pf
  ·simp only at h3 h4 h5 h7 h8 h9
   have hr:=exec (v:=.slice (some ⟨b,0,none⟩) xs.length cap) (w1:=w) (by rw[h3];exact U8 w hu hi _ _ _ (by rw[xo] at tt;exact tt) h5)
   refine te hr ?_
   have:=yI (b:=b) (cap:=cap) (cur':=cur) (vs:=vs) (fl:=fl) (w1:=w) h9 tC (fun _ _=>rfl) rfl rfl rfl rfl h4 (by simpa using h5) h6 h7 (by rw[xo,uJ,uJ];exact h8)
   simpa using this
 ·have aa8:us.length=zs.length*i.size:=by rw[jy];exact w5
  have grown:∀(vs:List Value)(fl:List (List Nat)),vs.length=xs.length*U.wd τ->e9 E w F true τ xs vs fl->fl.flatten.Nodup->(∀b∈fl.flatten,∃k∈ks,b∈fp k)->
    ∀Ic:Nat,Ic<xs.length+zs.length->(Builtin.append_ #[t,t] o.type #[a.eval s,a.eval x]).run E.P w=
     .ok (.slice (some ⟨w.heap.size,0,none⟩) (xs.length+zs.length) (grownCap w (xs.length+zs.length) Ic e)) (w.drew.alloc (.cells (vs.toArray++us.toArray++Builtin.zeroCells z.cells (grownCap w (xs.length+zs.length) Ic e-(xs.length+zs.length))) e))->
    o.wp E.P a w next Q:=by
   intro vs fl Gx h1 h2 h3 Ic hold jz
   refine te (exec jz) ?_
   have hge:=grownCap_ge w (xs.length+zs.length) Ic e
   have:=grow vs fl h1 h2 h3 (cap:=grownCap w (xs.length+zs.length) Ic e) (cur:=vs.toArray++us.toArray++Builtin.zeroCells z.cells (grownCap w (xs.length+zs.length) Ic e-(xs.length+zs.length)))
    (w1:=w.drew.alloc (.cells (vs.toArray++us.toArray++Builtin.zeroCells z.cells (grownCap w (xs.length+zs.length) Ic e-(xs.length+zs.length))) e))
    (fun b hb=>BW w.drew _ hb) ((ic.drew _ _).trans (ic.alloc _ _ _)) (by simp) (by rw[Ax];exact heap_alloc_new w.drew _) (by simpa using hge) (grownCap_le_maxLen w _ Ic e (Nq hle))
    (by
     simp only[Array.size_append,UN,size_zeroCells,PV,Gx,w5,<-xT]
     congr 1;omega)
    (by
     have Bz:((xs++zs).length*U.wd τ)=(vs++us).length:=by simp[Gx,w5,xT]
     simp only[Array.toList_append,xU]
     rw[<-xU,Bz]
     exact List.take_left)
   simpa using this
  rcases Ot.rows with⟨h3,⟨QD,h4⟩,h5⟩|⟨b,cap,cur,vs,fl,h3,h4,h5,h6,h7,h8,h9,tC⟩
  ·simp only at h3;subst h3
   refine grown [] [] (by simp) e9.nil (by simp) (by simp) 0 (by omega) ?_
   rw[h4]
   simp only[fz,vB] at Fb hle⊢
   cases QD with
   |none=>
    have hr:=adg (ty:=o.type) w hu hi hz tt (by omega) (by omega) (by omega)
    simpa using hr
   |some a'=>
    have hr:=U9 (ty:=o.type) w hu hi hz a' 0 0 [] (by simp) (by simp) tt (by omega) (by omega) (growslice_fits (by omega) (by simpa using Fb))
    simpa using hr
  ·simp only at h3 h4 h5 h7 h8 h9
   have Gx:vs.length=xs.length*U.wd τ:=h9.1
   by_cases yJ:xs.length+zs.length<=cap
   ·have Qd:xs.length*i.size+us.length<=cur.size:=by rw[aa8,jy,h7,<-xT];exact Be _ yJ
    have hr:=adf (ty:=o.type) w hu hi b xs.length cap cur (by rw[<-Ax];exact h4) tt aaT yJ Qd
    rw[<-h3] at hr
    refine te (exec hr) ?_
    have:=yI (b:=b) (cap:=cap) (cur':=(cur.toList.take (xs.length*i.size)++us++cur.toList.drop (xs.length*i.size+us.length)).toArray) (vs:=vs) (fl:=fl)
     (w1:=w.setRow b (cur.toList.take (xs.length*i.size)++us++cur.toList.drop (xs.length*i.size+us.length)).toArray) h9 tC (fun b' bj=>setRow_other w b b' _ bj) (by simp) rfl rfl rfl (setRow_heap w b cur _ _ _ h4) (by simpa using yJ) h6
     (by
      simp only[UN,kF,oq,My,Gk]
      omega)
     (by
      have Bz:((xs++zs).length*U.wd τ)=(vs++us).length:=by simp[Gx,w5,xT]
      rw[jy,h8,Bz]
      exact List.take_left)
    simpa using this
   ·refine grown vs fl Gx h9 (by rw[tC] at Bz;exact(ur.1 Bz).2) (fun b' bj=>P8 b' (by rw[tC];simp[bj])) cap (by omega) ?_
    rw[h3]
    refine U9 (ty:=o.type) w hu hi hz ⟨b,0,none⟩ xs.length cap vs (by rw[jy];exact Gx) (fun j u hu=> ?_) tt (by omega) (by omega) (growslice_fits (by omega) Fb)
    rw[Addr.add_mid,vB,cell_of_row w b _ cur _ (0,0) h4]
    rw[<-h8,qy] at hu
    split at hu
    ·simpa using hu
    ·cases hu
theorem ak1(h:cR E pm F kv fp σ a w){o:Oper}(ho:o.dst=none){t:TypeId}{x y:Operand}(sR:o.op=.store t x y){sx:SV U}{yx:AC U}{z:AV U}{n:Nat}{rs:List Key}{r:cq U}
  (hx:RS E w F kv fp (bY σ) sx (a.eval x)) (yO:vx sx=some yx) (hy:RS E w F kv fp (bY σ) (.v z) (a.eval y)) (hs:E.size t=some n) (hn:n=z.cs.length)
  (hr:Ag (restrict σ.bP rs) z yx=some r) (hp:∀p∈r.pre,p) {next:Act->World->Prop} {Q:Exit->Act->World->Prop}
  (hnx:∀F kv fp a' w',cR E pm F kv fp (AM.apply o r σ) a' w'->next a' w'):o.wp E.P a w next Q:=by
 have Cf:=lD hx yO
 obtain⟨hH,uo⟩:=Pz hy
 unfold Ag at hr
 split at hr
 rotate_left
 ·cases hr
 rename_i k i wd
 split at hr
 rotate_left
 ·cases hr
 rename_i x0 dead he
 have fi:=kf he
 rw[iw] at hr
 split at hr
 rotate_left
 ·cases hr
 rename_i nJ
 simp only[cN] at nJ
 have vP:=nF nJ.1
 have hzl:=nF nJ.2
 subst vP
 split at hr
 rotate_left
 ·cases hr
 rename_i qs ds ks Bx
 split at hr
 rotate_left
 ·cases hr
 rename_i yv Nv
 rw[iw] at hr
 split at hr
 rotate_left
 ·cases hr
 rename_i tz
 cases hr
 have uL:=ur.1 (va.1 tz)
 have hi:i<x0.xs.length:=hp _ (by simp)
 obtain⟨t1,t2,t3,_⟩:=M2 h Bx (fun q hq=>hp q (by simp[hq])) hH uL.2
 obtain⟨fl,f1,f2,f3,f4⟩:=t3 rfl
 have Iz:=U.ni x0.τ ds yv Nv
 have hdl:ds.length=U.wd x0.τ:=by rw[<-Iz,U.dG]
 have oB:eK E w F dead x0 (kv k) (fp k):=h.dD k _ fi
 have qE:=h.nodup k _ fi
 rcases oB with⟨h0,_⟩|⟨b,cap,cur,vs,ie,h1,hb,hc,hm,vU,hv,hrr,kM,tw⟩
 ·rw[h0] at hi;simp at hi
 obtain⟨bb,oo,nn,cc,oE,hpv⟩:=cx Cf (by simp[iT])
 simp only[pI] at oE
 rw[h1] at oE
 simp only[Value.slice.injEq,gI,Addr.mk.injEq,and_true] at oE
 obtain⟨⟨e1,e2⟩,_,_⟩:=oE
 rw[e1,e2,vB,Kj] at hpv
 have hN:i*U.wd x0.τ+U.wd x0.τ<=x0.xs.length*U.wd x0.τ:=by
  have:(i+1)*U.wd x0.τ<=x0.xs.length*U.wd x0.τ:=Be _ hi
  rw[xT,QU] at this
  exact this
 have hNc:x0.xs.length*U.wd x0.τ<=cap*U.wd x0.τ:=Be _ hc
 have Lu:n=U.wd x0.τ:=by rw[hn,hzl]
 have hcz:(a.eval y).cells.toList.length=U.wd x0.τ:=by rw[Gk,uo,hzl]
 have jz:=U5 (P:=E.P) (n:=n) (off:=i*U.wd x0.τ) (v:=a.eval y) hs (by rw[uo];exact hn.symm) hH.gF hb (by rw[vU,Lu];omega)
 rw[<-hpv] at jz
 have exec:(execOp a.eval o).run E.P w=.ok .skip (w.setRow b (cur.toList.take (i*U.wd x0.τ)++(a.eval y).cells.toList++cur.toList.drop (i*U.wd x0.τ+n)).toArray):=by
  unfold execOp;simp only[sR]
  rw[Sem.run_bind,jz];rfl
 have iW:b∈fp k:=by rw[tw];simp
 have hmk:=h.fT k _ b fi iW
 rw[tw] at qE
 obtain⟨XO,hnf⟩:=ur.1 qE
 have aa4:∀m,(cur.toList.take (i*U.wd x0.τ)++(a.eval y).cells.toList++cur.toList.drop (i*U.wd x0.τ+n)).toArray[m]? =
   if i*U.wd x0.τ<=m/\m<i*U.wd x0.τ+U.wd x0.τ then(a.eval y).cells.toList[m-i*U.wd x0.τ]? else cur[m]? :=by
  intro m
  have gy:(cur.toList.take (i*U.wd x0.τ)).length=i*U.wd x0.τ:=by rw[oq,Gk,vU];omega
  rw[zed,xU]
  by_cases h2:m<i*U.wd x0.τ
  ·rw[zY (by omega),qy,if_pos h2,if_neg (by omega),MK]
  ·rw[z_ (by omega),gy]
   by_cases h3:m<i*U.wd x0.τ+U.wd x0.τ
   ·rw[if_pos ⟨by omega,h3⟩,zY (by omega)]
   ·rw[if_neg (by omega),z_ (by omega),HR,hcz,Lu,MK]
    congr 1;omega
 have aek:∀j,j<U.wd x0.τ->(a.eval y).cells.toList[j]? =some ((a.eval y).cells.toList.getD j undef):=fun j hj=>fM (by rw[hcz];exact hj)
 have aej:∀j,j<U.wd x0.τ->gD ((a.eval y).cells.toList.getD j undef):=fun j hj=>by
  obtain⟨c,SM⟩:∃c,ds[j]? =some c:=⟨ds[j]'(by rw[hdl];exact hj),fE _⟩
  exact(f2 j c SM).gF
 let wJ:Nat->Value:=fun m=>if i*U.wd x0.τ<=m/\m<i*U.wd x0.τ+U.wd x0.τ then(a.eval y).cells.toList.getD (m-i*U.wd x0.τ) undef else vs m
 let kP:Nat->List Nat:=fun m=>if i*U.wd x0.τ<=m/\m<i*U.wd x0.τ+U.wd x0.τ then fl.getD (m-i*U.wd x0.τ) [] else ie m
 have Iq:∀j,j<U.wd x0.τ->wJ (i*U.wd x0.τ+j)=(a.eval y).cells.toList.getD j undef/\kP (i*U.wd x0.τ+j)=fl.getD j []:=fun j hj=>by
  simp only[wJ,kP]
  rw[if_pos ⟨by omega,by omega⟩,if_pos ⟨by omega,by omega⟩,show i*U.wd x0.τ+j-i*U.wd x0.τ=j by omega]
  exact⟨rfl,rfl⟩
 have w4:∀m,¬(i*U.wd x0.τ<=m/\m<i*U.wd x0.τ+U.wd x0.τ)->wJ m=vs m/\kP m=ie m:=fun m hm=>⟨if_neg hm,if_neg hm⟩
 have xp:∀{q j},j<U.wd x0.τ->q≠i->¬(i*U.wd x0.τ<=q*U.wd x0.τ+j/\q*U.wd x0.τ+j<i*U.wd x0.τ+U.wd x0.τ):=fun{q j} hj hq qG=>
  hq (Vt hj (show q*U.wd x0.τ+j-i*U.wd x0.τ<U.wd x0.τ by omega) (by omega)).1
 have SF:∀j b',b'∈fl.getD j []->b'∈fl.flatten:=fun j b' bj=>by
  rcases pt j fl.length with g|g
  ·rw[eV,fE g] at bj
   exact ZC.2 ⟨_,D5 g,bj⟩
  ·rw[eV,ot g] at bj;cases bj
 have anQ:fl.length=U.wd x0.τ:=by rw[f1,hdl]
 have Wc:∀b',b'∈fl.flatten->b'∉fp k:=fun b' bj abE=>by
  obtain⟨k',cY,GF⟩:=f4 b' bj
  obtain⟨e',abz⟩:=nA.1 (t2 k' cY)
  exact h.apart k' k e' _ b' (fun e=>uL.1 (e▸cY)) abz fi GF abE
 have aby:∀m,m<x0.xs.length*U.wd x0.τ->∀b',b'∈ie m->b'∈fp k:=fun m hm b' bj=>by
  rw[tw];exact fF _ (o8.2 ⟨m,pR.2 hm,bj⟩)
 have qG:∀b'∈b::(List.range (x0.xs.length*U.wd x0.τ)).flatMap kP,b'∈fl.flatten\/b'∈fp k:=by
  intro b' bj
  rcases kc.1 bj with rfl|bj
  ·exact .inr iW
  ·obtain⟨m,vT,bj⟩:=o8.1 bj
   rw[pR] at vT
   by_cases qG:i*U.wd x0.τ<=m/\m<i*U.wd x0.τ+U.wd x0.τ
   ·have:=(Iq (m-i*U.wd x0.τ) (by omega)).2
    rw[show i*U.wd x0.τ+(m-i*U.wd x0.τ)=m by omega] at this
    rw[this] at bj
    exact .inl (SF _ b' bj)
   ·rw[(w4 m qG).2] at bj
    exact .inr (aby m vT b' bj)
 have V4:(b::(List.range (x0.xs.length*U.wd x0.τ)).flatMap kP).Nodup:=by
  refine ur.2 ⟨fun bj=> ?_,?_⟩
  ·obtain⟨m,vT,bj⟩:=o8.1 bj
   rw[pR] at vT
   by_cases qG:i*U.wd x0.τ<=m/\m<i*U.wd x0.τ+U.wd x0.τ
   ·have:=(Iq (m-i*U.wd x0.τ) (by omega)).2
    rw[show i*U.wd x0.τ+(m-i*U.wd x0.τ)=m by omega] at this
    rw[this] at bj
    exact Wc b (SF _ b bj) iW
   ·rw[(w4 m qG).2] at bj
    exact XO (o8.2 ⟨m,pR.2 vT,bj⟩)
  ·rw[adQ anQ] at f3
   rw[zdg,List.pairwise_flatMap]
   refine⟨fun m vT=> ?_,?_⟩
   ·rw[<-zdg]
    rw[pR] at vT
    by_cases qG:i*U.wd x0.τ<=m/\m<i*U.wd x0.τ+U.wd x0.τ
    ·have:=(Iq (m-i*U.wd x0.τ) (by omega)).2
     rw[show i*U.wd x0.τ+(m-i*U.wd x0.τ)=m by omega] at this
     rw[this]
     exact Vp f3 (t:=m-i*U.wd x0.τ) (pR.2 (by omega))
    ·rw[(w4 m qG).2]
     exact Vp hnf (pR.2 vT)
   ·refine List.Pairwise.imp_of_mem ?_ (List.nodup_range (n:=x0.xs.length*U.wd x0.τ))
    intro m m' P5 Kl fc b1 uD b2 uC uB
    subst uB
    rw[pR] at P5 Kl
    by_cases qG:i*U.wd x0.τ<=m/\m<i*U.wd x0.τ+U.wd x0.τ
    ·have e1:=(Iq (m-i*U.wd x0.τ) (by omega)).2
     rw[show i*U.wd x0.τ+(m-i*U.wd x0.τ)=m by omega] at e1
     rw[e1] at uD
     by_cases abv:i*U.wd x0.τ<=m'/\m'<i*U.wd x0.τ+U.wd x0.τ
     ·have e2:=(Iq (m'-i*U.wd x0.τ) (by omega)).2
      rw[show i*U.wd x0.τ+(m'-i*U.wd x0.τ)=m' by omega] at e2
      rw[e2] at uC
      exact Ry f3 (t:=m-i*U.wd x0.τ) (t':=m'-i*U.wd x0.τ) (pR.2 (by omega)) (pR.2 (by omega)) (fun e=>fc (by omega)) uD uC
     ·rw[(w4 m' abv).2] at uC
      exact Wc b1 (SF _ b1 uD) (aby m' Kl b1 uC)
    ·rw[(w4 m qG).2] at uD
     by_cases abv:i*U.wd x0.τ<=m'/\m'<i*U.wd x0.τ+U.wd x0.τ
     ·have e2:=(Iq (m'-i*U.wd x0.τ) (by omega)).2
      rw[show i*U.wd x0.τ+(m'-i*U.wd x0.τ)=m' by omega] at e2
      rw[e2] at uC
      exact Wc b1 (SF _ b1 uC) (aby m P5 b1 uD)
     ·rw[(w4 m' abv).2] at uC
      exact Ry hnf (pR.2 P5) (pR.2 Kl) fc uD uC
 have wO:∀b',F b'->F b'/\(w.setRow b (cur.toList.take (i*U.wd x0.τ)++(a.eval y).cells.toList++cur.toList.drop (i*U.wd x0.τ+n)).toArray).heap[b']? =w.heap[b']? :=fun b' bj=>
  ⟨bj,setRow_other w b b' _ (fun e=>hmk.1 (e▸bj))⟩
 have uz:∀b',b'≠b->(w.setRow b (cur.toList.take (i*U.wd x0.τ)++(a.eval y).cells.toList++cur.toList.drop (i*U.wd x0.τ+n)).toArray).heap[b']? =w.heap[b']? :=fun b' bj=>setRow_other w b b' _ bj
 refine Rq exec (hnx F kv (dJ fp k (b::(List.range (x0.xs.length*U.wd x0.τ)).flatMap kP)) _ _ (h.UP ho k _ _ fi ks _ _ uL.1 ?_ wO (fun b' bj=> .inl bj) ?_ V4 ?_ ?_))
 ·intro bad rh
  show eK E _ F _ ⟨x0.τ,x0.xs.set i yv⟩ (kv k) _
  refine .inr ⟨b,cap,_,wJ,kP,by rw[h1,Mx],setRow_heap w b cur _ _ _ hb,by rw[Mx];exact hc,hm,?_,fun m vT=> ?_,fun q xq j c hq hxq hj=> ?_,fun q j hq hj=> ?_,by rw[Mx]⟩
  ·simp only[UN,kF,oq,My,Gk]
   have:=hcz
   rw[Gk] at this
   rw[this,vU,Lu];omega
  ·simp only[Mx] at vT
   rw[aa4 m]
   by_cases qG:i*U.wd x0.τ<=m/\m<i*U.wd x0.τ+U.wd x0.τ
   ·have e1:=(Iq (m-i*U.wd x0.τ) (by omega)).1
    rw[show i*U.wd x0.τ+(m-i*U.wd x0.τ)=m by omega] at e1
    rw[if_pos qG,e1]
    exact⟨aek _ (by omega),aej _ (by omega)⟩
   ·rw[if_neg qG,(w4 m qG).1]
    exact hv m vT
  ·have P_:j<U.wd x0.τ:=by
    rw[<-U.dG x0.τ xq]
    rcases pt j (U.enc x0.τ xq).length with g|g
    ·exact g
    ·have uA:(U.enc x0.τ xq)[j]? =some c:=hj
     rw[ot g] at uA;cases uA
   by_cases Xv:q=i
   ·subst Xv
    have Gw:xq=yv:=by
     have Gw:(x0.xs.set q yv)[q]? =some xq:=hxq
     rw[Xa,if_pos rfl,if_pos hi] at Gw
     exact(ZA Gw).symm
    have hj:(U.enc x0.τ xq)[j]? =some c:=hj
    rw[Gw] at hj
    show Rp E _ F true c (wJ (q*U.wd x0.τ+j)) (kP (q*U.wd x0.τ+j))
    rw[(Iq j P_).1,(Iq j P_).2]
    have uA:ds[j]? =some c:=by rw[<-Iz];exact hj
    refine(f2 j c uA).gv wO (fun b' bj=>uz b' (fun e=> ?_))
    exact Wc b' (SF j b' bj) (e▸iW)
   ·show Rp E _ F true c (wJ (q*U.wd x0.τ+j)) (kP (q*U.wd x0.τ+j))
    have On:=xp P_ Xv
    rw[(w4 _ On).1,(w4 _ On).2]
    have Gw:x0.xs[q]? =some xq:=by
     have Gw:(x0.xs.set i yv)[q]? =some xq:=hxq
     rw[Xa,if_neg (fun e=>Xv e.symm)] at Gw
     exact Gw
    have hdq:dead q=false:=by
     have hq:(!(Nat.beq q i)&&dead q)=false:=hq
     have hb0:Nat.beq q i=false:=by rw[<-wI,HQ];exact Xv
     rw[hb0] at hq
     simpa using hq
    refine(hrr q xq j c hdq Gw hj).gv wO (fun b' bj=>uz b' (fun e=> ?_))
    subst e
    exact XO (o8.2 ⟨_,pR.2 (fS Gw hj),bj⟩)
  ·have hq2:¬q=i/\dead q=true:=by
    have hq:(!(Nat.beq q i)&&dead q)=true:=hq
    rw[cN,qK,<-wI,HQ] at hq
    exact hq
   show kP (q*U.wd x0.τ+j)=[]
   have On:=xp hj hq2.1
   rw[(w4 _ On).2]
   exact kM q j hq2.2 hj
 ·intro k' e' cY lH uB b' bj
  exact uz b' (fun e=>h.apart k' k _ _ b' cY uB fi bj (by rw[e];exact iW))
 ·intro b' bj
  rcases qG b' bj with g|g
  ·obtain⟨k',cY,GF⟩:=f4 b' g
   obtain⟨e',abz⟩:=nA.1 (t2 k' cY)
   exact⟨(h.fT k' e' b' abz GF).1,k',by simp[cY],t2 k' cY,GF⟩
  ·exact⟨(h.fT k _ b' fi g).1,k,by simp,by simp[fi],g⟩
 ·exact⟨rfl,rfl,rfl,by simp,fun b' _ Lu=>uz b' (fun e=>Lu (by rw[e];exact hmk.2.1))⟩
end AM
