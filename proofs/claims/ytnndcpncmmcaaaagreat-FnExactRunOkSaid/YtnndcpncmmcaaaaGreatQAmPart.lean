import Derived.Test.YtnndcpncmmcaaaaGreatQAmMove
namespace AM
set_option linter.unusedVariables false
open Go
variable{U:jO}{E:Env U}{pm:Pm}
variable{F F':Nat->Prop}{kv:Key->Value}{fp:Key->List Nat}{σ:ah U}{a:Act}{w w':World}{bad:Key->Bool}
variable(E) in
def MG(w:World)(F:Nat->Prop)(dead:Nat->Bool)(τ:U.Ty)(xs:List (U.T τ))(vs:List Value)(fl:List (List Nat)):Prop:=
 vs.length=xs.length*U.wd τ/\fl.length=xs.length*U.wd τ/\(∀v∈vs,fu v)/\
 (∀(i:Nat)(x:U.T τ)(j:Nat)(c:U.C),dead i=false->xs[i]? =some x->(U.enc τ x)[j]? =some c->Rp E w F true c (vs.getD (i*U.wd τ+j) undef) (fl.getD (i*U.wd τ+j) []))/\
 ∀i j,dead i=true->j<U.wd τ->fl.getD (i*U.wd τ+j) []=[]
theorem adT{fl:List (List Nat)}{n:Nat}(h:fl.length=n):fl.flatten=(List.range n).flatMap fun m=>fl.getD m []:=by
 rw[J']
 congr 1
 refine Ow fun m=> ?_
 rw[mE]
 by_cases hn:m<n
 ·rw[JZ hn,Ef,gh,gr (by rw[h];exact hn)]
  rfl
 ·rw[lU (by rw[h];omega),lU (by simp;omega)]
  rfl
theorem cM.jm{dead:Nat->Bool}{τ:U.Ty}{xs:List (U.T τ)}{b cap:Nat}{cur:Array Value}{vs:List Value}{fl:List (List Nat)}(h2:w.heap[b]? =some (.cells cur (E.tid τ) (0,0)))(h3:xs.length<=cap)(h4:cap<=maxLen)
  (h5:cur.size=cap*U.wd τ) (h6:cur.toList.take (xs.length*U.wd τ)=vs) (h7:MG E w F dead τ xs vs fl):cM E w F dead ⟨τ,xs⟩ (.slice (some ⟨b,0,none⟩) xs.length cap) (b::fl.flatten):=by
 have hle:xs.length*U.wd τ<=cap*U.wd τ:=u9 _ h3
 refine .inr ⟨b,cap,cur,fun n=>vs.getD n undef,fun n=>fl.getD n [],rfl,h2,h3,h4,h5,fun i hi=> ?_,h7.2.2.2.1,h7.2.2.2.2,by rw[adT h7.2.1]⟩
 have od:i<xs.length*U.wd τ:=hi
 have hvi:vs[i]? =some (vs.getD i undef):=dz (by rw[h7.1];exact od)
 refine⟨?_,h7.2.2.1 _ (Ep hvi)⟩
 show cur[i]? =some (vs.getD i undef)
 rw[<-hvi,<-h6,mP,if_pos od,Eg]
theorem cM.rows{dead:Nat->Bool}{x:fK U}{v:Value}{l:List Nat}(h:cM E w F dead x v l):
  (x.xs=[]/\(∃ad,v=.slice ad 0 0)/\l=[])\/
  ∃(b cap:Nat)(cur:Array Value)(vs:List Value)(fl:List (List Nat)),v=.slice (some ⟨b,0,none⟩) x.xs.length cap/\w.heap[b]? =some (.cells cur (E.tid x.τ) (0,0))/\x.xs.length<=cap/\cap<=maxLen/\
   cur.size=cap*U.wd x.τ/\cur.toList.take (x.xs.length*U.wd x.τ)=vs/\MG E w F dead x.τ x.xs vs fl/\l=b::fl.flatten:=by
 rcases h with h|⟨b,cap,cur,vs,dH,h1,h2,h3,h4,h5,h6,h7,h8,h9⟩
 ·exact .inl h
 have hle:x.xs.length*U.wd x.τ<=cap*U.wd x.τ:=u9 _ h3
 have qk:∀n,n<x.xs.length*U.wd x.τ->(cur.toList.take (x.xs.length*U.wd x.τ))[n]? =some (vs n):=fun n hn=>by
  rw[mP,if_pos hn,Eg];exact(h6 n hn).1
 refine .inr ⟨b,cap,cur,_,(List.range (x.xs.length*U.wd x.τ)).map dH,h1,h2,h3,h4,h5,rfl,⟨by simp;omega,by simp,fun u hu=> ?_,fun i y j c hi hx hj=> ?_,fun i j hi hj=> ?_⟩,by rw[h9,J']⟩
 ·obtain⟨n,hn,rfl⟩:=zG hu
  have qi:n<x.xs.length*U.wd x.τ:=by simp at hn;omega
  have rk:=qk n qi
  rw[gr hn] at rk
  rw[X2 rk]
  exact(h6 n qi).2
 ·have fx:=eI hx hj
  have:=h7 i y j c hi hx hj
  rw[gh,qk _ fx,gh,mE,JZ fx]
  exact this
 ·rw[gh,mE]
  by_cases fx:i*U.wd x.τ+j<x.xs.length*U.wd x.τ
  ·rw[JZ fx];exact h8 i j hi hj
  ·rw[lU (by simp;omega)];rfl
theorem dD.C7{deep:Bool}{τ:U.Ty}{xs:List (U.T τ)}{vs:List Value}{fl:List (List Nat)}(h:dD E w F deep τ xs vs fl):∀v∈vs,fu v:=by
 intro v hv
 obtain⟨n,hn,rfl⟩:=zG hv
 obtain⟨i,x,j,c,rfl,_,_,hx,hj⟩:=ZH (xs:=xs) (by rw[<-h.1];exact hn)
 have:=h.2.2 i x j c hx hj
 rw[gh,gr hn] at this
 exact this.dQ
theorem dD.dead{τ:U.Ty}{xs zs:List (U.T τ)}{vs us:List Value}{fl:List (List Nat)}(h:dD E w F true τ xs vs fl)(hl:us.length=zs.length*U.wd τ)(ho:∀u∈us,fu u):
  MG E w F (fun i=>Nat.ble xs.length i) τ (xs++zs) (vs++us) (fl++List.replicate (zs.length*U.wd τ) []):=by
 refine⟨by simp[h.1,hl,ta],by simp[h.2.1,ta],fun v hv=> ?_,fun i x j c hi hx hj=> ?_,fun i j hi hj=> ?_⟩
 ·rcases gA.1 hv with hv|hv
  ·exact h.C7 v hv
  ·exact ho v hv
 ·have od:i<xs.length:=by
   rcases lR i xs.length with g|g
   ·exact g
   ·exact absurd ((Nat.ble_eq_true_of_le g).symm.trans hi) (by decide)
  rw[u_ od] at hx
  have:=eI hx hj
  rw[lD (by rw[h.1];exact this),lD (by rw[h.2.1];exact this)]
  exact h.2.2 i x j c hx hj
 ·have od:=H6 hi
  have:xs.length*U.wd τ<=i*U.wd τ:=u9 _ od
  rw[nq (by rw[h.2.1];omega),kA]
theorem adI:∀{xs:List (SV U)}{us:List Value}{wd:Nat},C9 wd xs=true->xs.length=us.length->(∀(i:Nat)(x:SV U)(u:Value),xs[i]? =some x->us[i]? =some u->RS E w F kv fp bad x u)->
  (∀u∈us,u.cells.size=wd)/\∀v∈us.flatMap (fun u=>u.cells.toList),fu v
 |[],[],_,_,_,_=>⟨by simp,by simp⟩
 |[],_::_,_,_,hl,_=>by simp at hl
 |_::_,[],_,_,hl,_=>by simp at hl
 |x::xs,u::us,wd,hk,hl,hx=>by
  cases x with
  |tX l=>cases hk
  |fn p=>cases hk
  |El g l=>cases hk
  |v x=>
   simp only[C9,fY] at hk
   obtain⟨r1,r2⟩:=Ko (hx 0 (.v x) u rfl rfl)
   obtain⟨i1,i2⟩:=adI hk.2 (by simpa using hl) (fun i z v hz hv=>hx (i+1) z v (by simpa using hz) (by simpa using hv))
   refine⟨fun v hv=> ?_,fun v hv=> ?_⟩
   ·rcases h_.1 hv with rfl|hv
    ·rw[r2];exact jp hk.1
    ·exact i1 v hv
   ·rw[tV,gA] at hv
    rcases hv with hv|hv
    ·obtain⟨n,hn,rfl⟩:=zG hv
     have qi:n<x.cs.length:=by rw[r1.1];exact hn
     exact(r1.2 n x.cs[n] _ (gr qi) (gr hn)).1
    ·exact i2 v hv
theorem anU(hE:E.Ok)(h:cd E pm F kv fp σ a w){o:Oper}{d:Nat}(ho:o.dst=some d)(hd:d<σ.n){t e:TypeId}{len:Nat}{parts:Array (Nat×Operand)}(mI:o.op=.buildSlice t len parts)
  {τ:U.Ty} (pV:E.elem t=some e) (hc:E.code e=some τ) {xs:List (SV U)} (hx:xs.length=parts.toList.length)
  (hv:∀(i:Nat)(x:SV U)(q:Nat×Operand),xs[i]? =some x->parts.toList[i]? =some q->RS E w F kv fp (aZ σ) x (a.eval q.2))
  (hlen:(parts.toList.map (·.1)).length=len) (aaY:((parts.toList.map (·.1)).zipIdx).all (fun(a,b)=>Nat.beq a b)=true) (hsm:len*U.wd τ<=1000000)
  (hkp:C9 (U.wd τ) xs=true)
  (jq:¬Names σ (d,0)) {next:Act->World->Prop} {Q:Exit->Act->World->Prop}
  (hn:∀F kv fp a' w',cd E pm F kv fp (AM.apply o ⟨some (one (.ref (d,0) [])),[(0,.part ⟨τ,List.replicate len (U.dt τ)⟩ (fun _=>true))],[],[],[],[]⟩ σ) a' w'->next a' w'):o.wp E.P a w next Q:=by
 obtain⟨uY,i,z,hi,hz,fZ,J2,Qm,_⟩:=hE.code e τ hc
 have hu:=y3 pV
 have hw:=U.ka τ
 obtain⟨r2,r3⟩:=adI (us:=parts.toList.map fun q=>a.eval q.2) hkp (by simp[hx]) (fun i x u E3 kM=>by
  rw[mE] at kM
  cases hq:parts.toList[i]? with
  |none=>rw[hq] at kM;cases kM
  |some q=>rw[hq] at kM;cases kM;exact hv i x q E3 hq)
 have wl:parts.toList.length=len:=by rw[<-hlen];simp
 have KL:(parts.map fun(i,x)=>(i,a.eval x)).toList=((parts.toList.map fun q=>a.eval q.2).zipIdx 0).map fun x=>(x.2,x.1):=by
  rw[zeo]
  refine Ow fun n=> ?_
  rw[mE,mE,zej,mE]
  cases hq:parts.toList[n]? with
  |none=>rfl
  |some q=>
   simp only[Ef,eZ,kG,oz,and_true]
   have h1:((parts.toList.map (·.1)).zipIdx)[n]? =some (q.1,n):=by
    rw[zej,mE,hq];simp
   have:=(FU.1 aaY) (q.1,n) (Ep h1)
   exact jp this
 have aax:¬len*i.size>2^24:=by rw[fZ];omega
 have Gv:len<=maxLen:=by
  have:len<=len*U.wd τ:=Nat.le_mul_of_pos_right _ hw
  simp only[maxLen];omega
 have Ek:∀(l:List Value),(∀u∈l,u.cells.size=U.wd τ)->(l.flatMap fun u=>u.cells.toList).length=l.length*U.wd τ:=by
  intro l
  induction l with
  |nil=>intro _;simp
  |cons u l ih=>
   intro hl
   rw[tV,kF,ih (fun v hv=>hl v (aJ _ hv)),yM,hl u cH,iD,ta,On,zew]
 have fin:∀cells:Array Value,cells.toList=(parts.toList.map fun q=>a.eval q.2).flatMap (fun u=>u.cells.toList)->
   (Instr.buildSlice t len (parts.map fun(i,x)=>(i,a.eval x))).run E.P w=.ok (.slice (some ⟨w.heap.size,0,none⟩) len len) (w.alloc (.cells cells e))->o.wp E.P a w next Q:=by
  intro cells rG fw
  have fa:cells.toList.length=len*U.wd τ:=by rw[rG,Ek _ r2];simp[wl]
  have lh:cells.size=len*U.wd τ:=by simpa using fa
  have fB:MG E (w.alloc (.cells cells e)) F (fun _=>true) τ (List.replicate len (U.dt τ)) cells.toList (List.replicate (len*U.wd τ) []):=by
   refine⟨by rw[fa];simp,by simp,fun v hv=>r3 v (by rw[<-rG];exact hv),fun i x j c hi=>Bool.noConfusion hi,fun i j _ _=>kA⟩
  have la:=h.zx (w':=w.alloc (.cells cells e)) (F':=F) ho hd (.part ⟨τ,List.replicate len (U.dt τ)⟩ (fun _=>true)) (one (.ref (d,0) [])) [] [] (.slice (some ⟨w.heap.size,0,none⟩) len len) (.slice (some ⟨w.heap.size,0,none⟩) len len) [w.heap.size] jq
   (fun bad=>fT ⟨⟨rfl,trivial⟩,.inr (by simp only[RA,gW];rfl)⟩)
   (fun bad=>by
    have:=cM.jm (F:=F) (b:=w.heap.size) (cap:=len) (by rw[uY];exact heap_alloc_new w _) (by simp) Gv lh (by rw[EM (by rw[fa];simp)]) fB
    rw[X1,yY] at this
    exact this)
   (fun b hb=>⟨hb,yW w _ (h.lT b hb)⟩) (fun b hb=> .inl hb) (fun k e _ he b hb=>yW w _ (vx h he hb)) (by simp)
   (fun b hb=>by
    rw[g_.1 hb]
    exact⟨fun hF=>by have:=h.lT _ hF;omega,.inr ⟨og _,by simp⟩⟩) (fm.alloc _ _ _)
  refine pC (v:=.slice (some ⟨w.heap.size,0,none⟩) len len) (w':=w.alloc (.cells cells e)) ?_ (hn F _ _ _ _ la)
  unfold execOp;simp only[mI];exact gF fw
 by_cases h0:len=0
 ·have KN:parts.toList=[]:=yG (by omega)
  have PQ:parts= #[]:=vy KN
  subst h0
  refine fin #[] (by simp[KN]) ?_
  simp[Instr.buildSlice,run_underlying hu,Go.sizeOf,typeInfo,hi,PQ,Instr.fill,newRow,Array.range_zero']
 ·have ND:¬len*i.size=0:=by
   rw[fZ]
   have:=Nat.mul_pos (Nat.pos_of_ne_zero h0) hw
   omega
  have Qd:=Great.fill_whole (s:=i.size) (by rw[fZ];exact hw) (parts.toList.map fun q=>a.eval q.2) ((Array.range (len*i.size)).map (z.cells[·%z.cells.size]!)) (fun v hv=>by rw[fZ];exact r2 v hv) (by simp[wl])
  refine fin ((parts.toList.map fun q=>a.eval q.2).flatMap fun v=>v.cells.toList).toArray rfl (run_buildSlice w t e len _ _ i z hu hi hz aax ND ?_)
  rw[KL]
  exact Qd
theorem ao2(hE:E.Ok)(h:cd E pm F kv fp σ a w){o:Oper}{d:Nat}(ho:o.dst=some d)(hd:d<σ.n){cl:Call}{t e:TypeId}{s x:Operand}(mI:o.op=.call cl)(fa:cl.callee=.builtin .append)
  (ib:cl.args.toList=[s,x]) (vi:cl.argTypes.toList=[t,t]) {τ:U.Ty} (pV:E.elem t=some e) (hc:E.code e=some τ) {ss sx:SV U} {ys yx:AC U}
  (hs:RS E w F kv fp (aZ σ) ss (a.eval s)) (Tx:sd ss=some ys) (hx:RS E w F kv fp (aZ σ) sx (a.eval x)) (hsx:sd sx=some yx)
  {rs:List Key} {ps:List Prop} {xs zs:List (U.T τ)} {ks ks':List Key} {pall:List Prop}
  (HZ:tm τ (restrict σ.aU rs) ys=some (ps,xs,ks,true)) (IK:Ge τ (restrict σ.aU rs) yx=some (zs,ks')) (hp:∀p∈ps,p) (Ej:(ks++ks').Nodup) (hle:xs.length+zs.length<=4294967296)
  (jq:¬Names σ (d,0)) {next:Act->World->Prop} {Q:Exit->Act->World->Prop}
  (hn:∀F kv fp a' w',cd E pm F kv fp (AM.apply o ⟨some (one (.ref (d,0) [])),[(0,.part ⟨τ,xs++zs⟩ (fun i=>Nat.ble xs.length i))],ks++ks',[],pall,[]⟩ σ) a' w'->next a' w'):o.wp E.P a w next Q:=by
 obtain⟨uY,i,z,hi,hz,fZ,J2,Qm,_⟩:=hE.code e τ hc
 have hu:=y3 pV
 have hw:=U.ka τ
 obtain⟨lg,eS,l,zS,pf,KS⟩:=adw h HZ hp (bD hs Tx)
 obtain⟨Dm,us,sO,aaq,kk⟩:(∀k∈ks',(σ.aU k).isSome=true)/\∃us,us.length=zs.length*U.wd τ/\(∀u∈us,fu u)/\Src E.P w t (a.eval x) (U.wd τ) zs.length us:=by
  unfold Ge at IK
  split at IK
  ·rename_i k
   split at IK
   ·rename_i y dead he
    split at IK
    ·rename_i zs' LS
     cases IK
     have:=bJ LS
     subst this
     have dr:=fA he
     have h1:a.eval x=kv k:=bG (bD hx hsx) rfl
     have h2:cM E w F dead ⟨τ,zs⟩ (kv k) (fp k):=h.cT k _ dr
     rw[<-h1] at h2
     refine⟨by simp[dr],?_⟩
     rcases h2.rows with⟨h3,⟨ad,h4⟩,h5⟩|⟨b,cap,cur,vs,fl,h3,h4,h5,h6,h7,h8,h9,rk⟩
     ·simp only at h3;subst h3
      exact⟨[],by simp,by simp,by rw[h4];exact Src.slice hu (by simp) (fun hh=>by simp at hh)⟩
     ·simp only at h3 h4 h5 h7 h8 h9
      refine⟨vs,h9.1,h9.2.2.1,?_⟩
      rw[h3]
      refine Src.slice hu (h9.1) (fun _=>⟨b,0,rfl,fun i u kM=> ?_⟩)
      rw[<-h8,mP] at kM
      split at kM
      ·rw[cell_of_row w b _ cur _ (0,0) h4];simpa using kM
      ·cases kM
    ·cases IK
   ·cases IK
  ·cases IK
 rw[<-fZ] at kk
 have fQ:∀k∈ks++ks',(σ.aU k).isSome=true:=fun k hk=>(gA.1 hk).elim (eS k) (Dm k)
 have exec:∀{v w1},(Builtin.append_ #[t,t] o.type #[a.eval s,a.eval x]).run E.P w=.ok v w1->(execOp a.eval o).run E.P w=.ok (.value v) w1:=by
  intro v w1 hr
  have ha:cl.args= #[s,x]:=vy ib
  have ht:cl.argTypes= #[t,t]:=vy vi
  unfold execOp;simp only[mI]
  simp[resolve,fa,ha,ht,invoke,builtin,hr]
 have Gv:∀{n:Nat},n<=4294967296->n<=maxLen:=fun hh=>by simp only[maxLen];omega
 have VN:∀k∈ks++ks',∀b∈fp k,¬F b:=fun k hk b hb=>by
  obtain⟨e,he⟩:=kH.1 (fQ k hk)
  exact(h.cU k e b he hb).1
 have hWb:∀k∈ks++ks',∀b∈fp k,(pm.W b\/pm.w0.heap.size<=b)/\b<w.heap.size:=fun k hk b hb=>by
  obtain⟨e,he⟩:=kH.1 (fQ k hk)
  exact(h.cU k e b he hb).2
 have NC:∀(fl:List (List Nat)),(fl++List.replicate (zs.length*U.wd τ) ([]:List Nat)).flatten=fl.flatten:=fun fl=>by rw[Ak,yY,sI]
 have grow:∀(vs:List Value)(fl:List (List Nat)),dD E w F true τ xs vs fl->fl.flatten.Nodup->(∀b∈fl.flatten,∃k∈ks,b∈fp k)->
   ∀{cap:Nat}{cur:Array Value}{w1:World},(∀b,b<w.heap.size->w1.heap[b]? =w.heap[b]?)->fm (fun b=>pm.W b\/pm.w0.heap.size<=b) w w1->w.heap.size<w1.heap.size->
   w1.heap[w.heap.size]? =some (.cells cur (E.tid τ) (0,0))->(xs++zs).length<=cap->cap<=maxLen->cur.size=cap*U.wd τ->cur.toList.take ((xs++zs).length*U.wd τ)=vs++us->
   next (a.put o.dst (.slice (some ⟨w.heap.size,0,none⟩) (xs++zs).length cap)) w1:=by
  intro vs fl h1 h2 h3 cap cur w1 s9 kx mS hb jr hm lh vj
  have fx:∀b∈fl.flatten,b<w.heap.size:=fun b hb=>by obtain⟨k,hk,hb⟩:=h3 b hb;exact(hWb k (by simp[hk]) b hb).2
  have la:=h.zx ho hd (.part ⟨τ,xs++zs⟩ (fun i=>Nat.ble xs.length i)) (one (.ref (d,0) [])) (ks++ks') pall (.slice (some ⟨w.heap.size,0,none⟩) (xs++zs).length cap) (.slice (some ⟨w.heap.size,0,none⟩) (xs++zs).length cap) (w.heap.size::fl.flatten) (w':=w1) (F':=F) jq
   (fun bad=>fT ⟨⟨rfl,trivial⟩,.inr (by simp only[RA,gW];rfl)⟩)
   (fun bad=>by
    have:=cM.jm hb jr hm lh vj ((h1.cI (fun b' aI=>⟨aI,s9 b' (h.lT b' aI)⟩) (fun b' aI=>s9 b' (fx b' aI))).dead sO aaq)
    rw[NC] at this
    exact this)
   (fun b' aI=>⟨aI,s9 b' (h.lT b' aI)⟩) (fun b' aI=> .inl aI) (fun k e _ he b' aI=>s9 b' (vx h he aI))
   (pH.2 ⟨fun aI=>by have:=fx _ aI;omega,h2⟩)
   (fun b' aI=>by
    rcases h_.1 aI with rfl|aI
    ·exact⟨fun hF=>by have:=h.lT _ hF;omega,.inr ⟨og _,mS⟩⟩
    ·obtain⟨k,hk,gX⟩:=h3 b' aI
     exact⟨VN k (by simp[hk]) b' gX,.inl ⟨k,by simp[hk],eS k hk,gX⟩⟩) kx
  exact hn _ _ _ _ _ la
 have wJ:∀{b cap:Nat}{cur':Array Value}{vs:List Value}{fl:List (List Nat)}{w1:World},dD E w F true τ xs vs fl->l=b::fl.flatten->(∀b',b'≠b->w1.heap[b']? =w.heap[b']?)->w1.heap.size=w.heap.size->
   w1.os=w.os->w1.tape=w.tape->w1.output=w.output->w.drawn<=w1.drawn->w1.heap[b]? =some (.cells cur' (E.tid τ) (0,0))->(xs++zs).length<=cap->cap<=maxLen->cur'.size=cap*U.wd τ->cur'.toList.take ((xs++zs).length*U.wd τ)=vs++us->
   next (a.put o.dst (.slice (some ⟨b,0,none⟩) (xs++zs).length cap)) w1:=by
  intro b cap cur' vs fl w1 fB hl s9 mS hos htp rE NQ hb jr hm lh vj
  subst hl
  have gX:∃k∈ks,b∈fp k:=KS b (by simp)
  obtain⟨kb,NL,GH⟩:=gX
  have T':¬F b:=VN kb (by simp[NL]) b GH
  have kx:fm (fun b=>pm.W b\/pm.w0.heap.size<=b) w w1:=⟨hos,htp,rE,by omega,fun k hk Ez=>s9 k (fun e=>Ez (e▸(hWb kb (by simp[NL]) b GH).1)),NQ⟩
  have Gw:∀k e,k∉ks++ks'->σ.aU k=some e->∀b'∈fp k,w1.heap[b']? =w.heap[b']? :=fun k e hk he b' aI=>s9 b' (fun e'=>by
   subst e'
   obtain⟨eb,heb⟩:=kH.1 (eS kb NL)
   exact h.apart kb k eb e b' (fun e'=>hk (by subst e';simp[NL])) heb he GH aI)
  have RO:=(pH.1 pf).1
  have la:=h.zx ho hd (.part ⟨τ,xs++zs⟩ (fun i=>Nat.ble xs.length i)) (one (.ref (d,0) [])) (ks++ks') pall _ (.slice (some ⟨b,0,none⟩) (xs++zs).length cap) (b::fl.flatten) (w':=w1) (F':=F) jq
   (fun bad=>fT ⟨⟨rfl,trivial⟩,.inr (by simp only[RA,gW];rfl)⟩)
   (fun bad=>by
    have:=cM.jm hb jr hm lh vj ((fB.cI (fun b' aI=>⟨aI,s9 b' (fun e=>T' (e▸aI))⟩) (fun b' aI=>s9 b' (fun e=>RO (e▸aI)))).dead sO aaq)
    rw[NC] at this
    exact this)
   (fun b' aI=>⟨aI,s9 b' (fun e=>T' (e▸aI))⟩) (fun b' aI=> .inl aI) Gw pf
   (fun b' aI=>by obtain⟨k,hk,aI⟩:=KS b' aI;exact⟨VN k (by simp[hk]) b' aI,.inl ⟨k,by simp[hk],eS k hk,aI⟩⟩) kx
  exact hn _ _ _ _ _ la
 have PK:∀u∈us,u.oneCell'=true:=fun u hu=>(aaq u hu).1
 have tI:(xs.length+zs.length)*i.bytes<=140737488355328:=by
  have:=Nat.mul_le_mul hle Qm
  omega
 by_cases aG:zs.length=0
 ·have PI:zs=[]:=yG aG
  subst PI
  have rC:us=[]:=yG (by simpa using sO)
  rcases zS.rows with⟨h3,⟨Lg,h4⟩,h5⟩|⟨b,cap,cur,vs,fl,h3,h4,h5,h6,h7,h8,h9,rk⟩
  ·simp only at h3;subst h3
   have hr:=exec (v:=.slice Lg 0 0) (w1:=w) (by rw[h4];exact MR w hu hi _ _ _ (by rw[rC] at kk;exact kk) (og _))
   refine pC hr ?_
   have la:=h.zx ho hd (.part ⟨τ,[]⟩ (fun i=>Nat.ble ([]:List (U.T τ)).length i)) (one (.ref (d,0) [])) (ks++ks') pall (.slice Lg 0 0) (.slice Lg 0 0) [] (w':=w) (F':=F) jq
    (fun bad=>fT ⟨⟨rfl,trivial⟩,.inr (by simp only[RA,gW];rfl)⟩) (fun bad=> .inl ⟨rfl,⟨Lg,rfl⟩,rfl⟩) (fun b hb=>⟨hb,rfl⟩) (fun b hb=> .inl hb) (fun _ _ _ _ _ _=>rfl) (by simp) (by simp) (fm.refl _ _)
   exact hn _ _ _ _ _ la
  ·simp only at h3 h4 h5 h7 h8 h9
   have hr:=exec (v:=.slice (some ⟨b,0,none⟩) xs.length cap) (w1:=w) (by rw[h3];exact MR w hu hi _ _ _ (by rw[rC] at kk;exact kk) h5)
   refine pC hr ?_
   have:=wJ (b:=b) (cap:=cap) (cur':=cur) (vs:=vs) (fl:=fl) (w1:=w) h9 rk (fun _ _=>rfl) rfl rfl rfl rfl (og _) h4 (by simpa using h5) h6 h7 (by rw[rC,sI,sI];exact h8)
   simpa using this
 ·have PU:us.length=zs.length*i.size:=by rw[fZ];exact sO
  have grown:∀(vs:List Value)(fl:List (List Nat)),vs.length=xs.length*U.wd τ->dD E w F true τ xs vs fl->fl.flatten.Nodup->(∀b∈fl.flatten,∃k∈ks,b∈fp k)->
    ∀yH:Nat,yH<xs.length+zs.length->(Builtin.append_ #[t,t] o.type #[a.eval s,a.eval x]).run E.P w=
     .ok (.slice (some ⟨w.heap.size,0,none⟩) (xs.length+zs.length) (grownCap w (xs.length+zs.length) yH e)) (w.drew.alloc (.cells (vs.toArray++us.toArray++Builtin.zeroCells z.cells (grownCap w (xs.length+zs.length) yH e-(xs.length+zs.length))) e))->
    o.wp E.P a w next Q:=by
   intro vs fl yI h1 h2 h3 yH hold fw
   refine pC (exec fw) ?_
   have TU:=grownCap_ge w (xs.length+zs.length) yH e
   have:=grow vs fl h1 h2 h3 (cap:=grownCap w (xs.length+zs.length) yH e) (cur:=vs.toArray++us.toArray++Builtin.zeroCells z.cells (grownCap w (xs.length+zs.length) yH e-(xs.length+zs.length)))
    (w1:=w.drew.alloc (.cells (vs.toArray++us.toArray++Builtin.zeroCells z.cells (grownCap w (xs.length+zs.length) yH e-(xs.length+zs.length))) e))
    (fun b hb=>yW w.drew _ hb) ((fm.drew _ _).trans (fm.alloc _ _ _)) (by simp) (by rw[uY];exact heap_alloc_new w.drew _) (by simpa using TU) (grownCap_le_maxLen w _ yH e (Gv hle))
    (by
     simp only[Array.size_append,Rt,size_zeroCells,J2,yI,sO,<-ta]
     congr 1;omega)
    (by
     have pf:((xs++zs).length*U.wd τ)=(vs++us).length:=by simp[yI,sO,ta]
     simp only[Array.toList_append,qc]
     rw[<-qc,pf]
     exact List.take_left)
   simpa using this
  rcases zS.rows with⟨h3,⟨Lg,h4⟩,h5⟩|⟨b,cap,cur,vs,fl,h3,h4,h5,h6,h7,h8,h9,rk⟩
  ·simp only at h3;subst h3
   refine grown [] [] (by simp) dD.nil (by simp) (by simp) 0 (by omega) ?_
   rw[h4]
   simp only[ii,oz] at tI hle⊢
   cases Lg with
   |none=>
    have hr:=ZG (ty:=o.type) w hu hi hz kk (by omega) (by omega) (by omega)
    simpa using hr
   |some a'=>
    have hr:=MS (ty:=o.type) w hu hi hz a' 0 0 [] (by simp) (by simp) kk (by omega) (by omega) (growslice_fits (by omega) (by simpa using tI))
    simpa using hr
  ·simp only at h3 h4 h5 h7 h8 h9
   have yI:vs.length=xs.length*U.wd τ:=h9.1
   by_cases qQ:xs.length+zs.length<=cap
   ·have IW:xs.length*i.size+us.length<=cur.size:=by rw[PU,fZ,h7,<-ta];exact u9 _ qQ
    have hr:=ZF (ty:=o.type) w hu hi b xs.length cap cur (by rw[<-uY];exact h4) kk PK qQ IW
    rw[<-h3] at hr
    refine pC (exec hr) ?_
    have:=wJ (b:=b) (cap:=cap) (cur':=(cur.toList.take (xs.length*i.size)++us++cur.toList.drop (xs.length*i.size+us.length)).toArray) (vs:=vs) (fl:=fl)
     (w1:=w.setRow b (cur.toList.take (xs.length*i.size)++us++cur.toList.drop (xs.length*i.size+us.length)).toArray) h9 rk (fun b' aI=>setRow_other w b b' _ aI) (by simp) rfl rfl rfl (og _) (setRow_heap w b cur _ _ _ h4) (by simpa using qQ) h6
     (by
      simp only[Rt,kF,mO,FT,yM]
      omega)
     (by
      have pf:((xs++zs).length*U.wd τ)=(vs++us).length:=by simp[yI,sO,ta]
      rw[fZ,h8,pf]
      exact List.take_left)
    simpa using this
   ·refine grown vs fl yI h9 (by rw[rk] at pf;exact(pH.1 pf).2) (fun b' aI=>KS b' (by rw[rk];simp[aI])) cap (by omega) ?_
    rw[h3]
    refine MS (ty:=o.type) w hu hi hz ⟨b,0,none⟩ xs.length cap vs (by rw[fZ];exact yI) (fun j u hu=> ?_) kk (by omega) (by omega) (growslice_fits (by omega) tI)
    rw[Addr.add_mid,oz,cell_of_row w b _ cur _ (0,0) h4]
    rw[<-h8,mP] at hu
    split at hu
    ·simpa using hu
    ·cases hu
theorem ac2(h:cd E pm F kv fp σ a w){o:Oper}(ho:o.dst=none){t:TypeId}{x y:Operand}(mI:o.op=.store t x y){sx:SV U}{yx:AC U}{z:AV U}{n:Nat}{rs:List Key}{r:bz U}
  (hx:RS E w F kv fp (aZ σ) sx (a.eval x)) (vN:sd sx=some yx) (hy:RS E w F kv fp (aZ σ) (.v z) (a.eval y)) (hs:E.size t=some n) (hn:n=z.cs.length)
  (hr:qB (restrict σ.aU rs) z yx=some r) (hp:∀p∈r.pre,p) {next:Act->World->Prop} {Q:Exit->Act->World->Prop}
  (J4:∀F kv fp a' w',cd E pm F kv fp (AM.apply o r σ) a' w'->next a' w'):o.wp E.P a w next Q:=by
 have AB:=bD hx vN
 obtain⟨cr,sW⟩:=Ko hy
 unfold qB at hr
 split at hr
 rotate_left
 ·cases hr
 rename_i k i wd
 split at hr
 rotate_left
 ·cases hr
 rename_i x0 dead he
 have dr:=fA he
 rw[fc] at hr
 split at hr
 rotate_left
 ·cases hr
 rename_i mU
 simp only[fY] at mU
 have mH:=jp mU.1
 have hzl:=jp mU.2
 subst mH
 split at hr
 rotate_left
 ·cases hr
 rename_i qs ds ks vj
 split at hr
 rotate_left
 ·cases hr
 rename_i yv vM
 rw[fc] at hr
 split at hr
 rotate_left
 ·cases hr
 rename_i pj
 cases hr
 have tG:=pH.1 (sV.1 pj)
 have hi:i<x0.xs.length:=hp _ (by simp)
 obtain⟨t1,t2,t3,_⟩:=Kj h vj (fun q hq=>hp q (by simp[hq])) cr tG.2
 obtain⟨fl,f1,f2,f3,f4⟩:=t3 rfl
 have u6:=U.jn x0.τ ds yv vM
 have V5:ds.length=U.wd x0.τ:=by rw[<-u6,U.cP]
 have kz:cM E w F dead x0 (kv k) (fp k):=h.cT k _ dr
 have oB:=h.nodup k _ dr
 rcases kz with⟨h0,_⟩|⟨b,cap,cur,vs,dH,h1,hb,hc,hm,lh,hv,TA,jh,lN⟩
 ·rw[h0] at hi;simp at hi
 obtain⟨bb,oo,nn,cc,iz,LX⟩:=bG AB (by simp[gg])
 simp only[mg] at iz
 rw[h1] at iz
 simp only[Value.slice.injEq,eZ,Addr.mk.injEq,and_true] at iz
 obtain⟨⟨e1,e2⟩,_,_⟩:=iz
 rw[e1,e2,oz,Aj] at LX
 have hN:i*U.wd x0.τ+U.wd x0.τ<=x0.xs.length*U.wd x0.τ:=by
  have:(i+1)*U.wd x0.τ<=x0.xs.length*U.wd x0.τ:=u9 _ hi
  rw[ta,On] at this
  exact this
 have hNc:x0.xs.length*U.wd x0.τ<=cap*U.wd x0.τ:=u9 _ hc
 have Ez:n=U.wd x0.τ:=by rw[hn,hzl]
 have hcz:(a.eval y).cells.toList.length=U.wd x0.τ:=by rw[yM,sW,hzl]
 have fw:=OP (P:=E.P) (n:=n) (off:=i*U.wd x0.τ) (v:=a.eval y) hs (by rw[sW];exact hn.symm) cr.dQ hb (by rw[lh,Ez];omega)
 rw[<-LX] at fw
 have exec:(execOp a.eval o).run E.P w=.ok .skip (w.setRow b (cur.toList.take (i*U.wd x0.τ)++(a.eval y).cells.toList++cur.toList.drop (i*U.wd x0.τ+n)).toArray):=by
  unfold execOp;simp only[mI]
  rw[Sem.run_bind,fw];rfl
 have gX:b∈fp k:=by rw[lN];simp
 have RF:=h.cU k _ b dr gX
 rw[lN] at oB
 obtain⟨RO,Od⟩:=pH.1 oB
 have TC:∀m,(cur.toList.take (i*U.wd x0.τ)++(a.eval y).cells.toList++cur.toList.drop (i*U.wd x0.τ+n)).toArray[m]? =
   if i*U.wd x0.τ<=m/\m<i*U.wd x0.τ+U.wd x0.τ then(a.eval y).cells.toList[m-i*U.wd x0.τ]? else cur[m]? :=by
  intro m
  have fx:(cur.toList.take (i*U.wd x0.τ)).length=i*U.wd x0.τ:=by rw[mO,yM,lh];omega
  rw[zed,qc]
  by_cases h2:m<i*U.wd x0.τ
  ·rw[u_ (by omega),mP,if_pos h2,if_neg (by omega),Eg]
  ·rw[va (by omega),fx]
   by_cases h3:m<i*U.wd x0.τ+U.wd x0.τ
   ·rw[if_pos ⟨by omega,h3⟩,u_ (by omega)]
   ·rw[if_neg (by omega),va (by omega),Eo,hcz,Ez,Eg]
    congr 1;omega
 have aeq:∀j,j<U.wd x0.τ->(a.eval y).cells.toList[j]? =some ((a.eval y).cells.toList.getD j undef):=fun j hj=>dz (by rw[hcz];exact hj)
 have aep:∀j,j<U.wd x0.τ->fu ((a.eval y).cells.toList.getD j undef):=fun j hj=>by
  obtain⟨c,Qk⟩:∃c,ds[j]? =some c:=⟨ds[j]'(by rw[V5];exact hj),gr _⟩
  exact(f2 j c Qk).dQ
 let rm:Nat->Value:=fun m=>if i*U.wd x0.τ<=m/\m<i*U.wd x0.τ+U.wd x0.τ then(a.eval y).cells.toList.getD (m-i*U.wd x0.τ) undef else vs m
 let dV:Nat->List Nat:=fun m=>if i*U.wd x0.τ<=m/\m<i*U.wd x0.τ+U.wd x0.τ then fl.getD (m-i*U.wd x0.τ) [] else dH m
 have Gr:∀j,j<U.wd x0.τ->rm (i*U.wd x0.τ+j)=(a.eval y).cells.toList.getD j undef/\dV (i*U.wd x0.τ+j)=fl.getD j []:=fun j hj=>by
  simp only[rm,dV]
  rw[if_pos ⟨by omega,by omega⟩,if_pos ⟨by omega,by omega⟩,show i*U.wd x0.τ+j-i*U.wd x0.τ=j by omega]
  exact⟨rfl,rfl⟩
 have vh:∀m,¬(i*U.wd x0.τ<=m/\m<i*U.wd x0.τ+U.wd x0.τ)->rm m=vs m/\dV m=dH m:=fun m hm=>⟨if_neg hm,if_neg hm⟩
 have rE:∀{q j},j<U.wd x0.τ->q≠i->¬(i*U.wd x0.τ<=q*U.wd x0.τ+j/\q*U.wd x0.τ+j<i*U.wd x0.τ+U.wd x0.τ):=fun{q j} hj hq pE=>
  hq (Sj hj (show q*U.wd x0.τ+j-i*U.wd x0.τ<U.wd x0.τ by omega) (by omega)).1
 have Qc:∀j b',b'∈fl.getD j []->b'∈fl.flatten:=fun j b' aI=>by
  rcases lR j fl.length with g|g
  ·rw[gh,gr g] at aI
   exact X3.2 ⟨_,N6 g,aI⟩
  ·rw[gh,lU g] at aI;cases aI
 have apA:fl.length=U.wd x0.τ:=by rw[f1,V5]
 have TS:∀b',b'∈fl.flatten->b'∉fp k:=fun b' aI aa8=>by
  obtain⟨k',bp,EF⟩:=f4 b' aI
  obtain⟨e',aa2⟩:=kH.1 (t2 k' bp)
  exact h.apart k' k e' _ b' (fun e=>tG.1 (e▸bp)) aa2 dr EF aa8
 have aa0:∀m,m<x0.xs.length*U.wd x0.τ->∀b',b'∈dH m->b'∈fp k:=fun m hm b' aI=>by
  rw[lN];exact aJ _ (ln.2 ⟨m,oh.2 hm,aI⟩)
 have pE:∀b'∈b::(List.range (x0.xs.length*U.wd x0.τ)).flatMap dV,b'∈fl.flatten\/b'∈fp k:=by
  intro b' aI
  rcases h_.1 aI with rfl|aI
  ·exact .inr gX
  ·obtain⟨m,sY,aI⟩:=ln.1 aI
   rw[oh] at sY
   by_cases pE:i*U.wd x0.τ<=m/\m<i*U.wd x0.τ+U.wd x0.τ
   ·have:=(Gr (m-i*U.wd x0.τ) (by omega)).2
    rw[show i*U.wd x0.τ+(m-i*U.wd x0.τ)=m by omega] at this
    rw[this] at aI
    exact .inl (Qc _ b' aI)
   ·rw[(vh m pE).2] at aI
    exact .inr (aa0 m sY b' aI)
 have TF:(b::(List.range (x0.xs.length*U.wd x0.τ)).flatMap dV).Nodup:=by
  refine pH.2 ⟨fun aI=> ?_,?_⟩
  ·obtain⟨m,sY,aI⟩:=ln.1 aI
   rw[oh] at sY
   by_cases pE:i*U.wd x0.τ<=m/\m<i*U.wd x0.τ+U.wd x0.τ
   ·have:=(Gr (m-i*U.wd x0.τ) (by omega)).2
    rw[show i*U.wd x0.τ+(m-i*U.wd x0.τ)=m by omega] at this
    rw[this] at aI
    exact TS b (Qc _ b aI) gX
   ·rw[(vh m pE).2] at aI
    exact RO (ln.2 ⟨m,oh.2 sY,aI⟩)
  ·rw[adT apA] at f3
   rw[zdg,List.pairwise_flatMap]
   refine⟨fun m sY=> ?_,?_⟩
   ·rw[<-zdg]
    rw[oh] at sY
    by_cases pE:i*U.wd x0.τ<=m/\m<i*U.wd x0.τ+U.wd x0.τ
    ·have:=(Gr (m-i*U.wd x0.τ) (by omega)).2
     rw[show i*U.wd x0.τ+(m-i*U.wd x0.τ)=m by omega] at this
     rw[this]
     exact Sf f3 (t:=m-i*U.wd x0.τ) (oh.2 (by omega))
    ·rw[(vh m pE).2]
     exact Sf Od (oh.2 sY)
   ·refine List.Pairwise.imp_of_mem ?_ (List.nodup_range (n:=x0.xs.length*U.wd x0.τ))
    intro m m' yJ vH cO b1 js b2 iY nX
    subst nX
    rw[oh] at yJ vH
    by_cases pE:i*U.wd x0.τ<=m/\m<i*U.wd x0.τ+U.wd x0.τ
    ·have e1:=(Gr (m-i*U.wd x0.τ) (by omega)).2
     rw[show i*U.wd x0.τ+(m-i*U.wd x0.τ)=m by omega] at e1
     rw[e1] at js
     by_cases aaX:i*U.wd x0.τ<=m'/\m'<i*U.wd x0.τ+U.wd x0.τ
     ·have e2:=(Gr (m'-i*U.wd x0.τ) (by omega)).2
      rw[show i*U.wd x0.τ+(m'-i*U.wd x0.τ)=m' by omega] at e2
      rw[e2] at iY
      exact OV f3 (t:=m-i*U.wd x0.τ) (t':=m'-i*U.wd x0.τ) (oh.2 (by omega)) (oh.2 (by omega)) (fun e=>cO (by omega)) js iY
     ·rw[(vh m' aaX).2] at iY
      exact TS b1 (Qc _ b1 js) (aa0 m' vH b1 iY)
    ·rw[(vh m pE).2] at js
     by_cases aaX:i*U.wd x0.τ<=m'/\m'<i*U.wd x0.τ+U.wd x0.τ
     ·have e2:=(Gr (m'-i*U.wd x0.τ) (by omega)).2
      rw[show i*U.wd x0.τ+(m'-i*U.wd x0.τ)=m' by omega] at e2
      rw[e2] at iY
      exact TS b1 (Qc _ b1 iY) (aa0 m yJ b1 js)
     ·rw[(vh m' aaX).2] at iY
      exact OV Od (oh.2 yJ) (oh.2 vH) cO js iY
 have vO:∀b',F b'->F b'/\(w.setRow b (cur.toList.take (i*U.wd x0.τ)++(a.eval y).cells.toList++cur.toList.drop (i*U.wd x0.τ+n)).toArray).heap[b']? =w.heap[b']? :=fun b' aI=>
  ⟨aI,setRow_other w b b' _ (fun e=>RF.1 (e▸aI))⟩
 have o_:∀b',b'≠b->(w.setRow b (cur.toList.take (i*U.wd x0.τ)++(a.eval y).cells.toList++cur.toList.drop (i*U.wd x0.τ+n)).toArray).heap[b']? =w.heap[b']? :=fun b' aI=>setRow_other w b b' _ aI
 refine MP exec (J4 F kv (bx fp k (b::(List.range (x0.xs.length*U.wd x0.τ)).flatMap dV)) _ _ (h.RT ho k _ _ dr ks _ _ tG.1 ?_ vO (fun b' aI=> .inl aI) ?_ TF ?_ ?_))
 ·intro bad nd
  show cM E _ F _ ⟨x0.τ,x0.xs.set i yv⟩ (kv k) _
  refine .inr ⟨b,cap,_,rm,dV,by rw[h1,zF],setRow_heap w b cur _ _ _ hb,by rw[zF];exact hc,hm,?_,fun m sY=> ?_,fun q xq j c hq hxq hj=> ?_,fun q j hq hj=> ?_,by rw[zF]⟩
  ·simp only[Rt,kF,mO,FT,yM]
   have:=hcz
   rw[yM] at this
   rw[this,lh,Ez];omega
  ·simp only[zF] at sY
   rw[TC m]
   by_cases pE:i*U.wd x0.τ<=m/\m<i*U.wd x0.τ+U.wd x0.τ
   ·have e1:=(Gr (m-i*U.wd x0.τ) (by omega)).1
    rw[show i*U.wd x0.τ+(m-i*U.wd x0.τ)=m by omega] at e1
    rw[if_pos pE,e1]
    exact⟨aeq _ (by omega),aep _ (by omega)⟩
   ·rw[if_neg pE,(vh m pE).1]
    exact hv m sY
  ·have LZ:j<U.wd x0.τ:=by
    rw[<-U.cP x0.τ xq]
    rcases lR j (U.enc x0.τ xq).length with g|g
    ·exact g
    ·have pg:(U.enc x0.τ xq)[j]? =some c:=hj
     rw[lU g] at pg;cases pg
   by_cases TB:q=i
   ·subst TB
    have Ex:xq=yv:=by
     have Ex:(x0.xs.set q yv)[q]? =some xq:=hxq
     rw[Ov,if_pos rfl,if_pos hi] at Ex
     exact(X2 Ex).symm
    have hj:(U.enc x0.τ xq)[j]? =some c:=hj
    rw[Ex] at hj
    show Rp E _ F true c (rm (q*U.wd x0.τ+j)) (dV (q*U.wd x0.τ+j))
    rw[(Gr j LZ).1,(Gr j LZ).2]
    have pg:ds[j]? =some c:=by rw[<-u6];exact hj
    refine(f2 j c pg).cI vO (fun b' aI=>o_ b' (fun e=> ?_))
    exact TS b' (Qc j b' aI) (e▸gX)
   ·show Rp E _ F true c (rm (q*U.wd x0.τ+j)) (dV (q*U.wd x0.τ+j))
    have Gt:=rE LZ TB
    rw[(vh _ Gt).1,(vh _ Gt).2]
    have Ex:x0.xs[q]? =some xq:=by
     have Ex:(x0.xs.set i yv)[q]? =some xq:=hxq
     rw[Ov,if_neg (fun e=>TB e.symm)] at Ex
     exact Ex
    have hdq:dead q=false:=by
     have hq:(!(Nat.beq q i)&&dead q)=false:=hq
     have hb0:Nat.beq q i=false:=by rw[<-Al,Oq];exact TB
     rw[hb0] at hq
     simpa using hq
    refine(TA q xq j c hdq Ex hj).cI vO (fun b' aI=>o_ b' (fun e=> ?_))
    subst e
    exact RO (ln.2 ⟨_,oh.2 (eI Ex hj),aI⟩)
  ·have hq2:¬q=i/\dead q=true:=by
    have hq:(!(Nat.beq q i)&&dead q)=true:=hq
    rw[fY,sS,<-Al,Oq] at hq
    exact hq
   show dV (q*U.wd x0.τ+j)=[]
   have Gt:=rE hj hq2.1
   rw[(vh _ Gt).2]
   exact jh q j hq2.2 hj
 ·intro k' e' bp eS nX b' aI
  exact o_ b' (fun e=>h.apart k' k _ _ b' bp nX dr aI (by rw[e];exact gX))
 ·intro b' aI
  rcases pE b' aI with g|g
  ·obtain⟨k',bp,EF⟩:=f4 b' g
   obtain⟨e',aa2⟩:=kH.1 (t2 k' bp)
   exact⟨(h.cU k' e' b' aa2 EF).1,k',by simp[bp],t2 k' bp,EF⟩
  ·exact⟨(h.cU k _ b' dr g).1,k,by simp,by simp[dr],g⟩
 ·exact⟨rfl,rfl,rfl,by simp,fun b' _ Ez=>o_ b' (fun e=>Ez (by rw[e];exact RF.2.1)),og _⟩
end AM
