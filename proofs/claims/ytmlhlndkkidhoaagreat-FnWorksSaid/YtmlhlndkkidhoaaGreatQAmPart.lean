/- THE ABSTRACT MACHINE: rows of which some elements are gone: they are made, grow, are filled again. -/
import Derived.Test.YtmlhlndkkidhoaaGreatQAmMove
namespace AM
set_option linter.unusedVariables false
open Go
variable{U:kZ}{E:Env U}{pm:Pm}
variable{F F':Nat->Prop}{kv:Key->Value}{fp:Key->List Nat}{σ:ah U}{a:Act}{w w':World}{bad:Key->Bool}
variable(E) in
def MC(w:World)(F:Nat->Prop)(dead:Nat->Bool)(τ:U.Ty)(xs:List (U.T τ))(vs:List Value)(fl:List (List Nat)):Prop:=
 vs.length=xs.length*U.wd τ/\fl.length=xs.length*U.wd τ/\(∀v∈vs,gp v)/\
 (∀(i:Nat)(x:U.T τ)(j:Nat)(c:U.C),dead i=false->xs[i]? =some x->(U.enc τ x)[j]? =some c->Rp E w F true c (vs.getD (i*U.wd τ+j) undef) (fl.getD (i*U.wd τ+j) []))/\
 ∀i j,dead i=true->j<U.wd τ->fl.getD (i*U.wd τ+j) []=[]
theorem acM{fl:List (List Nat)}{n:Nat}(h:fl.length=n):fl.flatten=(List.range n).flatMap fun m=>fl.getD m []:=by
 rw[MD]
 congr 1
 refine Oq fun m=> ?_
 rw[nk]
 by_cases hn:m<n
 ·rw[Lz hn,Ek,eY,fo (by rw[h];exact hn)]
  rfl
 ·rw[nz (by rw[h];omega),nz (by simp;omega)]
  rfl
theorem eo.nr{dead:Nat->Bool}{τ:U.Ty}{xs:List (U.T τ)}{b cap:Nat}{cur:Array Value}{vs:List Value}{fl:List (List Nat)}(h2:w.heap[b]? =some (.cells cur (E.tid τ) (0,0)))(h3:xs.length<=cap)(h4:cap<=maxLen)
  (h5:cur.size=cap*U.wd τ) (h6:cur.toList.take (xs.length*U.wd τ)=vs) (h7:MC E w F dead τ xs vs fl):eo E w F dead ⟨τ,xs⟩ (.slice (some ⟨b,0,none⟩) xs.length cap) (b::fl.flatten):=by
 have hle:xs.length*U.wd τ<=cap*U.wd τ:=zy _ h3
 refine .inr ⟨b,cap,cur,fun n=>vs.getD n undef,fun n=>fl.getD n [],rfl,h2,h3,h4,h5,fun i hi=> ?_,h7.2.2.2.1,h7.2.2.2.2,by rw[acM h7.2.1]⟩
 have pN:i<xs.length*U.wd τ:=hi
 have hvi:vs[i]? =some (vs.getD i undef):=e9 (by rw[h7.1];exact pN)
 refine⟨?_,h7.2.2.1 _ (EM hvi)⟩
 show cur[i]? =some (vs.getD i undef)
 rw[<-hvi,<-h6,oJ,if_pos pN,Kk]
theorem eo.rows{dead:Nat->Bool}{x:iX U}{v:Value}{l:List Nat}(h:eo E w F dead x v l):
  (x.xs=[]/\(∃ad,v=.slice ad 0 0)/\l=[])\/
  ∃(b cap:Nat)(cur:Array Value)(vs:List Value)(fl:List (List Nat)),v=.slice (some ⟨b,0,none⟩) x.xs.length cap/\w.heap[b]? =some (.cells cur (E.tid x.τ) (0,0))/\x.xs.length<=cap/\cap<=maxLen/\
   cur.size=cap*U.wd x.τ/\cur.toList.take (x.xs.length*U.wd x.τ)=vs/\MC E w F dead x.τ x.xs vs fl/\l=b::fl.flatten:=by
 rcases h with h|⟨b,cap,cur,vs,gV,h1,h2,h3,h4,h5,h6,h7,h8,h9⟩
 ·exact .inl h
 have hle:x.xs.length*U.wd x.τ<=cap*U.wd x.τ:=zy _ h3
 have rL:∀n,n<x.xs.length*U.wd x.τ->(cur.toList.take (x.xs.length*U.wd x.τ))[n]? =some (vs n):=fun n hn=>by
  rw[oJ,if_pos hn,Kk];exact(h6 n hn).1
 refine .inr ⟨b,cap,cur,_,(List.range (x.xs.length*U.wd x.τ)).map gV,h1,h2,h3,h4,h5,rfl,⟨by simp;omega,by simp,fun u hu=> ?_,fun i y j c hi hx hj=> ?_,fun i j hi hj=> ?_⟩,by rw[h9,MD]⟩
 ·obtain⟨n,hn,rfl⟩:=ri hu
  have u7:n<x.xs.length*U.wd x.τ:=by simp at hn;omega
  have rQ:=rL n u7
  rw[fo hn] at rQ
  rw[W3 rQ]
  exact(h6 n u7).2
 ·have gF:=fJ hx hj
  have:=h7 i y j c hi hx hj
  rw[eY,rL _ gF,eY,nk,Lz gF]
  exact this
 ·rw[eY,nk]
  by_cases gF:i*U.wd x.τ+j<x.xs.length*U.wd x.τ
  ·rw[Lz gF];exact h8 i j hi hj
  ·rw[nz (by simp;omega)];rfl
theorem eI.CW{deep:Bool}{τ:U.Ty}{xs:List (U.T τ)}{vs:List Value}{fl:List (List Nat)}(h:eI E w F deep τ xs vs fl):∀v∈vs,gp v:=by
 intro v hv
 obtain⟨n,hn,rfl⟩:=ri hv
 obtain⟨i,x,j,c,rfl,_,_,hx,hj⟩:=ab6 (xs:=xs) (by rw[<-h.1];exact hn)
 have:=h.2.2 i x j c hx hj
 rw[eY,fo hn] at this
 exact this.gq
theorem eI.dead{τ:U.Ty}{xs zs:List (U.T τ)}{vs us:List Value}{fl:List (List Nat)}(h:eI E w F true τ xs vs fl)(hl:us.length=zs.length*U.wd τ)(ho:∀u∈us,gp u):
  MC E w F (fun i=>Nat.ble xs.length i) τ (xs++zs) (vs++us) (fl++List.replicate (zs.length*U.wd τ) []):=by
 refine⟨by simp[h.1,hl,wz],by simp[h.2.1,wz],fun v hv=> ?_,fun i x j c hi hx hj=> ?_,fun i j hi hj=> ?_⟩
 ·rcases jr.1 hv with hv|hv
  ·exact h.CW v hv
  ·exact ho v hv
 ·have pN:i<xs.length:=by
   rcases nV i xs.length with g|g
   ·exact g
   ·exact absurd ((Nat.ble_eq_true_of_le g).symm.trans hi) (by decide)
  rw[vC pN] at hx
  have:=fJ hx hj
  rw[IC (by rw[h.1];exact this),IC (by rw[h.2.1];exact this)]
  exact h.2.2 i x j c hx hj
 ·have pN:=H5 hi
  have:xs.length*U.wd τ<=i*U.wd τ:=zy _ pN
  rw[MX (by rw[h.2.1];omega),Gb]
theorem acx:∀{xs:List (SV U)}{us:List Value}{wd:Nat},CZ wd xs=true->xs.length=us.length->(∀(i:Nat)(x:SV U)(u:Value),xs[i]? =some x->us[i]? =some u->RS E w F kv fp bad x u)->
  (∀u∈us,u.cells.size=wd)/\∀v∈us.flatMap (fun u=>u.cells.toList),gp v
 |[],[],_,_,_,_=>⟨by simp,by simp⟩
 |[],_::_,_,_,hl,_=>by simp at hl
 |_::_,[],_,_,hl,_=>by simp at hl
 |x::xs,u::us,wd,hk,hl,hx=>by
  cases x with
  |vf l=>cases hk
  |fn p=>cases hk
  |FE g l=>cases hk
  |v x=>
   simp only[CZ,cK] at hk
   obtain⟨r1,r2⟩:=M0 (hx 0 (.v x) u rfl rfl)
   obtain⟨i1,i2⟩:=acx hk.2 (by simpa using hl) (fun i z v hz hv=>hx (i+1) z v (by simpa using hz) (by simpa using hv))
   refine⟨fun v hv=> ?_,fun v hv=> ?_⟩
   ·rcases jQ.1 hv with rfl|hv
    ·rw[r2];exact mM hk.1
    ·exact i1 v hv
   ·rw[yh,jr] at hv
    rcases hv with hv|hv
    ·obtain⟨n,hn,rfl⟩:=ri hv
     have u7:n<x.cs.length:=by rw[r1.1];exact hn
     exact(r1.2 n x.cs[n] _ (fo u7) (fo hn)).1
    ·exact i2 v hv
theorem amR(hE:E.Ok)(h:cE E pm F kv fp σ a w){o:Oper}{d:Nat}(ho:o.dst=some d)(hd:d<σ.n){t e:TypeId}{len:Nat}{parts:Array (Nat×Operand)}(rf:o.op=.buildSlice t len parts)
  {τ:U.Ty} (tF:E.elem t=some e) (hc:E.code e=some τ) {xs:List (SV U)} (hx:xs.length=parts.toList.length)
  (hv:∀(i:Nat)(x:SV U)(q:Nat×Operand),xs[i]? =some x->parts.toList[i]? =some q->RS E w F kv fp (bW σ) x (a.eval q.2))
  (hlen:(parts.toList.map (·.1)).length=len) (Y3:((parts.toList.map (·.1)).zipIdx).all (fun(a,b)=>Nat.beq a b)=true) (hsm:len*U.wd τ<=1000000)
  (hkp:CZ (U.wd τ) xs=true)
  (nM:¬Names σ (d,0)) {next:Act->World->Prop} {Q:Exit->Act->World->Prop}
  (hn:∀F kv fp a' w',cE E pm F kv fp (AM.apply o ⟨some (one (.ref (d,0) [])),[(0,.part ⟨τ,List.replicate len (U.e_ τ)⟩ (fun _=>true))],[],[],[]⟩ σ) a' w'->next a' w'):o.wp E.P a w next Q:=by
 obtain⟨yM,i,z,hi,hz,jd,Nk,Wk,_⟩:=hE.code e τ hc
 have hu:=CD tF
 have hw:=U.kJ τ
 obtain⟨r2,r3⟩:=acx (us:=parts.toList.map fun q=>a.eval q.2) hkp (by simp[hx]) (fun i x u Ta rI=>by
  rw[nk] at rI
  cases hq:parts.toList[i]? with
  |none=>rw[hq] at rI;cases rI
  |some q=>rw[hq] at rI;cases rI;exact hv i x q Ta hq)
 have AA:parts.toList.length=len:=by rw[<-hlen];simp
 have KZ:(parts.map fun(i,x)=>(i,a.eval x)).toList=((parts.toList.map fun q=>a.eval q.2).zipIdx 0).map fun x=>(x.2,x.1):=by
  rw[zeo]
  refine Oq fun n=> ?_
  rw[nk,nk,zej,nk]
  cases hq:parts.toList[n]? with
  |none=>rfl
  |some q=>
   simp only[Ek,gx,ox,tY,and_true]
   have h1:((parts.toList.map (·.1)).zipIdx)[n]? =some (q.1,n):=by
    rw[zej,nk,hq];simp
   have:=(rh.1 Y3) (q.1,n) (EM h1)
   exact mM this
 have Yw:¬len*i.size>2^24:=by rw[jd];omega
 have K3:len<=maxLen:=by
  have:len<=len*U.wd τ:=Nat.le_mul_of_pos_right _ hw
  simp only[maxLen];omega
 have EC:∀(l:List Value),(∀u∈l,u.cells.size=U.wd τ)->(l.flatMap fun u=>u.cells.toList).length=l.length*U.wd τ:=by
  intro l
  induction l with
  |nil=>intro _;simp
  |cons u l ih=>
   intro hl
   rw[yh,kg,ih (fun v hv=>hl v (cA _ hv)),El,hl u gj,gv,wz,Ol,zew]
 have fin:∀cells:Array Value,cells.toList=(parts.toList.map fun q=>a.eval q.2).flatMap (fun u=>u.cells.toList)->
   (Instr.buildSlice t len (parts.map fun(i,x)=>(i,a.eval x))).run E.P w=.ok (.slice (some ⟨w.heap.size,0,none⟩) len len) (w.alloc (.cells cells e))->o.wp E.P a w next Q:=by
  intro cells vY je
  have iq:cells.toList.length=len*U.wd τ:=by rw[vY,EC _ r2];simp[AA]
  have ur:cells.size=len*U.wd τ:=by simpa using iq
  have jT:MC E (w.alloc (.cells cells e)) F (fun _=>true) τ (List.replicate len (U.e_ τ)) cells.toList (List.replicate (len*U.wd τ) []):=by
   refine⟨by rw[iq];simp,by simp,fun v hv=>r3 v (by rw[<-vY];exact hv),fun i x j c hi=>Bool.noConfusion hi,fun i j _ _=>Gb⟩
  have n8:=h.DN (w':=w.alloc (.cells cells e)) (F':=F) ho hd (.part ⟨τ,List.replicate len (U.e_ τ)⟩ (fun _=>true)) (one (.ref (d,0) [])) [] [] (.slice (some ⟨w.heap.size,0,none⟩) len len) (.slice (some ⟨w.heap.size,0,none⟩) len len) [w.heap.size] nM
   (fun bad=>ik ⟨⟨rfl,trivial⟩,.inr (by simp only[RA,sP];rfl)⟩)
   (fun bad=>by
    have:=eo.nr (F:=F) (b:=w.heap.size) (cap:=len) (by rw[yM];exact heap_alloc_new w _) (by simp) K3 ur (by rw[Tq (by rw[iq];simp)]) jT
    rw[zee,yC] at this
    exact this)
   (fun b hb=>⟨hb,Ah w _ (h.sZ b hb)⟩) (fun b hb=> .inl hb) (fun k e _ he b hb=>Ah w _ (Gc h he hb)) (by simp)
   (fun b hb=>by
    rw[ma.1 hb]
    exact⟨fun hF=>by have:=h.sZ _ hF;omega,.inr ⟨s_ _,by simp⟩⟩) (gN.alloc _ _ _)
  refine rD (v:=.slice (some ⟨w.heap.size,0,none⟩) len len) (w':=w.alloc (.cells cells e)) ?_ (hn F _ _ _ _ n8)
  unfold execOp;simp only[rf];exact iA je
 by_cases h0:len=0
 ·have K0:parts.toList=[]:=Em (by omega)
  have PP:parts= #[]:=yD K0
  subst h0
  refine fin #[] (by simp[K0]) ?_
  simp[Instr.buildSlice,run_underlying hu,Go.sizeOf,typeInfo,hi,PP,Instr.fill,newRow,Array.range_zero']
 ·have No:¬len*i.size=0:=by
   rw[jd]
   have:=Nat.mul_pos (Nat.pos_of_ne_zero h0) hw
   omega
  have P5:=Great.fill_whole (s:=i.size) (by rw[jd];exact hw) (parts.toList.map fun q=>a.eval q.2) ((Array.range (len*i.size)).map (z.cells[·%z.cells.size]!)) (fun v hv=>by rw[jd];exact r2 v hv) (by simp[AA])
  refine fin ((parts.toList.map fun q=>a.eval q.2).flatMap fun v=>v.cells.toList).toArray rfl (run_buildSlice w t e len _ _ i z hu hi hz Yw No ?_)
  rw[KZ]
  exact P5
theorem anW(hE:E.Ok)(h:cE E pm F kv fp σ a w){o:Oper}{d:Nat}(ho:o.dst=some d)(hd:d<σ.n){cl:Call}{t e:TypeId}{s x:Operand}(rf:o.op=.call cl)(iq:cl.callee=.builtin .append)
  (ld:cl.args.toList=[s,x]) (Ay:cl.argTypes.toList=[t,t]) {τ:U.Ty} (tF:E.elem t=some e) (hc:E.code e=some τ) {ss sx:SV U} {ys yx:AC U}
  (hs:RS E w F kv fp (bW σ) ss (a.eval s)) (UM:tT ss=some ys) (hx:RS E w F kv fp (bW σ) sx (a.eval x)) (hsx:tT sx=some yx)
  {rs:List Key} {ps:List Prop} {xs zs:List (U.T τ)} {ks ks':List Key} {pall:List Prop}
  (YJ:tz τ (restrict σ.bJ rs) ys=some (ps,xs,ks,true)) (I7:Gk τ (restrict σ.bJ rs) yx=some (zs,ks')) (hp:∀p∈ps,p) (GI:(ks++ks').Nodup) (hle:xs.length+zs.length<=4294967296)
  (nM:¬Names σ (d,0)) {next:Act->World->Prop} {Q:Exit->Act->World->Prop}
  (hn:∀F kv fp a' w',cE E pm F kv fp (AM.apply o ⟨some (one (.ref (d,0) [])),[(0,.part ⟨τ,xs++zs⟩ (fun i=>Nat.ble xs.length i))],ks++ks',[],pall⟩ σ) a' w'->next a' w'):o.wp E.P a w next Q:=by
 obtain⟨yM,i,z,hi,hz,jd,Nk,Wk,_⟩:=hE.code e τ hc
 have hu:=CD tF
 have hw:=U.kJ τ
 obtain⟨yV,kU,l,L8,zU,Nx⟩:=ack h YJ hp (kP hs UM)
 obtain⟨Da,us,vr,Yr,rJ⟩:(∀k∈ks',(σ.bJ k).isSome=true)/\∃us,us.length=zs.length*U.wd τ/\(∀u∈us,gp u)/\Src E.P w t (a.eval x) (U.wd τ) zs.length us:=by
  unfold Gk at I7
  split at I7
  ·rename_i k
   split at I7
   ·rename_i y dead he
    split at I7
    ·rename_i zs' VY
     cases I7
     have:=dQ VY
     subst this
     have e8:=jS he
     have h1:a.eval x=kv k:=cf (kP hx hsx) rfl
     have h2:eo E w F dead ⟨τ,zs⟩ (kv k) (fp k):=h.di k _ e8
     rw[<-h1] at h2
     refine⟨by simp[e8],?_⟩
     rcases h2.rows with⟨h3,⟨ad,h4⟩,h5⟩|⟨b,cap,cur,vs,fl,h3,h4,h5,h6,h7,h8,h9,rQ⟩
     ·simp only at h3;subst h3
      exact⟨[],by simp,by simp,by rw[h4];exact Src.slice hu (by simp) (fun hh=>by simp at hh)⟩
     ·simp only at h3 h4 h5 h7 h8 h9
      refine⟨vs,h9.1,h9.2.2.1,?_⟩
      rw[h3]
      refine Src.slice hu (h9.1) (fun _=>⟨b,0,rfl,fun i u rI=> ?_⟩)
      rw[<-h8,oJ] at rI
      split at rI
      ·rw[cell_of_row w b _ cur _ (0,0) h4];simpa using rI
      ·cases rI
    ·cases I7
   ·cases I7
  ·cases I7
 rw[<-jd] at rJ
 have jf:∀k∈ks++ks',(σ.bJ k).isSome=true:=fun k hk=>(jr.1 hk).elim (kU k) (Da k)
 have exec:∀{v w1},(Builtin.append_ #[t,t] o.type #[a.eval s,a.eval x]).run E.P w=.ok v w1->(execOp a.eval o).run E.P w=.ok (.value v) w1:=by
  intro v w1 hr
  have ha:cl.args= #[s,x]:=yD ld
  have ht:cl.argTypes= #[t,t]:=yD Ay
  unfold execOp;simp only[rf]
  simp[resolve,iq,ha,ht,invoke,builtin,hr]
 have K3:∀{n:Nat},n<=4294967296->n<=maxLen:=fun hh=>by simp only[maxLen];omega
 have hnF:∀k∈ks++ks',∀b∈fp k,¬F b:=fun k hk b hb=>by
  obtain⟨e,he⟩:=mI.1 (jf k hk)
  exact(h.fK k e b he hb).1
 have hWb:∀k∈ks++ks',∀b∈fp k,(pm.W b\/pm.w0.heap.size<=b)/\b<w.heap.size:=fun k hk b hb=>by
  obtain⟨e,he⟩:=mI.1 (jf k hk)
  exact(h.fK k e b he hb).2
 have Nn:∀(fl:List (List Nat)),(fl++List.replicate (zs.length*U.wd τ) ([]:List Nat)).flatten=fl.flatten:=fun fl=>by rw[J7,yC,ww]
 have grow:∀(vs:List Value)(fl:List (List Nat)),eI E w F true τ xs vs fl->fl.flatten.Nodup->(∀b∈fl.flatten,∃k∈ks,b∈fp k)->
   ∀{cap:Nat}{cur:Array Value}{w1:World},(∀b,b<w.heap.size->w1.heap[b]? =w.heap[b]?)->gN (fun b=>pm.W b\/pm.w0.heap.size<=b) w w1->w.heap.size<w1.heap.size->
   w1.heap[w.heap.size]? =some (.cells cur (E.tid τ) (0,0))->(xs++zs).length<=cap->cap<=maxLen->cur.size=cap*U.wd τ->cur.toList.take ((xs++zs).length*U.wd τ)=vs++us->
   next (a.put o.dst (.slice (some ⟨w.heap.size,0,none⟩) (xs++zs).length cap)) w1:=by
  intro vs fl h1 h2 h3 cap cur w1 yL pE wy hb l4 hm ur zT
  have gF:∀b∈fl.flatten,b<w.heap.size:=fun b hb=>by obtain⟨k,hk,hb⟩:=h3 b hb;exact(hWb k (by simp[hk]) b hb).2
  have n8:=h.DN ho hd (.part ⟨τ,xs++zs⟩ (fun i=>Nat.ble xs.length i)) (one (.ref (d,0) [])) (ks++ks') pall (.slice (some ⟨w.heap.size,0,none⟩) (xs++zs).length cap) (.slice (some ⟨w.heap.size,0,none⟩) (xs++zs).length cap) (w.heap.size::fl.flatten) (w':=w1) (F':=F) nM
   (fun bad=>ik ⟨⟨rfl,trivial⟩,.inr (by simp only[RA,sP];rfl)⟩)
   (fun bad=>by
    have:=eo.nr hb l4 hm ur zT ((h1.f_ (fun b' bf=>⟨bf,yL b' (h.sZ b' bf)⟩) (fun b' bf=>yL b' (gF b' bf))).dead vr Yr)
    rw[Nn] at this
    exact this)
   (fun b' bf=>⟨bf,yL b' (h.sZ b' bf)⟩) (fun b' bf=> .inl bf) (fun k e _ he b' bf=>yL b' (Gc h he bf))
   (sN.2 ⟨fun bf=>by have:=gF _ bf;omega,h2⟩)
   (fun b' bf=>by
    rcases jQ.1 bf with rfl|bf
    ·exact⟨fun hF=>by have:=h.sZ _ hF;omega,.inr ⟨s_ _,wy⟩⟩
    ·obtain⟨k,hk,iO⟩:=h3 b' bf
     exact⟨hnF k (by simp[hk]) b' iO,.inl ⟨k,by simp[hk],kU k hk,iO⟩⟩) pE
  exact hn _ _ _ _ _ n8
 have w6:∀{b cap:Nat}{cur':Array Value}{vs:List Value}{fl:List (List Nat)}{w1:World},eI E w F true τ xs vs fl->l=b::fl.flatten->(∀b',b'≠b->w1.heap[b']? =w.heap[b']?)->w1.heap.size=w.heap.size->
   w1.os=w.os->w1.tape=w.tape->w1.output=w.output->w1.heap[b]? =some (.cells cur' (E.tid τ) (0,0))->(xs++zs).length<=cap->cap<=maxLen->cur'.size=cap*U.wd τ->cur'.toList.take ((xs++zs).length*U.wd τ)=vs++us->
   next (a.put o.dst (.slice (some ⟨b,0,none⟩) (xs++zs).length cap)) w1:=by
  intro b cap cur' vs fl w1 jT hl yL wy hos htp vT hb l4 hm ur zT
  subst hl
  have iO:∃k∈ks,b∈fp k:=Nx b (by simp)
  obtain⟨kb,Nz,GM⟩:=iO
  have Zg:¬F b:=hnF kb (by simp[Nz]) b GM
  have pE:gN (fun b=>pm.W b\/pm.w0.heap.size<=b) w w1:=⟨hos,htp,vT,by omega,fun k hk I8=>yL k (fun e=>I8 (e▸(hWb kb (by simp[Nz]) b GM).1))⟩
  have GD:∀k e,k∉ks++ks'->σ.bJ k=some e->∀b'∈fp k,w1.heap[b']? =w.heap[b']? :=fun k e hk he b' bf=>yL b' (fun e'=>by
   subst e'
   obtain⟨eb,heb⟩:=mI.1 (kU kb Nz)
   exact h.apart kb k eb e b' (fun e'=>hk (by subst e';simp[Nz])) heb he GM bf)
  have Wl:=(sN.1 zU).1
  have n8:=h.DN ho hd (.part ⟨τ,xs++zs⟩ (fun i=>Nat.ble xs.length i)) (one (.ref (d,0) [])) (ks++ks') pall _ (.slice (some ⟨b,0,none⟩) (xs++zs).length cap) (b::fl.flatten) (w':=w1) (F':=F) nM
   (fun bad=>ik ⟨⟨rfl,trivial⟩,.inr (by simp only[RA,sP];rfl)⟩)
   (fun bad=>by
    have:=eo.nr hb l4 hm ur zT ((jT.f_ (fun b' bf=>⟨bf,yL b' (fun e=>Zg (e▸bf))⟩) (fun b' bf=>yL b' (fun e=>Wl (e▸bf)))).dead vr Yr)
    rw[Nn] at this
    exact this)
   (fun b' bf=>⟨bf,yL b' (fun e=>Zg (e▸bf))⟩) (fun b' bf=> .inl bf) GD zU
   (fun b' bf=>by obtain⟨k,hk,bf⟩:=Nx b' bf;exact⟨hnF k (by simp[hk]) b' bf,.inl ⟨k,by simp[hk],kU k hk,bf⟩⟩) pE
  exact hn _ _ _ _ _ n8
 have Yq:∀u∈us,u.oneCell'=true:=fun u hu=>(Yr u hu).1
 have Db:(xs.length+zs.length)*i.bytes<=140737488355328:=by
  have:=Nat.mul_le_mul hle Wk
  omega
 by_cases bi:zs.length=0
 ·have PF:zs=[]:=Em bi
  subst PF
  have vS:us=[]:=Em (by simpa using vr)
  rcases L8.rows with⟨h3,⟨N6,h4⟩,h5⟩|⟨b,cap,cur,vs,fl,h3,h4,h5,h6,h7,h8,h9,rQ⟩
  ·simp only at h3;subst h3
   have hr:=exec (v:=.slice N6 0 0) (w1:=w) (by rw[h4];exact TN w hu hi _ _ _ (by rw[vS] at rJ;exact rJ) (s_ _))
   refine rD hr ?_
   have n8:=h.DN ho hd (.part ⟨τ,[]⟩ (fun i=>Nat.ble ([]:List (U.T τ)).length i)) (one (.ref (d,0) [])) (ks++ks') pall (.slice N6 0 0) (.slice N6 0 0) [] (w':=w) (F':=F) nM
    (fun bad=>ik ⟨⟨rfl,trivial⟩,.inr (by simp only[RA,sP];rfl)⟩) (fun bad=> .inl ⟨rfl,⟨N6,rfl⟩,rfl⟩) (fun b hb=>⟨hb,rfl⟩) (fun b hb=> .inl hb) (fun _ _ _ _ _ _=>rfl) (by simp) (by simp) (gN.refl _ _)
   exact hn _ _ _ _ _ n8
  ·simp only at h3 h4 h5 h7 h8 h9
   have hr:=exec (v:=.slice (some ⟨b,0,none⟩) xs.length cap) (w1:=w) (by rw[h3];exact TN w hu hi _ _ _ (by rw[vS] at rJ;exact rJ) h5)
   refine rD hr ?_
   have:=w6 (b:=b) (cap:=cap) (cur':=cur) (vs:=vs) (fl:=fl) (w1:=w) h9 rQ (fun _ _=>rfl) rfl rfl rfl rfl h4 (by simpa using h5) h6 h7 (by rw[vS,ww,ww];exact h8)
   simpa using this
 ·have YQ:us.length=zs.length*i.size:=by rw[jd];exact vr
  have grown:∀(vs:List Value)(fl:List (List Nat)),vs.length=xs.length*U.wd τ->eI E w F true τ xs vs fl->fl.flatten.Nodup->(∀b∈fl.flatten,∃k∈ks,b∈fp k)->
    ∀Gm:Nat,Gm<xs.length+zs.length->(Builtin.append_ #[t,t] o.type #[a.eval s,a.eval x]).run E.P w=
     .ok (.slice (some ⟨w.heap.size,0,none⟩) (xs.length+zs.length) (grownCap w (xs.length+zs.length) Gm e)) (w.drew.alloc (.cells (vs.toArray++us.toArray++Builtin.zeroCells z.cells (grownCap w (xs.length+zs.length) Gm e-(xs.length+zs.length))) e))->
    o.wp E.P a w next Q:=by
   intro vs fl Ex h1 h2 h3 Gm hold je
   refine rD (exec je) ?_
   have Y4:=grownCap_ge w (xs.length+zs.length) Gm e
   have:=grow vs fl h1 h2 h3 (cap:=grownCap w (xs.length+zs.length) Gm e) (cur:=vs.toArray++us.toArray++Builtin.zeroCells z.cells (grownCap w (xs.length+zs.length) Gm e-(xs.length+zs.length)))
    (w1:=w.drew.alloc (.cells (vs.toArray++us.toArray++Builtin.zeroCells z.cells (grownCap w (xs.length+zs.length) Gm e-(xs.length+zs.length))) e))
    (fun b hb=>Ah w.drew _ hb) ((gN.drew _ _).trans (gN.alloc _ _ _)) (by simp) (by rw[yM];exact heap_alloc_new w.drew _) (by simpa using Y4) (grownCap_le_maxLen w _ Gm e (K3 hle))
    (by
     simp only[Array.size_append,VH,size_zeroCells,Nk,Ex,vr,<-wz]
     congr 1;omega)
    (by
     have zU:((xs++zs).length*U.wd τ)=(vs++us).length:=by simp[Ex,vr,wz]
     simp only[Array.toList_append,wB]
     rw[<-wB,zU]
     exact List.take_left)
   simpa using this
  rcases L8.rows with⟨h3,⟨N6,h4⟩,h5⟩|⟨b,cap,cur,vs,fl,h3,h4,h5,h6,h7,h8,h9,rQ⟩
  ·simp only at h3;subst h3
   refine grown [] [] (by simp) eI.nil (by simp) (by simp) 0 (by omega) ?_
   rw[h4]
   simp only[fO,tY] at Db hle⊢
   cases N6 with
   |none=>
    have hr:=ab5 (ty:=o.type) w hu hi hz rJ (by omega) (by omega) (by omega)
    simpa using hr
   |some a'=>
    have hr:=TO (ty:=o.type) w hu hi hz a' 0 0 [] (by simp) (by simp) rJ (by omega) (by omega) (growslice_fits (by omega) (by simpa using Db))
    simpa using hr
  ·simp only at h3 h4 h5 h7 h8 h9
   have Ex:vs.length=xs.length*U.wd τ:=h9.1
   by_cases w7:xs.length+zs.length<=cap
   ·have NE:xs.length*i.size+us.length<=cur.size:=by rw[YQ,jd,h7,<-wz];exact zy _ w7
    have hr:=ab4 (ty:=o.type) w hu hi b xs.length cap cur (by rw[<-yM];exact h4) rJ Yq w7 NE
    rw[<-h3] at hr
    refine rD (exec hr) ?_
    have:=w6 (b:=b) (cap:=cap) (cur':=(cur.toList.take (xs.length*i.size)++us++cur.toList.drop (xs.length*i.size+us.length)).toArray) (vs:=vs) (fl:=fl)
     (w1:=w.setRow b (cur.toList.take (xs.length*i.size)++us++cur.toList.drop (xs.length*i.size+us.length)).toArray) h9 rQ (fun b' bf=>setRow_other w b b' _ bf) (by simp) rfl rfl rfl (setRow_heap w b cur _ _ _ h4) (by simpa using w7) h6
     (by
      simp only[VH,kg,oH,J6,El]
      omega)
     (by
      have zU:((xs++zs).length*U.wd τ)=(vs++us).length:=by simp[Ex,vr,wz]
      rw[jd,h8,zU]
      exact List.take_left)
    simpa using this
   ·refine grown vs fl Ex h9 (by rw[rQ] at zU;exact(sN.1 zU).2) (fun b' bf=>Nx b' (by rw[rQ];simp[bf])) cap (by omega) ?_
    rw[h3]
    refine TO (ty:=o.type) w hu hi hz ⟨b,0,none⟩ xs.length cap vs (by rw[jd];exact Ex) (fun j u hu=> ?_) rJ (by omega) (by omega) (growslice_fits (by omega) Db)
    rw[Addr.add_mid,tY,cell_of_row w b _ cur _ (0,0) h4]
    rw[<-h8,oJ] at hu
    split at hu
    ·simpa using hu
    ·cases hu
theorem alA(h:cE E pm F kv fp σ a w){o:Oper}(ho:o.dst=none){t:TypeId}{x y:Operand}(rf:o.op=.store t x y){sx:SV U}{yx:AC U}{z:AV U}{n:Nat}{rs:List Key}{r:cd U}
  (hx:RS E w F kv fp (bW σ) sx (a.eval x)) (xc:tT sx=some yx) (hy:RS E w F kv fp (bW σ) (.v z) (a.eval y)) (hs:E.size t=some n) (hn:n=z.cs.length)
  (hr:yp (restrict σ.bJ rs) z yx=some r) (hp:∀p∈r.pre,p) {next:Act->World->Prop} {Q:Exit->Act->World->Prop}
  (YK:∀F kv fp a' w',cE E pm F kv fp (AM.apply o r σ) a' w'->next a' w'):o.wp E.P a w next Q:=by
 have Az:=kP hx xc
 obtain⟨fg,u5⟩:=M0 hy
 unfold yp at hr
 split at hr
 rotate_left
 ·cases hr
 rename_i k i wd
 split at hr
 rotate_left
 ·cases hr
 rename_i x0 dead he
 have e8:=jS he
 rw[h_] at hr
 split at hr
 rotate_left
 ·cases hr
 rename_i mP
 simp only[cK] at mP
 have ui:=mM mP.1
 have hzl:=mM mP.2
 subst ui
 split at hr
 rotate_left
 ·cases hr
 rename_i qs ds ks zT
 split at hr
 rotate_left
 ·cases hr
 rename_i yv K8
 rw[h_] at hr
 split at hr
 rotate_left
 ·cases hr
 rename_i rO
 cases hr
 have s7:=sN.1 (tu.1 rO)
 have hi:i<x0.xs.length:=hp _ (by simp)
 obtain⟨t1,t2,t3,_⟩:=KC h zT (fun q hq=>hp q (by simp[hq])) fg s7.2
 obtain⟨fl,f1,f2,f3,f4⟩:=t3 rfl
 have GK:=U.lp x0.τ ds yv K8
 have hdl:ds.length=U.wd x0.τ:=by rw[<-GK,U.dj]
 have nI:eo E w F dead x0 (kv k) (fp k):=h.di k _ e8
 have pL:=h.nodup k _ e8
 rcases nI with⟨h0,_⟩|⟨b,cap,cur,vs,gV,h1,hb,hc,hm,ur,hv,YB,kG,rM⟩
 ·rw[h0] at hi;simp at hi
 obtain⟨bb,oo,nn,cc,nK,hpv⟩:=cf Az (by simp[iG])
 simp only[oE] at nK
 rw[h1] at nK
 simp only[Value.slice.injEq,gx,Addr.mk.injEq,and_true] at nK
 obtain⟨⟨e1,e2⟩,_,_⟩:=nK
 rw[e1,e2,tY,H0] at hpv
 have hN:i*U.wd x0.τ+U.wd x0.τ<=x0.xs.length*U.wd x0.τ:=by
  have:(i+1)*U.wd x0.τ<=x0.xs.length*U.wd x0.τ:=zy _ hi
  rw[wz,Ol] at this
  exact this
 have hNc:x0.xs.length*U.wd x0.τ<=cap*U.wd x0.τ:=zy _ hc
 have I8:n=U.wd x0.τ:=by rw[hn,hzl]
 have hcz:(a.eval y).cells.toList.length=U.wd x0.τ:=by rw[El,u5,hzl]
 have je:=TK (P:=E.P) (n:=n) (off:=i*U.wd x0.τ) (v:=a.eval y) hs (by rw[u5];exact hn.symm) fg.gq hb (by rw[ur,I8];omega)
 rw[<-hpv] at je
 have exec:(execOp a.eval o).run E.P w=.ok .skip (w.setRow b (cur.toList.take (i*U.wd x0.τ)++(a.eval y).cells.toList++cur.toList.drop (i*U.wd x0.τ+n)).toArray):=by
  unfold execOp;simp only[rf]
  rw[Sem.run_bind,je];rfl
 have iO:b∈fp k:=by rw[rM];simp
 have YO:=h.fK k _ b e8 iO
 rw[rM] at pL
 obtain⟨Wl,YM⟩:=sN.1 pL
 have YG:∀m,(cur.toList.take (i*U.wd x0.τ)++(a.eval y).cells.toList++cur.toList.drop (i*U.wd x0.τ+n)).toArray[m]? =
   if i*U.wd x0.τ<=m/\m<i*U.wd x0.τ+U.wd x0.τ then(a.eval y).cells.toList[m-i*U.wd x0.τ]? else cur[m]? :=by
  intro m
  have gF:(cur.toList.take (i*U.wd x0.τ)).length=i*U.wd x0.τ:=by rw[oH,El,ur];omega
  rw[zed,wB]
  by_cases h2:m<i*U.wd x0.τ
  ·rw[vC (by omega),oJ,if_pos h2,if_neg (by omega),Kk]
  ·rw[wC (by omega),gF]
   by_cases h3:m<i*U.wd x0.τ+U.wd x0.τ
   ·rw[if_pos ⟨by omega,h3⟩,vC (by omega)]
   ·rw[if_neg (by omega),wC (by omega),FV,hcz,I8,Kk]
    congr 1;omega
 have adi:∀j,j<U.wd x0.τ->(a.eval y).cells.toList[j]? =some ((a.eval y).cells.toList.getD j undef):=fun j hj=>e9 (by rw[hcz];exact hj)
 have adh:∀j,j<U.wd x0.τ->gp ((a.eval y).cells.toList.getD j undef):=fun j hj=>by
  obtain⟨c,P_⟩:∃c,ds[j]? =some c:=⟨ds[j]'(by rw[hdl];exact hj),fo _⟩
  exact(f2 j c P_).gq
 let uZ:Nat->Value:=fun m=>if i*U.wd x0.τ<=m/\m<i*U.wd x0.τ+U.wd x0.τ then(a.eval y).cells.toList.getD (m-i*U.wd x0.τ) undef else vs m
 let ka:Nat->List Nat:=fun m=>if i*U.wd x0.τ<=m/\m<i*U.wd x0.τ+U.wd x0.τ then fl.getD (m-i*U.wd x0.τ) [] else gV m
 have GA:∀j,j<U.wd x0.τ->uZ (i*U.wd x0.τ+j)=(a.eval y).cells.toList.getD j undef/\ka (i*U.wd x0.τ+j)=fl.getD j []:=fun j hj=>by
  simp only[uZ,ka]
  rw[if_pos ⟨by omega,by omega⟩,if_pos ⟨by omega,by omega⟩,show i*U.wd x0.τ+j-i*U.wd x0.τ=j by omega]
  exact⟨rfl,rfl⟩
 have vq:∀m,¬(i*U.wd x0.τ<=m/\m<i*U.wd x0.τ+U.wd x0.τ)->uZ m=vs m/\ka m=gV m:=fun m hm=>⟨if_neg hm,if_neg hm⟩
 have vT:∀{q j},j<U.wd x0.τ->q≠i->¬(i*U.wd x0.τ<=q*U.wd x0.τ+j/\q*U.wd x0.τ+j<i*U.wd x0.τ+U.wd x0.τ):=fun{q j} hj hq pM=>
  hq (Uh hj (show q*U.wd x0.τ+j-i*U.wd x0.τ<U.wd x0.τ by omega) (by omega)).1
 have P4:∀j b',b'∈fl.getD j []->b'∈fl.flatten:=fun j b' bf=>by
  rcases nV j fl.length with g|g
  ·rw[eY,fo g] at bf
   exact W5.2 ⟨_,Ed g,bf⟩
  ·rw[eY,nz g] at bf;cases bf
 have aoj:fl.length=U.wd x0.τ:=by rw[f1,hdl]
 have UT:∀b',b'∈fl.flatten->b'∉fp k:=fun b' bf Zc=>by
  obtain⟨k',cO,EH⟩:=f4 b' bf
  obtain⟨e',Y7⟩:=mI.1 (t2 k' cO)
  exact h.apart k' k e' _ b' (fun e=>s7.1 (e▸cO)) Y7 e8 EH Zc
 have Y6:∀m,m<x0.xs.length*U.wd x0.τ->∀b',b'∈gV m->b'∈fp k:=fun m hm b' bf=>by
  rw[rM];exact cA _ (nT.2 ⟨m,oN.2 hm,bf⟩)
 have pM:∀b'∈b::(List.range (x0.xs.length*U.wd x0.τ)).flatMap ka,b'∈fl.flatten\/b'∈fp k:=by
  intro b' bf
  rcases jQ.1 bf with rfl|bf
  ·exact .inr iO
  ·obtain⟨m,ul,bf⟩:=nT.1 bf
   rw[oN] at ul
   by_cases pM:i*U.wd x0.τ<=m/\m<i*U.wd x0.τ+U.wd x0.τ
   ·have:=(GA (m-i*U.wd x0.τ) (by omega)).2
    rw[show i*U.wd x0.τ+(m-i*U.wd x0.τ)=m by omega] at this
    rw[this] at bf
    exact .inl (P4 _ b' bf)
   ·rw[(vq m pM).2] at bf
    exact .inr (Y6 m ul b' bf)
 have UO:(b::(List.range (x0.xs.length*U.wd x0.τ)).flatMap ka).Nodup:=by
  refine sN.2 ⟨fun bf=> ?_,?_⟩
  ·obtain⟨m,ul,bf⟩:=nT.1 bf
   rw[oN] at ul
   by_cases pM:i*U.wd x0.τ<=m/\m<i*U.wd x0.τ+U.wd x0.τ
   ·have:=(GA (m-i*U.wd x0.τ) (by omega)).2
    rw[show i*U.wd x0.τ+(m-i*U.wd x0.τ)=m by omega] at this
    rw[this] at bf
    exact UT b (P4 _ b bf) iO
   ·rw[(vq m pM).2] at bf
    exact Wl (nT.2 ⟨m,oN.2 ul,bf⟩)
  ·rw[acM aoj] at f3
   rw[zdg,List.pairwise_flatMap]
   refine⟨fun m ul=> ?_,?_⟩
   ·rw[<-zdg]
    rw[oN] at ul
    by_cases pM:i*U.wd x0.τ<=m/\m<i*U.wd x0.τ+U.wd x0.τ
    ·have:=(GA (m-i*U.wd x0.τ) (by omega)).2
     rw[show i*U.wd x0.τ+(m-i*U.wd x0.τ)=m by omega] at this
     rw[this]
     exact Ud f3 (t:=m-i*U.wd x0.τ) (oN.2 (by omega))
    ·rw[(vq m pM).2]
     exact Ud YM (oN.2 ul)
   ·refine List.Pairwise.imp_of_mem ?_ (List.nodup_range (n:=x0.xs.length*U.wd x0.τ))
    intro m m' Ns H3 eO b1 sU b2 sT sS
    subst sS
    rw[oN] at Ns H3
    by_cases pM:i*U.wd x0.τ<=m/\m<i*U.wd x0.τ+U.wd x0.τ
    ·have e1:=(GA (m-i*U.wd x0.τ) (by omega)).2
     rw[show i*U.wd x0.τ+(m-i*U.wd x0.τ)=m by omega] at e1
     rw[e1] at sU
     by_cases Y2:i*U.wd x0.τ<=m'/\m'<i*U.wd x0.τ+U.wd x0.τ
     ·have e2:=(GA (m'-i*U.wd x0.τ) (by omega)).2
      rw[show i*U.wd x0.τ+(m'-i*U.wd x0.τ)=m' by omega] at e2
      rw[e2] at sT
      exact O3 f3 (t:=m-i*U.wd x0.τ) (t':=m'-i*U.wd x0.τ) (oN.2 (by omega)) (oN.2 (by omega)) (fun e=>eO (by omega)) sU sT
     ·rw[(vq m' Y2).2] at sT
      exact UT b1 (P4 _ b1 sU) (Y6 m' H3 b1 sT)
    ·rw[(vq m pM).2] at sU
     by_cases Y2:i*U.wd x0.τ<=m'/\m'<i*U.wd x0.τ+U.wd x0.τ
     ·have e2:=(GA (m'-i*U.wd x0.τ) (by omega)).2
      rw[show i*U.wd x0.τ+(m'-i*U.wd x0.τ)=m' by omega] at e2
      rw[e2] at sT
      exact UT b1 (P4 _ b1 sT) (Y6 m Ns b1 sU)
     ·rw[(vq m' Y2).2] at sT
      exact O3 YM (oN.2 Ns) (oN.2 H3) eO sU sT
 have u9:∀b',F b'->F b'/\(w.setRow b (cur.toList.take (i*U.wd x0.τ)++(a.eval y).cells.toList++cur.toList.drop (i*U.wd x0.τ+n)).toArray).heap[b']? =w.heap[b']? :=fun b' bf=>
  ⟨bf,setRow_other w b b' _ (fun e=>YO.1 (e▸bf))⟩
 have sR:∀b',b'≠b->(w.setRow b (cur.toList.take (i*U.wd x0.τ)++(a.eval y).cells.toList++cur.toList.drop (i*U.wd x0.τ+n)).toArray).heap[b']? =w.heap[b']? :=fun b' bf=>setRow_other w b b' _ bf
 refine OT exec (YK F kv (dl fp k (b::(List.range (x0.xs.length*U.wd x0.τ)).flatMap ka)) _ _ (h.Tt ho k _ _ e8 ks _ _ s7.1 ?_ u9 (fun b' bf=> .inl bf) ?_ UO ?_ ?_))
 ·intro bad p9
  show eo E _ F _ ⟨x0.τ,x0.xs.set i yv⟩ (kv k) _
  refine .inr ⟨b,cap,_,uZ,ka,by rw[h1,Ly],setRow_heap w b cur _ _ _ hb,by rw[Ly];exact hc,hm,?_,fun m ul=> ?_,fun q xq j c hq hxq hj=> ?_,fun q j hq hj=> ?_,by rw[Ly]⟩
  ·simp only[VH,kg,oH,J6,El]
   have:=hcz
   rw[El] at this
   rw[this,ur,I8];omega
  ·simp only[Ly] at ul
   rw[YG m]
   by_cases pM:i*U.wd x0.τ<=m/\m<i*U.wd x0.τ+U.wd x0.τ
   ·have e1:=(GA (m-i*U.wd x0.τ) (by omega)).1
    rw[show i*U.wd x0.τ+(m-i*U.wd x0.τ)=m by omega] at e1
    rw[if_pos pM,e1]
    exact⟨adi _ (by omega),adh _ (by omega)⟩
   ·rw[if_neg pM,(vq m pM).1]
    exact hv m ul
  ·have NA:j<U.wd x0.τ:=by
    rw[<-U.dj x0.τ xq]
    rcases nV j (U.enc x0.τ xq).length with g|g
    ·exact g
    ·have s8:(U.enc x0.τ xq)[j]? =some c:=hj
     rw[nz g] at s8;cases s8
   by_cases V5:q=i
   ·subst V5
    have Ew:xq=yv:=by
     have Ew:(x0.xs.set q yv)[q]? =some xq:=hxq
     rw[To,if_pos rfl,if_pos hi] at Ew
     exact(W3 Ew).symm
    have hj:(U.enc x0.τ xq)[j]? =some c:=hj
    rw[Ew] at hj
    show Rp E _ F true c (uZ (q*U.wd x0.τ+j)) (ka (q*U.wd x0.τ+j))
    rw[(GA j NA).1,(GA j NA).2]
    have s8:ds[j]? =some c:=by rw[<-GK];exact hj
    refine(f2 j c s8).f_ u9 (fun b' bf=>sR b' (fun e=> ?_))
    exact UT b' (P4 j b' bf) (e▸iO)
   ·show Rp E _ F true c (uZ (q*U.wd x0.τ+j)) (ka (q*U.wd x0.τ+j))
    have L4:=vT NA V5
    rw[(vq _ L4).1,(vq _ L4).2]
    have Ew:x0.xs[q]? =some xq:=by
     have Ew:(x0.xs.set i yv)[q]? =some xq:=hxq
     rw[To,if_neg (fun e=>V5 e.symm)] at Ew
     exact Ew
    have hdq:dead q=false:=by
     have hq:(!(Nat.beq q i)&&dead q)=false:=hq
     have hb0:Nat.beq q i=false:=by rw[<-yi,Lx];exact V5
     rw[hb0] at hq
     simpa using hq
    refine(YB q xq j c hdq Ew hj).f_ u9 (fun b' bf=>sR b' (fun e=> ?_))
    subst e
    exact Wl (nT.2 ⟨_,oN.2 (fJ Ew hj),bf⟩)
  ·have hq2:¬q=i/\dead q=true:=by
    have hq:(!(Nat.beq q i)&&dead q)=true:=hq
    rw[cK,ql,<-yi,Lx] at hq
    exact hq
   show ka (q*U.wd x0.τ+j)=[]
   have L4:=vT hj hq2.1
   rw[(vq _ L4).2]
   exact kG q j hq2.2 hj
 ·intro k' e' cO kU sS b' bf
  exact sR b' (fun e=>h.apart k' k _ _ b' cO sS e8 bf (by rw[e];exact iO))
 ·intro b' bf
  rcases pM b' bf with g|g
  ·obtain⟨k',cO,EH⟩:=f4 b' g
   obtain⟨e',Y7⟩:=mI.1 (t2 k' cO)
   exact⟨(h.fK k' e' b' Y7 EH).1,k',by simp[cO],t2 k' cO,EH⟩
  ·exact⟨(h.fK k _ b' e8 g).1,k,by simp,by simp[e8],g⟩
 ·exact⟨rfl,rfl,rfl,by simp,fun b' _ I8=>sR b' (fun e=>I8 (by rw[e];exact YO.2.1))⟩
end AM
