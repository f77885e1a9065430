import Derived.Test.YthciaocifglggaaGreatDoorQAmMove
namespace AM
set_option linter.unusedVariables false
open Go
variable{U:kz}{E:Env U}{pm:Pm}
variable{F F':Nat->Prop}{kv:Key->Value}{fp:Key->List Nat}{σ:af U}{a:Act}{w w':World}{bad:Key->Bool}
variable(E) in
def JX(w:World)(F:Nat->Prop)(dead:Nat->Bool)(τ:U.Ty)(xs:List (U.T τ))(vs:List Value)(fl:List (List Nat)):Prop:=
 vs.length=xs.length*U.wd τ/\fl.length=xs.length*U.wd τ/\(∀v∈vs,fA v)/\
 (∀(i:Nat)(x:U.T τ)(j:Nat)(c:U.C),dead i=false->xs[i]? =some x->(U.enc τ x)[j]? =some c->Rp E w F true c (vs.getD (i*U.wd τ+j) undef) (fl.getD (i*U.wd τ+j) []))/\
 ∀i j,dead i=true->j<U.wd τ->fl.getD (i*U.wd τ+j) []=[]
theorem aa8{fl:List (List Nat)}{n:Nat}(h:fl.length=n):fl.flatten=(List.range n).flatMap fun m=>fl.getD m []:=by
 rw[JZ]
 congr 1
 refine Lp fun m=> ?_
 rw[lZ]
 by_cases hn:m<n
 ·rw[IX hn,B5,fY,gg (by rw[h];exact hn)]
  rfl
 ·rw[mi (by rw[h];omega),mi (by simp;omega)]
  rfl
theorem dU.mj{dead:Nat->Bool}{τ:U.Ty}{xs:List (U.T τ)}{b cap:Nat}{cur:Array Value}{vs:List Value}{fl:List (List Nat)}(h2:w.heap[b]? =some (.cells cur (E.tid τ) (0,0)))(h3:xs.length<=cap)(h4:cap<=maxLen)
  (h5:cur.size=cap*U.wd τ) (h6:cur.toList.take (xs.length*U.wd τ)=vs) (h7:JX E w F dead τ xs vs fl):dU E w F dead ⟨τ,xs⟩ (.slice (some ⟨b,0,none⟩) xs.length cap) (b::fl.flatten):=by
 have hle:xs.length*U.wd τ<=cap*U.wd τ:=wH _ h3
 refine .inr ⟨b,cap,cur,fun n=>vs.getD n undef,fun n=>fl.getD n [],rfl,h2,h3,h4,h5,fun i hi=> ?_,h7.2.2.2.1,h7.2.2.2.2,by rw[aa8 h7.2.1]⟩
 have pg:i<xs.length*U.wd τ:=hi
 have hvi:vs[i]? =some (vs.getD i undef):=eH (by rw[h7.1];exact pg)
 refine⟨?_,h7.2.2.1 _ (Cs hvi)⟩
 show cur[i]? =some (vs.getD i undef)
 rw[<-hvi,<-h6,nF,if_pos pg,HJ]
theorem dU.rows{dead:Nat->Bool}{x:eK U}{v:Value}{l:List Nat}(h:dU E w F dead x v l):
  (x.xs=[]/\(∃ad,v=.slice ad 0 0)/\l=[])\/
  ∃(b cap:Nat)(cur:Array Value)(vs:List Value)(fl:List (List Nat)),v=.slice (some ⟨b,0,none⟩) x.xs.length cap/\w.heap[b]? =some (.cells cur (E.tid x.τ) (0,0))/\x.xs.length<=cap/\cap<=maxLen/\
   cur.size=cap*U.wd x.τ/\cur.toList.take (x.xs.length*U.wd x.τ)=vs/\JX E w F dead x.τ x.xs vs fl/\l=b::fl.flatten:=by
 rcases h with h|⟨b,cap,cur,vs,gA,h1,h2,h3,h4,h5,h6,h7,h8,h9⟩
 ·exact .inl h
 have hle:x.xs.length*U.wd x.τ<=cap*U.wd x.τ:=wH _ h3
 have qm:∀n,n<x.xs.length*U.wd x.τ->(cur.toList.take (x.xs.length*U.wd x.τ))[n]? =some (vs n):=fun n hn=>by
  rw[nF,if_pos hn,HJ];exact(h6 n hn).1
 refine .inr ⟨b,cap,cur,_,(List.range (x.xs.length*U.wd x.τ)).map gA,h1,h2,h3,h4,h5,rfl,⟨by simp;omega,by simp,fun u hu=> ?_,fun i y j c hi hx hj=> ?_,fun i j hi hj=> ?_⟩,by rw[h9,JZ]⟩
 ·obtain⟨n,hn,rfl⟩:=tX hu
  have tF:n<x.xs.length*U.wd x.τ:=by simp at hn;omega
  have ph:=qm n tF
  rw[gg hn] at ph
  rw[UP ph]
  exact(h6 n tF).2
 ·have fX:=fe hx hj
  have:=h7 i y j c hi hx hj
  rw[fY,qm _ fX,fY,lZ,IX fX]
  exact this
 ·rw[fY,lZ]
  by_cases fX:i*U.wd x.τ+j<x.xs.length*U.wd x.τ
  ·rw[IX fX];exact h8 i j hi hj
  ·rw[mi (by simp;omega)];rfl
theorem ep.A7{deep:Bool}{τ:U.Ty}{xs:List (U.T τ)}{vs:List Value}{fl:List (List Nat)}(h:ep E w F deep τ xs vs fl):∀v∈vs,fA v:=by
 intro v hv
 obtain⟨n,hn,rfl⟩:=tX hv
 obtain⟨i,x,j,c,rfl,_,_,hx,hj⟩:=aaz (xs:=xs) (by rw[<-h.1];exact hn)
 have:=h.2.2 i x j c hx hj
 rw[fY,gg hn] at this
 exact this.fB
theorem ep.dead{τ:U.Ty}{xs zs:List (U.T τ)}{vs us:List Value}{fl:List (List Nat)}(h:ep E w F true τ xs vs fl)(hl:us.length=zs.length*U.wd τ)(ho:∀u∈us,fA u):
  JX E w F (fun i=>Nat.ble xs.length i) τ (xs++zs) (vs++us) (fl++List.replicate (zs.length*U.wd τ) []):=by
 refine⟨by simp[h.1,hl,wD],by simp[h.2.1,wD],fun v hv=> ?_,fun i x j c hi hx hj=> ?_,fun i j hi hj=> ?_⟩
 ·rcases kA.1 hv with hv|hv
  ·exact h.A7 v hv
  ·exact ho v hv
 ·have pg:i<xs.length:=by
   rcases mX i xs.length with g|g
   ·exact g
   ·exact absurd ((Nat.ble_eq_true_of_le g).symm.trans hi) (by decide)
  rw[wF pg] at hx
  have:=fe hx hj
  rw[F9 (by rw[h.1];exact this),F9 (by rw[h.2.1];exact this)]
  exact h.2.2 i x j c hx hj
 ·have pg:=FH hi
  have:xs.length*U.wd τ<=i*U.wd τ:=wH _ pg
  rw[Kb (by rw[h.2.1];omega),DD]
theorem aaW:∀{xs:List (SV U)}{us:List Value}{wd:Nat},A9 wd xs=true->xs.length=us.length->(∀(i:Nat)(x:SV U)(u:Value),xs[i]? =some x->us[i]? =some u->RS E w F kv fp bad x u)->
  (∀u∈us,u.cells.size=wd)/\∀v∈us.flatMap (fun u=>u.cells.toList),fA v
 |[],[],_,_,_,_=>⟨by simp,by simp⟩
 |[],_::_,_,_,hl,_=>by simp at hl
 |_::_,[],_,_,hl,_=>by simp at hl
 |x::xs,u::us,wd,hk,hl,hx=>by
  cases x with
  |tJ l=>cases hk
  |fn p=>cases hk
  |Db g l=>cases hk
  |v x=>
   simp only[A9,eE] at hk
   obtain⟨r1,r2⟩:=Ke (hx 0 (.v x) u rfl rfl)
   obtain⟨i1,i2⟩:=aaW hk.2 (by simpa using hl) (fun i z v hz hv=>hx (i+1) z v (by simpa using hz) (by simpa using hv))
   refine⟨fun v hv=> ?_,fun v hv=> ?_⟩
   ·rcases jw.1 hv with rfl|hv
    ·rw[r2];exact lN hk.1
    ·exact i1 v hv
   ·rw[xv,kA] at hv
    rcases hv with hv|hv
    ·obtain⟨n,hn,rfl⟩:=tX hv
     have tF:n<x.cs.length:=by rw[r1.1];exact hn
     exact(r1.2 n x.cs[n] _ (gg tF) (gg hn)).1
    ·exact i2 v hv
theorem akW(hE:E.Ok)(h:cG E pm F kv fp σ a w){o:Oper}{d:Nat}(ho:o.dst=some d)(hd:d<σ.n){t e:TypeId}{len:Nat}{parts:Array (Nat×Operand)}(p5:o.op=.buildSlice t len parts)
  {τ:U.Ty} (se:E.elem t=some e) (hc:E.code e=some τ) {xs:List (SV U)} (hx:xs.length=parts.toList.length)
  (hv:∀(i:Nat)(x:SV U)(q:Nat×Operand),xs[i]? =some x->parts.toList[i]? =some q->RS E w F kv fp (bW σ) x (a.eval q.2))
  (hlen:(parts.toList.map (·.1)).length=len) (XO:((parts.toList.map (·.1)).zipIdx).all (fun(a,b)=>Nat.beq a b)=true) (hsm:len*U.wd τ<=1000000)
  (hkp:A9 (U.wd τ) xs=true)
  (ng:¬Names σ (d,0)) {next:Act->World->Prop} {Q:Exit->Act->World->Prop}
  (hn:∀F kv fp a' w',cG E pm F kv fp (AM.apply o ⟨some (one (.ref (d,0) [])),[(0,.part ⟨τ,List.replicate len (U.eP τ)⟩ (fun _=>true))],[],[],[]⟩ σ) a' w'->next a' w'):o.wp E.P a w next Q:=by
 obtain⟨wZ,i,z,hi,hz,iU,KA,SC,_⟩:=hE.code e τ hc
 have hu:=AL se
 have hw:=U.kq τ
 obtain⟨r2,r3⟩:=aaW (us:=parts.toList.map fun q=>a.eval q.2) hkp (by simp[hx]) (fun i x u OO qg=>by
  rw[lZ] at qg
  cases hq:parts.toList[i]? with
  |none=>rw[hq] at qg;cases qg
  |some q=>rw[hq] at qg;cases qg;exact hv i x q OO hq)
 have yB:parts.toList.length=len:=by rw[<-hlen];simp
 have Ih:(parts.map fun(i,x)=>(i,a.eval x)).toList=((parts.toList.map fun q=>a.eval q.2).zipIdx 0).map fun x=>(x.2,x.1):=by
  rw[Zv]
  refine Lp fun n=> ?_
  rw[lZ,lZ,zej,lZ]
  cases hq:parts.toList[n]? with
  |none=>rfl
  |some q=>
   simp only[B5,fJ,nE,tW,and_true]
   have h1:((parts.toList.map (·.1)).zipIdx)[n]? =some (q.1,n):=by
    rw[zej,lZ,hq];simp
   have:=(As.1 XO) (q.1,n) (Cs h1)
   exact lN this
 have W4:¬len*i.size>2^24:=by rw[iU];omega
 have Ij:len<=maxLen:=by
  have:len<=len*U.wd τ:=Nat.le_mul_of_pos_right _ hw
  simp only[maxLen];omega
 have yD:∀(l:List Value),(∀u∈l,u.cells.size=U.wd τ)->(l.flatMap fun u=>u.cells.toList).length=l.length*U.wd τ:=by
  intro l
  induction l with
  |nil=>intro _;simp
  |cons u l ih=>
   intro hl
   rw[xv,wG,ih (fun v hv=>hl v (bi _ hv)),B6,hl u dw,n_,wD,Lk,Y6]
 have fin:∀cells:Array Value,cells.toList=(parts.toList.map fun q=>a.eval q.2).flatMap (fun u=>u.cells.toList)->
   (Instr.buildSlice t len (parts.map fun(i,x)=>(i,a.eval x))).run E.P w=.ok (.slice (some ⟨w.heap.size,0,none⟩) len len) (w.alloc (.cells cells e))->o.wp E.P a w next Q:=by
  intro cells qq iV
  have gU:cells.toList.length=len*U.wd τ:=by rw[qq,yD _ r2];simp[yB]
  have sN:cells.size=len*U.wd τ:=by simpa using gU
  have jy:JX E (w.alloc (.cells cells e)) F (fun _=>true) τ (List.replicate len (U.eP τ)) cells.toList (List.replicate (len*U.wd τ) []):=by
   refine⟨by rw[gU];simp,by simp,fun v hv=>r3 v (by rw[<-qq];exact hv),fun i x j c hi=>Bool.noConfusion hi,fun i j _ _=>DD⟩
  have nb:=h.BJ (w':=w.alloc (.cells cells e)) (F':=F) ho hd (.part ⟨τ,List.replicate len (U.eP τ)⟩ (fun _=>true)) (one (.ref (d,0) [])) [] [] (.slice (some ⟨w.heap.size,0,none⟩) len len) (.slice (some ⟨w.heap.size,0,none⟩) len len) [w.heap.size] ng
   (fun bad=>gZ ⟨⟨rfl,trivial⟩,.inr (by simp only[RA,rA];rfl)⟩)
   (fun bad=>by
    have:=dU.mj (F:=F) (b:=w.heap.size) (cap:=len) (by rw[wZ];exact heap_alloc_new w _) (by simp) Ij sN (by rw[O5 (by rw[gU];simp)]) jy
    rw[zee,wS] at this
    exact this)
   (fun b hb=>⟨hb,yf w _ (h.rI b hb)⟩) (fun b hb=> .inl hb) (fun k e _ he b hb=>yf w _ (DE h he hb)) (by simp)
   (fun b hb=>by
    rw[oa.1 hb]
    exact⟨fun hF=>by have:=h.rI _ hF;omega,.inr ⟨tB _,by simp⟩⟩) (gy.alloc _ _ _)
  refine qd (v:=.slice (some ⟨w.heap.size,0,none⟩) len len) (w':=w.alloc (.cells cells e)) ?_ (hn F _ _ _ _ nb)
  unfold execOp;simp only[p5];exact ic iV
 by_cases h0:len=0
 ·have Ii:parts.toList=[]:=Du (by omega)
  have M8:parts= #[]:=wT Ii
  subst h0
  refine fin #[] (by simp[Ii]) ?_
  simp[Instr.buildSlice,run_underlying hu,Go.sizeOf,typeInfo,hi,M8,Instr.fill,newRow,Array.range_zero']
 ·have Xf:¬len*i.size=0:=by
   rw[iU]
   have:=Nat.mul_pos (Nat.pos_of_ne_zero h0) hw
   omega
  have Nn:=Great.fill_whole (s:=i.size) (by rw[iU];exact hw) (parts.toList.map fun q=>a.eval q.2) ((Array.range (len*i.size)).map (z.cells[·%z.cells.size]!)) (fun v hv=>by rw[iU];exact r2 v hv) (by simp[yB])
  refine fin ((parts.toList.map fun q=>a.eval q.2).flatMap fun v=>v.cells.toList).toArray rfl (run_buildSlice w t e len _ _ i z hu hi hz W4 Xf ?_)
  rw[Ih]
  exact Nn
theorem alY(hE:E.Ok)(h:cG E pm F kv fp σ a w){o:Oper}{d:Nat}(ho:o.dst=some d)(hd:d<σ.n){cl:Call}{t e:TypeId}{s x:Operand}(p5:o.op=.call cl)(gU:cl.callee=.builtin .append)
  (kK:cl.args.toList=[s,x]) (yz:cl.argTypes.toList=[t,t]) {τ:U.Ty} (se:E.elem t=some e) (hc:E.code e=some τ) {ss sx:SV U} {ys yx:AC U}
  (hs:RS E w F kv fp (bW σ) ss (a.eval s)) (Qk:sr ss=some ys) (hx:RS E w F kv fp (bW σ) sx (a.eval x)) (hsx:sr sx=some yx)
  {rs:List Key} {ps:List Prop} {xs zs:List (U.T τ)} {ks ks':List Key} {pall:List Prop}
  (Xk:rY τ (restrict σ.bH rs) ys=some (ps,xs,ks,true)) (Gr:DM τ (restrict σ.bH rs) yx=some (zs,ks')) (hp:∀p∈ps,p) (D4:(ks++ks').Nodup) (hle:xs.length+zs.length<=4294967296)
  (ng:¬Names σ (d,0)) {next:Act->World->Prop} {Q:Exit->Act->World->Prop}
  (hn:∀F kv fp a' w',cG E pm F kv fp (AM.apply o ⟨some (one (.ref (d,0) [])),[(0,.part ⟨τ,xs++zs⟩ (fun i=>Nat.ble xs.length i))],ks++ks',[],pall⟩ σ) a' w'->next a' w'):o.wp E.P a w next Q:=by
 obtain⟨wZ,i,z,hi,hz,iU,KA,SC,_⟩:=hE.code e τ hc
 have hu:=AL se
 have hw:=U.kq τ
 obtain⟨w6,kJ,l,Jq,yk,KK⟩:=aaM h Xk hp (kt hs Qk)
 obtain⟨Bk,us,tS,W0,qh⟩:(∀k∈ks',(σ.bH k).isSome=true)/\∃us,us.length=zs.length*U.wd τ/\(∀u∈us,fA u)/\Src E.P w t (a.eval x) (U.wd τ) zs.length us:=by
  unfold DM at Gr
  split at Gr
  ·rename_i k
   split at Gr
   ·rename_i y dead he
    split at Gr
    ·rename_i zs' Sb
     cases Gr
     have:=dC Sb
     subst this
     have eG:=jx he
     have h1:a.eval x=kv k:=cn (kt hx hsx) rfl
     have h2:dU E w F dead ⟨τ,zs⟩ (kv k) (fp k):=h.cV k _ eG
     rw[<-h1] at h2
     refine⟨by simp[eG],?_⟩
     rcases h2.rows with⟨h3,⟨ad,h4⟩,h5⟩|⟨b,cap,cur,vs,fl,h3,h4,h5,h6,h7,h8,h9,ph⟩
     ·simp only at h3;subst h3
      exact⟨[],by simp,by simp,by rw[h4];exact Src.slice hu (by simp) (fun hh=>by simp at hh)⟩
     ·simp only at h3 h4 h5 h7 h8 h9
      refine⟨vs,h9.1,h9.2.2.1,?_⟩
      rw[h3]
      refine Src.slice hu (h9.1) (fun _=>⟨b,0,rfl,fun i u qg=> ?_⟩)
      rw[<-h8,nF] at qg
      split at qg
      ·rw[cell_of_row w b _ cur _ (0,0) h4];simpa using qg
      ·cases qg
    ·cases Gr
   ·cases Gr
  ·cases Gr
 rw[<-iU] at qh
 have jq:∀k∈ks++ks',(σ.bH k).isSome=true:=fun k hk=>(kA.1 hk).elim (kJ k) (Bk k)
 have exec:∀{v w1},(Builtin.append_ #[t,t] o.type #[a.eval s,a.eval x]).run E.P w=.ok v w1->(execOp a.eval o).run E.P w=.ok (.value v) w1:=by
  intro v w1 hr
  have ha:cl.args= #[s,x]:=wT kK
  have ht:cl.argTypes= #[t,t]:=wT yz
  unfold execOp;simp only[p5]
  simp[resolve,gU,ha,ht,invoke,builtin,hr]
 have Ij:∀{n:Nat},n<=4294967296->n<=maxLen:=fun hh=>by simp only[maxLen];omega
 have Ze:∀k∈ks++ks',∀b∈fp k,¬F b:=fun k hk b hb=>by
  obtain⟨e,he⟩:=lJ.1 (jq k hk)
  exact(h.ff k e b he hb).1
 have hWb:∀k∈ks++ks',∀b∈fp k,(pm.W b\/pm.w0.heap.size<=b)/\b<w.heap.size:=fun k hk b hb=>by
  obtain⟨e,he⟩:=lJ.1 (jq k hk)
  exact(h.ff k e b he hb).2
 have KC:∀(fl:List (List Nat)),(fl++List.replicate (zs.length*U.wd τ) ([]:List Nat)).flatten=fl.flatten:=fun fl=>by rw[Hw,wS,tV]
 have grow:∀(vs:List Value)(fl:List (List Nat)),ep E w F true τ xs vs fl->fl.flatten.Nodup->(∀b∈fl.flatten,∃k∈ks,b∈fp k)->
   ∀{cap:Nat}{cur:Array Value}{w1:World},(∀b,b<w.heap.size->w1.heap[b]? =w.heap[b]?)->gy (fun b=>pm.W b\/pm.w0.heap.size<=b) w w1->w.heap.size<w1.heap.size->
   w1.heap[w.heap.size]? =some (.cells cur (E.tid τ) (0,0))->(xs++zs).length<=cap->cap<=maxLen->cur.size=cap*U.wd τ->cur.toList.take ((xs++zs).length*U.wd τ)=vs++us->
   next (a.put o.dst (.slice (some ⟨w.heap.size,0,none⟩) (xs++zs).length cap)) w1:=by
  intro vs fl h1 h2 h3 cap cur w1 wY ob sL hb ln hm sN xI
  have fX:∀b∈fl.flatten,b<w.heap.size:=fun b hb=>by obtain⟨k,hk,hb⟩:=h3 b hb;exact(hWb k (by simp[hk]) b hb).2
  have nb:=h.BJ ho hd (.part ⟨τ,xs++zs⟩ (fun i=>Nat.ble xs.length i)) (one (.ref (d,0) [])) (ks++ks') pall (.slice (some ⟨w.heap.size,0,none⟩) (xs++zs).length cap) (.slice (some ⟨w.heap.size,0,none⟩) (xs++zs).length cap) (w.heap.size::fl.flatten) (w':=w1) (F':=F) ng
   (fun bad=>gZ ⟨⟨rfl,trivial⟩,.inr (by simp only[RA,rA];rfl)⟩)
   (fun bad=>by
    have:=dU.mj hb ln hm sN xI ((h1.fE (fun b' aY=>⟨aY,wY b' (h.rI b' aY)⟩) (fun b' aY=>wY b' (fX b' aY))).dead tS W0)
    rw[KC] at this
    exact this)
   (fun b' aY=>⟨aY,wY b' (h.rI b' aY)⟩) (fun b' aY=> .inl aY) (fun k e _ he b' aY=>wY b' (DE h he aY))
   (rv.2 ⟨fun aY=>by have:=fX _ aY;omega,h2⟩)
   (fun b' aY=>by
    rcases jw.1 aY with rfl|aY
    ·exact⟨fun hF=>by have:=h.rI _ hF;omega,.inr ⟨tB _,sL⟩⟩
    ·obtain⟨k,hk,iq⟩:=h3 b' aY
     exact⟨Ze k (by simp[hk]) b' iq,.inl ⟨k,by simp[hk],kJ k hk,iq⟩⟩) ob
  exact hn _ _ _ _ _ nb
 have vk:∀{b cap:Nat}{cur':Array Value}{vs:List Value}{fl:List (List Nat)}{w1:World},ep E w F true τ xs vs fl->l=b::fl.flatten->(∀b',b'≠b->w1.heap[b']? =w.heap[b']?)->w1.heap.size=w.heap.size->
   w1.os=w.os->w1.tape=w.tape->w1.output=w.output->w1.heap[b]? =some (.cells cur' (E.tid τ) (0,0))->(xs++zs).length<=cap->cap<=maxLen->cur'.size=cap*U.wd τ->cur'.toList.take ((xs++zs).length*U.wd τ)=vs++us->
   next (a.put o.dst (.slice (some ⟨b,0,none⟩) (xs++zs).length cap)) w1:=by
  intro b cap cur' vs fl w1 jy hl wY sL hos htp uj hb ln hm sN xI
  subst hl
  have iq:∃k∈ks,b∈fp k:=KK b (by simp)
  obtain⟨kb,KN,D9⟩:=iq
  have X2:¬F b:=Ze kb (by simp[KN]) b D9
  have ob:gy (fun b=>pm.W b\/pm.w0.heap.size<=b) w w1:=⟨hos,htp,uj,by omega,fun k hk Gs=>wY k (fun e=>Gs (e▸(hWb kb (by simp[KN]) b D9).1))⟩
  have D2:∀k e,k∉ks++ks'->σ.bH k=some e->∀b'∈fp k,w1.heap[b']? =w.heap[b']? :=fun k e hk he b' aY=>wY b' (fun e'=>by
   subst e'
   obtain⟨eb,heb⟩:=lJ.1 (kJ kb KN)
   exact h.apart kb k eb e b' (fun e'=>hk (by subst e';simp[KN])) heb he D9 aY)
  have SD:=(rv.1 yk).1
  have nb:=h.BJ ho hd (.part ⟨τ,xs++zs⟩ (fun i=>Nat.ble xs.length i)) (one (.ref (d,0) [])) (ks++ks') pall _ (.slice (some ⟨b,0,none⟩) (xs++zs).length cap) (b::fl.flatten) (w':=w1) (F':=F) ng
   (fun bad=>gZ ⟨⟨rfl,trivial⟩,.inr (by simp only[RA,rA];rfl)⟩)
   (fun bad=>by
    have:=dU.mj hb ln hm sN xI ((jy.fE (fun b' aY=>⟨aY,wY b' (fun e=>X2 (e▸aY))⟩) (fun b' aY=>wY b' (fun e=>SD (e▸aY)))).dead tS W0)
    rw[KC] at this
    exact this)
   (fun b' aY=>⟨aY,wY b' (fun e=>X2 (e▸aY))⟩) (fun b' aY=> .inl aY) D2 yk
   (fun b' aY=>by obtain⟨k,hk,aY⟩:=KK b' aY;exact⟨Ze k (by simp[hk]) b' aY,.inl ⟨k,by simp[hk],kJ k hk,aY⟩⟩) ob
  exact hn _ _ _ _ _ nb
 have WZ:∀u∈us,u.oneCell'=true:=fun u hu=>(W0 u hu).1
 have Bl:(xs.length+zs.length)*i.bytes<=140737488355328:=by
  have:=Nat.mul_le_mul hle SC
  omega
 by_cases bj:zs.length=0
 ·have MZ:zs=[]:=Du bj
  subst MZ
  have ui:us=[]:=Du (by simpa using tS)
  rcases Jq.rows with⟨h3,⟨K_,h4⟩,h5⟩|⟨b,cap,cur,vs,fl,h3,h4,h5,h6,h7,h8,h9,ph⟩
  ·simp only at h3;subst h3
   have hr:=exec (v:=.slice K_ 0 0) (w1:=w) (by rw[h4];exact Pn w hu hi _ _ _ (by rw[ui] at qh;exact qh) (tB _))
   refine qd hr ?_
   have nb:=h.BJ ho hd (.part ⟨τ,[]⟩ (fun i=>Nat.ble ([]:List (U.T τ)).length i)) (one (.ref (d,0) [])) (ks++ks') pall (.slice K_ 0 0) (.slice K_ 0 0) [] (w':=w) (F':=F) ng
    (fun bad=>gZ ⟨⟨rfl,trivial⟩,.inr (by simp only[RA,rA];rfl)⟩) (fun bad=> .inl ⟨rfl,⟨K_,rfl⟩,rfl⟩) (fun b hb=>⟨hb,rfl⟩) (fun b hb=> .inl hb) (fun _ _ _ _ _ _=>rfl) (by simp) (by simp) (gy.refl _ _)
   exact hn _ _ _ _ _ nb
  ·simp only at h3 h4 h5 h7 h8 h9
   have hr:=exec (v:=.slice (some ⟨b,0,none⟩) xs.length cap) (w1:=w) (by rw[h3];exact Pn w hu hi _ _ _ (by rw[ui] at qh;exact qh) h5)
   refine qd hr ?_
   have:=vk (b:=b) (cap:=cap) (cur':=cur) (vs:=vs) (fl:=fl) (w1:=w) h9 ph (fun _ _=>rfl) rfl rfl rfl rfl h4 (by simpa using h5) h6 h7 (by rw[ui,tV,tV];exact h8)
   simpa using this
 ·have Xr:us.length=zs.length*i.size:=by rw[iU];exact tS
  have grown:∀(vs:List Value)(fl:List (List Nat)),vs.length=xs.length*U.wd τ->ep E w F true τ xs vs fl->fl.flatten.Nodup->(∀b∈fl.flatten,∃k∈ks,b∈fp k)->
    ∀DN:Nat,DN<xs.length+zs.length->(Builtin.append_ #[t,t] o.type #[a.eval s,a.eval x]).run E.P w=
     .ok (.slice (some ⟨w.heap.size,0,none⟩) (xs.length+zs.length) (grownCap w (xs.length+zs.length) DN e)) (w.drew.alloc (.cells (vs.toArray++us.toArray++Builtin.zeroCells z.cells (grownCap w (xs.length+zs.length) DN e-(xs.length+zs.length))) e))->
    o.wp E.P a w next Q:=by
   intro vs fl Ci h1 h2 h3 DN hold iV
   refine qd (exec iV) ?_
   have XP:=grownCap_ge w (xs.length+zs.length) DN e
   have:=grow vs fl h1 h2 h3 (cap:=grownCap w (xs.length+zs.length) DN e) (cur:=vs.toArray++us.toArray++Builtin.zeroCells z.cells (grownCap w (xs.length+zs.length) DN e-(xs.length+zs.length)))
    (w1:=w.drew.alloc (.cells (vs.toArray++us.toArray++Builtin.zeroCells z.cells (grownCap w (xs.length+zs.length) DN e-(xs.length+zs.length))) e))
    (fun b hb=>yf w.drew _ hb) ((gy.drew _ _).trans (gy.alloc _ _ _)) (by simp) (by rw[wZ];exact heap_alloc_new w.drew _) (by simpa using XP) (grownCap_le_maxLen w _ DN e (Ij hle))
    (by
     simp only[Array.size_append,O3,size_zeroCells,KA,Ci,tS,<-wD]
     congr 1;omega)
    (by
     have yk:((xs++zs).length*U.wd τ)=(vs++us).length:=by simp[Ci,tS,wD]
     simp only[Array.toList_append,xu]
     rw[<-xu,yk]
     exact List.take_left)
   simpa using this
  rcases Jq.rows with⟨h3,⟨K_,h4⟩,h5⟩|⟨b,cap,cur,vs,fl,h3,h4,h5,h6,h7,h8,h9,ph⟩
  ·simp only at h3;subst h3
   refine grown [] [] (by simp) ep.nil (by simp) (by simp) 0 (by omega) ?_
   rw[h4]
   simp only[om,tW] at Bl hle⊢
   cases K_ with
   |none=>
    have hr:=aay (ty:=o.type) w hu hi hz qh (by omega) (by omega) (by omega)
    simpa using hr
   |some a'=>
    have hr:=Po (ty:=o.type) w hu hi hz a' 0 0 [] (by simp) (by simp) qh (by omega) (by omega) (growslice_fits (by omega) (by simpa using Bl))
    simpa using hr
  ·simp only at h3 h4 h5 h7 h8 h9
   have Ci:vs.length=xs.length*U.wd τ:=h9.1
   by_cases vm:xs.length+zs.length<=cap
   ·have KR:xs.length*i.size+us.length<=cur.size:=by rw[Xr,iU,h7,<-wD];exact wH _ vm
    have hr:=aax (ty:=o.type) w hu hi b xs.length cap cur (by rw[<-wZ];exact h4) qh WZ vm KR
    rw[<-h3] at hr
    refine qd (exec hr) ?_
    have:=vk (b:=b) (cap:=cap) (cur':=(cur.toList.take (xs.length*i.size)++us++cur.toList.drop (xs.length*i.size+us.length)).toArray) (vs:=vs) (fl:=fl)
     (w1:=w.setRow b (cur.toList.take (xs.length*i.size)++us++cur.toList.drop (xs.length*i.size+us.length)).toArray) h9 ph (fun b' aY=>setRow_other w b b' _ aY) (by simp) rfl rfl rfl (setRow_heap w b cur _ _ _ h4) (by simpa using vm) h6
     (by
      simp only[O3,wG,od,J0,B6]
      omega)
     (by
      have yk:((xs++zs).length*U.wd τ)=(vs++us).length:=by simp[Ci,tS,wD]
      rw[iU,h8,yk]
      exact List.take_left)
    simpa using this
   ·refine grown vs fl Ci h9 (by rw[ph] at yk;exact(rv.1 yk).2) (fun b' aY=>KK b' (by rw[ph];simp[aY])) cap (by omega) ?_
    rw[h3]
    refine Po (ty:=o.type) w hu hi hz ⟨b,0,none⟩ xs.length cap vs (by rw[iU];exact Ci) (fun j u hu=> ?_) qh (by omega) (by omega) (growslice_fits (by omega) Bl)
    rw[Addr.add_mid,tW,cell_of_row w b _ cur _ (0,0) h4]
    rw[<-h8,nF] at hu
    split at hu
    ·simpa using hu
    ·cases hu
theorem ajE(h:cG E pm F kv fp σ a w){o:Oper}(ho:o.dst=none){t:TypeId}{x y:Operand}(p5:o.op=.store t x y){sx:SV U}{yx:AC U}{z:AV U}{n:Nat}{rs:List Key}{r:ch U}
  (hx:RS E w F kv fp (bW σ) sx (a.eval x)) (vr:sr sx=some yx) (hy:RS E w F kv fp (bW σ) (.v z) (a.eval y)) (hs:E.size t=some n) (hn:n=z.cs.length)
  (hr:wN (restrict σ.bH rs) z yx=some r) (hp:∀p∈r.pre,p) {next:Act->World->Prop} {Q:Exit->Act->World->Prop}
  (Xl:∀F kv fp a' w',cG E pm F kv fp (AM.apply o r σ) a' w'->next a' w'):o.wp E.P a w next Q:=by
 have yA:=kt hx vr
 obtain⟨er,vl⟩:=Ke hy
 unfold wN at hr
 split at hr
 rotate_left
 ·cases hr
 rename_i k i wd
 split at hr
 rotate_left
 ·cases hr
 rename_i x0 dead he
 have eG:=jx he
 rw[gT] at hr
 split at hr
 rotate_left
 ·cases hr
 rename_i lU
 simp only[eE] at lU
 have sK:=lN lU.1
 have hzl:=lN lU.2
 subst sK
 split at hr
 rotate_left
 ·cases hr
 rename_i qs ds ks xI
 split at hr
 rotate_left
 ·cases hr
 rename_i yv Ip
 rw[gT] at hr
 split at hr
 rotate_left
 ·cases hr
 rename_i qp
 cases hr
 have xK:=rv.1 (rW.1 qp)
 have hi:i<x0.xs.length:=hp _ (by simp)
 obtain⟨t1,t2,t3,_⟩:=HV h xI (fun q hq=>hp q (by simp[hq])) er xK.2
 obtain⟨fl,f1,f2,f3,f4⟩:=t3 rfl
 have D6:=U.kV x0.τ ds yv Ip
 have hdl:ds.length=U.wd x0.τ:=by rw[<-D6,U.cZ]
 have mM:dU E w F dead x0 (kv k) (fp k):=h.cV k _ eG
 have oi:=h.nodup k _ eG
 rcases mM with⟨h0,_⟩|⟨b,cap,cur,vs,gA,h1,hb,hc,hm,sN,hv,W9,jU,qn⟩
 ·rw[h0] at hi;simp at hi
 obtain⟨bb,oo,nn,cc,mN,hpv⟩:=cn yA (by simp[io])
 simp only[nq] at mN
 rw[h1] at mN
 simp only[Value.slice.injEq,fJ,Addr.mk.injEq,and_true] at mN
 obtain⟨⟨e1,e2⟩,_,_⟩:=mN
 rw[e1,e2,tW,FD] at hpv
 have hN:i*U.wd x0.τ+U.wd x0.τ<=x0.xs.length*U.wd x0.τ:=by
  have:(i+1)*U.wd x0.τ<=x0.xs.length*U.wd x0.τ:=wH _ hi
  rw[wD,Lk] at this
  exact this
 have hNc:x0.xs.length*U.wd x0.τ<=cap*U.wd x0.τ:=wH _ hc
 have Gs:n=U.wd x0.τ:=by rw[hn,hzl]
 have Zl:(a.eval y).cells.toList.length=U.wd x0.τ:=by rw[B6,vl,hzl]
 have iV:=Pj (P:=E.P) (n:=n) (off:=i*U.wd x0.τ) (v:=a.eval y) hs (by rw[vl];exact hn.symm) er.fB hb (by rw[sN,Gs];omega)
 rw[<-hpv] at iV
 have exec:(execOp a.eval o).run E.P w=.ok .skip (w.setRow b (cur.toList.take (i*U.wd x0.τ)++(a.eval y).cells.toList++cur.toList.drop (i*U.wd x0.τ+n)).toArray):=by
  unfold execOp;simp only[p5]
  rw[Sem.run_bind,iV];rfl
 have iq:b∈fp k:=by rw[qn];simp
 have Xp:=h.ff k _ b eG iq
 rw[qn] at oi
 obtain⟨SD,Xn⟩:=rv.1 oi
 have Xe:∀m,(cur.toList.take (i*U.wd x0.τ)++(a.eval y).cells.toList++cur.toList.drop (i*U.wd x0.τ+n)).toArray[m]? =
   if i*U.wd x0.τ<=m/\m<i*U.wd x0.τ+U.wd x0.τ then(a.eval y).cells.toList[m-i*U.wd x0.τ]? else cur[m]? :=by
  intro m
  have fX:(cur.toList.take (i*U.wd x0.τ)).length=i*U.wd x0.τ:=by rw[od,B6,sN];omega
  rw[zed,xu]
  by_cases h2:m<i*U.wd x0.τ
  ·rw[wF (by omega),nF,if_pos h2,if_neg (by omega),HJ]
  ·rw[wI (by omega),fX]
   by_cases h3:m<i*U.wd x0.τ+U.wd x0.τ
   ·rw[if_pos ⟨by omega,h3⟩,wF (by omega)]
   ·rw[if_neg (by omega),wI (by omega),Dt,Zl,Gs,HJ]
    congr 1;omega
 have abD:∀j,j<U.wd x0.τ->(a.eval y).cells.toList[j]? =some ((a.eval y).cells.toList.getD j undef):=fun j hj=>eH (by rw[Zl];exact hj)
 have abC:∀j,j<U.wd x0.τ->fA ((a.eval y).cells.toList.getD j undef):=fun j hj=>by
  obtain⟨c,Nt⟩:∃c,ds[j]? =some c:=⟨ds[j]'(by rw[hdl];exact hj),gg _⟩
  exact(f2 j c Nt).fB
 let tY:Nat->Value:=fun m=>if i*U.wd x0.τ<=m/\m<i*U.wd x0.τ+U.wd x0.τ then(a.eval y).cells.toList.getD (m-i*U.wd x0.τ) undef else vs m
 let jW:Nat->List Nat:=fun m=>if i*U.wd x0.τ<=m/\m<i*U.wd x0.τ+U.wd x0.τ then fl.getD (m-i*U.wd x0.τ) [] else gA m
 have DZ:∀j,j<U.wd x0.τ->tY (i*U.wd x0.τ+j)=(a.eval y).cells.toList.getD j undef/\jW (i*U.wd x0.τ+j)=fl.getD j []:=fun j hj=>by
  simp only[tY,jW]
  rw[if_pos ⟨by omega,by omega⟩,if_pos ⟨by omega,by omega⟩,show i*U.wd x0.τ+j-i*U.wd x0.τ=j by omega]
  exact⟨rfl,rfl⟩
 have tR:∀m,¬(i*U.wd x0.τ<=m/\m<i*U.wd x0.τ+U.wd x0.τ)->tY m=vs m/\jW m=gA m:=fun m hm=>⟨if_neg hm,if_neg hm⟩
 have uj:∀{q j},j<U.wd x0.τ->q≠i->¬(i*U.wd x0.τ<=q*U.wd x0.τ+j/\q*U.wd x0.τ+j<i*U.wd x0.τ+U.wd x0.τ):=fun{q j} hj hq px=>
  hq (PK hj (show q*U.wd x0.τ+j-i*U.wd x0.τ<U.wd x0.τ by omega) (by omega)).1
 have Nl:∀j b',b'∈fl.getD j []->b'∈fl.flatten:=fun j b' aY=>by
  rcases mX j fl.length with g|g
  ·rw[fY,gg g] at aY
   exact UR.2 ⟨_,Hu g,aY⟩
  ·rw[fY,mi g] at aY;cases aY
 have amk:fl.length=U.wd x0.τ:=by rw[f1,hdl]
 have Qw:∀b',b'∈fl.flatten->b'∉fp k:=fun b' aY X0=>by
  obtain⟨k',cM,Co⟩:=f4 b' aY
  obtain⟨e',XT⟩:=lJ.1 (t2 k' cM)
  exact h.apart k' k e' _ b' (fun e=>xK.1 (e▸cM)) XT eG Co X0
 have XR:∀m,m<x0.xs.length*U.wd x0.τ->∀b',b'∈gA m->b'∈fp k:=fun m hm b' aY=>by
  rw[qn];exact bi _ (nl.2 ⟨m,oc.2 hm,aY⟩)
 have px:∀b'∈b::(List.range (x0.xs.length*U.wd x0.τ)).flatMap jW,b'∈fl.flatten\/b'∈fp k:=by
  intro b' aY
  rcases jw.1 aY with rfl|aY
  ·exact .inr iq
  ·obtain⟨m,ul,aY⟩:=nl.1 aY
   rw[oc] at ul
   by_cases px:i*U.wd x0.τ<=m/\m<i*U.wd x0.τ+U.wd x0.τ
   ·have:=(DZ (m-i*U.wd x0.τ) (by omega)).2
    rw[show i*U.wd x0.τ+(m-i*U.wd x0.τ)=m by omega] at this
    rw[this] at aY
    exact .inl (Nl _ b' aY)
   ·rw[(tR m px).2] at aY
    exact .inr (XR m ul b' aY)
 have Qn:(b::(List.range (x0.xs.length*U.wd x0.τ)).flatMap jW).Nodup:=by
  refine rv.2 ⟨fun aY=> ?_,?_⟩
  ·obtain⟨m,ul,aY⟩:=nl.1 aY
   rw[oc] at ul
   by_cases px:i*U.wd x0.τ<=m/\m<i*U.wd x0.τ+U.wd x0.τ
   ·have:=(DZ (m-i*U.wd x0.τ) (by omega)).2
    rw[show i*U.wd x0.τ+(m-i*U.wd x0.τ)=m by omega] at this
    rw[this] at aY
    exact Qw b (Nl _ b aY) iq
   ·rw[(tR m px).2] at aY
    exact SD (nl.2 ⟨m,oc.2 ul,aY⟩)
  ·rw[aa8 amk] at f3
   rw[ZB,List.pairwise_flatMap]
   refine⟨fun m ul=> ?_,?_⟩
   ·rw[<-ZB]
    rw[oc] at ul
    by_cases px:i*U.wd x0.τ<=m/\m<i*U.wd x0.τ+U.wd x0.τ
    ·have:=(DZ (m-i*U.wd x0.τ) (by omega)).2
     rw[show i*U.wd x0.τ+(m-i*U.wd x0.τ)=m by omega] at this
     rw[this]
     exact PG f3 (t:=m-i*U.wd x0.τ) (oc.2 (by omega))
    ·rw[(tR m px).2]
     exact PG Xn (oc.2 ul)
   ·refine List.Pairwise.imp_of_mem ?_ (List.nodup_range (n:=x0.xs.length*U.wd x0.τ))
    intro m m' Be Bc et b1 rF b2 rE rD
    subst rD
    rw[oc] at Be Bc
    by_cases px:i*U.wd x0.τ<=m/\m<i*U.wd x0.τ+U.wd x0.τ
    ·have e1:=(DZ (m-i*U.wd x0.τ) (by omega)).2
     rw[show i*U.wd x0.τ+(m-i*U.wd x0.τ)=m by omega] at e1
     rw[e1] at rF
     by_cases XN:i*U.wd x0.τ<=m'/\m'<i*U.wd x0.τ+U.wd x0.τ
     ·have e2:=(DZ (m'-i*U.wd x0.τ) (by omega)).2
      rw[show i*U.wd x0.τ+(m'-i*U.wd x0.τ)=m' by omega] at e2
      rw[e2] at rE
      exact LY f3 (t:=m-i*U.wd x0.τ) (t':=m'-i*U.wd x0.τ) (oc.2 (by omega)) (oc.2 (by omega)) (fun e=>et (by omega)) rF rE
     ·rw[(tR m' XN).2] at rE
      exact Qw b1 (Nl _ b1 rF) (XR m' Bc b1 rE)
    ·rw[(tR m px).2] at rF
     by_cases XN:i*U.wd x0.τ<=m'/\m'<i*U.wd x0.τ+U.wd x0.τ
     ·have e2:=(DZ (m'-i*U.wd x0.τ) (by omega)).2
      rw[show i*U.wd x0.τ+(m'-i*U.wd x0.τ)=m' by omega] at e2
      rw[e2] at rE
      exact Qw b1 (Nl _ b1 rE) (XR m Be b1 rF)
     ·rw[(tR m' XN).2] at rE
      exact LY Xn (oc.2 Be) (oc.2 Bc) et rF rE
 have uq:∀b',F b'->F b'/\(w.setRow b (cur.toList.take (i*U.wd x0.τ)++(a.eval y).cells.toList++cur.toList.drop (i*U.wd x0.τ+n)).toArray).heap[b']? =w.heap[b']? :=fun b' aY=>
  ⟨aY,setRow_other w b b' _ (fun e=>Xp.1 (e▸aY))⟩
 have rC:∀b',b'≠b->(w.setRow b (cur.toList.take (i*U.wd x0.τ)++(a.eval y).cells.toList++cur.toList.drop (i*U.wd x0.τ+n)).toArray).heap[b']? =w.heap[b']? :=fun b' aY=>setRow_other w b b' _ aY
 refine LP exec (Xl F kv (db fp k (b::(List.range (x0.xs.length*U.wd x0.τ)).flatMap jW)) _ _ (h.O8 ho k _ _ eG ks _ _ xK.1 ?_ uq (fun b' aY=> .inl aY) ?_ Qn ?_ ?_))
 ·intro bad pZ
  show dU E _ F _ ⟨x0.τ,x0.xs.set i yv⟩ (kv k) _
  refine .inr ⟨b,cap,_,tY,jW,by rw[h1,IW],setRow_heap w b cur _ _ _ hb,by rw[IW];exact hc,hm,?_,fun m ul=> ?_,fun q xq j c hq hxq hj=> ?_,fun q j hq hj=> ?_,by rw[IW]⟩
  ·simp only[O3,wG,od,J0,B6]
   have:=Zl
   rw[B6] at this
   rw[this,sN,Gs];omega
  ·simp only[IW] at ul
   rw[Xe m]
   by_cases px:i*U.wd x0.τ<=m/\m<i*U.wd x0.τ+U.wd x0.τ
   ·have e1:=(DZ (m-i*U.wd x0.τ) (by omega)).1
    rw[show i*U.wd x0.τ+(m-i*U.wd x0.τ)=m by omega] at e1
    rw[if_pos px,e1]
    exact⟨abD _ (by omega),abC _ (by omega)⟩
   ·rw[if_neg px,(tR m px).1]
    exact hv m ul
  ·have KO:j<U.wd x0.τ:=by
    rw[<-U.cZ x0.τ xq]
    rcases mX j (U.enc x0.τ xq).length with g|g
    ·exact g
    ·have tH:(U.enc x0.τ xq)[j]? =some c:=hj
     rw[mi g] at tH;cases tH
   by_cases Si:q=i
   ·subst Si
    have Ch:xq=yv:=by
     have Ch:(x0.xs.set q yv)[q]? =some xq:=hxq
     rw[O4,if_pos rfl,if_pos hi] at Ch
     exact(UP Ch).symm
    have hj:(U.enc x0.τ xq)[j]? =some c:=hj
    rw[Ch] at hj
    show Rp E _ F true c (tY (q*U.wd x0.τ+j)) (jW (q*U.wd x0.τ+j))
    rw[(DZ j KO).1,(DZ j KO).2]
    have tH:ds[j]? =some c:=by rw[<-D6];exact hj
    refine(f2 j c tH).fE uq (fun b' aY=>rC b' (fun e=> ?_))
    exact Qw b' (Nl j b' aY) (e▸iq)
   ·show Rp E _ F true c (tY (q*U.wd x0.τ+j)) (jW (q*U.wd x0.τ+j))
    have Jm:=uj KO Si
    rw[(tR _ Jm).1,(tR _ Jm).2]
    have Ch:x0.xs[q]? =some xq:=by
     have Ch:(x0.xs.set i yv)[q]? =some xq:=hxq
     rw[O4,if_neg (fun e=>Si e.symm)] at Ch
     exact Ch
    have hdq:dead q=false:=by
     have hq:(!(Nat.beq q i)&&dead q)=false:=hq
     have hb0:Nat.beq q i=false:=by rw[<-uK,FF];exact Si
     rw[hb0] at hq
     simpa using hq
    refine(W9 q xq j c hdq Ch hj).fE uq (fun b' aY=>rC b' (fun e=> ?_))
    subst e
    exact SD (nl.2 ⟨_,oc.2 (fe Ch hj),aY⟩)
  ·have hq2:¬q=i/\dead q=true:=by
    have hq:(!(Nat.beq q i)&&dead q)=true:=hq
    rw[eE,rj,<-uK,FF] at hq
    exact hq
   show jW (q*U.wd x0.τ+j)=[]
   have Jm:=uj hj hq2.1
   rw[(tR _ Jm).2]
   exact jU q j hq2.2 hj
 ·intro k' e' cM kJ rD b' aY
  exact rC b' (fun e=>h.apart k' k _ _ b' cM rD eG aY (by rw[e];exact iq))
 ·intro b' aY
  rcases px b' aY with g|g
  ·obtain⟨k',cM,Co⟩:=f4 b' g
   obtain⟨e',XT⟩:=lJ.1 (t2 k' cM)
   exact⟨(h.ff k' e' b' XT Co).1,k',by simp[cM],t2 k' cM,Co⟩
  ·exact⟨(h.ff k _ b' eG g).1,k,by simp,by simp[eG],g⟩
 ·exact⟨rfl,rfl,rfl,by simp,fun b' _ Gs=>rC b' (fun e=>Gs (by rw[e];exact Xp.2.1))⟩
end AM
