/- THE ABSTRACT MACHINE: rows of which some elements are gone: they are made, grow, are filled again. -/
import Derived.Test.YtpkdgcookaobfaaGreatDoorQAmMove
namespace AM
set_option linter.unusedVariables false
open Go
variable{U:lz}{E:Env U}{pm:Pm}
variable{F F':Nat->Prop}{kv:Key->Value}{fp:Key->List Nat}{σ:ak U}{a:Act}{w w':World}{bad:Key->Bool}
variable(E) in
def OZ(w:World)(F:Nat->Prop)(dead:Nat->Bool)(τ:U.Ty)(xs:List (U.T τ))(vs:List Value)(fl:List (List Nat)):Prop:=
 vs.length=xs.length*U.wd τ/\fl.length=xs.length*U.wd τ/\(∀v∈vs,gr v)/\
 (∀(i:Nat)(x:U.T τ)(j:Nat)(c:U.C),dead i=false->xs[i]? =some x->(U.enc τ x)[j]? =some c->Rp E w F true c (vs.getD (i*U.wd τ+j) undef) (fl.getD (i*U.wd τ+j) []))/\
 ∀i j,dead i=true->j<U.wd τ->fl.getD (i*U.wd τ+j) []=[]
theorem adw{fl:List (List Nat)}{n:Nat}(h:fl.length=n):fl.flatten=(List.range n).flatMap fun m=>fl.getD m []:=by
 rw[O0]
 congr 1
 refine Uk fun m=> ?_
 rw[nT]
 by_cases hn:m<n
 ·rw[NF hn,FT,ez,fw (by rw[h];exact hn)]
  rfl
 ·rw[od (by rw[h];omega),od (by simp;omega)]
  rfl
theorem eE.nZ{dead:Nat->Bool}{τ:U.Ty}{xs:List (U.T τ)}{b cap:Nat}{cur:Array Value}{vs:List Value}{fl:List (List Nat)}(h2:w.heap[b]? =some (.cells cur (E.tid τ) (0,0)))(h3:xs.length<=cap)(h4:cap<=maxLen)
  (h5:cur.size=cap*U.wd τ) (h6:cur.toList.take (xs.length*U.wd τ)=vs) (h7:OZ E w F dead τ xs vs fl):eE E w F dead ⟨τ,xs⟩ (.slice (some ⟨b,0,none⟩) xs.length cap) (b::fl.flatten):=by
 have hle:xs.length*U.wd τ<=cap*U.wd τ:=AL _ h3
 refine .inr ⟨b,cap,cur,fun n=>vs.getD n undef,fun n=>fl.getD n [],rfl,h2,h3,h4,h5,fun i hi=> ?_,h7.2.2.2.1,h7.2.2.2.2,by rw[adw h7.2.1]⟩
 have qw:i<xs.length*U.wd τ:=hi
 have hvi:vs[i]? =some (vs.getD i undef):=fF (by rw[h7.1];exact qw)
 refine⟨?_,h7.2.2.1 _ (Gl hvi)⟩
 show cur[i]? =some (vs.getD i undef)
 rw[<-hvi,<-h6,qn,if_pos qw,Mt]
theorem eE.rows{dead:Nat->Bool}{x:fu U}{v:Value}{l:List Nat}(h:eE E w F dead x v l):
  (x.xs=[]/\(∃ad,v=.slice ad 0 0)/\l=[])\/
  ∃(b cap:Nat)(cur:Array Value)(vs:List Value)(fl:List (List Nat)),v=.slice (some ⟨b,0,none⟩) x.xs.length cap/\w.heap[b]? =some (.cells cur (E.tid x.τ) (0,0))/\x.xs.length<=cap/\cap<=maxLen/\
   cur.size=cap*U.wd x.τ/\cur.toList.take (x.xs.length*U.wd x.τ)=vs/\OZ E w F dead x.τ x.xs vs fl/\l=b::fl.flatten:=by
 rcases h with h|⟨b,cap,cur,vs,hZ,h1,h2,h3,h4,h5,h6,h7,h8,h9⟩
 ·exact .inl h
 have hle:x.xs.length*U.wd x.τ<=cap*U.wd x.τ:=AL _ h3
 have sY:∀n,n<x.xs.length*U.wd x.τ->(cur.toList.take (x.xs.length*U.wd x.τ))[n]? =some (vs n):=fun n hn=>by
  rw[qn,if_pos hn,Mt];exact(h6 n hn).1
 refine .inr ⟨b,cap,cur,_,(List.range (x.xs.length*U.wd x.τ)).map hZ,h1,h2,h3,h4,h5,rfl,⟨by simp;omega,by simp,fun u hu=> ?_,fun i y j c hi hx hj=> ?_,fun i j hi hj=> ?_⟩,by rw[h9,O0]⟩
 ·obtain⟨n,hn,rfl⟩:=sG hu
  have wm:n<x.xs.length*U.wd x.τ:=by simp at hn;omega
  have ta:=sY n wm
  rw[fw hn] at ta
  rw[Zd ta]
  exact(h6 n wm).2
 ·have gI:=fP hx hj
  have:=h7 i y j c hi hx hj
  rw[ez,sY _ gI,ez,nT,NF gI]
  exact this
 ·rw[ez,nT]
  by_cases gI:i*U.wd x.τ+j<x.xs.length*U.wd x.τ
  ·rw[NF gI];exact h8 i j hi hj
  ·rw[od (by simp;omega)];rfl
theorem eW.EB{deep:Bool}{τ:U.Ty}{xs:List (U.T τ)}{vs:List Value}{fl:List (List Nat)}(h:eW E w F deep τ xs vs fl):∀v∈vs,gr v:=by
 intro v hv
 obtain⟨n,hn,rfl⟩:=sG hv
 obtain⟨i,x,j,c,rfl,_,_,hx,hj⟩:=acW (xs:=xs) (by rw[<-h.1];exact hn)
 have:=h.2.2 i x j c hx hj
 rw[ez,fw hn] at this
 exact this.gv
theorem eW.dead{τ:U.Ty}{xs zs:List (U.T τ)}{vs us:List Value}{fl:List (List Nat)}(h:eW E w F true τ xs vs fl)(hl:us.length=zs.length*U.wd τ)(ho:∀u∈us,gr u):
  OZ E w F (fun i=>Nat.ble xs.length i) τ (xs++zs) (vs++us) (fl++List.replicate (zs.length*U.wd τ) []):=by
 refine⟨by simp[h.1,hl,xy],by simp[h.2.1,xy],fun v hv=> ?_,fun i x j c hi hx hj=> ?_,fun i j hi hj=> ?_⟩
 ·rcases jC.1 hv with hv|hv
  ·exact h.EB v hv
  ·exact ho v hv
 ·have qw:i<xs.length:=by
   rcases pe i xs.length with g|g
   ·exact g
   ·exact absurd ((Nat.ble_eq_true_of_le g).symm.trans hi) (by decide)
  rw[xA qw] at hx
  have:=fP hx hj
  rw[KE (by rw[h.1];exact this),KE (by rw[h.2.1];exact this)]
  exact h.2.2 i x j c hx hj
 ·have qw:=J' hi
  have:xs.length*U.wd τ<=i*U.wd τ:=AL _ qw
  rw[Pl (by rw[h.2.1];omega),HP]
theorem adk:∀{xs:List (SV U)}{us:List Value}{wd:Nat},EF wd xs=true->xs.length=us.length->(∀(i:Nat)(x:SV U)(u:Value),xs[i]? =some x->us[i]? =some u->RS E w F kv fp bad x u)->
  (∀u∈us,u.cells.size=wd)/\∀v∈us.flatMap (fun u=>u.cells.toList),gr v
 |[],[],_,_,_,_=>⟨by simp,by simp⟩
 |[],_::_,_,_,hl,_=>by simp at hl
 |_::_,[],_,_,hl,_=>by simp at hl
 |x::xs,u::us,wd,hk,hl,hx=>by
  cases x with
  |wv l=>cases hk
  |fn p=>cases hk
  |Hk g l=>cases hk
  |v x=>
   simp only[EF,cJ] at hk
   obtain⟨r1,r2⟩:=Pp (hx 0 (.v x) u rfl rfl)
   obtain⟨i1,i2⟩:=adk hk.2 (by simpa using hl) (fun i z v hz hv=>hx (i+1) z v (by simpa using hz) (by simpa using hv))
   refine⟨fun v hv=> ?_,fun v hv=> ?_⟩
   ·rcases jZ.1 hv with rfl|hv
    ·rw[r2];exact nk hk.1
    ·exact i1 v hv
   ·rw[zB,jC] at hv
    rcases hv with hv|hv
    ·obtain⟨n,hn,rfl⟩:=sG hv
     have wm:n<x.cs.length:=by rw[r1.1];exact hn
     exact(r1.2 n x.cs[n] _ (fw wm) (fw hn)).1
    ·exact i2 v hv
theorem alU(hE:E.Ok)(h:cM E pm F kv fp σ a w){o:Oper}{d:Nat}(ho:o.dst=some d)(hd:d<σ.n){t e:TypeId}{len:Nat}{parts:Array (Nat×Operand)}(sF:o.op=.buildSlice t len parts)
  {τ:U.Ty} (uW:E.elem t=some e) (hc:E.code e=some τ) {xs:List (SV U)} (hx:xs.length=parts.toList.length)
  (hv:∀(i:Nat)(x:SV U)(q:Nat×Operand),xs[i]? =some x->parts.toList[i]? =some q->RS E w F kv fp (bW σ) x (a.eval q.2))
  (hlen:(parts.toList.map (·.1)).length=len) (abc:((parts.toList.map (·.1)).zipIdx).all (fun(a,b)=>Nat.beq a b)=true) (hsm:len*U.wd τ<=1000000)
  (hkp:EF (U.wd τ) xs=true)
  (ov:¬Names σ (d,0)) {next:Act->World->Prop} {Q:Exit->Act->World->Prop}
  (hn:∀F kv fp a' w',cM E pm F kv fp (AM.apply o ⟨some (one (.ref (d,0) [])),[(0,.part ⟨τ,List.replicate len (U.e6 τ)⟩ (fun _=>true))],[],[],[]⟩ σ) a' w'->next a' w'):o.wp E.P a w next Q:=by
 obtain⟨zW,i,z,hi,hz,jm,PJ,Xr,_⟩:=hE.code e τ hc
 have hu:=Ei uW
 have hw:=U.la τ
 obtain⟨r2,r3⟩:=adk (us:=parts.toList.map fun q=>a.eval q.2) hkp (by simp[hx]) (fun i x u Uo sV=>by
  rw[nT] at sV
  cases hq:parts.toList[i]? with
  |none=>rw[hq] at sV;cases sV
  |some q=>rw[hq] at sV;cases sV;exact hv i x q Uo hq)
 have Bb:parts.toList.length=len:=by rw[<-hlen];simp
 have M':(parts.map fun(i,x)=>(i,a.eval x)).toList=((parts.toList.map fun q=>a.eval q.2).zipIdx 0).map fun x=>(x.2,x.1):=by
  rw[zeo]
  refine Uk fun n=> ?_
  rw[nT,nT,zej,nT]
  cases hq:parts.toList[n]? with
  |none=>rfl
  |some q=>
   simp only[FT,gA,pq,vk,and_true]
   have h1:((parts.toList.map (·.1)).zipIdx)[n]? =some (q.1,n):=by
    rw[zej,nT,hq];simp
   have:=(sC.1 abc) (q.1,n) (Gl h1)
   exact nk this
 have aaF:¬len*i.size>2^24:=by rw[jm];omega
 have Na:len<=maxLen:=by
  have:len<=len*U.wd τ:=Nat.le_mul_of_pos_right _ hw
  simp only[maxLen];omega
 have Gd:∀(l:List Value),(∀u∈l,u.cells.size=U.wd τ)->(l.flatMap fun u=>u.cells.toList).length=l.length*U.wd τ:=by
  intro l
  induction l with
  |nil=>intro _;simp
  |cons u l ih=>
   intro hl
   rw[zB,ko,ih (fun v hv=>hl v (fA _ hv)),FU,hl u iy,fK,xy,QL,zew]
 have fin:∀cells:Array Value,cells.toList=(parts.toList.map fun q=>a.eval q.2).flatMap (fun u=>u.cells.toList)->
   (Instr.buildSlice t len (parts.map fun(i,x)=>(i,a.eval x))).run E.P w=.ok (.slice (some ⟨w.heap.size,0,none⟩) len len) (w.alloc (.cells cells e))->o.wp E.P a w next Q:=by
  intro cells s8 jn
  have iv:cells.toList.length=len*U.wd τ:=by rw[s8,Gd _ r2];simp[Bb]
  have vA:cells.size=len*U.wd τ:=by simpa using iv
  have j6:OZ E (w.alloc (.cells cells e)) F (fun _=>true) τ (List.replicate len (U.e6 τ)) cells.toList (List.replicate (len*U.wd τ) []):=by
   refine⟨by rw[iv];simp,by simp,fun v hv=>r3 v (by rw[<-s8];exact hv),fun i x j c hi=>Bool.noConfusion hi,fun i j _ _=>HP⟩
  have o8:=h.Fo (w':=w.alloc (.cells cells e)) (F':=F) ho hd (.part ⟨τ,List.replicate len (U.e6 τ)⟩ (fun _=>true)) (one (.ref (d,0) [])) [] [] (.slice (some ⟨w.heap.size,0,none⟩) len len) (.slice (some ⟨w.heap.size,0,none⟩) len len) [w.heap.size] ov
   (fun bad=>iu ⟨⟨rfl,trivial⟩,.inr (by simp only[RA,t_];rfl)⟩)
   (fun bad=>by
    have:=eE.nZ (F:=F) (b:=w.heap.size) (cap:=len) (by rw[zW];exact heap_alloc_new w _) (by simp) Na vA (by rw[Uj (by rw[iv];simp)]) j6
    rw[zee,zN] at this
    exact this)
   (fun b hb=>⟨hb,BD w _ (h.uk b hb)⟩) (fun b hb=> .inl hb) (fun k e _ he b hb=>BD w _ (HQ h he hb)) (by simp)
   (fun b hb=>by
    rw[mI.1 hb]
    exact⟨fun hF=>by have:=h.uk _ hF;omega,.inr ⟨tX _,by simp⟩⟩) (hU.alloc _ _ _)
  refine sQ (v:=.slice (some ⟨w.heap.size,0,none⟩) len len) (w':=w.alloc (.cells cells e)) ?_ (hn F _ _ _ _ o8)
  unfold execOp;simp only[sF];exact iD jn
 by_cases h0:len=0
 ·have M_:parts.toList=[]:=FL (by omega)
  have Sl:parts= #[]:=zO M_
  subst h0
  refine fin #[] (by simp[M_]) ?_
  simp[Instr.buildSlice,run_underlying hu,Go.sizeOf,typeInfo,hi,Sl,Instr.fill,newRow,Array.range_zero']
 ·have PN:¬len*i.size=0:=by
   rw[jm]
   have:=Nat.mul_pos (Nat.pos_of_ne_zero h0) hw
   omega
  have Sz:=Great.fill_whole (s:=i.size) (by rw[jm];exact hw) (parts.toList.map fun q=>a.eval q.2) ((Array.range (len*i.size)).map (z.cells[·%z.cells.size]!)) (fun v hv=>by rw[jm];exact r2 v hv) (by simp[Bb])
  refine fin ((parts.toList.map fun q=>a.eval q.2).flatMap fun v=>v.cells.toList).toArray rfl (run_buildSlice w t e len _ _ i z hu hi hz aaF PN ?_)
  rw[M']
  exact Sz
theorem amU(hE:E.Ok)(h:cM E pm F kv fp σ a w){o:Oper}{d:Nat}(ho:o.dst=some d)(hd:d<σ.n){cl:Call}{t e:TypeId}{s x:Operand}(sF:o.op=.call cl)(iv:cl.callee=.builtin .append)
  (lK:cl.args.toList=[s,x]) (BV:cl.argTypes.toList=[t,t]) {τ:U.Ty} (uW:E.elem t=some e) (hc:E.code e=some τ) {ss sx:SV U} {ys yx:AC U}
  (hs:RS E w F kv fp (bW σ) ss (a.eval s)) (VP:vd ss=some ys) (hx:RS E w F kv fp (bW σ) sx (a.eval x)) (hsx:vd sx=some yx)
  {rs:List Key} {ps:List Prop} {xs zs:List (U.T τ)} {ks ks':List Key} {pall:List Prop}
  (ho1:uR τ (restrict σ.bO rs) ys=some (ps,xs,ks,true)) (K7:HY τ (restrict σ.bO rs) yx=some (zs,ks')) (hp:∀p∈ps,p) (Ij:(ks++ks').Nodup) (hle:xs.length+zs.length<=4294967296)
  (ov:¬Names σ (d,0)) {next:Act->World->Prop} {Q:Exit->Act->World->Prop}
  (hn:∀F kv fp a' w',cM E pm F kv fp (AM.apply o ⟨some (one (.ref (d,0) [])),[(0,.part ⟨τ,xs++zs⟩ (fun i=>Nat.ble xs.length i))],ks++ks',[],pall⟩ σ) a' w'->next a' w'):o.wp E.P a w next Q:=by
 obtain⟨zW,i,z,hi,hz,jm,PJ,Xr,_⟩:=hE.code e τ hc
 have hu:=Ei uW
 have hw:=U.la τ
 obtain⟨Aa,lp,l,Oe,Bc,PV⟩:=ac' h ho1 hp (li hs VP)
 obtain⟨EO,us,wF,aaB,sW⟩:(∀k∈ks',(σ.bO k).isSome=true)/\∃us,us.length=zs.length*U.wd τ/\(∀u∈us,gr u)/\Src E.P w t (a.eval x) (U.wd τ) zs.length us:=by
  unfold HY at K7
  split at K7
  ·rename_i k
   split at K7
   ·rename_i y dead he
    split at K7
    ·rename_i zs' Un
     cases K7
     have:=d_ Un
     subst this
     have fc:=j0 he
     have h1:a.eval x=kv k:=cw (li hx hsx) rfl
     have h2:eE E w F dead ⟨τ,zs⟩ (kv k) (fp k):=h.dH k _ fc
     rw[<-h1] at h2
     refine⟨by simp[fc],?_⟩
     rcases h2.rows with⟨h3,⟨ad,h4⟩,h5⟩|⟨b,cap,cur,vs,fl,h3,h4,h5,h6,h7,h8,h9,ta⟩
     ·simp only at h3;subst h3
      exact⟨[],by simp,by simp,by rw[h4];exact Src.slice hu (by simp) (fun hh=>by simp at hh)⟩
     ·simp only at h3 h4 h5 h7 h8 h9
      refine⟨vs,h9.1,h9.2.2.1,?_⟩
      rw[h3]
      refine Src.slice hu (h9.1) (fun _=>⟨b,0,rfl,fun i u sV=> ?_⟩)
      rw[<-h8,qn] at sV
      split at sV
      ·rw[cell_of_row w b _ cur _ (0,0) h4];simpa using sV
      ·cases sV
    ·cases K7
   ·cases K7
  ·cases K7
 rw[<-jm] at sW
 have jo:∀k∈ks++ks',(σ.bO k).isSome=true:=fun k hk=>(jC.1 hk).elim (lp k) (EO k)
 have exec:∀{v w1},(Builtin.append_ #[t,t] o.type #[a.eval s,a.eval x]).run E.P w=.ok v w1->(execOp a.eval o).run E.P w=.ok (.value v) w1:=by
  intro v w1 hr
  have ha:cl.args= #[s,x]:=zO lK
  have ht:cl.argTypes= #[t,t]:=zO BV
  unfold execOp;simp only[sF]
  simp[resolve,iv,ha,ht,invoke,builtin,hr]
 have Na:∀{n:Nat},n<=4294967296->n<=maxLen:=fun hh=>by simp only[maxLen];omega
 have hnF:∀k∈ks++ks',∀b∈fp k,¬F b:=fun k hk b hb=>by
  obtain⟨e,he⟩:=nf.1 (jo k hk)
  exact(h.fQ k e b he hb).1
 have hWb:∀k∈ks++ks',∀b∈fp k,(pm.W b\/pm.w0.heap.size<=b)/\b<w.heap.size:=fun k hk b hb=>by
  obtain⟨e,he⟩:=nf.1 (jo k hk)
  exact(h.fQ k e b he hb).2
 have PM:∀(fl:List (List Nat)),(fl++List.replicate (zs.length*U.wd τ) ([]:List Nat)).flatten=fl.flatten:=fun fl=>by rw[Mg,zN,xu]
 have grow:∀(vs:List Value)(fl:List (List Nat)),eW E w F true τ xs vs fl->fl.flatten.Nodup->(∀b∈fl.flatten,∃k∈ks,b∈fp k)->
   ∀{cap:Nat}{cur:Array Value}{w1:World},(∀b,b<w.heap.size->w1.heap[b]? =w.heap[b]?)->hU (fun b=>pm.W b\/pm.w0.heap.size<=b) w w1->w.heap.size<w1.heap.size->
   w1.heap[w.heap.size]? =some (.cells cur (E.tid τ) (0,0))->(xs++zs).length<=cap->cap<=maxLen->cur.size=cap*U.wd τ->cur.toList.take ((xs++zs).length*U.wd τ)=vs++us->
   next (a.put o.dst (.slice (some ⟨w.heap.size,0,none⟩) (xs++zs).length cap)) w1:=by
  intro vs fl h1 h2 h3 cap cur w1 zV ql xx hb ni hm vA Ba
  have gI:∀b∈fl.flatten,b<w.heap.size:=fun b hb=>by obtain⟨k,hk,hb⟩:=h3 b hb;exact(hWb k (by simp[hk]) b hb).2
  have o8:=h.Fo ho hd (.part ⟨τ,xs++zs⟩ (fun i=>Nat.ble xs.length i)) (one (.ref (d,0) [])) (ks++ks') pall (.slice (some ⟨w.heap.size,0,none⟩) (xs++zs).length cap) (.slice (some ⟨w.heap.size,0,none⟩) (xs++zs).length cap) (w.heap.size::fl.flatten) (w':=w1) (F':=F) ov
   (fun bad=>iu ⟨⟨rfl,trivial⟩,.inr (by simp only[RA,t_];rfl)⟩)
   (fun bad=>by
    have:=eE.nZ hb ni hm vA Ba ((h1.gg (fun b' bj=>⟨bj,zV b' (h.uk b' bj)⟩) (fun b' bj=>zV b' (gI b' bj))).dead wF aaB)
    rw[PM] at this
    exact this)
   (fun b' bj=>⟨bj,zV b' (h.uk b' bj)⟩) (fun b' bj=> .inl bj) (fun k e _ he b' bj=>zV b' (HQ h he bj))
   (tY.2 ⟨fun bj=>by have:=gI _ bj;omega,h2⟩)
   (fun b' bj=>by
    rcases jZ.1 bj with rfl|bj
    ·exact⟨fun hF=>by have:=h.uk _ hF;omega,.inr ⟨tX _,xx⟩⟩
    ·obtain⟨k,hk,iM⟩:=h3 b' bj
     exact⟨hnF k (by simp[hk]) b' iM,.inl ⟨k,by simp[hk],lp k hk,iM⟩⟩) ql
  exact hn _ _ _ _ _ o8
 have yc:∀{b cap:Nat}{cur':Array Value}{vs:List Value}{fl:List (List Nat)}{w1:World},eW E w F true τ xs vs fl->l=b::fl.flatten->(∀b',b'≠b->w1.heap[b']? =w.heap[b']?)->w1.heap.size=w.heap.size->
   w1.os=w.os->w1.tape=w.tape->w1.output=w.output->w1.heap[b]? =some (.cells cur' (E.tid τ) (0,0))->(xs++zs).length<=cap->cap<=maxLen->cur'.size=cap*U.wd τ->cur'.toList.take ((xs++zs).length*U.wd τ)=vs++us->
   next (a.put o.dst (.slice (some ⟨b,0,none⟩) (xs++zs).length cap)) w1:=by
  intro b cap cur' vs fl w1 j6 hl zV xx hos htp w6 hb ni hm vA Ba
  subst hl
  have iM:∃k∈ks,b∈fp k:=PV b (by simp)
  obtain⟨kb,PX,Io⟩:=iM
  have hbF:¬F b:=hnF kb (by simp[PX]) b Io
  have ql:hU (fun b=>pm.W b\/pm.w0.heap.size<=b) w w1:=⟨hos,htp,w6,by omega,fun k hk K8=>zV k (fun e=>K8 (e▸(hWb kb (by simp[PX]) b Io).1))⟩
  have If:∀k e,k∉ks++ks'->σ.bO k=some e->∀b'∈fp k,w1.heap[b']? =w.heap[b']? :=fun k e hk he b' bj=>zV b' (fun e'=>by
   subst e'
   obtain⟨eb,heb⟩:=nf.1 (lp kb PX)
   exact h.apart kb k eb e b' (fun e'=>hk (by subst e';simp[PX])) heb he Io bj)
  have Xs:=(tY.1 Bc).1
  have o8:=h.Fo ho hd (.part ⟨τ,xs++zs⟩ (fun i=>Nat.ble xs.length i)) (one (.ref (d,0) [])) (ks++ks') pall _ (.slice (some ⟨b,0,none⟩) (xs++zs).length cap) (b::fl.flatten) (w':=w1) (F':=F) ov
   (fun bad=>iu ⟨⟨rfl,trivial⟩,.inr (by simp only[RA,t_];rfl)⟩)
   (fun bad=>by
    have:=eE.nZ hb ni hm vA Ba ((j6.gg (fun b' bj=>⟨bj,zV b' (fun e=>hbF (e▸bj))⟩) (fun b' bj=>zV b' (fun e=>Xs (e▸bj)))).dead wF aaB)
    rw[PM] at this
    exact this)
   (fun b' bj=>⟨bj,zV b' (fun e=>hbF (e▸bj))⟩) (fun b' bj=> .inl bj) If Bc
   (fun b' bj=>by obtain⟨k,hk,bj⟩:=PV b' bj;exact⟨hnF k (by simp[hk]) b' bj,.inl ⟨k,by simp[hk],lp k hk,bj⟩⟩) ql
  exact hn _ _ _ _ _ o8
 have aaA:∀u∈us,u.oneCell'=true:=fun u hu=>(aaB u hu).1
 have EP:(xs.length+zs.length)*i.bytes<=140737488355328:=by
  have:=Nat.mul_le_mul hle Xr
  omega
 by_cases eV:zs.length=0
 ·have Sa:zs=[]:=FL eV
  subst Sa
  have w5:us=[]:=FL (by simpa using wF)
  rcases Oe.rows with⟨h3,⟨Qw,h4⟩,h5⟩|⟨b,cap,cur,vs,fl,h3,h4,h5,h6,h7,h8,h9,ta⟩
  ·simp only at h3;subst h3
   have hr:=exec (v:=.slice Qw 0 0) (w1:=w) (by rw[h4];exact UY w hu hi _ _ _ (by rw[w5] at sW;exact sW) (tX _))
   refine sQ hr ?_
   have o8:=h.Fo ho hd (.part ⟨τ,[]⟩ (fun i=>Nat.ble ([]:List (U.T τ)).length i)) (one (.ref (d,0) [])) (ks++ks') pall (.slice Qw 0 0) (.slice Qw 0 0) [] (w':=w) (F':=F) ov
    (fun bad=>iu ⟨⟨rfl,trivial⟩,.inr (by simp only[RA,t_];rfl)⟩) (fun bad=> .inl ⟨rfl,⟨Qw,rfl⟩,rfl⟩) (fun b hb=>⟨hb,rfl⟩) (fun b hb=> .inl hb) (fun _ _ _ _ _ _=>rfl) (by simp) (by simp) (hU.refl _ _)
   exact hn _ _ _ _ _ o8
  ·simp only at h3 h4 h5 h7 h8 h9
   have hr:=exec (v:=.slice (some ⟨b,0,none⟩) xs.length cap) (w1:=w) (by rw[h3];exact UY w hu hi _ _ _ (by rw[w5] at sW;exact sW) h5)
   refine sQ hr ?_
   have:=yc (b:=b) (cap:=cap) (cur':=cur) (vs:=vs) (fl:=fl) (w1:=w) h9 ta (fun _ _=>rfl) rfl rfl rfl rfl h4 (by simpa using h5) h6 h7 (by rw[w5,xu,xu];exact h8)
   simpa using this
 ·have aaP:us.length=zs.length*i.size:=by rw[jm];exact wF
  have grown:∀(vs:List Value)(fl:List (List Nat)),vs.length=xs.length*U.wd τ->eW E w F true τ xs vs fl->fl.flatten.Nodup->(∀b∈fl.flatten,∃k∈ks,b∈fp k)->
    ∀H0:Nat,H0<xs.length+zs.length->(Builtin.append_ #[t,t] o.type #[a.eval s,a.eval x]).run E.P w=
     .ok (.slice (some ⟨w.heap.size,0,none⟩) (xs.length+zs.length) (grownCap w (xs.length+zs.length) H0 e)) (w.drew.alloc (.cells (vs.toArray++us.toArray++Builtin.zeroCells z.cells (grownCap w (xs.length+zs.length) H0 e-(xs.length+zs.length))) e))->
    o.wp E.P a w next Q:=by
   intro vs fl F_ h1 h2 h3 H0 hold jn
   refine sQ (exec jn) ?_
   have hge:=grownCap_ge w (xs.length+zs.length) H0 e
   have:=grow vs fl h1 h2 h3 (cap:=grownCap w (xs.length+zs.length) H0 e) (cur:=vs.toArray++us.toArray++Builtin.zeroCells z.cells (grownCap w (xs.length+zs.length) H0 e-(xs.length+zs.length)))
    (w1:=w.drew.alloc (.cells (vs.toArray++us.toArray++Builtin.zeroCells z.cells (grownCap w (xs.length+zs.length) H0 e-(xs.length+zs.length))) e))
    (fun b hb=>BD w.drew _ hb) ((hU.drew _ _).trans (hU.alloc _ _ _)) (by simp) (by rw[zW];exact heap_alloc_new w.drew _) (by simpa using hge) (grownCap_le_maxLen w _ H0 e (Na hle))
    (by
     simp only[Array.size_append,UD,size_zeroCells,PJ,F_,wF,<-xy]
     congr 1;omega)
    (by
     have Bc:((xs++zs).length*U.wd τ)=(vs++us).length:=by simp[F_,wF,xy]
     simp only[Array.toList_append,xz]
     rw[<-xz,Bc]
     exact List.take_left)
   simpa using this
  rcases Oe.rows with⟨h3,⟨Qw,h4⟩,h5⟩|⟨b,cap,cur,vs,fl,h3,h4,h5,h6,h7,h8,h9,ta⟩
  ·simp only at h3;subst h3
   refine grown [] [] (by simp) eW.nil (by simp) (by simp) 0 (by omega) ?_
   rw[h4]
   simp only[fv,vk] at EP hle⊢
   cases Qw with
   |none=>
    have hr:=acV (ty:=o.type) w hu hi hz sW (by omega) (by omega) (by omega)
    simpa using hr
   |some a'=>
    have hr:=UZ (ty:=o.type) w hu hi hz a' 0 0 [] (by simp) (by simp) sW (by omega) (by omega) (growslice_fits (by omega) (by simpa using EP))
    simpa using hr
  ·simp only at h3 h4 h5 h7 h8 h9
   have F_:vs.length=xs.length*U.wd τ:=h9.1
   by_cases yd:xs.length+zs.length<=cap
   ·have P5:xs.length*i.size+us.length<=cur.size:=by rw[aaP,jm,h7,<-xy];exact AL _ yd
    have hr:=acU (ty:=o.type) w hu hi b xs.length cap cur (by rw[<-zW];exact h4) sW aaA yd P5
    rw[<-h3] at hr
    refine sQ (exec hr) ?_
    have:=yc (b:=b) (cap:=cap) (cur':=(cur.toList.take (xs.length*i.size)++us++cur.toList.drop (xs.length*i.size+us.length)).toArray) (vs:=vs) (fl:=fl)
     (w1:=w.setRow b (cur.toList.take (xs.length*i.size)++us++cur.toList.drop (xs.length*i.size+us.length)).toArray) h9 ta (fun b' bj=>setRow_other w b b' _ bj) (by simp) rfl rfl rfl (setRow_heap w b cur _ _ _ h4) (by simpa using yd) h6
     (by
      simp only[UD,ko,oc,Mf,FU]
      omega)
     (by
      have Bc:((xs++zs).length*U.wd τ)=(vs++us).length:=by simp[F_,wF,xy]
      rw[jm,h8,Bc]
      exact List.take_left)
    simpa using this
   ·refine grown vs fl F_ h9 (by rw[ta] at Bc;exact(tY.1 Bc).2) (fun b' bj=>PV b' (by rw[ta];simp[bj])) cap (by omega) ?_
    rw[h3]
    refine UZ (ty:=o.type) w hu hi hz ⟨b,0,none⟩ xs.length cap vs (by rw[jm];exact F_) (fun j u hu=> ?_) sW (by omega) (by omega) (growslice_fits (by omega) EP)
    rw[Addr.add_mid,vk,cell_of_row w b _ cur _ (0,0) h4]
    rw[<-h8,qn] at hu
    split at hu
    ·simpa using hu
    ·cases hu
theorem akA(h:cM E pm F kv fp σ a w){o:Oper}(ho:o.dst=none){t:TypeId}{x y:Operand}(sF:o.op=.store t x y){sx:SV U}{yx:AC U}{z:AV U}{n:Nat}{rs:List Key}{r:cn U}
  (hx:RS E w F kv fp (bW σ) sx (a.eval x)) (yi:vd sx=some yx) (hy:RS E w F kv fp (bW σ) (.v z) (a.eval y)) (hs:E.size t=some n) (hn:n=z.cs.length)
  (hr:zH (restrict σ.bO rs) z yx=some r) (hp:∀p∈r.pre,p) {next:Act->World->Prop} {Q:Exit->Act->World->Prop}
  (hnx:∀F kv fp a' w',cM E pm F kv fp (AM.apply o r σ) a' w'->next a' w'):o.wp E.P a w next Q:=by
 have BW:=li hx yi
 obtain⟨gZ,xw⟩:=Pp hy
 unfold zH at hr
 split at hr
 rotate_left
 ·cases hr
 rename_i k i wd
 split at hr
 rotate_left
 ·cases hr
 rename_i x0 dead he
 have fc:=j0 he
 rw[im] at hr
 split at hr
 rotate_left
 ·cases hr
 rename_i nt
 simp only[cJ] at nt
 have vw:=nk nt.1
 have hzl:=nk nt.2
 subst vw
 split at hr
 rotate_left
 ·cases hr
 rename_i qs ds ks Ba
 split at hr
 rotate_left
 ·cases hr
 rename_i yv Nd
 rw[im] at hr
 split at hr
 rotate_left
 ·cases hr
 rename_i s7
 cases hr
 have uo:=tY.1 (uN.1 s7)
 have hi:i<x0.xs.length:=hp _ (by simp)
 obtain⟨t1,t2,t3,_⟩:=MM h Ba (fun q hq=>hp q (by simp[hq])) gZ uo.2
 obtain⟨fl,f1,f2,f3,f4⟩:=t3 rfl
 have Il:=U.mT x0.τ ds yv Nd
 have hdl:ds.length=U.wd x0.τ:=by rw[<-Il,U.dz]
 have om:eE E w F dead x0 (kv k) (fp k):=h.dH k _ fc
 have qu:=h.nodup k _ fc
 rcases om with⟨h0,_⟩|⟨b,cap,cur,vs,hZ,h1,hb,hc,hm,vA,hv,hrr,kY,sZ⟩
 ·rw[h0] at hi;simp at hi
 obtain⟨bb,oo,nn,cc,ot,hpv⟩:=cw BW (by simp[iJ])
 simp only[pu] at ot
 rw[h1] at ot
 simp only[Value.slice.injEq,gA,Addr.mk.injEq,and_true] at ot
 obtain⟨⟨e1,e2⟩,_,_⟩:=ot
 rw[e1,e2,vk,J6] at hpv
 have hN:i*U.wd x0.τ+U.wd x0.τ<=x0.xs.length*U.wd x0.τ:=by
  have:(i+1)*U.wd x0.τ<=x0.xs.length*U.wd x0.τ:=AL _ hi
  rw[xy,QL] at this
  exact this
 have hNc:x0.xs.length*U.wd x0.τ<=cap*U.wd x0.τ:=AL _ hc
 have K8:n=U.wd x0.τ:=by rw[hn,hzl]
 have hcz:(a.eval y).cells.toList.length=U.wd x0.τ:=by rw[FU,xw,hzl]
 have jn:=UT (P:=E.P) (n:=n) (off:=i*U.wd x0.τ) (v:=a.eval y) hs (by rw[xw];exact hn.symm) gZ.gv hb (by rw[vA,K8];omega)
 rw[<-hpv] at jn
 have exec:(execOp a.eval o).run E.P w=.ok .skip (w.setRow b (cur.toList.take (i*U.wd x0.τ)++(a.eval y).cells.toList++cur.toList.drop (i*U.wd x0.τ+n)).toArray):=by
  unfold execOp;simp only[sF]
  rw[Sem.run_bind,jn];rfl
 have iM:b∈fp k:=by rw[sZ];simp
 have hmk:=h.fQ k _ b fc iM
 rw[sZ] at qu
 obtain⟨Xs,hnf⟩:=tY.1 qu
 have aaL:∀m,(cur.toList.take (i*U.wd x0.τ)++(a.eval y).cells.toList++cur.toList.drop (i*U.wd x0.τ+n)).toArray[m]? =
   if i*U.wd x0.τ<=m/\m<i*U.wd x0.τ+U.wd x0.τ then(a.eval y).cells.toList[m-i*U.wd x0.τ]? else cur[m]? :=by
  intro m
  have gI:(cur.toList.take (i*U.wd x0.τ)).length=i*U.wd x0.τ:=by rw[oc,FU,vA];omega
  rw[zed,xz]
  by_cases h2:m<i*U.wd x0.τ
  ·rw[xA (by omega),qn,if_pos h2,if_neg (by omega),Mt]
  ·rw[zC (by omega),gI]
   by_cases h3:m<i*U.wd x0.τ+U.wd x0.τ
   ·rw[if_pos ⟨by omega,h3⟩,xA (by omega)]
   ·rw[if_neg (by omega),zC (by omega),HB,hcz,K8,Mt]
    congr 1;omega
 have ad2:∀j,j<U.wd x0.τ->(a.eval y).cells.toList[j]? =some ((a.eval y).cells.toList.getD j undef):=fun j hj=>fF (by rw[hcz];exact hj)
 have ad1:∀j,j<U.wd x0.τ->gr ((a.eval y).cells.toList.getD j undef):=fun j hj=>by
  obtain⟨c,SF⟩:∃c,ds[j]? =some c:=⟨ds[j]'(by rw[hdl];exact hj),fw _⟩
  exact(f2 j c SF).gv
 let wj:Nat->Value:=fun m=>if i*U.wd x0.τ<=m/\m<i*U.wd x0.τ+U.wd x0.τ then(a.eval y).cells.toList.getD (m-i*U.wd x0.τ) undef else vs m
 let kx:Nat->List Nat:=fun m=>if i*U.wd x0.τ<=m/\m<i*U.wd x0.τ+U.wd x0.τ then fl.getD (m-i*U.wd x0.τ) [] else hZ m
 have Ib:∀j,j<U.wd x0.τ->wj (i*U.wd x0.τ+j)=(a.eval y).cells.toList.getD j undef/\kx (i*U.wd x0.τ+j)=fl.getD j []:=fun j hj=>by
  simp only[wj,kx]
  rw[if_pos ⟨by omega,by omega⟩,if_pos ⟨by omega,by omega⟩,show i*U.wd x0.τ+j-i*U.wd x0.τ=j by omega]
  exact⟨rfl,rfl⟩
 have wE:∀m,¬(i*U.wd x0.τ<=m/\m<i*U.wd x0.τ+U.wd x0.τ)->wj m=vs m/\kx m=hZ m:=fun m hm=>⟨if_neg hm,if_neg hm⟩
 have w6:∀{q j},j<U.wd x0.τ->q≠i->¬(i*U.wd x0.τ<=q*U.wd x0.τ+j/\q*U.wd x0.τ+j<i*U.wd x0.τ+U.wd x0.τ):=fun{q j} hj hq qv=>
  hq (Vj hj (show q*U.wd x0.τ+j-i*U.wd x0.τ<U.wd x0.τ by omega) (by omega)).1
 have Sy:∀j b',b'∈fl.getD j []->b'∈fl.flatten:=fun j b' bj=>by
  rcases pe j fl.length with g|g
  ·rw[ez,fw g] at bj
   exact Zf.2 ⟨_,FH g,bj⟩
  ·rw[ez,od g] at bj;cases bj
 have anj:fl.length=U.wd x0.τ:=by rw[f1,hdl]
 have V1:∀b',b'∈fl.flatten->b'∉fp k:=fun b' bj abk=>by
  obtain⟨k',cU,Gh⟩:=f4 b' bj
  obtain⟨e',abf⟩:=nf.1 (t2 k' cU)
  exact h.apart k' k e' _ b' (fun e=>uo.1 (e▸cU)) abf fc Gh abk
 have abe:∀m,m<x0.xs.length*U.wd x0.τ->∀b',b'∈hZ m->b'∈fp k:=fun m hm b' bj=>by
  rw[sZ];exact fA _ (oQ.2 ⟨m,pD.2 hm,bj⟩)
 have qv:∀b'∈b::(List.range (x0.xs.length*U.wd x0.τ)).flatMap kx,b'∈fl.flatten\/b'∈fp k:=by
  intro b' bj
  rcases jZ.1 bj with rfl|bj
  ·exact .inr iM
  ·obtain⟨m,vz,bj⟩:=oQ.1 bj
   rw[pD] at vz
   by_cases qv:i*U.wd x0.τ<=m/\m<i*U.wd x0.τ+U.wd x0.τ
   ·have:=(Ib (m-i*U.wd x0.τ) (by omega)).2
    rw[show i*U.wd x0.τ+(m-i*U.wd x0.τ)=m by omega] at this
    rw[this] at bj
    exact .inl (Sy _ b' bj)
   ·rw[(wE m qv).2] at bj
    exact .inr (abe m vz b' bj)
 have VR:(b::(List.range (x0.xs.length*U.wd x0.τ)).flatMap kx).Nodup:=by
  refine tY.2 ⟨fun bj=> ?_,?_⟩
  ·obtain⟨m,vz,bj⟩:=oQ.1 bj
   rw[pD] at vz
   by_cases qv:i*U.wd x0.τ<=m/\m<i*U.wd x0.τ+U.wd x0.τ
   ·have:=(Ib (m-i*U.wd x0.τ) (by omega)).2
    rw[show i*U.wd x0.τ+(m-i*U.wd x0.τ)=m by omega] at this
    rw[this] at bj
    exact V1 b (Sy _ b bj) iM
   ·rw[(wE m qv).2] at bj
    exact Xs (oQ.2 ⟨m,pD.2 vz,bj⟩)
  ·rw[adw anj] at f3
   rw[zdg,List.pairwise_flatMap]
   refine⟨fun m vz=> ?_,?_⟩
   ·rw[<-zdg]
    rw[pD] at vz
    by_cases qv:i*U.wd x0.τ<=m/\m<i*U.wd x0.τ+U.wd x0.τ
    ·have:=(Ib (m-i*U.wd x0.τ) (by omega)).2
     rw[show i*U.wd x0.τ+(m-i*U.wd x0.τ)=m by omega] at this
     rw[this]
     exact Vf f3 (t:=m-i*U.wd x0.τ) (pD.2 (by omega))
    ·rw[(wE m qv).2]
     exact Vf hnf (pD.2 vz)
   ·refine List.Pairwise.imp_of_mem ?_ (List.nodup_range (n:=x0.xs.length*U.wd x0.τ))
    intro m m' PQ J7 eZ b1 uh b2 ug uf
    subst uf
    rw[pD] at PQ J7
    by_cases qv:i*U.wd x0.τ<=m/\m<i*U.wd x0.τ+U.wd x0.τ
    ·have e1:=(Ib (m-i*U.wd x0.τ) (by omega)).2
     rw[show i*U.wd x0.τ+(m-i*U.wd x0.τ)=m by omega] at e1
     rw[e1] at uh
     by_cases abb:i*U.wd x0.τ<=m'/\m'<i*U.wd x0.τ+U.wd x0.τ
     ·have e2:=(Ib (m'-i*U.wd x0.τ) (by omega)).2
      rw[show i*U.wd x0.τ+(m'-i*U.wd x0.τ)=m' by omega] at e2
      rw[e2] at ug
      exact Ro f3 (t:=m-i*U.wd x0.τ) (t':=m'-i*U.wd x0.τ) (pD.2 (by omega)) (pD.2 (by omega)) (fun e=>eZ (by omega)) uh ug
     ·rw[(wE m' abb).2] at ug
      exact V1 b1 (Sy _ b1 uh) (abe m' J7 b1 ug)
    ·rw[(wE m qv).2] at uh
     by_cases abb:i*U.wd x0.τ<=m'/\m'<i*U.wd x0.τ+U.wd x0.τ
     ·have e2:=(Ib (m'-i*U.wd x0.τ) (by omega)).2
      rw[show i*U.wd x0.τ+(m'-i*U.wd x0.τ)=m' by omega] at e2
      rw[e2] at ug
      exact V1 b1 (Sy _ b1 ug) (abe m PQ b1 uh)
     ·rw[(wE m' abb).2] at ug
      exact Ro hnf (pD.2 PQ) (pD.2 J7) eZ uh ug
 have wo:∀b',F b'->F b'/\(w.setRow b (cur.toList.take (i*U.wd x0.τ)++(a.eval y).cells.toList++cur.toList.drop (i*U.wd x0.τ+n)).toArray).heap[b']? =w.heap[b']? :=fun b' bj=>
  ⟨bj,setRow_other w b b' _ (fun e=>hmk.1 (e▸bj))⟩
 have ud:∀b',b'≠b->(w.setRow b (cur.toList.take (i*U.wd x0.τ)++(a.eval y).cells.toList++cur.toList.drop (i*U.wd x0.τ+n)).toArray).heap[b']? =w.heap[b']? :=fun b' bj=>setRow_other w b b' _ bj
 refine Rg exec (hnx F kv (dD fp k (b::(List.range (x0.xs.length*U.wd x0.τ)).flatMap kx)) _ _ (h.UF ho k _ _ fc ks _ _ uo.1 ?_ wo (fun b' bj=> .inl bj) ?_ VR ?_ ?_))
 ·intro bad qR
  show eE E _ F _ ⟨x0.τ,x0.xs.set i yv⟩ (kv k) _
  refine .inr ⟨b,cap,_,wj,kx,by rw[h1,Me],setRow_heap w b cur _ _ _ hb,by rw[Me];exact hc,hm,?_,fun m vz=> ?_,fun q xq j c hq hxq hj=> ?_,fun q j hq hj=> ?_,by rw[Me]⟩
  ·simp only[UD,ko,oc,Mf,FU]
   have:=hcz
   rw[FU] at this
   rw[this,vA,K8];omega
  ·simp only[Me] at vz
   rw[aaL m]
   by_cases qv:i*U.wd x0.τ<=m/\m<i*U.wd x0.τ+U.wd x0.τ
   ·have e1:=(Ib (m-i*U.wd x0.τ) (by omega)).1
    rw[show i*U.wd x0.τ+(m-i*U.wd x0.τ)=m by omega] at e1
    rw[if_pos qv,e1]
    exact⟨ad2 _ (by omega),ad1 _ (by omega)⟩
   ·rw[if_neg qv,(wE m qv).1]
    exact hv m vz
  ·have PY:j<U.wd x0.τ:=by
    rw[<-U.dz x0.τ xq]
    rcases pe j (U.enc x0.τ xq).length with g|g
    ·exact g
    ·have ue:(U.enc x0.τ xq)[j]? =some c:=hj
     rw[od g] at ue;cases ue
   by_cases W9:q=i
   ·subst W9
    have F9:xq=yv:=by
     have F9:(x0.xs.set q yv)[q]? =some xq:=hxq
     rw[WR,if_pos rfl,if_pos hi] at F9
     exact(Zd F9).symm
    have hj:(U.enc x0.τ xq)[j]? =some c:=hj
    rw[F9] at hj
    show Rp E _ F true c (wj (q*U.wd x0.τ+j)) (kx (q*U.wd x0.τ+j))
    rw[(Ib j PY).1,(Ib j PY).2]
    have ue:ds[j]? =some c:=by rw[<-Il];exact hj
    refine(f2 j c ue).gg wo (fun b' bj=>ud b' (fun e=> ?_))
    exact V1 b' (Sy j b' bj) (e▸iM)
   ·show Rp E _ F true c (wj (q*U.wd x0.τ+j)) (kx (q*U.wd x0.τ+j))
    have Oa:=w6 PY W9
    rw[(wE _ Oa).1,(wE _ Oa).2]
    have F9:x0.xs[q]? =some xq:=by
     have F9:(x0.xs.set i yv)[q]? =some xq:=hxq
     rw[WR,if_neg (fun e=>W9 e.symm)] at F9
     exact F9
    have hdq:dead q=false:=by
     have hq:(!(Nat.beq q i)&&dead q)=false:=hq
     have hb0:Nat.beq q i=false:=by rw[<-wu,J5];exact W9
     rw[hb0] at hq
     simpa using hq
    refine(hrr q xq j c hdq F9 hj).gg wo (fun b' bj=>ud b' (fun e=> ?_))
    subst e
    exact Xs (oQ.2 ⟨_,pD.2 (fP F9 hj),bj⟩)
  ·have hq2:¬q=i/\dead q=true:=by
    have hq:(!(Nat.beq q i)&&dead q)=true:=hq
    rw[cJ,ru,<-wu,J5] at hq
    exact hq
   show kx (q*U.wd x0.τ+j)=[]
   have Oa:=w6 hj hq2.1
   rw[(wE _ Oa).2]
   exact kY q j hq2.2 hj
 ·intro k' e' cU lp uf b' bj
  exact ud b' (fun e=>h.apart k' k _ _ b' cU uf fc bj (by rw[e];exact iM))
 ·intro b' bj
  rcases qv b' bj with g|g
  ·obtain⟨k',cU,Gh⟩:=f4 b' g
   obtain⟨e',abf⟩:=nf.1 (t2 k' cU)
   exact⟨(h.fQ k' e' b' abf Gh).1,k',by simp[cU],t2 k' cU,Gh⟩
  ·exact⟨(h.fQ k _ b' fc g).1,k,by simp,by simp[fc],g⟩
 ·exact⟨rfl,rfl,rfl,by simp,fun b' _ K8=>ud b' (fun e=>K8 (by rw[e];exact hmk.2.1))⟩
end AM
