/- THE ABSTRACT MACHINE: rows of which some elements are gone: they are made, grow, are filled again. -/
import Derived.Test.YtjlajhgabffmpaaGreatQAmMove
namespace AM
set_option linter.unusedVariables false
open Go
variable{U:lu}{E:Env U}{pm:Pm}
variable{F F':Nat->Prop}{kv:Key->Value}{fp:Key->List Nat}{σ:ai U}{a:Act}{w w':World}{bad:Key->Bool}
variable(E) in
def O5(w:World)(F:Nat->Prop)(dead:Nat->Bool)(τ:U.Ty)(xs:List (U.T τ))(vs:List Value)(fl:List (List Nat)):Prop:=
 vs.length=xs.length*U.wd τ/\fl.length=xs.length*U.wd τ/\(∀v∈vs,gM v)/\
 (∀(i:Nat)(x:U.T τ)(j:Nat)(c:U.C),dead i=false->xs[i]? =some x->(U.enc τ x)[j]? =some c->Rp E w F true c (vs.getD (i*U.wd τ+j) undef) (fl.getD (i*U.wd τ+j) []))/\
 ∀i j,dead i=true->j<U.wd τ->fl.getD (i*U.wd τ+j) []=[]
theorem ac6{fl:List (List Nat)}{n:Nat}(h:fl.length=n):fl.flatten=(List.range n).flatMap fun m=>fl.getD m []:=by
 rw[O6]
 congr 1
 refine Um fun m=> ?_
 rw[nO]
 by_cases hn:m<n
 ·rw[NN hn,FR,eX,fH (by rw[h];exact hn)]
  rfl
 ·rw[ox (by rw[h];omega),ox (by simp;omega)]
  rfl
theorem eW.nS{dead:Nat->Bool}{τ:U.Ty}{xs:List (U.T τ)}{b cap:Nat}{cur:Array Value}{vs:List Value}{fl:List (List Nat)}(h2:w.heap[b]? =some (.cells cur (E.tid τ) (0,0)))(h3:xs.length<=cap)(h4:cap<=maxLen)
  (h5:cur.size=cap*U.wd τ) (h6:cur.toList.take (xs.length*U.wd τ)=vs) (h7:O5 E w F dead τ xs vs fl):eW E w F dead ⟨τ,xs⟩ (.slice (some ⟨b,0,none⟩) xs.length cap) (b::fl.flatten):=by
 have hle:xs.length*U.wd τ<=cap*U.wd τ:=AI _ h3
 refine .inr ⟨b,cap,cur,fun n=>vs.getD n undef,fun n=>fl.getD n [],rfl,h2,h3,h4,h5,fun i hi=> ?_,h7.2.2.2.1,h7.2.2.2.2,by rw[ac6 h7.2.1]⟩
 have qh:i<xs.length*U.wd τ:=hi
 have hvi:vs[i]? =some (vs.getD i undef):=fM (by rw[h7.1];exact qh)
 refine⟨?_,h7.2.2.1 _ (Gn hvi)⟩
 show cur[i]? =some (vs.getD i undef)
 rw[<-hvi,<-h6,qa,if_pos qh,Mt]
theorem eW.rows{dead:Nat->Bool}{x:jh U}{v:Value}{l:List Nat}(h:eW E w F dead x v l):
  (x.xs=[]/\(∃ad,v=.slice ad 0 0)/\l=[])\/
  ∃(b cap:Nat)(cur:Array Value)(vs:List Value)(fl:List (List Nat)),v=.slice (some ⟨b,0,none⟩) x.xs.length cap/\w.heap[b]? =some (.cells cur (E.tid x.τ) (0,0))/\x.xs.length<=cap/\cap<=maxLen/\
   cur.size=cap*U.wd x.τ/\cur.toList.take (x.xs.length*U.wd x.τ)=vs/\O5 E w F dead x.τ x.xs vs fl/\l=b::fl.flatten:=by
 rcases h with h|⟨b,cap,cur,vs,ic,h1,h2,h3,h4,h5,h6,h7,h8,h9⟩
 ·exact .inl h
 have hle:x.xs.length*U.wd x.τ<=cap*U.wd x.τ:=AI _ h3
 have sQ:∀n,n<x.xs.length*U.wd x.τ->(cur.toList.take (x.xs.length*U.wd x.τ))[n]? =some (vs n):=fun n hn=>by
  rw[qa,if_pos hn,Mt];exact(h6 n hn).1
 refine .inr ⟨b,cap,cur,_,(List.range (x.xs.length*U.wd x.τ)).map ic,h1,h2,h3,h4,h5,rfl,⟨by simp;omega,by simp,fun u hu=> ?_,fun i y j c hi hx hj=> ?_,fun i j hi hj=> ?_⟩,by rw[h9,O6]⟩
 ·obtain⟨n,hn,rfl⟩:=sn hu
  have wh:n<x.xs.length*U.wd x.τ:=by simp at hn;omega
  have sV:=sQ n wh
  rw[fH hn] at sV
  rw[YY sV]
  exact(h6 n wh).2
 ·have gZ:=fU hx hj
  have:=h7 i y j c hi hx hj
  rw[eX,sQ _ gZ,eX,nO,NN gZ]
  exact this
 ·rw[eX,nO]
  by_cases gZ:i*U.wd x.τ+j<x.xs.length*U.wd x.τ
  ·rw[NN gZ];exact h8 i j hi hj
  ·rw[ox (by simp;omega)];rfl
theorem e9.Es{deep:Bool}{τ:U.Ty}{xs:List (U.T τ)}{vs:List Value}{fl:List (List Nat)}(h:e9 E w F deep τ xs vs fl):∀v∈vs,gM v:=by
 intro v hv
 obtain⟨n,hn,rfl⟩:=sn hv
 obtain⟨i,x,j,c,rfl,_,_,hx,hj⟩:=acr (xs:=xs) (by rw[<-h.1];exact hn)
 have:=h.2.2 i x j c hx hj
 rw[eX,fH hn] at this
 exact this.gD
theorem e9.dead{τ:U.Ty}{xs zs:List (U.T τ)}{vs us:List Value}{fl:List (List Nat)}(h:e9 E w F true τ xs vs fl)(hl:us.length=zs.length*U.wd τ)(ho:∀u∈us,gM u):
  O5 E w F (fun i=>Nat.ble xs.length i) τ (xs++zs) (vs++us) (fl++List.replicate (zs.length*U.wd τ) []):=by
 refine⟨by simp[h.1,hl,xv],by simp[h.2.1,xv],fun v hv=> ?_,fun i x j c hi hx hj=> ?_,fun i j hi hj=> ?_⟩
 ·rcases jO.1 hv with hv|hv
  ·exact h.Es v hv
  ·exact ho v hv
 ·have qh:i<xs.length:=by
   rcases pa i xs.length with g|g
   ·exact g
   ·exact absurd ((Nat.ble_eq_true_of_le g).symm.trans hi) (by decide)
  rw[xx qh] at hx
  have:=fU hx hj
  rw[Kw (by rw[h.1];exact this),Kw (by rw[h.2.1];exact this)]
  exact h.2.2 i x j c hx hj
 ·have qh:=JZ hi
  have:xs.length*U.wd τ<=i*U.wd τ:=AI _ qh
  rw[Pq (by rw[h.2.1];omega),HG]
theorem acT:∀{xs:List (SV U)}{us:List Value}{wd:Nat},Ev wd xs=true->xs.length=us.length->(∀(i:Nat)(x:SV U)(u:Value),xs[i]? =some x->us[i]? =some u->RS E w F kv fp bad x u)->
  (∀u∈us,u.cells.size=wd)/\∀v∈us.flatMap (fun u=>u.cells.toList),gM v
 |[],[],_,_,_,_=>⟨by simp,by simp⟩
 |[],_::_,_,_,hl,_=>by simp at hl
 |_::_,[],_,_,hl,_=>by simp at hl
 |x::xs,u::us,wd,hk,hl,hx=>by
  cases x with
  |wm l=>cases hk
  |fn p=>cases hk
  |He g l=>cases hk
  |v x=>
   simp only[Ev,cO] at hk
   obtain⟨r1,r2⟩:=Pt (hx 0 (.v x) u rfl rfl)
   obtain⟨i1,i2⟩:=acT hk.2 (by simpa using hl) (fun i z v hz hv=>hx (i+1) z v (by simpa using hz) (by simpa using hv))
   refine⟨fun v hv=> ?_,fun v hv=> ?_⟩
   ·rcases kf.1 hv with rfl|hv
    ·rw[r2];exact nc hk.1
    ·exact i1 v hv
   ·rw[zt,jO] at hv
    rcases hv with hv|hv
    ·obtain⟨n,hn,rfl⟩:=sn hv
     have wh:n<x.cs.length:=by rw[r1.1];exact hn
     exact(r1.2 n x.cs[n] _ (fH wh) (fH hn)).1
    ·exact i2 v hv
theorem ak5(hE:E.Ok)(h:cQ E pm F kv fp σ a w){o:Oper}{d:Nat}(ho:o.dst=some d)(hd:d<σ.n){t e:TypeId}{len:Nat}{parts:Array (Nat×Operand)}(sj:o.op=.buildSlice t len parts)
  {τ:U.Ty} (uM:E.elem t=some e) (hc:E.code e=some τ) {xs:List (SV U)} (hx:xs.length=parts.toList.length)
  (hv:∀(i:Nat)(x:SV U)(q:Nat×Operand),xs[i]? =some x->parts.toList[i]? =some q->RS E w F kv fp (bR σ) x (a.eval q.2))
  (hlen:(parts.toList.map (·.1)).length=len) (aaP:((parts.toList.map (·.1)).zipIdx).all (fun(a,b)=>Nat.beq a b)=true) (hsm:len*U.wd τ<=1000000)
  (hkp:Ev (U.wd τ) xs=true)
  (od:¬Names σ (d,0)) {next:Act->World->Prop} {Q:Exit->Act->World->Prop}
  (hn:∀F kv fp a' w',cQ E pm F kv fp (AM.apply o ⟨some (one (.ref (d,0) [])),[(0,.part ⟨τ,List.replicate len (U.fq τ)⟩ (fun _=>true))],[],[],[]⟩ σ) a' w'->next a' w'):o.wp E.P a w next Q:=by
 obtain⟨zR,i,z,hi,hz,jy,PO,Xh,_⟩:=hE.code e τ hc
 have hu:=D9 uM
 have hw:=U.la τ
 obtain⟨r2,r3⟩:=acT (us:=parts.toList.map fun q=>a.eval q.2) hkp (by simp[hx]) (fun i x u Uo sN=>by
  rw[nO] at sN
  cases hq:parts.toList[i]? with
  |none=>rw[hq] at sN;cases sN
  |some q=>rw[hq] at sN;cases sN;exact hv i x q Uo hq)
 have A7:parts.toList.length=len:=by rw[<-hlen];simp
 have M_:(parts.map fun(i,x)=>(i,a.eval x)).toList=((parts.toList.map fun q=>a.eval q.2).zipIdx 0).map fun x=>(x.2,x.1):=by
  rw[zeo]
  refine Um fun n=> ?_
  rw[nO,nO,zej,nO]
  cases hq:parts.toList[n]? with
  |none=>rfl
  |some q=>
   simp only[FR,gJ,pb,vf,and_true]
   have h1:((parts.toList.map (·.1)).zipIdx)[n]? =some (q.1,n):=by
    rw[zej,nO,hq];simp
   have:=(sk.1 aaP) (q.1,n) (Gn h1)
   exact nc this
 have aao:¬len*i.size>2^24:=by rw[jy];omega
 have Nb:len<=maxLen:=by
  have:len<=len*U.wd τ:=Nat.le_mul_of_pos_right _ hw
  simp only[maxLen];omega
 have Gd:∀(l:List Value),(∀u∈l,u.cells.size=U.wd τ)->(l.flatMap fun u=>u.cells.toList).length=l.length*U.wd τ:=by
  intro l
  induction l with
  |nil=>intro _;simp
  |cons u l ih=>
   intro hl
   rw[zt,kI,ih (fun v hv=>hl v (cI _ hv)),FT,hl u gB,fY,xv,QU,zew]
 have fin:∀cells:Array Value,cells.toList=(parts.toList.map fun q=>a.eval q.2).flatMap (fun u=>u.cells.toList)->
   (Instr.buildSlice t len (parts.map fun(i,x)=>(i,a.eval x))).run E.P w=.ok (.slice (some ⟨w.heap.size,0,none⟩) len len) (w.alloc (.cells cells e))->o.wp E.P a w next Q:=by
  intro cells w8 jz
  have iH:cells.toList.length=len*U.wd τ:=by rw[w8,Gd _ r2];simp[A7]
  have vz:cells.size=len*U.wd τ:=by simpa using iH
  have kk:O5 E (w.alloc (.cells cells e)) F (fun _=>true) τ (List.replicate len (U.fq τ)) cells.toList (List.replicate (len*U.wd τ) []):=by
   refine⟨by rw[iH];simp,by simp,fun v hv=>r3 v (by rw[<-w8];exact hv),fun i x j c hi=>Bool.noConfusion hi,fun i j _ _=>HG⟩
  have oJ:=h.Fp (w':=w.alloc (.cells cells e)) (F':=F) ho hd (.part ⟨τ,List.replicate len (U.fq τ)⟩ (fun _=>true)) (one (.ref (d,0) [])) [] [] (.slice (some ⟨w.heap.size,0,none⟩) len len) (.slice (some ⟨w.heap.size,0,none⟩) len len) [w.heap.size] od
   (fun bad=>iD ⟨⟨rfl,trivial⟩,.inr (by simp only[RA,tU];rfl)⟩)
   (fun bad=>by
    have:=eW.nS (F:=F) (b:=w.heap.size) (cap:=len) (by rw[zR];exact heap_alloc_new w _) (by simp) Nb vz (by rw[Ul (by rw[iH];simp)]) kk
    rw[zee,zI] at this
    exact this)
   (fun b hb=>⟨hb,Bv w _ (h.uc b hb)⟩) (fun b hb=> .inl hb) (fun k e _ he b hb=>Bv w _ (HI h he hb)) (by simp)
   (fun b hb=>by
    rw[mF.1 hb]
    exact⟨fun hF=>by have:=h.uc _ hF;omega,.inr ⟨tR _,by simp⟩⟩) (iC.alloc _ _ _)
  refine sH (v:=.slice (some ⟨w.heap.size,0,none⟩) len len) (w':=w.alloc (.cells cells e)) ?_ (hn F _ _ _ _ oJ)
  unfold execOp;simp only[sj];exact iQ jz
 by_cases h0:len=0
 ·have Na:parts.toList=[]:=FU (by omega)
  have Sp:parts= #[]:=zJ Na
  subst h0
  refine fin #[] (by simp[Na]) ?_
  simp[Instr.buildSlice,run_underlying hu,Go.sizeOf,typeInfo,hi,Sp,Instr.fill,newRow,Array.range_zero']
 ·have PS:¬len*i.size=0:=by
   rw[jy]
   have:=Nat.mul_pos (Nat.pos_of_ne_zero h0) hw
   omega
  have SB:=Great.fill_whole (s:=i.size) (by rw[jy];exact hw) (parts.toList.map fun q=>a.eval q.2) ((Array.range (len*i.size)).map (z.cells[·%z.cells.size]!)) (fun v hv=>by rw[jy];exact r2 v hv) (by simp[A7])
  refine fin ((parts.toList.map fun q=>a.eval q.2).flatMap fun v=>v.cells.toList).toArray rfl (run_buildSlice w t e len _ _ i z hu hi hz aao PS ?_)
  rw[M_]
  exact SB
theorem al7(hE:E.Ok)(h:cQ E pm F kv fp σ a w){o:Oper}{d:Nat}(ho:o.dst=some d)(hd:d<σ.n){cl:Call}{t e:TypeId}{s x:Operand}(sj:o.op=.call cl)(iH:cl.callee=.builtin .append)
  (lH:cl.args.toList=[s,x]) (BP:cl.argTypes.toList=[t,t]) {τ:U.Ty} (uM:E.elem t=some e) (hc:E.code e=some τ) {ss sx:SV U} {ys yx:AC U}
  (hs:RS E w F kv fp (bR σ) ss (a.eval s)) (VN:u5 ss=some ys) (hx:RS E w F kv fp (bR σ) sx (a.eval x)) (hsx:u5 sx=some yx)
  {rs:List Key} {ps:List Prop} {xs zs:List (U.T τ)} {ks ks':List Key} {pall:List Prop}
  (ho1:uG τ (restrict σ.bM rs) ys=some (ps,xs,ks,true)) (KW:HQ τ (restrict σ.bM rs) yx=some (zs,ks')) (hp:∀p∈ps,p) (Ia:(ks++ks').Nodup) (hle:xs.length+zs.length<=4294967296)
  (od:¬Names σ (d,0)) {next:Act->World->Prop} {Q:Exit->Act->World->Prop}
  (hn:∀F kv fp a' w',cQ E pm F kv fp (AM.apply o ⟨some (one (.ref (d,0) [])),[(0,.part ⟨τ,xs++zs⟩ (fun i=>Nat.ble xs.length i))],ks++ks',[],pall⟩ σ) a' w'->next a' w'):o.wp E.P a w next Q:=by
 obtain⟨zR,i,z,hi,hz,jy,PO,Xh,_⟩:=hE.code e τ hc
 have hu:=D9 uM
 have hw:=U.la τ
 obtain⟨z0,lm,l,Ol,A8,P6⟩:=acI h ho1 hp (li hs VN)
 obtain⟨EL,us,wC,aaj,sO⟩:(∀k∈ks',(σ.bM k).isSome=true)/\∃us,us.length=zs.length*U.wd τ/\(∀u∈us,gM u)/\Src E.P w t (a.eval x) (U.wd τ) zs.length us:=by
  unfold HQ at KW
  split at KW
  ·rename_i k
   split at KW
   ·rename_i y dead he
    split at KW
    ·rename_i zs' WW
     cases KW
     have:=eE WW
     subst this
     have fo:=kj he
     have h1:a.eval x=kv k:=cw (li hx hsx) rfl
     have h2:eW E w F dead ⟨τ,zs⟩ (kv k) (fp k):=h.dV k _ fo
     rw[<-h1] at h2
     refine⟨by simp[fo],?_⟩
     rcases h2.rows with⟨h3,⟨ad,h4⟩,h5⟩|⟨b,cap,cur,vs,fl,h3,h4,h5,h6,h7,h8,h9,sV⟩
     ·simp only at h3;subst h3
      exact⟨[],by simp,by simp,by rw[h4];exact Src.slice hu (by simp) (fun hh=>by simp at hh)⟩
     ·simp only at h3 h4 h5 h7 h8 h9
      refine⟨vs,h9.1,h9.2.2.1,?_⟩
      rw[h3]
      refine Src.slice hu (h9.1) (fun _=>⟨b,0,rfl,fun i u sN=> ?_⟩)
      rw[<-h8,qa] at sN
      split at sN
      ·rw[cell_of_row w b _ cur _ (0,0) h4];simpa using sN
      ·cases sN
    ·cases KW
   ·cases KW
  ·cases KW
 rw[<-jy] at sO
 have jA:∀k∈ks++ks',(σ.bM k).isSome=true:=fun k hk=>(jO.1 hk).elim (lm k) (EL k)
 have exec:∀{v w1},(Builtin.append_ #[t,t] o.type #[a.eval s,a.eval x]).run E.P w=.ok v w1->(execOp a.eval o).run E.P w=.ok (.value v) w1:=by
  intro v w1 hr
  have ha:cl.args= #[s,x]:=zJ lH
  have ht:cl.argTypes= #[t,t]:=zJ BP
  unfold execOp;simp only[sj]
  simp[resolve,iH,ha,ht,invoke,builtin,hr]
 have Nb:∀{n:Nat},n<=4294967296->n<=maxLen:=fun hh=>by simp only[maxLen];omega
 have hnF:∀k∈ks++ks',∀b∈fp k,¬F b:=fun k hk b hb=>by
  obtain⟨e,he⟩:=m8.1 (jA k hk)
  exact(h.fV k e b he hb).1
 have hWb:∀k∈ks++ks',∀b∈fp k,(pm.W b\/pm.w0.heap.size<=b)/\b<w.heap.size:=fun k hk b hb=>by
  obtain⟨e,he⟩:=m8.1 (jA k hk)
  exact(h.fV k e b he hb).2
 have PR:∀(fl:List (List Nat)),(fl++List.replicate (zs.length*U.wd τ) ([]:List Nat)).flatten=fl.flatten:=fun fl=>by rw[Mf,zI,xr]
 have grow:∀(vs:List Value)(fl:List (List Nat)),e9 E w F true τ xs vs fl->fl.flatten.Nodup->(∀b∈fl.flatten,∃k∈ks,b∈fp k)->
   ∀{cap:Nat}{cur:Array Value}{w1:World},(∀b,b<w.heap.size->w1.heap[b]? =w.heap[b]?)->iC (fun b=>pm.W b\/pm.w0.heap.size<=b) w w1->w.heap.size<w1.heap.size->
   w1.heap[w.heap.size]? =some (.cells cur (E.tid τ) (0,0))->(xs++zs).length<=cap->cap<=maxLen->cur.size=cap*U.wd τ->cur.toList.take ((xs++zs).length*U.wd τ)=vs++us->
   next (a.put o.dst (.slice (some ⟨w.heap.size,0,none⟩) (xs++zs).length cap)) w1:=by
  intro vs fl h1 h2 h3 cap cur w1 zQ qz xu hb m_ hm vz A6
  have gZ:∀b∈fl.flatten,b<w.heap.size:=fun b hb=>by obtain⟨k,hk,hb⟩:=h3 b hb;exact(hWb k (by simp[hk]) b hb).2
  have oJ:=h.Fp ho hd (.part ⟨τ,xs++zs⟩ (fun i=>Nat.ble xs.length i)) (one (.ref (d,0) [])) (ks++ks') pall (.slice (some ⟨w.heap.size,0,none⟩) (xs++zs).length cap) (.slice (some ⟨w.heap.size,0,none⟩) (xs++zs).length cap) (w.heap.size::fl.flatten) (w':=w1) (F':=F) od
   (fun bad=>iD ⟨⟨rfl,trivial⟩,.inr (by simp only[RA,tU];rfl)⟩)
   (fun bad=>by
    have:=eW.nS hb m_ hm vz A6 ((h1.gx (fun b' bg=>⟨bg,zQ b' (h.uc b' bg)⟩) (fun b' bg=>zQ b' (gZ b' bg))).dead wC aaj)
    rw[PR] at this
    exact this)
   (fun b' bg=>⟨bg,zQ b' (h.uc b' bg)⟩) (fun b' bg=> .inl bg) (fun k e _ he b' bg=>zQ b' (HI h he bg))
   (tS.2 ⟨fun bg=>by have:=gZ _ bg;omega,h2⟩)
   (fun b' bg=>by
    rcases kf.1 bg with rfl|bg
    ·exact⟨fun hF=>by have:=h.uc _ hF;omega,.inr ⟨tR _,xu⟩⟩
    ·obtain⟨k,hk,jg⟩:=h3 b' bg
     exact⟨hnF k (by simp[hk]) b' jg,.inl ⟨k,by simp[hk],lm k hk,jg⟩⟩) qz
  exact hn _ _ _ _ _ oJ
 have xX:∀{b cap:Nat}{cur':Array Value}{vs:List Value}{fl:List (List Nat)}{w1:World},e9 E w F true τ xs vs fl->l=b::fl.flatten->(∀b',b'≠b->w1.heap[b']? =w.heap[b']?)->w1.heap.size=w.heap.size->
   w1.os=w.os->w1.tape=w.tape->w1.output=w.output->w1.heap[b]? =some (.cells cur' (E.tid τ) (0,0))->(xs++zs).length<=cap->cap<=maxLen->cur'.size=cap*U.wd τ->cur'.toList.take ((xs++zs).length*U.wd τ)=vs++us->
   next (a.put o.dst (.slice (some ⟨b,0,none⟩) (xs++zs).length cap)) w1:=by
  intro b cap cur' vs fl w1 kk hl zQ xu hos htp wZ hb m_ hm vz A6
  subst hl
  have jg:∃k∈ks,b∈fp k:=P6 b (by simp)
  obtain⟨kb,P8,If⟩:=jg
  have hbF:¬F b:=hnF kb (by simp[P8]) b If
  have qz:iC (fun b=>pm.W b\/pm.w0.heap.size<=b) w w1:=⟨hos,htp,wZ,by omega,fun k hk KX=>zQ k (fun e=>KX (e▸(hWb kb (by simp[P8]) b If).1))⟩
  have H7:∀k e,k∉ks++ks'->σ.bM k=some e->∀b'∈fp k,w1.heap[b']? =w.heap[b']? :=fun k e hk he b' bg=>zQ b' (fun e'=>by
   subst e'
   obtain⟨eb,heb⟩:=m8.1 (lm kb P8)
   exact h.apart kb k eb e b' (fun e'=>hk (by subst e';simp[P8])) heb he If bg)
  have Xi:=(tS.1 A8).1
  have oJ:=h.Fp ho hd (.part ⟨τ,xs++zs⟩ (fun i=>Nat.ble xs.length i)) (one (.ref (d,0) [])) (ks++ks') pall _ (.slice (some ⟨b,0,none⟩) (xs++zs).length cap) (b::fl.flatten) (w':=w1) (F':=F) od
   (fun bad=>iD ⟨⟨rfl,trivial⟩,.inr (by simp only[RA,tU];rfl)⟩)
   (fun bad=>by
    have:=eW.nS hb m_ hm vz A6 ((kk.gx (fun b' bg=>⟨bg,zQ b' (fun e=>hbF (e▸bg))⟩) (fun b' bg=>zQ b' (fun e=>Xi (e▸bg)))).dead wC aaj)
    rw[PR] at this
    exact this)
   (fun b' bg=>⟨bg,zQ b' (fun e=>hbF (e▸bg))⟩) (fun b' bg=> .inl bg) H7 A8
   (fun b' bg=>by obtain⟨k,hk,bg⟩:=P6 b' bg;exact⟨hnF k (by simp[hk]) b' bg,.inl ⟨k,by simp[hk],lm k hk,bg⟩⟩) qz
  exact hn _ _ _ _ _ oJ
 have aai:∀u∈us,u.oneCell'=true:=fun u hu=>(aaj u hu).1
 have EM:(xs.length+zs.length)*i.bytes<=140737488355328:=by
  have:=Nat.mul_le_mul hle Xh
  omega
 by_cases aS:zs.length=0
 ·have Sf:zs=[]:=FU aS
  subst Sf
  have wY:us=[]:=FU (by simpa using wC)
  rcases Ol.rows with⟨h3,⟨QD,h4⟩,h5⟩|⟨b,cap,cur,vs,fl,h3,h4,h5,h6,h7,h8,h9,sV⟩
  ·simp only at h3;subst h3
   have hr:=exec (v:=.slice QD 0 0) (w1:=w) (by rw[h4];exact UT w hu hi _ _ _ (by rw[wY] at sO;exact sO) (tR _))
   refine sH hr ?_
   have oJ:=h.Fp ho hd (.part ⟨τ,[]⟩ (fun i=>Nat.ble ([]:List (U.T τ)).length i)) (one (.ref (d,0) [])) (ks++ks') pall (.slice QD 0 0) (.slice QD 0 0) [] (w':=w) (F':=F) od
    (fun bad=>iD ⟨⟨rfl,trivial⟩,.inr (by simp only[RA,tU];rfl)⟩) (fun bad=> .inl ⟨rfl,⟨QD,rfl⟩,rfl⟩) (fun b hb=>⟨hb,rfl⟩) (fun b hb=> .inl hb) (fun _ _ _ _ _ _=>rfl) (by simp) (by simp) (iC.refl _ _)
   exact hn _ _ _ _ _ oJ
  ·simp only at h3 h4 h5 h7 h8 h9
   have hr:=exec (v:=.slice (some ⟨b,0,none⟩) xs.length cap) (w1:=w) (by rw[h3];exact UT w hu hi _ _ _ (by rw[wY] at sO;exact sO) h5)
   refine sH hr ?_
   have:=xX (b:=b) (cap:=cap) (cur':=cur) (vs:=vs) (fl:=fl) (w1:=w) h9 sV (fun _ _=>rfl) rfl rfl rfl rfl h4 (by simpa using h5) h6 h7 (by rw[wY,xr,xr];exact h8)
   simpa using this
 ·have aay:us.length=zs.length*i.size:=by rw[jy];exact wC
  have grown:∀(vs:List Value)(fl:List (List Nat)),vs.length=xs.length*U.wd τ->e9 E w F true τ xs vs fl->fl.flatten.Nodup->(∀b∈fl.flatten,∃k∈ks,b∈fp k)->
    ∀HS:Nat,HS<xs.length+zs.length->(Builtin.append_ #[t,t] o.type #[a.eval s,a.eval x]).run E.P w=
     .ok (.slice (some ⟨w.heap.size,0,none⟩) (xs.length+zs.length) (grownCap w (xs.length+zs.length) HS e)) (w.drew.alloc (.cells (vs.toArray++us.toArray++Builtin.zeroCells z.cells (grownCap w (xs.length+zs.length) HS e-(xs.length+zs.length))) e))->
    o.wp E.P a w next Q:=by
   intro vs fl F9 h1 h2 h3 HS hold jz
   refine sH (exec jz) ?_
   have hge:=grownCap_ge w (xs.length+zs.length) HS e
   have:=grow vs fl h1 h2 h3 (cap:=grownCap w (xs.length+zs.length) HS e) (cur:=vs.toArray++us.toArray++Builtin.zeroCells z.cells (grownCap w (xs.length+zs.length) HS e-(xs.length+zs.length)))
    (w1:=w.drew.alloc (.cells (vs.toArray++us.toArray++Builtin.zeroCells z.cells (grownCap w (xs.length+zs.length) HS e-(xs.length+zs.length))) e))
    (fun b hb=>Bv w.drew _ hb) ((iC.drew _ _).trans (iC.alloc _ _ _)) (by simp) (by rw[zR];exact heap_alloc_new w.drew _) (by simpa using hge) (grownCap_le_maxLen w _ HS e (Nb hle))
    (by
     simp only[Array.size_append,WH,size_zeroCells,PO,F9,wC,<-xv]
     congr 1;omega)
    (by
     have A8:((xs++zs).length*U.wd τ)=(vs++us).length:=by simp[F9,wC,xv]
     simp only[Array.toList_append,xw]
     rw[<-xw,A8]
     exact List.take_left)
   simpa using this
  rcases Ol.rows with⟨h3,⟨QD,h4⟩,h5⟩|⟨b,cap,cur,vs,fl,h3,h4,h5,h6,h7,h8,h9,sV⟩
  ·simp only at h3;subst h3
   refine grown [] [] (by simp) e9.nil (by simp) (by simp) 0 (by omega) ?_
   rw[h4]
   simp only[fG,vf] at EM hle⊢
   cases QD with
   |none=>
    have hr:=acq (ty:=o.type) w hu hi hz sO (by omega) (by omega) (by omega)
    simpa using hr
   |some a'=>
    have hr:=UW (ty:=o.type) w hu hi hz a' 0 0 [] (by simp) (by simp) sO (by omega) (by omega) (growslice_fits (by omega) (by simpa using EM))
    simpa using hr
  ·simp only at h3 h4 h5 h7 h8 h9
   have F9:vs.length=xs.length*U.wd τ:=h9.1
   by_cases xY:xs.length+zs.length<=cap
   ·have Qb:xs.length*i.size+us.length<=cur.size:=by rw[aay,jy,h7,<-xv];exact AI _ xY
    have hr:=acp (ty:=o.type) w hu hi b xs.length cap cur (by rw[<-zR];exact h4) sO aai xY Qb
    rw[<-h3] at hr
    refine sH (exec hr) ?_
    have:=xX (b:=b) (cap:=cap) (cur':=(cur.toList.take (xs.length*i.size)++us++cur.toList.drop (xs.length*i.size+us.length)).toArray) (vs:=vs) (fl:=fl)
     (w1:=w.setRow b (cur.toList.take (xs.length*i.size)++us++cur.toList.drop (xs.length*i.size+us.length)).toArray) h9 sV (fun b' bg=>setRow_other w b b' _ bg) (by simp) rfl rfl rfl (setRow_heap w b cur _ _ _ h4) (by simpa using xY) h6
     (by
      simp only[WH,kI,oz,Me,FT]
      omega)
     (by
      have A8:((xs++zs).length*U.wd τ)=(vs++us).length:=by simp[F9,wC,xv]
      rw[jy,h8,A8]
      exact List.take_left)
    simpa using this
   ·refine grown vs fl F9 h9 (by rw[sV] at A8;exact(tS.1 A8).2) (fun b' bg=>P6 b' (by rw[sV];simp[bg])) cap (by omega) ?_
    rw[h3]
    refine UW (ty:=o.type) w hu hi hz ⟨b,0,none⟩ xs.length cap vs (by rw[jy];exact F9) (fun j u hu=> ?_) sO (by omega) (by omega) (growslice_fits (by omega) EM)
    rw[Addr.add_mid,vf,cell_of_row w b _ cur _ (0,0) h4]
    rw[<-h8,qa] at hu
    split at hu
    ·simpa using hu
    ·cases hu
theorem ajN(h:cQ E pm F kv fp σ a w){o:Oper}(ho:o.dst=none){t:TypeId}{x y:Operand}(sj:o.op=.store t x y){sx:SV U}{yx:AC U}{z:AV U}{n:Nat}{rs:List Key}{r:cm U}
  (hx:RS E w F kv fp (bR σ) sx (a.eval x)) (yc:u5 sx=some yx) (hy:RS E w F kv fp (bR σ) (.v z) (a.eval y)) (hs:E.size t=some n) (hn:n=z.cs.length)
  (hr:zB (restrict σ.bM rs) z yx=some r) (hp:∀p∈r.pre,p) {next:Act->World->Prop} {Q:Exit->Act->World->Prop}
  (hnx:∀F kv fp a' w',cQ E pm F kv fp (AM.apply o r σ) a' w'->next a' w'):o.wp E.P a w next Q:=by
 have BQ:=li hx yc
 obtain⟨dw,sM⟩:=Pt hy
 unfold zB at hr
 split at hr
 rotate_left
 ·cases hr
 rename_i k i wd
 split at hr
 rotate_left
 ·cases hr
 rename_i x0 dead he
 have fo:=kj he
 rw[iu] at hr
 split at hr
 rotate_left
 ·cases hr
 rename_i ni
 simp only[cO] at ni
 have vt:=nc ni.1
 have hzl:=nc ni.2
 subst vt
 split at hr
 rotate_left
 ·cases hr
 rename_i qs ds ks A6
 split at hr
 rotate_left
 ·cases hr
 rename_i yv No
 rw[iu] at hr
 split at hr
 rotate_left
 ·cases hr
 rename_i sT
 cases hr
 have uf:=tS.1 (uC.1 sT)
 have hi:i<x0.xs.length:=hp _ (by simp)
 obtain⟨t1,t2,t3,_⟩:=MM h A6 (fun q hq=>hp q (by simp[hq])) dw uf.2
 obtain⟨fl,f1,f2,f3,f4⟩:=t3 rfl
 have Ic:=U.mQ x0.τ ds yv No
 have hdl:ds.length=U.wd x0.τ:=by rw[<-Ic,U.dK]
 have oa:eW E w F dead x0 (kv k) (fp k):=h.dV k _ fo
 have qD:=h.nodup k _ fo
 rcases oa with⟨h0,_⟩|⟨b,cap,cur,vs,ic,h1,hb,hc,hm,vz,hv,hrr,kY,sR⟩
 ·rw[h0] at hi;simp at hi
 obtain⟨bb,oo,nn,cc,oc,hpv⟩:=cw BQ (by simp[iX])
 simp only[pe] at oc
 rw[h1] at oc
 simp only[Value.slice.injEq,gJ,Addr.mk.injEq,and_true] at oc
 obtain⟨⟨e1,e2⟩,_,_⟩:=oc
 rw[e1,e2,vf,JV] at hpv
 have hN:i*U.wd x0.τ+U.wd x0.τ<=x0.xs.length*U.wd x0.τ:=by
  have:(i+1)*U.wd x0.τ<=x0.xs.length*U.wd x0.τ:=AI _ hi
  rw[xv,QU] at this
  exact this
 have hNc:x0.xs.length*U.wd x0.τ<=cap*U.wd x0.τ:=AI _ hc
 have KX:n=U.wd x0.τ:=by rw[hn,hzl]
 have hcz:(a.eval y).cells.toList.length=U.wd x0.τ:=by rw[FT,sM,hzl]
 have jz:=UQ (P:=E.P) (n:=n) (off:=i*U.wd x0.τ) (v:=a.eval y) hs (by rw[sM];exact hn.symm) dw.gD hb (by rw[vz,KX];omega)
 rw[<-hpv] at jz
 have exec:(execOp a.eval o).run E.P w=.ok .skip (w.setRow b (cur.toList.take (i*U.wd x0.τ)++(a.eval y).cells.toList++cur.toList.drop (i*U.wd x0.τ+n)).toArray):=by
  unfold execOp;simp only[sj]
  rw[Sem.run_bind,jz];rfl
 have jg:b∈fp k:=by rw[sR];simp
 have hmk:=h.fV k _ b fo jg
 rw[sR] at qD
 obtain⟨Xi,hnf⟩:=tS.1 qD
 have aau:∀m,(cur.toList.take (i*U.wd x0.τ)++(a.eval y).cells.toList++cur.toList.drop (i*U.wd x0.τ+n)).toArray[m]? =
   if i*U.wd x0.τ<=m/\m<i*U.wd x0.τ+U.wd x0.τ then(a.eval y).cells.toList[m-i*U.wd x0.τ]? else cur[m]? :=by
  intro m
  have gZ:(cur.toList.take (i*U.wd x0.τ)).length=i*U.wd x0.τ:=by rw[oz,FT,vz];omega
  rw[zed,xw]
  by_cases h2:m<i*U.wd x0.τ
  ·rw[xx (by omega),qa,if_pos h2,if_neg (by omega),Mt]
  ·rw[zu (by omega),gZ]
   by_cases h3:m<i*U.wd x0.τ+U.wd x0.τ
   ·rw[if_pos ⟨by omega,h3⟩,xx (by omega)]
   ·rw[if_neg (by omega),zu (by omega),Hu,hcz,KX,Mt]
    congr 1;omega
 have adB:∀j,j<U.wd x0.τ->(a.eval y).cells.toList[j]? =some ((a.eval y).cells.toList.getD j undef):=fun j hj=>fM (by rw[hcz];exact hj)
 have adA:∀j,j<U.wd x0.τ->gM ((a.eval y).cells.toList.getD j undef):=fun j hj=>by
  obtain⟨c,SH⟩:∃c,ds[j]? =some c:=⟨ds[j]'(by rw[hdl];exact hj),fH _⟩
  exact(f2 j c SH).gD
 let wc:Nat->Value:=fun m=>if i*U.wd x0.τ<=m/\m<i*U.wd x0.τ+U.wd x0.τ then(a.eval y).cells.toList.getD (m-i*U.wd x0.τ) undef else vs m
 let kG:Nat->List Nat:=fun m=>if i*U.wd x0.τ<=m/\m<i*U.wd x0.τ+U.wd x0.τ then fl.getD (m-i*U.wd x0.τ) [] else ic m
 have H4:∀j,j<U.wd x0.τ->wc (i*U.wd x0.τ+j)=(a.eval y).cells.toList.getD j undef/\kG (i*U.wd x0.τ+j)=fl.getD j []:=fun j hj=>by
  simp only[wc,kG]
  rw[if_pos ⟨by omega,by omega⟩,if_pos ⟨by omega,by omega⟩,show i*U.wd x0.τ+j-i*U.wd x0.τ=j by omega]
  exact⟨rfl,rfl⟩
 have wB:∀m,¬(i*U.wd x0.τ<=m/\m<i*U.wd x0.τ+U.wd x0.τ)->wc m=vs m/\kG m=ic m:=fun m hm=>⟨if_neg hm,if_neg hm⟩
 have wZ:∀{q j},j<U.wd x0.τ->q≠i->¬(i*U.wd x0.τ<=q*U.wd x0.τ+j/\q*U.wd x0.τ+j<i*U.wd x0.τ+U.wd x0.τ):=fun{q j} hj hq qg=>
  hq (Vg hj (show q*U.wd x0.τ+j-i*U.wd x0.τ<U.wd x0.τ by omega) (by omega)).1
 have SA:∀j b',b'∈fl.getD j []->b'∈fl.flatten:=fun j b' bg=>by
  rcases pa j fl.length with g|g
  ·rw[eX,fH g] at bg
   exact Y0.2 ⟨_,FJ g,bg⟩
  ·rw[eX,ox g] at bg;cases bg
 have amu:fl.length=U.wd x0.τ:=by rw[f1,hdl]
 have VW:∀b',b'∈fl.flatten->b'∉fp k:=fun b' bg aaX=>by
  obtain⟨k',db,Gh⟩:=f4 b' bg
  obtain⟨e',aaS⟩:=m8.1 (t2 k' db)
  exact h.apart k' k e' _ b' (fun e=>uf.1 (e▸db)) aaS fo Gh aaX
 have aaR:∀m,m<x0.xs.length*U.wd x0.τ->∀b',b'∈ic m->b'∈fp k:=fun m hm b' bg=>by
  rw[sR];exact cI _ (ow.2 ⟨m,pq.2 hm,bg⟩)
 have qg:∀b'∈b::(List.range (x0.xs.length*U.wd x0.τ)).flatMap kG,b'∈fl.flatten\/b'∈fp k:=by
  intro b' bg
  rcases kf.1 bg with rfl|bg
  ·exact .inr jg
  ·obtain⟨m,vw,bg⟩:=ow.1 bg
   rw[pq] at vw
   by_cases qg:i*U.wd x0.τ<=m/\m<i*U.wd x0.τ+U.wd x0.τ
   ·have:=(H4 (m-i*U.wd x0.τ) (by omega)).2
    rw[show i*U.wd x0.τ+(m-i*U.wd x0.τ)=m by omega] at this
    rw[this] at bg
    exact .inl (SA _ b' bg)
   ·rw[(wB m qg).2] at bg
    exact .inr (aaR m vw b' bg)
 have VP:(b::(List.range (x0.xs.length*U.wd x0.τ)).flatMap kG).Nodup:=by
  refine tS.2 ⟨fun bg=> ?_,?_⟩
  ·obtain⟨m,vw,bg⟩:=ow.1 bg
   rw[pq] at vw
   by_cases qg:i*U.wd x0.τ<=m/\m<i*U.wd x0.τ+U.wd x0.τ
   ·have:=(H4 (m-i*U.wd x0.τ) (by omega)).2
    rw[show i*U.wd x0.τ+(m-i*U.wd x0.τ)=m by omega] at this
    rw[this] at bg
    exact VW b (SA _ b bg) jg
   ·rw[(wB m qg).2] at bg
    exact Xi (ow.2 ⟨m,pq.2 vw,bg⟩)
  ·rw[ac6 amu] at f3
   rw[zdg,List.pairwise_flatMap]
   refine⟨fun m vw=> ?_,?_⟩
   ·rw[<-zdg]
    rw[pq] at vw
    by_cases qg:i*U.wd x0.τ<=m/\m<i*U.wd x0.τ+U.wd x0.τ
    ·have:=(H4 (m-i*U.wd x0.τ) (by omega)).2
     rw[show i*U.wd x0.τ+(m-i*U.wd x0.τ)=m by omega] at this
     rw[this]
     exact Vc f3 (t:=m-i*U.wd x0.τ) (pq.2 (by omega))
    ·rw[(wB m qg).2]
     exact Vc hnf (pq.2 vw)
   ·refine List.Pairwise.imp_of_mem ?_ (List.nodup_range (n:=x0.xs.length*U.wd x0.τ))
    intro m m' PV JX fg b1 tZ b2 tY tX
    subst tX
    rw[pq] at PV JX
    by_cases qg:i*U.wd x0.τ<=m/\m<i*U.wd x0.τ+U.wd x0.τ
    ·have e1:=(H4 (m-i*U.wd x0.τ) (by omega)).2
     rw[show i*U.wd x0.τ+(m-i*U.wd x0.τ)=m by omega] at e1
     rw[e1] at tZ
     by_cases aaO:i*U.wd x0.τ<=m'/\m'<i*U.wd x0.τ+U.wd x0.τ
     ·have e2:=(H4 (m'-i*U.wd x0.τ) (by omega)).2
      rw[show i*U.wd x0.τ+(m'-i*U.wd x0.τ)=m' by omega] at e2
      rw[e2] at tY
      exact Rw f3 (t:=m-i*U.wd x0.τ) (t':=m'-i*U.wd x0.τ) (pq.2 (by omega)) (pq.2 (by omega)) (fun e=>fg (by omega)) tZ tY
     ·rw[(wB m' aaO).2] at tY
      exact VW b1 (SA _ b1 tZ) (aaR m' JX b1 tY)
    ·rw[(wB m qg).2] at tZ
     by_cases aaO:i*U.wd x0.τ<=m'/\m'<i*U.wd x0.τ+U.wd x0.τ
     ·have e2:=(H4 (m'-i*U.wd x0.τ) (by omega)).2
      rw[show i*U.wd x0.τ+(m'-i*U.wd x0.τ)=m' by omega] at e2
      rw[e2] at tY
      exact VW b1 (SA _ b1 tY) (aaR m PV b1 tZ)
     ·rw[(wB m' aaO).2] at tY
      exact Rw hnf (pq.2 PV) (pq.2 JX) fg tZ tY
 have wj:∀b',F b'->F b'/\(w.setRow b (cur.toList.take (i*U.wd x0.τ)++(a.eval y).cells.toList++cur.toList.drop (i*U.wd x0.τ+n)).toArray).heap[b']? =w.heap[b']? :=fun b' bg=>
  ⟨bg,setRow_other w b b' _ (fun e=>hmk.1 (e▸bg))⟩
 have tW:∀b',b'≠b->(w.setRow b (cur.toList.take (i*U.wd x0.τ)++(a.eval y).cells.toList++cur.toList.drop (i*U.wd x0.τ+n)).toArray).heap[b']? =w.heap[b']? :=fun b' bg=>setRow_other w b b' _ bg
 refine Rn exec (hnx F kv (dQ fp k (b::(List.range (x0.xs.length*U.wd x0.τ)).flatMap kG)) _ _ (h.UD ho k _ _ fo ks _ _ uf.1 ?_ wj (fun b' bg=> .inl bg) ?_ VP ?_ ?_))
 ·intro bad qB
  show eW E _ F _ ⟨x0.τ,x0.xs.set i yv⟩ (kv k) _
  refine .inr ⟨b,cap,_,wc,kG,by rw[h1,Md],setRow_heap w b cur _ _ _ hb,by rw[Md];exact hc,hm,?_,fun m vw=> ?_,fun q xq j c hq hxq hj=> ?_,fun q j hq hj=> ?_,by rw[Md]⟩
  ·simp only[WH,kI,oz,Me,FT]
   have:=hcz
   rw[FT] at this
   rw[this,vz,KX];omega
  ·simp only[Md] at vw
   rw[aau m]
   by_cases qg:i*U.wd x0.τ<=m/\m<i*U.wd x0.τ+U.wd x0.τ
   ·have e1:=(H4 (m-i*U.wd x0.τ) (by omega)).1
    rw[show i*U.wd x0.τ+(m-i*U.wd x0.τ)=m by omega] at e1
    rw[if_pos qg,e1]
    exact⟨adB _ (by omega),adA _ (by omega)⟩
   ·rw[if_neg qg,(wB m qg).1]
    exact hv m vw
  ·have P9:j<U.wd x0.τ:=by
    rw[<-U.dK x0.τ xq]
    rcases pa j (U.enc x0.τ xq).length with g|g
    ·exact g
    ·have ug:(U.enc x0.τ xq)[j]? =some c:=hj
     rw[ox g] at ug;cases ug
   by_cases W3:q=i
   ·subst W3
    have F8:xq=yv:=by
     have F8:(x0.xs.set q yv)[q]? =some xq:=hxq
     rw[WJ,if_pos rfl,if_pos hi] at F8
     exact(YY F8).symm
    have hj:(U.enc x0.τ xq)[j]? =some c:=hj
    rw[F8] at hj
    show Rp E _ F true c (wc (q*U.wd x0.τ+j)) (kG (q*U.wd x0.τ+j))
    rw[(H4 j P9).1,(H4 j P9).2]
    have ug:ds[j]? =some c:=by rw[<-Ic];exact hj
    refine(f2 j c ug).gx wj (fun b' bg=>tW b' (fun e=> ?_))
    exact VW b' (SA j b' bg) (e▸jg)
   ·show Rp E _ F true c (wc (q*U.wd x0.τ+j)) (kG (q*U.wd x0.τ+j))
    have Og:=wZ P9 W3
    rw[(wB _ Og).1,(wB _ Og).2]
    have F8:x0.xs[q]? =some xq:=by
     have F8:(x0.xs.set i yv)[q]? =some xq:=hxq
     rw[WJ,if_neg (fun e=>W3 e.symm)] at F8
     exact F8
    have hdq:dead q=false:=by
     have hq:(!(Nat.beq q i)&&dead q)=false:=hq
     have hb0:Nat.beq q i=false:=by rw[<-wl,JU];exact W3
     rw[hb0] at hq
     simpa using hq
    refine(hrr q xq j c hdq F8 hj).gx wj (fun b' bg=>tW b' (fun e=> ?_))
    subst e
    exact Xi (ow.2 ⟨_,pq.2 (fU F8 hj),bg⟩)
  ·have hq2:¬q=i/\dead q=true:=by
    have hq:(!(Nat.beq q i)&&dead q)=true:=hq
    rw[cO,ra,<-wl,JU] at hq
    exact hq
   show kG (q*U.wd x0.τ+j)=[]
   have Og:=wZ hj hq2.1
   rw[(wB _ Og).2]
   exact kY q j hq2.2 hj
 ·intro k' e' db lm tX b' bg
  exact tW b' (fun e=>h.apart k' k _ _ b' db tX fo bg (by rw[e];exact jg))
 ·intro b' bg
  rcases qg b' bg with g|g
  ·obtain⟨k',db,Gh⟩:=f4 b' g
   obtain⟨e',aaS⟩:=m8.1 (t2 k' db)
   exact⟨(h.fV k' e' b' aaS Gh).1,k',by simp[db],t2 k' db,Gh⟩
  ·exact⟨(h.fV k _ b' fo g).1,k,by simp,by simp[fo],g⟩
 ·exact⟨rfl,rfl,rfl,by simp,fun b' _ KX=>tW b' (fun e=>KX (by rw[e];exact hmk.2.1))⟩
end AM
