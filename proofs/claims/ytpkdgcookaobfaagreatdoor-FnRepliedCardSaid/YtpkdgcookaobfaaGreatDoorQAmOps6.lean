/- THE ABSTRACT MACHINE: the operations that make memory. -/
import Derived.Test.YtpkdgcookaobfaaGreatDoorQAmTake
import Derived.Laws.MakeOwn
namespace AM
set_option linter.unusedVariables false
open Go
variable{U:lz}{E:Env U}{pm:Pm}
variable{F F':Nat->Prop}{kv:Key->Value}{fp:Key->List Nat}{σ:ak U}{a:Act}{w w':World}{bad:Key->Bool}
def dD{β:Type}(f:Key->β)(k:Key)(v:β):Key->β:=fun k'=>if k'=k then v else f k'
theorem t_{β:Type}{f:Key->β}{k:Key}{v:β}:dD f k v k=v:=by simp[dD]
theorem BC{β:Type}{f:Key->β}{k k':Key}{v:β}(h:k'≠k):dD f k v k'=f k':=by simp[dD,h]
structure Env.Ok(E:Env U):Prop where
 code:∀e τ,E.code e=some τ->E.tid τ=e/\∃i z,E.P.info? e=some i/\i.zero=some z/\i.size=U.wd τ/\z.cells.size=U.wd τ/\i.bytes<=4096/\
  ∀(j:Nat)(c:U.C),(U.enc τ (U.e6 τ))[j]? =some c->∃u,z.cells[j]? =some u/\((c=.lit u/\gr u)\/∃Gj,c=.sl Gj []/\u=.slice none 0 0)
 mixed:E.P.follows .mixedOrders=true
theorem cM.Fo(h:cM E pm F kv fp σ a w){o:Oper}{d:Nat}(ho:o.dst=some d)(hd:d<σ.n)(e:iN U)(sv:SV U)(ks:List Key)(ps:List Prop)(v v0:Value)(A6:List Nat)
  (ov:¬Names σ (d,0))
  (EI:∀bad,RS E w' F' (dD kv (d,0) v0) (dD fp (d,0) A6) bad sv v)
  (hE:∀bad,tP E w' F' (dD kv (d,0) v0) (dD fp (d,0) A6) bad e v0 A6)
  (Bf:∀b,F b->F' b/\w'.heap[b]? =w.heap[b]?)
  (ES:∀b,F' b->F b\/(∃k∈ks,(σ.bO k).isSome=true/\b∈fp k)\/(w.heap.size<=b/\b<w'.heap.size))
  (jo:∀k e,k∉ks->σ.bO k=some e->∀b∈fp k,w'.heap[b]? =w.heap[b]?)
  (qu:A6.Nodup) (QE:∀b∈A6,¬F' b/\((∃k∈ks,(σ.bO k).isSome=true/\b∈fp k)\/(w.heap.size<=b/\b<w'.heap.size)))
  (ql:hU (fun b=>pm.W b\/pm.w0.heap.size<=b) w w'):
  cM E pm F' (dD kv (d,0) v0) (dD fp (d,0) A6) (AM.apply o ⟨some sv,[(0,e)],ks,[],ps⟩ σ) (a.put o.dst v) w':=by
 have kw:dR o (⟨some sv,[(0,e)],ks,[],ps⟩:cn U)=[(d,0)]:=by simp[dR,ho]
 have kX:jQ (⟨some sv,[(0,e)],ks,[],ps⟩:cn U)=[]:=rfl
 have hW:pm.w0.heap.size<=w.heap.size:=h.upto.size
 refine h.apply o _ v (fun x hx=>by rw[ho] at hx;cases hx;exact hd) ?_ ?_ ?_ ?_ Bf ?_ ?_ ?_ ?_ ?_ ?_ (h.upto.trans ql) ql.size
 ·intro x hx;cases hx;exact EI _
 ·intro k hk;rw[kw] at hk;exact BC (by simpa using hk)
 ·intro k hk _;rw[kw] at hk;exact BC (by simpa using hk)
 ·intro k hk;rw[kw] at hk;rw[mI.1 hk];exact ov
 ·intro k e' hk _ lp he b hb;exact jo k e' lp he b hb
 ·rintro k e' (⟨j,rfl,hj⟩|hk)
  ·simp only[mI,pq] at hj
   obtain⟨rfl,rfl⟩:=hj
   have:o.dst.getD 1000000=d:=by rw[ho];rfl
   rw[this,t_,t_]
   refine⟨hE _,qu,fun b hb=> ?_⟩
   obtain⟨h1,h2⟩:=QE b hb
   refine⟨h1,?_⟩
   rcases h2 with⟨k,hk,hl,hb⟩|h2
   ·obtain⟨Wn,EQ⟩:=nf.1 hl
    have h3:=h.fQ k Wn b EQ hb
    have:=ql.size
    exact⟨h3.2.1,by omega⟩
   ·exact⟨.inr (by omega),h2.2⟩
  ·simp at hk
 ·intro k e' b hk _ lp he hb wo
  rcases ES b wo with h1|⟨k',cU,hl,bj⟩|h1
  ·exact(h.fQ k e' b he hb).1 h1
  ·obtain⟨Wn,EQ⟩:=nf.1 hl
   exact h.apart k k' e' Wn b (fun e=>lp (e▸cU)) he EQ hb bj
  ·have:=(h.fQ k e' b he hb).2.2;omega
 ·intro k k' b eZ hk cU hb
  rw[kw,kX] at hk cU
  simp only[mI,NG,or_false,false_or] at hk cU
  subst hk
  rw[t_] at hb
  rcases cU with rfl|⟨cU,Ii⟩
  ·exact absurd rfl eZ
  ·rw[BC (Ne.symm eZ)]
   obtain⟨e',fc⟩:=nf.1 Ii
   intro bj
   rcases(QE b hb).2 with⟨k,hk,hl,iM⟩|h2
   ·obtain⟨Wn,EQ⟩:=nf.1 hl
    exact h.apart k k' Wn e' b (fun e=>cU (e▸hk)) EQ fc iM bj
   ·have:=(h.fQ k' e' b fc bj).2.2;omega
 ·intro b hb
  rcases ES b hb with h1|⟨k,hk,hl,bj⟩|h1
  ·have:=h.uk b h1;have:=ql.size;omega
  ·obtain⟨Wn,EQ⟩:=nf.1 hl
   have:=(h.fQ k Wn b EQ bj).2.2;have:=ql.size;omega
  ·exact h1.2
 ·intro b hb
  rcases ES b hb with h1|⟨k,hk,hl,bj⟩|h1
  ·exact h.uj b h1
  ·obtain⟨Wn,EQ⟩:=nf.1 hl
   exact .inr (h.fQ k Wn b EQ bj).2.1
  ·exact .inr (.inr (by omega))
theorem HQ(h:cM E pm F kv fp σ a w){k:Key}{e:iN U}{b:Nat}(he:σ.bO k=some e)(hb:b∈fp k):b<w.heap.size:=(h.fQ k e b he hb).2.2
theorem BD(w:World)(o:Obj){b:Nat}(hb:b<w.heap.size):(w.alloc o).heap[b]? =w.heap[b]? :=RowKit.Below.heap_alloc w o b hb
theorem hU.alloc(W:Nat->Prop)(w:World)(o:Obj):hU W w (w.alloc o):=
 ⟨rfl,rfl,rfl,by simp,fun k hk _=>RowKit.Below.heap_alloc w o k hk⟩
theorem amV(h:cM E pm F kv fp σ a w){o:Oper}{d:Nat}(ho:o.dst=some d)(hd:d<σ.n){t:TypeId}(sF:o.op=.alloc t){z:Value}(hz:(E.P.info? t).bind (·.zero)=some z)
  {l:List (AC U)} (hl:jN z.cells.toList=some l) (ov:¬Names σ (d,0)) {next:Act->World->Prop} {Q:Exit->Act->World->Prop}
  (hn:∀F kv fp a' w',cM E pm F kv fp (AM.apply o ⟨some (one (.ky (d,0) 0)),[(0,.box l)],[],[],[]⟩ σ) a' w'->next a' w'):o.wp E.P a w next Q:=by
 have jn:(execOp a.eval o).run E.P w=.ok (.value (.pointer (some ⟨w.heap.size,0,none⟩))) (w.alloc (.cells z.cells t)):=by
  cases hi:E.P.info? t with
  |none=>rw[hi] at hz;cases hz
  |some i=>
   rw[hi] at hz
   have Un:i.zero=some z:=hz
   unfold execOp;simp only[sF]
   refine iD ?_
   simp[Instr.alloc,zeroValue,typeInfo,hi,Un,newVar,newRow]
 refine sQ jn (hn F (dD kv (d,0) (.pointer (some ⟨w.heap.size,0,none⟩))) (dD fp (d,0) [w.heap.size]) _ _ (h.Fo (w':=w.alloc (.cells z.cells t)) ho hd _ _ [] _ (.pointer (some ⟨w.heap.size,0,none⟩)) _ _ ov ?_ ?_ ?_ ?_ ?_ ?_ ?_ ?_))
 ·intro bad
  exact iu ⟨⟨rfl,trivial⟩,.inr ⟨w.heap.size,t_,rfl⟩⟩
 ·intro bad
  exact⟨w.heap.size,z.cells,t,rfl,heap_alloc_new w _,rfl,Vi hl⟩
 ·intro b hb;exact⟨hb,BD w _ (h.uk b hb)⟩
 ·intro b hb;exact .inl hb
 ·intro k e _ he b hb;exact BD w _ (HQ h he hb)
 ·simp
 ·intro b hb
  rw[mI.1 hb]
  exact⟨fun hF=>by have:=h.uk _ hF;omega,.inr ⟨tX _,by simp⟩⟩
 ·exact hU.alloc _ _ _
theorem Z3(h:cM E pm F kv fp σ a w){o:Oper}{d:Nat}(ho:o.dst=some d)(hd:d<σ.n)(ov:¬Names σ (d,0)){τ:U.Ty}{rows:List (U.T τ)}{ks:List Key}{dp:Bool}{ps:List Prop}
  {vs:List Value} (Ij:ks.Nodup) (FP:∀k∈ks,(σ.bO k).isSome=true)
  (aet:dp=true->∃fl,eW E w F true τ rows vs fl/\fl.flatten.Nodup/\∀b∈fl.flatten,∃k∈ks,b∈fp k)
  (anz:∃fl,eW E w (FK F fp ks) false τ rows vs fl/\fl.flatten=[])
  {w1:World} (zV:∀b,b<w.heap.size->w1.heap[b]? =w.heap[b]?) (ql:hU (fun b=>pm.W b\/pm.w0.heap.size<=b) w w1) (xx:w.heap.size<w1.heap.size)
  {cap:Nat} {cur:Array Value} (hb:w1.heap[w.heap.size]? =some (.cells cur (E.tid τ) (0,0))) (hc:rows.length<=cap) (hm:cap<=maxLen) (hs:cur.size=cap*U.wd τ) (Ba:cur.toList.take (rows.length*U.wd τ)=vs):
  ∃F' kv' fp',cM E pm F' kv' fp' (AM.apply o ⟨some (one (.ref (d,0) [])),[(0,.arr ⟨τ,rows⟩ dp)],ks,[],ps⟩ σ) (a.put o.dst (.slice (some ⟨w.heap.size,0,none⟩) rows.length cap)) w1:=by
 have EI:∀(F':Nat->Prop)(A6:List Nat) bad,RS E w1 F' (dD kv (d,0) (.slice (some ⟨w.heap.size,0,none⟩) rows.length cap)) (dD fp (d,0) A6) bad (one (.ref (d,0) [])) (.slice (some ⟨w.heap.size,0,none⟩) rows.length cap):=
  fun F' A6 bad=>iu ⟨⟨rfl,trivial⟩,.inr (by simp only[RA,t_];rfl)⟩
 have jo:∀k e,σ.bO k=some e->∀b∈fp k,w1.heap[b]? =w.heap[b]? :=fun k e he b hb=>zV b (HQ h he hb)
 have qv:∀{l:List Nat},(∀b∈l,∃k∈ks,b∈fp k)->∀b∈l,b<w.heap.size:=fun hl b hb=>by
  obtain⟨k,hk,hb⟩:=hl b hb
  obtain⟨e,he⟩:=nf.1 (FP k hk)
  exact HQ h he hb
 cases dp with
 |true=>
  obtain⟨fl,h1,h2,h3⟩:=aet rfl
  refine⟨F,_,_,h.Fo ho hd _ _ ks ps _ _ (w.heap.size::fl.flatten) ov (EI F _) ?_ ?_ ?_ ?_ ?_ ?_ ql⟩
  ·intro bad
   exact e7.nZ hb hc hm hs Ba (h1.gg (fun b hb=>⟨hb,zV b (h.uk b hb)⟩) (fun b hb=>zV b (qv h3 b hb)))
  ·intro b hb;exact⟨hb,zV b (h.uk b hb)⟩
  ·intro b hb;exact .inl hb
  ·intro k e _ he b hb;exact jo k e he b hb
  ·refine tY.2 ⟨fun hb=> ?_,h2⟩
   have:=qv h3 _ hb;omega
  ·intro b hb
   rcases jZ.1 hb with rfl|hb
   ·exact⟨fun hF=>by have:=h.uk _ hF;omega,.inr ⟨tX _,xx⟩⟩
   ·obtain⟨k,hk,iM⟩:=h3 b hb
    obtain⟨e,he⟩:=nf.1 (FP k hk)
    exact⟨(h.fQ k e b he iM).1,.inl ⟨k,hk,FP k hk,iM⟩⟩
 |false=>
  obtain⟨fl,h1,h2⟩:=anz
  have hFK:∀b,FK F fp ks b->b<w.heap.size:=by
   rintro b (hb|⟨k,hk,hb⟩)
   ·exact h.uk b hb
   ·obtain⟨e,he⟩:=nf.1 (FP k hk)
    exact HQ h he hb
  refine⟨FK F fp ks,_,_,h.Fo ho hd _ _ ks ps _ _ [w.heap.size] ov (EI _ _) ?_ ?_ ?_ ?_ ?_ ?_ ql⟩
  ·intro bad
   have:=e7.nZ hb hc hm hs Ba (h1.gg (w':=w1) (F':=FK F fp ks) (fun b hb=>⟨hb,zV b (hFK b hb)⟩) (by simp[h2]))
   rw[h2] at this
   exact this
  ·intro b hb;exact⟨.inl hb,zV b (h.uk b hb)⟩
  ·rintro b (hb|⟨k,hk,hb⟩)
   ·exact .inl hb
   ·exact .inr (.inl ⟨k,hk,FP k hk,hb⟩)
  ·intro k e _ he b hb;exact jo k e he b hb
  ·simp
  ·intro b hb
   rw[mI.1 hb]
   exact⟨fun hF=>by have:=hFK _ hF;omega,.inr ⟨tX _,xx⟩⟩
theorem amF(hE:E.Ok)(h:cM E pm F kv fp σ a w){o:Oper}{d:Nat}(ho:o.dst=some d)(hd:d<σ.n){t e:TypeId}{len:Nat}{parts:Array (Nat×Operand)}(sF:o.op=.buildSlice t len parts)
  {τ:U.Ty} (uW:E.elem t=some e) (hc:E.code e=some τ) {xs:List (SV U)} (hx:xs.length=parts.toList.length)
  (hv:∀(i:Nat)(x:SV U)(q:Nat×Operand),xs[i]? =some x->parts.toList[i]? =some q->RS E w F kv fp (bW σ) x (a.eval q.2))
  (hlen:(parts.toList.map (·.1)).length=len) (abc:((parts.toList.map (·.1)).zipIdx).all (fun(a,b)=>Nat.beq a b)=true) (hsm:len*U.wd τ<=1000000)
  {rs:List Key} {want:List (Option U.Ty)} {ps:List Prop} {rows:List (U.T τ)} {ks:List Key} {dp:Bool} (hr:rowsOf τ (restrict σ.bO rs) want xs=some (ps,rows,ks,dp)) (hp:∀p∈ps,p) (Ij:ks.Nodup)
  (ov:¬Names σ (d,0)) {next:Act->World->Prop} {Q:Exit->Act->World->Prop}
  (hn:∀F kv fp a' w',cM E pm F kv fp (AM.apply o ⟨some (one (.ref (d,0) [])),[(0,.arr ⟨τ,rows⟩ dp)],ks,[],ps⟩ σ) a' w'->next a' w'):o.wp E.P a w next Q:=by
 obtain⟨zW,i,z,hi,hz,jm,PJ,Xr,_⟩:=hE.code e τ hc
 have hu:=Ei uW
 have hw:=U.la τ
 obtain⟨r1,r2,r3,r4,r5⟩:=akW h (us:=parts.toList.map fun q=>a.eval q.2) hr hp (by simp[hx]) (fun i x u Uo sV=>by
  rw[nT] at sV
  cases hq:parts.toList[i]? with
  |none=>rw[hq] at sV;cases sV
  |some q=>rw[hq] at sV;cases sV;exact hv i x q Uo hq) Ij
 have M8:rows.length=len:=by rw[r1,hx,<-hlen];simp
 have Bb:parts.toList.length=len:=by rw[<-hlen];simp
 have M':(parts.map fun(i,x)=>(i,a.eval x)).toList=((parts.toList.map fun q=>a.eval q.2).zipIdx 0).map fun x=>(x.2,x.1):=by
  rw[zeo]
  refine Uk fun n=> ?_
  rw[nT,nT,zej,nT]
  cases hq:parts.toList[n]? with
  |none=>rfl
  |some q=>
   simp only[FT,gA,pq,vk,and_true]
   have h1:((parts.toList.map (·.1)).zipIdx)[n]? =some (q.1,n):=by
    rw[zej,nT,hq];simp
   have:=(sC.1 abc) (q.1,n) (Gl h1)
   exact nk this
 have aaF:¬len*i.size>2^24:=by rw[jm];omega
 have Na:len<=maxLen:=by
  have:len<=len*U.wd τ:=Nat.le_mul_of_pos_right _ hw
  simp only[maxLen];omega
 have fin:∀cells:Array Value,cells.toList=(parts.toList.map fun q=>a.eval q.2).flatMap (fun u=>u.cells.toList)->
   (Instr.buildSlice t len (parts.map fun(i,x)=>(i,a.eval x))).run E.P w=.ok (.slice (some ⟨w.heap.size,0,none⟩) len len) (w.alloc (.cells cells e))->o.wp E.P a w next Q:=by
  intro cells s8 jn
  have vA:cells.size=len*U.wd τ:=by
   obtain⟨fl,h1,_⟩:=r5
   have:=h1.1
   rw[<-s8,M8] at this
   simpa using this
  obtain⟨F',kv',fp',o8⟩:=Z3 h ho hd ov (ps:=ps) (dp:=dp) Ij r3 r4 r5 (w1:=w.alloc (.cells cells e)) (fun b hb=>BD w _ hb) (hU.alloc _ _ _) (by simp) (cap:=len) (cur:=cells)
   (by rw[zW];exact heap_alloc_new w _) (by omega) Na vA (by rw[M8,<-s8,Uj (by simp[vA])])
  refine sQ (v:=.slice (some ⟨w.heap.size,0,none⟩) len len) (w':=w.alloc (.cells cells e)) ?_ (hn F' kv' fp' _ _ ?_)
  ·unfold execOp;simp only[sF];exact iD jn
  ·rw[M8] at o8;exact o8
 by_cases h0:len=0
 ·have M_:parts.toList=[]:=FL (by omega)
  have Sl:parts= #[]:=zO M_
  subst h0
  refine fin #[] (by simp[M_]) ?_
  simp[Instr.buildSlice,run_underlying hu,Go.sizeOf,typeInfo,hi,Sl,Instr.fill,newRow,Array.range_zero']
 ·have PN:¬len*i.size=0:=by
   rw[jm]
   have:=Nat.mul_pos (Nat.pos_of_ne_zero h0) hw
   omega
  have Sz:=Great.fill_whole (s:=i.size) (by rw[jm];exact hw) (parts.toList.map fun q=>a.eval q.2) ((Array.range (len*i.size)).map (z.cells[·%z.cells.size]!)) (fun v hv=>by rw[jm];exact r2 v hv) (by simp[Bb])
  refine fin ((parts.toList.map fun q=>a.eval q.2).flatMap fun v=>v.cells.toList).toArray rfl (run_buildSlice w t e len _ _ i z hu hi hz aaF PN ?_)
  rw[M']
  exact Sz
theorem akq(hE:E.Ok){e:TypeId}{τ:U.Ty}(hc:E.code e=some τ){i:TypeInfo}{z:Value}(hi:E.P.info? e=some i)(hz:i.zero=some z):
  z.cells.size=U.wd τ/\∀n,∃fl,eW E w F true τ (List.replicate n (U.e6 τ)) (madeCells z.cells (n*U.wd τ)).toList fl/\fl.flatten=[]:=by
 obtain⟨zW,i',z',qw,Un,jm,PJ,Xr,PM⟩:=hE.code e τ hc
 rw[hi] at qw;cases qw
 rw[hz] at Un;cases Un
 have hw:=U.la τ
 refine⟨PJ,fun n=>⟨List.replicate (n*U.wd τ) [],⟨by simp[madeCells],by simp,fun k x j c hx hj=> ?_⟩,zN _⟩⟩
 have gI:=fP hx hj
 rw[zee] at gI
 have hxx:x=U.e6 τ:=by
  rw[zdz] at hx
  split at hx
  ·cases hx;rfl
  ·cases hx
 subst hxx
 obtain⟨u,h1,h2⟩:=PM j c hj
 have PY:j<U.wd τ:=by
  rw[<-U.dz τ (U.e6 τ)]
  rcases pe j (U.enc τ (U.e6 τ)).length with h|h
  ·exact h
  ·rw[od h] at hj;cases hj
 have pi:(madeCells z.cells (n*U.wd τ)).toList.getD (k*U.wd τ+j) undef=u:=by
  rw[ez,Mt]
  unfold madeCells
  rw[Array.getElem?_map,Array.getElem?_range,if_pos gI]
  simp only[FT,FR,PJ]
  rw[zew,Nat.add_mul_mod_self_right,Nat.mod_eq_of_lt PY]
  rw[getElem!_def,h1]
 rw[pi,HP]
 rcases h2 with⟨rfl,h3⟩|⟨Gj,rfl,rfl⟩
 ·exact .lit _ _ h3
 ·exact .nil _ _ _ _ (fun _=>rfl)
theorem alL(hE:E.Ok)(h:cM E pm F kv fp σ a w){o:Oper}{d:Nat}(ho:o.dst=some d)(hd:d<σ.n){t e:TypeId}{x y:Operand}(sF:o.op=.makeSlice t x y)
  {τ:U.Ty} (uW:E.elem t=some e) (hc:E.code e=some τ) {sx sy:SV U} {n m:Int} (hx:RS E w F kv fp (bW σ) sx (a.eval x)) (hlx:iZ sx=some (.int .i64 n))
  (hy:RS E w F kv fp (bW σ) sy (a.eval y)) (hly:iZ sy=some (.int .i64 m)) (h0:0<=n) (vy:n=m) (hle:n<=4294967296) {ps:List Prop}
  (ov:¬Names σ (d,0)) {next:Act->World->Prop} {Q:Exit->Act->World->Prop}
  (hn:∀F kv fp a' w',cM E pm F kv fp (AM.apply o ⟨some (one (.ref (d,0) [])),[(0,.arr ⟨τ,List.replicate n.toNat (U.e6 τ)⟩ true)],[],[],ps⟩ σ) a' w'->next a' w'):o.wp E.P a w next Q:=by
 obtain⟨zW,i,z,hi,hz,jm,PJ,Xr,_⟩:=hE.code e τ hc
 have hu:=Ei uW
 subst vy
 obtain⟨_,xw⟩:=akq (w:=w) (F:=F) hE hc hi hz
 obtain⟨fl,h1,h2⟩:=xw n.toNat
 have hb:(i.bytes:Int)*n<=281474976710656:=by
  have h3:(i.bytes:Int)*n<=4096*4294967296:=Int.mul_le_mul (by omega) hle h0 (by omega)
  omega
 have jn:=run_make (P:=E.P) w t e i z hu hi hz .i64 .i64 n n h0 (Int.le_refl _) hb (by omega)
 obtain⟨F',kv',fp',o8⟩:=Z3 h ho hd ov (τ:=τ) (rows:=List.replicate n.toNat (U.e6 τ)) (ks:=[]) (dp:=true) (ps:=ps) (vs:=(madeCells z.cells (n.toNat*U.wd τ)).toList) (by simp) (by simp)
  (fun _=>⟨fl,h1,by simp[h2],by simp[h2]⟩) (by
   refine⟨_,h1.lD (F':=FK F fp []) (fun b hb=> .inl hb) (by simp[h2]),zN _⟩)
  (w1:=w.alloc (.cells (madeCells z.cells (n.toNat*i.size)) e)) (fun b hb=>BD w _ hb) (hU.alloc _ _ _) (by simp) (cap:=n.toNat) (cur:=madeCells z.cells (n.toNat*U.wd τ))
  (by rw[zW,jm];exact heap_alloc_new w _) (by simp) (by simp only[maxLen];omega) (size_madeCells _ _) (by rw[Uj (by simp[size_madeCells])])
 refine sQ (v:=.slice (some ⟨w.heap.size,0,none⟩) n.toNat n.toNat) (w':=w.alloc (.cells (madeCells z.cells (n.toNat*i.size)) e)) ?_ (hn F' kv' fp' _ _ ?_)
 ·unfold execOp;simp only[sF,qp hx hlx,qp hy hly];exact iD jn
 ·rw[zee] at o8;exact o8
end AM
