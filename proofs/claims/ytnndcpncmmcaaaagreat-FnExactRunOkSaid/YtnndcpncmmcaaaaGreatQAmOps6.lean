import Derived.Test.YtnndcpncmmcaaaaGreatQAmTake
import Derived.Laws.MakeOwn
namespace AM
set_option linter.unusedVariables false
open Go
variable{U:jO}{E:Env U}{pm:Pm}
variable{F F':Nat->Prop}{kv:Key->Value}{fp:Key->List Nat}{σ:ah U}{a:Act}{w w':World}{bad:Key->Bool}
def bx{β:Type}(f:Key->β)(k:Key)(v:β):Key->β:=fun k'=>if k'=k then v else f k'
theorem gW{β:Type}{f:Key->β}{k:Key}{v:β}:bx f k v k=v:=by simp[bx]
theorem kf{β:Type}{f:Key->β}{k k':Key}{v:β}(h:k'≠k):bx f k v k'=f k':=by simp[bx,h]
def HR(E:Env U)(f:FuncId)(τ:U.Ty):Prop:=
 u7 E.P f/\∀(w:World)(ad:Option Addr)(n c:Nat)(us:List Value),us.length=n*U.wd τ->(0<n->∃b off,ad=some ⟨b,off,none⟩/\∀i u,us[i]? =some u->w.cell? ⟨b,off+i,none⟩=some u)->(∀u∈us,u.oneCell'=true)->n<=4294967296->
  Calls E.P f #[.slice ad n c] w fun e w'=>∃v',e=.returned v'/\fm (fun _=>False) w w'/\((n=0/\∃ad,v'=.slice ad 0 0)\/
   ∃b' qo cur',v'=.slice (some ⟨b',0,none⟩) n qo/\w'.heap[b']? =some (.cells cur' (E.tid τ) (0,0))/\n<=qo/\qo<=maxLen/\cur'.size=qo*U.wd τ/\cur'.toList.take (n*U.wd τ)=us/\w.heap.size<=b'/\b'<w'.heap.size)
def Ed(E:Env U)(f:FuncId):Prop:=
 ∀xs ps cs,E.raw f xs=some (ps,cs)->u7 E.P f/\((∀p∈ps,p)->∀(w:World)(F:Nat->Prop)(kv:Key->Value)(fp:Key->List Nat)(bad:Key->Bool)(vs:List Value),(∀b,F b->b<w.heap.size)->Lj E w F->xs.length=vs.length->
  (∀(i:Nat)(x:SV U)(v:Value),xs[i]? =some x->vs[i]? =some v->RS E w F kv fp bad x v)->
  Calls E.P f vs.toArray w fun e w'=>∃us:List Value,e=.returned (.agg us.toArray)/\fm (fun _=>False) w w'/\us.length=cs.length/\
   ∀(j:Nat)(y:AC U)(u:Value),cs[j]? =some y->us[j]? =some u->RD E w F kv fp bad y u\/∃c,y=.c c/\Rp E w' (fun b=>F b\/(w.heap.size<=b/\b<w'.heap.size)) false c u [])
def wg(E:Env U)(f:FuncId)(q:Rh U):Prop:=
 u7 E.P f/\∀(w:World)(F:Nat->Prop)(v:Value)(l:List Nat)(xs:List (U.T q.τ)),(∀b,F b->b<w.heap.size)->Lj E w F->cF E w F false ⟨q.τ,xs⟩ v l->(∀b∈l,b<w.heap.size/\¬F b)->xs.length<=4294967296->
  Calls E.P f #[v,.func (.func q.g) #[] #[]] w fun e w'=>e=.returned (.tuple #[])/\fm (·∈l) w w'/\cF E w' F false ⟨q.τ,q.S xs⟩ v l
structure Env.Ok(E:Env U):Prop where
 code:∀e τ,E.code e=some τ->E.tid τ=e/\∃i z,E.P.info? e=some i/\i.zero=some z/\i.size=U.wd τ/\z.cells.size=U.wd τ/\i.bytes<=4096/\
  ∀(j:Nat)(c:U.C),(U.enc τ (U.dt τ))[j]? =some c->∃u,z.cells[j]? =some u/\((c=.lit u/\fu u)\/∃s8,c=.sl s8 []/\u=.slice none 0 0)
 mixed:E.P.follows .mixedOrders=true
 Wa:∀f τ,E.Wa f=some τ->HR E f τ
 raw:∀f,Ed E f
 Vt:∀f q,E.Vt f=some q->wg E f q
theorem cd.zx(h:cd E pm F kv fp σ a w){o:Oper}{d:Nat}(ho:o.dst=some d)(hd:d<σ.n)(e:eX U)(sv:SV U)(ks:List Key)(ps:List Prop)(v v0:Value)(y7:List Nat)
  (jq:¬Names σ (d,0))
  (rD:∀bad,RS E w' F' (bx kv (d,0) v0) (bx fp (d,0) y7) bad sv v)
  (hE:∀bad,lm E w' F' (bx kv (d,0) v0) (bx fp (d,0) y7) bad e v0 y7)
  (mF:∀b,F b->F' b/\w'.heap[b]? =w.heap[b]?)
  (Du:∀b,F' b->F b\/(∃k∈ks,(σ.aU k).isSome=true/\b∈fp k)\/(w.heap.size<=b/\b<w'.heap.size))
  (fQ:∀k e,k∉ks->σ.aU k=some e->∀b∈fp k,w'.heap[b]? =w.heap[b]?)
  (oB:y7.Nodup) (Oe:∀b∈y7,¬F' b/\((∃k∈ks,(σ.aU k).isSome=true/\b∈fp k)\/(w.heap.size<=b/\b<w'.heap.size)))
  (kx:fm (fun b=>pm.W b\/pm.w0.heap.size<=b) w w') (pT:e.wk=false:=by rfl):
  cd E pm F' (bx kv (d,0) v0) (bx fp (d,0) y7) (AM.apply o ⟨some sv,[(0,e)],ks,[],ps,[]⟩ σ) (a.put o.dst v) w':=by
 have fq:ct o (⟨some sv,[(0,e)],ks,[],ps,[]⟩:bz U)=[(d,0)]:=by simp[ct,ho]
 have fI:fM (⟨some sv,[(0,e)],ks,[],ps,[]⟩:bz U)=[]:=rfl
 have hW:pm.w0.heap.size<=w.heap.size:=h.upto.size
 refine h.apply o _ v (fun x hx=>by rw[ho] at hx;cases hx;exact hd) ?_ ?_ ?_ ?_ mF ?_ ?_ ?_ ?_ ?_ ?_ (h.upto.trans kx) kx.size (fun _ hk=>absurd hk rh) (fun k e' hk=>by
  rcases hk with⟨j,_,hk⟩|hk
  ·rw[(Prod.mk.inj (g_.1 hk)).2];exact pT
  ·simp at hk)
 ·intro x hx;cases hx;exact rD _
 ·intro k hk;rw[fq] at hk;exact kf (by simpa using hk)
 ·intro k hk _;rw[fq] at hk;exact kf (by simpa using hk)
 ·intro k hk;rw[fq] at hk;rw[g_.1 hk];exact jq
 ·intro k e' hk _ eS he b hb;exact fQ k e' eS he b hb
 ·rintro k e' (⟨j,rfl,hj⟩|hk)
  ·simp only[g_,kG] at hj
   obtain⟨rfl,rfl⟩:=hj
   have:o.dst.getD 1000000=d:=by rw[ho];rfl
   rw[this,gW,gW]
   refine⟨hE _,oB,fun b hb=> ?_⟩
   obtain⟨h1,h2⟩:=Oe b hb
   refine⟨h1,?_⟩
   rcases h2 with⟨k,hk,hl,hb⟩|h2
   ·obtain⟨Uo,Dq⟩:=kH.1 hl
    have h3:=h.cU k Uo b Dq hb
    have:=kx.size
    exact⟨h3.2.1,by omega⟩
   ·exact⟨.inr (by omega),h2.2⟩
  ·simp at hk
 ·intro k e' b hk _ eS he hb vO
  rcases Du b vO with h1|⟨k',bp,hl,aI⟩|h1
  ·exact(h.cU k e' b he hb).1 h1
  ·obtain⟨Uo,Dq⟩:=kH.1 hl
   exact h.apart k k' e' Uo b (fun e=>eS (e▸bp)) he Dq hb aI
  ·have:=(h.cU k e' b he hb).2.2;omega
 ·intro k k' b cO hk bp hb
  rw[fq,fI] at hk bp
  simp only[g_,rh,or_false,false_or] at hk bp
  subst hk
  rw[gW] at hb
  rcases bp with rfl|⟨bp,zh⟩
  ·exact absurd rfl cO
  ·rw[kf (Ne.symm cO)]
   obtain⟨e',dr⟩:=kH.1 zh
   intro aI
   rcases(Oe b hb).2 with⟨k,hk,hl,gX⟩|h2
   ·obtain⟨Uo,Dq⟩:=kH.1 hl
    exact h.apart k k' Uo e' b (fun e=>bp (e▸hk)) Dq dr gX aI
   ·have:=(h.cU k' e' b dr aI).2.2;omega
 ·intro b hb
  rcases Du b hb with h1|⟨k,hk,hl,aI⟩|h1
  ·have:=h.lT b h1;have:=kx.size;omega
  ·obtain⟨Uo,Dq⟩:=kH.1 hl
   have:=(h.cU k Uo b Dq aI).2.2;have:=kx.size;omega
  ·exact h1.2
 ·intro b hb
  rcases Du b hb with h1|⟨k,hk,hl,aI⟩|h1
  ·exact h.ny b h1
  ·obtain⟨Uo,Dq⟩:=kH.1 hl
   exact .inr (h.cU k Uo b Dq aI).2.1
  ·exact .inr (.inr (by omega))
theorem vx(h:cd E pm F kv fp σ a w){k:Key}{e:eX U}{b:Nat}(he:σ.aU k=some e)(hb:b∈fp k):b<w.heap.size:=(h.cU k e b he hb).2.2
theorem yW(w:World)(o:Obj){b:Nat}(hb:b<w.heap.size):(w.alloc o).heap[b]? =w.heap[b]? :=RowKit.Below.heap_alloc w o b hb
theorem fm.alloc(W:Nat->Prop)(w:World)(o:Obj):fm W w (w.alloc o):=
 ⟨rfl,rfl,rfl,by simp,fun k hk _=>RowKit.Below.heap_alloc w o k hk,og _⟩
theorem ao5(h:cd E pm F kv fp σ a w){o:Oper}{d:Nat}(ho:o.dst=some d)(hd:d<σ.n){t:TypeId}(mI:o.op=.alloc t){z:Value}(hz:(E.P.info? t).bind (·.zero)=some z)
  {l:List (AC U)} (hl:iW z.cells.toList=some l) (jq:¬Names σ (d,0)) {next:Act->World->Prop} {Q:Exit->Act->World->Prop}
  (hn:∀F kv fp a' w',cd E pm F kv fp (AM.apply o ⟨some (one (.ji (d,0) 0)),[(0,.box l)],[],[],[],[]⟩ σ) a' w'->next a' w'):o.wp E.P a w next Q:=by
 have fw:(execOp a.eval o).run E.P w=.ok (.value (.pointer (some ⟨w.heap.size,0,none⟩))) (w.alloc (.cells z.cells t)):=by
  cases hi:E.P.info? t with
  |none=>rw[hi] at hz;cases hz
  |some i=>
   rw[hi] at hz
   have LS:i.zero=some z:=hz
   unfold execOp;simp only[mI]
   refine gF ?_
   simp[Instr.alloc,zeroValue,typeInfo,hi,LS,newVar,newRow]
 refine pC fw (hn F (bx kv (d,0) (.pointer (some ⟨w.heap.size,0,none⟩))) (bx fp (d,0) [w.heap.size]) _ _ (h.zx (w':=w.alloc (.cells z.cells t)) ho hd _ _ [] _ (.pointer (some ⟨w.heap.size,0,none⟩)) _ _ jq ?_ ?_ ?_ ?_ ?_ ?_ ?_ ?_))
 ·intro bad
  exact fT ⟨⟨rfl,trivial⟩,.inr ⟨w.heap.size,gW,rfl⟩⟩
 ·intro bad
  exact⟨w.heap.size,z.cells,t,rfl,heap_alloc_new w _,rfl,Si hl⟩
 ·intro b hb;exact⟨hb,yW w _ (h.lT b hb)⟩
 ·intro b hb;exact .inl hb
 ·intro k e _ he b hb;exact yW w _ (vx h he hb)
 ·simp
 ·intro b hb
  rw[g_.1 hb]
  exact⟨fun hF=>by have:=h.lT _ hF;omega,.inr ⟨og _,by simp⟩⟩
 ·exact fm.alloc _ _ _
theorem ZO(h:cd E pm F kv fp σ a w){o:Oper}{d:Nat}(ho:o.dst=some d)(hd:d<σ.n)(jq:¬Names σ (d,0)){τ:U.Ty}{rows:List (U.T τ)}{ks:List Key}{dp:Bool}{ps:List Prop}
  {vs:List Value} (Ej:ks.Nodup) (wM:∀k∈ks,(σ.aU k).isSome=true)
  (aeV:dp=true->∃fl,dD E w F true τ rows vs fl/\fl.flatten.Nodup/\∀b∈fl.flatten,∃k∈ks,b∈fp k)
  (apN:∃fl,dD E w (FK F fp ks) false τ rows vs fl/\fl.flatten=[])
  {w1:World} (s9:∀b,b<w.heap.size->w1.heap[b]? =w.heap[b]?) (kx:fm (fun b=>pm.W b\/pm.w0.heap.size<=b) w w1) (mS:w.heap.size<w1.heap.size)
  {cap:Nat} {cur:Array Value} (hb:w1.heap[w.heap.size]? =some (.cells cur (E.tid τ) (0,0))) (hc:rows.length<=cap) (hm:cap<=maxLen) (hs:cur.size=cap*U.wd τ) (vj:cur.toList.take (rows.length*U.wd τ)=vs):
  ∃F' kv' fp',cd E pm F' kv' fp' (AM.apply o ⟨some (one (.ref (d,0) [])),[(0,.arr ⟨τ,rows⟩ dp)],ks,[],ps,[]⟩ σ) (a.put o.dst (.slice (some ⟨w.heap.size,0,none⟩) rows.length cap)) w1:=by
 have rD:∀(F':Nat->Prop)(y7:List Nat) bad,RS E w1 F' (bx kv (d,0) (.slice (some ⟨w.heap.size,0,none⟩) rows.length cap)) (bx fp (d,0) y7) bad (one (.ref (d,0) [])) (.slice (some ⟨w.heap.size,0,none⟩) rows.length cap):=
  fun F' y7 bad=>fT ⟨⟨rfl,trivial⟩,.inr (by simp only[RA,gW];rfl)⟩
 have fQ:∀k e,σ.aU k=some e->∀b∈fp k,w1.heap[b]? =w.heap[b]? :=fun k e he b hb=>s9 b (vx h he hb)
 have pE:∀{l:List Nat},(∀b∈l,∃k∈ks,b∈fp k)->∀b∈l,b<w.heap.size:=fun hl b hb=>by
  obtain⟨k,hk,hb⟩:=hl b hb
  obtain⟨e,he⟩:=kH.1 (wM k hk)
  exact vx h he hb
 cases dp with
 |true=>
  obtain⟨fl,h1,h2,h3⟩:=aeV rfl
  refine⟨F,_,_,h.zx ho hd _ _ ks ps _ _ (w.heap.size::fl.flatten) jq (rD F _) ?_ ?_ ?_ ?_ ?_ ?_ kx⟩
  ·intro bad
   exact cF.jm hb hc hm hs vj (h1.cI (fun b hb=>⟨hb,s9 b (h.lT b hb)⟩) (fun b hb=>s9 b (pE h3 b hb)))
  ·intro b hb;exact⟨hb,s9 b (h.lT b hb)⟩
  ·intro b hb;exact .inl hb
  ·intro k e _ he b hb;exact fQ k e he b hb
  ·refine pH.2 ⟨fun hb=> ?_,h2⟩
   have:=pE h3 _ hb;omega
  ·intro b hb
   rcases h_.1 hb with rfl|hb
   ·exact⟨fun hF=>by have:=h.lT _ hF;omega,.inr ⟨og _,mS⟩⟩
   ·obtain⟨k,hk,gX⟩:=h3 b hb
    obtain⟨e,he⟩:=kH.1 (wM k hk)
    exact⟨(h.cU k e b he gX).1,.inl ⟨k,hk,wM k hk,gX⟩⟩
 |false=>
  obtain⟨fl,h1,h2⟩:=apN
  have hFK:∀b,FK F fp ks b->b<w.heap.size:=by
   rintro b (hb|⟨k,hk,hb⟩)
   ·exact h.lT b hb
   ·obtain⟨e,he⟩:=kH.1 (wM k hk)
    exact vx h he hb
  refine⟨FK F fp ks,_,_,h.zx ho hd _ _ ks ps _ _ [w.heap.size] jq (rD _ _) ?_ ?_ ?_ ?_ ?_ ?_ kx⟩
  ·intro bad
   have:=cF.jm hb hc hm hs vj (h1.cI (w':=w1) (F':=FK F fp ks) (fun b hb=>⟨hb,s9 b (hFK b hb)⟩) (by simp[h2]))
   rw[h2] at this
   exact this
  ·intro b hb;exact⟨.inl hb,s9 b (h.lT b hb)⟩
  ·rintro b (hb|⟨k,hk,hb⟩)
   ·exact .inl hb
   ·exact .inr (.inl ⟨k,hk,wM k hk,hb⟩)
  ·intro k e _ he b hb;exact fQ k e he b hb
  ·simp
  ·intro b hb
   rw[g_.1 hb]
   exact⟨fun hF=>by have:=hFK _ hF;omega,.inr ⟨og _,mS⟩⟩
theorem aoM(hE:E.Ok)(h:cd E pm F kv fp σ a w){o:Oper}{d:Nat}(ho:o.dst=some d)(hd:d<σ.n){t e:TypeId}{len:Nat}{parts:Array (Nat×Operand)}(mI:o.op=.buildSlice t len parts)
  {τ:U.Ty} (pV:E.elem t=some e) (hc:E.code e=some τ) {xs:List (SV U)} (hx:xs.length=parts.toList.length)
  (hv:∀(i:Nat)(x:SV U)(q:Nat×Operand),xs[i]? =some x->parts.toList[i]? =some q->RS E w F kv fp (aZ σ) x (a.eval q.2))
  (hlen:(parts.toList.map (·.1)).length=len) (aaY:((parts.toList.map (·.1)).zipIdx).all (fun(a,b)=>Nat.beq a b)=true) (hsm:len*U.wd τ<=1000000)
  {rs:List Key} {want:List (Option U.Ty)} {ps:List Prop} {rows:List (U.T τ)} {ks:List Key} {dp:Bool} (hr:rowsOf τ (restrict σ.aU rs) want xs=some (ps,rows,ks,dp)) (hp:∀p∈ps,p) (Ej:ks.Nodup)
  (jq:¬Names σ (d,0)) {next:Act->World->Prop} {Q:Exit->Act->World->Prop}
  (hn:∀F kv fp a' w',cd E pm F kv fp (AM.apply o ⟨some (one (.ref (d,0) [])),[(0,.arr ⟨τ,rows⟩ dp)],ks,[],ps,[]⟩ σ) a' w'->next a' w'):o.wp E.P a w next Q:=by
 obtain⟨uY,i,z,hi,hz,fZ,J2,Qm,_⟩:=hE.code e τ hc
 have hu:=y3 pV
 have hw:=U.ka τ
 obtain⟨r1,r2,r3,r4,r5⟩:=amG h (us:=parts.toList.map fun q=>a.eval q.2) hr hp (by simp[hx]) (fun i x u E3 kM=>by
  rw[mE] at kM
  cases hq:parts.toList[i]? with
  |none=>rw[hq] at kM;cases kM
  |some q=>rw[hq] at kM;cases kM;exact hv i x q E3 hq) Ej
 have KJ:rows.length=len:=by rw[r1,hx,<-hlen];simp
 have wl:parts.toList.length=len:=by rw[<-hlen];simp
 have KL:(parts.map fun(i,x)=>(i,a.eval x)).toList=((parts.toList.map fun q=>a.eval q.2).zipIdx 0).map fun x=>(x.2,x.1):=by
  rw[zeo]
  refine Ow fun n=> ?_
  rw[mE,mE,zej,mE]
  cases hq:parts.toList[n]? with
  |none=>rfl
  |some q=>
   simp only[Ef,eZ,kG,oz,and_true]
   have h1:((parts.toList.map (·.1)).zipIdx)[n]? =some (q.1,n):=by
    rw[zej,mE,hq];simp
   have:=(FU.1 aaY) (q.1,n) (Ep h1)
   exact jp this
 have aax:¬len*i.size>2^24:=by rw[fZ];omega
 have Gv:len<=maxLen:=by
  have:len<=len*U.wd τ:=Nat.le_mul_of_pos_right _ hw
  simp only[maxLen];omega
 have fin:∀cells:Array Value,cells.toList=(parts.toList.map fun q=>a.eval q.2).flatMap (fun u=>u.cells.toList)->
   (Instr.buildSlice t len (parts.map fun(i,x)=>(i,a.eval x))).run E.P w=.ok (.slice (some ⟨w.heap.size,0,none⟩) len len) (w.alloc (.cells cells e))->o.wp E.P a w next Q:=by
  intro cells rG fw
  have lh:cells.size=len*U.wd τ:=by
   obtain⟨fl,h1,_⟩:=r5
   have:=h1.1
   rw[<-rG,KJ] at this
   simpa using this
  obtain⟨F',kv',fp',la⟩:=ZO h ho hd jq (ps:=ps) (dp:=dp) Ej r3 r4 r5 (w1:=w.alloc (.cells cells e)) (fun b hb=>yW w _ hb) (fm.alloc _ _ _) (by simp) (cap:=len) (cur:=cells)
   (by rw[uY];exact heap_alloc_new w _) (by omega) Gv lh (by rw[KJ,<-rG,EM (by simp[lh])])
  refine pC (v:=.slice (some ⟨w.heap.size,0,none⟩) len len) (w':=w.alloc (.cells cells e)) ?_ (hn F' kv' fp' _ _ ?_)
  ·unfold execOp;simp only[mI];exact gF fw
  ·rw[KJ] at la;exact la
 by_cases h0:len=0
 ·have KN:parts.toList=[]:=yG (by omega)
  have PQ:parts= #[]:=vy KN
  subst h0
  refine fin #[] (by simp[KN]) ?_
  simp[Instr.buildSlice,run_underlying hu,Go.sizeOf,typeInfo,hi,PQ,Instr.fill,newRow,Array.range_zero']
 ·have ND:¬len*i.size=0:=by
   rw[fZ]
   have:=Nat.mul_pos (Nat.pos_of_ne_zero h0) hw
   omega
  have Qd:=Great.fill_whole (s:=i.size) (by rw[fZ];exact hw) (parts.toList.map fun q=>a.eval q.2) ((Array.range (len*i.size)).map (z.cells[·%z.cells.size]!)) (fun v hv=>by rw[fZ];exact r2 v hv) (by simp[wl])
  refine fin ((parts.toList.map fun q=>a.eval q.2).flatMap fun v=>v.cells.toList).toArray rfl (run_buildSlice w t e len _ _ i z hu hi hz aax ND ?_)
  rw[KL]
  exact Qd
theorem al1(hE:E.Ok){e:TypeId}{τ:U.Ty}(hc:E.code e=some τ){i:TypeInfo}{z:Value}(hi:E.P.info? e=some i)(hz:i.zero=some z):
  z.cells.size=U.wd τ/\∀n,∃fl,dD E w F true τ (List.replicate n (U.dt τ)) (madeCells z.cells (n*U.wd τ)).toList fl/\fl.flatten=[]:=by
 obtain⟨uY,i',z',od,LS,fZ,J2,Qm,NC⟩:=hE.code e τ hc
 rw[hi] at od;cases od
 rw[hz] at LS;cases LS
 have hw:=U.ka τ
 refine⟨J2,fun n=>⟨List.replicate (n*U.wd τ) [],⟨by simp[madeCells],by simp,fun k x j c hx hj=> ?_⟩,yY _⟩⟩
 have fx:=eI hx hj
 rw[X1] at fx
 have hxx:x=U.dt τ:=by
  rw[zdz] at hx
  split at hx
  ·cases hx;rfl
  ·cases hx
 subst hxx
 obtain⟨u,h1,h2⟩:=NC j c hj
 have LZ:j<U.wd τ:=by
  rw[<-U.cP τ (U.dt τ)]
  rcases lR j (U.enc τ (U.dt τ)).length with h|h
  ·exact h
  ·rw[lU h] at hj;cases hj
 have lB:(madeCells z.cells (n*U.wd τ)).toList.getD (k*U.wd τ+j) undef=u:=by
  rw[gh,Eg]
  unfold madeCells
  rw[Array.getElem?_map,Array.getElem?_range,if_pos fx]
  simp only[Ef,J0,J2]
  rw[zew,Nat.add_mul_mod_self_right,Nat.mod_eq_of_lt LZ]
  rw[getElem!_def,h1]
 rw[lB,kA]
 rcases h2 with⟨rfl,h3⟩|⟨s8,rfl,rfl⟩
 ·exact .lit _ _ h3
 ·exact .nil _ _ _ _ (fun _=>rfl)
theorem anH(hE:E.Ok)(h:cd E pm F kv fp σ a w){o:Oper}{d:Nat}(ho:o.dst=some d)(hd:d<σ.n){t e:TypeId}{x y:Operand}(mI:o.op=.makeSlice t x y)
  {τ:U.Ty} (pV:E.elem t=some e) (hc:E.code e=some τ) {sx sy:SV U} {n m:Int} (hx:RS E w F kv fp (aZ σ) sx (a.eval x)) (hlx:ie sx=some (.int .i64 n))
  (hy:RS E w F kv fp (aZ σ) sy (a.eval y)) (hly:ie sy=some (.int .i64 m)) (h0:0<=n) (ol:n=m) (hle:n<=4294967296) {ps:List Prop}
  (jq:¬Names σ (d,0)) {next:Act->World->Prop} {Q:Exit->Act->World->Prop}
  (hn:∀F kv fp a' w',cd E pm F kv fp (AM.apply o ⟨some (one (.ref (d,0) [])),[(0,.arr ⟨τ,List.replicate n.toNat (U.dt τ)⟩ true)],[],[],ps,[]⟩ σ) a' w'->next a' w'):o.wp E.P a w next Q:=by
 obtain⟨uY,i,z,hi,hz,fZ,J2,Qm,_⟩:=hE.code e τ hc
 have hu:=y3 pV
 subst ol
 obtain⟨_,sW⟩:=al1 (w:=w) (F:=F) hE hc hi hz
 obtain⟨fl,h1,h2⟩:=sW n.toNat
 have hb:(i.bytes:Int)*n<=281474976710656:=by
  have h3:(i.bytes:Int)*n<=4096*4294967296:=Int.mul_le_mul (by omega) hle h0 (by omega)
  omega
 have fw:=run_make (P:=E.P) w t e i z hu hi hz .i64 .i64 n n h0 (Int.le_refl _) hb (by omega)
 obtain⟨F',kv',fp',la⟩:=ZO h ho hd jq (τ:=τ) (rows:=List.replicate n.toNat (U.dt τ)) (ks:=[]) (dp:=true) (ps:=ps) (vs:=(madeCells z.cells (n.toNat*U.wd τ)).toList) (by simp) (by simp)
  (fun _=>⟨fl,h1,by simp[h2],by simp[h2]⟩) (by
   refine⟨_,h1.i_ (F':=FK F fp []) (fun b hb=> .inl hb) (by simp[h2]),yY _⟩)
  (w1:=w.alloc (.cells (madeCells z.cells (n.toNat*i.size)) e)) (fun b hb=>yW w _ hb) (fm.alloc _ _ _) (by simp) (cap:=n.toNat) (cur:=madeCells z.cells (n.toNat*U.wd τ))
  (by rw[uY,fZ];exact heap_alloc_new w _) (by simp) (by simp only[maxLen];omega) (size_madeCells _ _) (by rw[EM (by simp[size_madeCells])])
 refine pC (v:=.slice (some ⟨w.heap.size,0,none⟩) n.toNat n.toNat) (w':=w.alloc (.cells (madeCells z.cells (n.toNat*i.size)) e)) ?_ (hn F' kv' fp' _ _ ?_)
 ·unfold execOp;simp only[mI,pD hx hlx,pD hy hly];exact gF fw
 ·rw[X1] at la;exact la
end AM
