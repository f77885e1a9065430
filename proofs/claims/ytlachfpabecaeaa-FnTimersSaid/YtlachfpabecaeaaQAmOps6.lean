/- THE ABSTRACT MACHINE: the operations that make memory. -/
import Derived.Test.YtlachfpabecaeaaQAmTake
import Derived.Laws.MakeOwn
namespace AM
set_option linter.unusedVariables false
open Go
variable{U:dw}{E:Env U}{pm:Pm}
variable{F F':Nat->Prop}{kv:Key->Value}{fp:Key->List Nat}{σ:aa U}{a:Act}{w w':World}{bad:Key->Bool}
def aL{β:Type}(f:Key->β)(k:Key)(v:β):Key->β:=fun k'=>if k'=k then v else f k'
theorem im{β:Type}{f:Key->β}{k:Key}{v:β}:aL f k v k=v:=by simp[aL]
theorem l7{β:Type}{f:Key->β}{k k':Key}{v:β}(h:k'≠k):aL f k v k'=f k':=by simp[aL,h]
structure Env.Ok(E:Env U):Prop where
 code:∀e τ,E.code e=some τ->E.tid τ=e/\∃i z,E.P.info? e=some i/\i.zero=some z/\i.size=U.wd τ/\z.cells.size=U.wd τ/\i.bytes<=4096/\
  ∀(j:Nat)(c:U.C),(U.enc τ (U.bj τ))[j]? =some c->∃u,z.cells[j]? =some u/\((c=.lit u/\bD u)\/∃nZ,c=.sl nZ []/\u=.slice none 0 0)
 mixed:E.P.follows .mixedOrders=true
theorem bB.P8{W:Nat->Prop}{a b c:World}(h:bB W a b)(k:bB (fun x=>W x\/a.heap.size<=x) b c):bB W a c:=h.trans k
theorem aE.nv(h:aE E pm F kv fp σ a w){o:Oper}{d:Nat}(ho:o.dst=some d)(hd:d<σ.n)(e:bZ U)(sv:SV U)(ks:List Key)(ps:List Prop)(v v0:Value)(lQ:List Nat)
  (fj:¬Names σ (d,0))
  (mX:∀bad,RS E w' F' (aL kv (d,0) v0) (aL fp (d,0) lQ) bad sv v)
  (hE:∀bad,ig E w' F' (aL kv (d,0) v0) (aL fp (d,0) lQ) bad e v0 lQ)
  (lZ:∀b,F b->F' b/\w'.heap[b]? =w.heap[b]?)
  (nb:∀b,F' b->F b\/(∃k∈ks,(σ.aw k).isSome=true/\b∈fp k)\/(w.heap.size<=b/\b<w'.heap.size))
  (cM:∀k e,k∉ks->σ.aw k=some e->∀b∈fp k,w'.heap[b]? =w.heap[b]?)
  (fc:lQ.Nodup) (y3:∀b∈lQ,¬F' b/\((∃k∈ks,(σ.aw k).isSome=true/\b∈fp k)\/(w.heap.size<=b/\b<w'.heap.size)))
  (fi:bB (fun b=>pm.W b\/pm.w0.heap.size<=b) w w'):
  aE E pm F' (aL kv (d,0) v0) (aL fp (d,0) lQ) (AM.apply o ⟨some sv,[(0,e)],ks,[],ps⟩ σ) (a.put o.dst v) w':=by
 have de:aM o (⟨some sv,[(0,e)],ks,[],ps⟩:az U)=[(d,0)]:=by simp[aM,ho]
 have dn:cK (⟨some sv,[(0,e)],ks,[],ps⟩:az U)=[]:=rfl
 have hW:pm.w0.heap.size<=w.heap.size:=h.upto.size
 refine h.apply o _ v (fun x hx=>by rw[ho] at hx;cases hx;exact hd) ?_ ?_ ?_ ?_ lZ ?_ ?_ ?_ ?_ ?_ ?_ (h.upto.trans fi) fi.size
 ·intro x hx;cases hx;exact mX _
 ·intro k hk;rw[de] at hk;exact l7 (by simpa using hk)
 ·intro k hk _;rw[de] at hk;exact l7 (by simpa using hk)
 ·intro k hk;rw[de] at hk;rw[gn.1 hk];exact fj
 ·intro k e' hk _ eH he b hb;exact cM k e' eH he b hb
 ·rintro k e' (⟨j,rfl,hj⟩|hk)
  ·simp only[gn,fB] at hj
   obtain⟨rfl,rfl⟩:=hj
   have:o.dst.getD 1000000=d:=by rw[ho];rfl
   rw[this,im,im]
   refine⟨hE _,fc,fun b hb=> ?_⟩
   obtain⟨h1,h2⟩:=y3 b hb
   refine⟨h1,?_⟩
   rcases h2 with⟨k,hk,hl,hb⟩|h2
   ·obtain⟨yi,m_⟩:=eD.1 hl
    have h3:=h.bt k yi b m_ hb
    have:=fi.size
    exact⟨h3.2.1,by omega⟩
   ·exact⟨.inr (by omega),h2.2⟩
  ·simp at hk
 ·intro k e' b hk _ eH he hb jU
  rcases nb b jU with h1|⟨k',aG,hl,ap⟩|h1
  ·exact(h.bt k e' b he hb).1 h1
  ·obtain⟨yi,m_⟩:=eD.1 hl
   exact h.apart k k' e' yi b (fun e=>eH (e▸aG)) he m_ hb ap
  ·have:=(h.bt k e' b he hb).2.2;omega
 ·intro k k' b aX hk aG hb
  rw[de,dn] at hk aG
  simp only[gn,wE,or_false,false_or] at hk aG
  subst hk
  rw[im] at hb
  rcases aG with rfl|⟨aG,rb⟩
  ·exact absurd rfl aX
  ·rw[l7 (Ne.symm aX)]
   obtain⟨e',a_⟩:=eD.1 rb
   intro ap
   rcases(y3 b hb).2 with⟨k,hk,hl,cn⟩|h2
   ·obtain⟨yi,m_⟩:=eD.1 hl
    exact h.apart k k' yi e' b (fun e=>aG (e▸hk)) m_ a_ cn ap
   ·have:=(h.bt k' e' b a_ ap).2.2;omega
 ·intro b hb
  rcases nb b hb with h1|⟨k,hk,hl,ap⟩|h1
  ·have:=h.iz b h1;have:=fi.size;omega
  ·obtain⟨yi,m_⟩:=eD.1 hl
   have:=(h.bt k yi b m_ ap).2.2;have:=fi.size;omega
  ·exact h1.2
 ·intro b hb
  rcases nb b hb with h1|⟨k,hk,hl,ap⟩|h1
  ·exact h.iy b h1
  ·obtain⟨yi,m_⟩:=eD.1 hl
   exact .inr (h.bt k yi b m_ ap).2.1
  ·exact .inr (.inr (by omega))
theorem NZ{o:Oper}{d:Nat}(ho:o.dst=some d){e:bZ U}{sv:SV U}{ks:List Key}{ps:List Prop}:True:=trivial
theorem oV(h:aE E pm F kv fp σ a w){k:Key}{e:bZ U}{b:Nat}(he:σ.aw k=some e)(hb:b∈fp k):b<w.heap.size:=(h.bt k e b he hb).2.2
theorem l8(w:World)(o:Obj){b:Nat}(hb:b<w.heap.size):(w.alloc o).heap[b]? =w.heap[b]? :=RowKit.Below.heap_alloc w o b hb
theorem bB.alloc(W:Nat->Prop)(w:World)(o:Obj):bB W w (w.alloc o):=
 ⟨rfl,rfl,rfl,by simp,fun k hk _=>RowKit.Below.heap_alloc w o k hk⟩
theorem Kb(h:aE E pm F kv fp σ a w){o:Oper}{d:Nat}(ho:o.dst=some d)(hd:d<σ.n){t:TypeId}(gy:o.op=.alloc t){z:Value}(hz:(E.P.info? t).bind (·.zero)=some z)
  {l:List (AC U)} (hl:cJ z.cells.toList=some l) (fj:¬Names σ (d,0)) {next:Act->World->Prop} {Q:Exit->Act->World->Prop}
  (hn:∀F kv fp a' w',aE E pm F kv fp (AM.apply o ⟨some (one (.dh (d,0) 0)),[(0,.box l)],[],[],[]⟩ σ) a' w'->next a' w'):o.wp E.P a w next Q:=by
 have cx:(execOp a.eval o).run E.P w=.ok (.value (.pointer (some ⟨w.heap.size,0,none⟩))) (w.alloc (.cells z.cells t)):=by
  cases hi:E.P.info? t with
  |none=>rw[hi] at hz;cases hz
  |some i=>
   rw[hi] at hz
   have yP:i.zero=some z:=hz
   unfold execOp;simp only[gy]
   refine b8 ?_
   simp[Instr.alloc,zeroValue,typeInfo,hi,yP,newVar,newRow]
 refine gW cx (hn F (aL kv (d,0) (.pointer (some ⟨w.heap.size,0,none⟩))) (aL fp (d,0) [w.heap.size]) _ _ (h.nv (w':=w.alloc (.cells z.cells t)) ho hd _ _ [] _ (.pointer (some ⟨w.heap.size,0,none⟩)) _ _ fj ?_ ?_ ?_ ?_ ?_ ?_ ?_ ?_))
 ·intro bad
  exact bY ⟨⟨rfl,trivial⟩,.inr ⟨w.heap.size,im,rfl⟩⟩
 ·intro bad
  exact⟨w.heap.size,z.cells,t,rfl,heap_alloc_new w _,rfl,xu hl⟩
 ·intro b hb;exact⟨hb,l8 w _ (h.iz b hb)⟩
 ·intro b hb;exact .inl hb
 ·intro k e _ he b hb;exact l8 w _ (oV h he hb)
 ·simp
 ·intro b hb
  rw[gn.1 hb]
  exact⟨fun hF=>by have:=h.iz _ hF;omega,.inr ⟨nC _,by simp⟩⟩
 ·exact bB.alloc _ _ _
theorem zU(h:aE E pm F kv fp σ a w){o:Oper}{d:Nat}(ho:o.dst=some d)(hd:d<σ.n)(fj:¬Names σ (d,0)){τ:U.Ty}{rows:List (U.T τ)}{ks:List Key}{dp:Bool}{ps:List Prop}
  {vs:List Value} (pj:ks.Nodup) (nD:∀k∈ks,(σ.aw k).isSome=true)
  (Fh:dp=true->∃fl,aO E w F true τ rows vs fl/\fl.flatten.Nodup/\∀b∈fl.flatten,∃k∈ks,b∈fp k)
  (Ln:∃fl,aO E w (FK F fp ks) false τ rows vs fl/\fl.flatten=[])
  {w1:World} (kq:∀b,b<w.heap.size->w1.heap[b]? =w.heap[b]?) (fi:bB (fun b=>pm.W b\/pm.w0.heap.size<=b) w w1) (jf:w.heap.size<w1.heap.size)
  {cap:Nat} {cur:Array Value} (hb:w1.heap[w.heap.size]? =some (.cells cur (E.tid τ) (0,0))) (hc:rows.length<=cap) (hm:cap<=maxLen) (hs:cur.size=cap*U.wd τ) (gY:cur.toList.take (rows.length*U.wd τ)=vs):
  ∃F' kv' fp',aE E pm F' kv' fp' (AM.apply o ⟨some (one (.ref (d,0) [])),[(0,.arr ⟨τ,rows⟩ dp)],ks,[],ps⟩ σ) (a.put o.dst (.slice (some ⟨w.heap.size,0,none⟩) rows.length cap)) w1:=by
 have mX:∀(F':Nat->Prop)(lQ:List Nat) bad,RS E w1 F' (aL kv (d,0) (.slice (some ⟨w.heap.size,0,none⟩) rows.length cap)) (aL fp (d,0) lQ) bad (one (.ref (d,0) [])) (.slice (some ⟨w.heap.size,0,none⟩) rows.length cap):=
  fun F' lQ bad=>bY ⟨⟨rfl,trivial⟩,.inr (by simp only[RA,im];rfl)⟩
 have cM:∀k e,σ.aw k=some e->∀b∈fp k,w1.heap[b]? =w.heap[b]? :=fun k e he b hb=>kq b (oV h he hb)
 have fy:∀{l:List Nat},(∀b∈l,∃k∈ks,b∈fp k)->∀b∈l,b<w.heap.size:=fun hl b hb=>by
  obtain⟨k,hk,hb⟩:=hl b hb
  obtain⟨e,he⟩:=eD.1 (nD k hk)
  exact oV h he hb
 cases dp with
 |true=>
  obtain⟨fl,h1,h2,h3⟩:=Fh rfl
  refine⟨F,_,_,h.nv ho hd _ _ ks ps _ _ (w.heap.size::fl.flatten) fj (mX F _) ?_ ?_ ?_ ?_ ?_ ?_ fi⟩
  ·intro bad
   exact aZ.er hb hc hm hs gY (h1.bu (fun b hb=>⟨hb,kq b (h.iz b hb)⟩) (fun b hb=>kq b (fy h3 b hb)))
  ·intro b hb;exact⟨hb,kq b (h.iz b hb)⟩
  ·intro b hb;exact .inl hb
  ·intro k e _ he b hb;exact cM k e he b hb
  ·refine gx.2 ⟨fun hb=> ?_,h2⟩
   have:=fy h3 _ hb;omega
  ·intro b hb
   rcases dJ.1 hb with rfl|hb
   ·exact⟨fun hF=>by have:=h.iz _ hF;omega,.inr ⟨nC _,jf⟩⟩
   ·obtain⟨k,hk,cn⟩:=h3 b hb
    obtain⟨e,he⟩:=eD.1 (nD k hk)
    exact⟨(h.bt k e b he cn).1,.inl ⟨k,hk,nD k hk,cn⟩⟩
 |false=>
  obtain⟨fl,h1,h2⟩:=Ln
  have NC:∀b,FK F fp ks b->b<w.heap.size:=by
   rintro b (hb|⟨k,hk,hb⟩)
   ·exact h.iz b hb
   ·obtain⟨e,he⟩:=eD.1 (nD k hk)
    exact oV h he hb
  refine⟨FK F fp ks,_,_,h.nv ho hd _ _ ks ps _ _ [w.heap.size] fj (mX _ _) ?_ ?_ ?_ ?_ ?_ ?_ fi⟩
  ·intro bad
   have:=aZ.er hb hc hm hs gY (h1.bu (w':=w1) (F':=FK F fp ks) (fun b hb=>⟨hb,kq b (NC b hb)⟩) (by simp[h2]))
   rw[h2] at this
   exact this
  ·intro b hb;exact⟨.inl hb,kq b (h.iz b hb)⟩
  ·rintro b (hb|⟨k,hk,hb⟩)
   ·exact .inl hb
   ·exact .inr (.inl ⟨k,hk,nD k hk,hb⟩)
  ·intro k e _ he b hb;exact cM k e he b hb
  ·simp
  ·intro b hb
   rw[gn.1 hb]
   exact⟨fun hF=>by have:=NC _ hF;omega,.inr ⟨nC _,jf⟩⟩
theorem JX(hE:E.Ok)(h:aE E pm F kv fp σ a w){o:Oper}{d:Nat}(ho:o.dst=some d)(hd:d<σ.n){t e:TypeId}{len:Nat}{parts:Array (Nat×Operand)}(gy:o.op=.buildSlice t len parts)
  {τ:U.Ty} (iT:E.elem t=some e) (hc:E.code e=some τ) {xs:List (SV U)} (hx:xs.length=parts.toList.length)
  (hv:∀(i:Nat)(x:SV U)(q:Nat×Operand),xs[i]? =some x->parts.toList[i]? =some q->RS E w F kv fp (ay σ) x (a.eval q.2))
  (hlen:(parts.toList.map (·.1)).length=len) (Bk:((parts.toList.map (·.1)).zipIdx).all (fun(a,b)=>Nat.beq a b)=true) (Oe:len*U.wd τ<=1000000)
  {rs:List Key} {want:List (Option U.Ty)} {ps:List Prop} {rows:List (U.T τ)} {ks:List Key} {dp:Bool} (hr:rowsOf τ (restrict σ.aw rs) want xs=some (ps,rows,ks,dp)) (hp:∀p∈ps,p) (pj:ks.Nodup)
  (fj:¬Names σ (d,0)) {next:Act->World->Prop} {Q:Exit->Act->World->Prop}
  (hn:∀F kv fp a' w',aE E pm F kv fp (AM.apply o ⟨some (one (.ref (d,0) [])),[(0,.arr ⟨τ,rows⟩ dp)],ks,[],ps⟩ σ) a' w'->next a' w'):o.wp E.P a w next Q:=by
 obtain⟨kr,i,z,hi,hz,b9,lg,qg,_⟩:=hE.code e τ hc
 have hu:=mO iT
 have hw:=U.dq τ
 obtain⟨r1,r2,r3,r4,r5⟩:=Ib h (us:=parts.toList.map fun q=>a.eval q.2) hr hp (by simp[hx]) (fun i x u tN gG=>by
  rw[eW] at gG
  cases hq:parts.toList[i]? with
  |none=>rw[hq] at gG;cases gG
  |some q=>rw[hq] at gG;cases gG;exact hv i x q tN hq) pj
 have r9:rows.length=len:=by rw[r1,hx,<-hlen];simp
 have pf:parts.toList.length=len:=by rw[<-hlen];simp
 have sa:(parts.map fun(i,x)=>(i,a.eval x)).toList=((parts.toList.map fun q=>a.eval q.2).zipIdx 0).map fun x=>(x.2,x.1):=by
  rw[Cv]
  refine wR fun n=> ?_
  rw[eW,eW,Gx,eW]
  cases hq:parts.toList[n]? with
  |none=>rfl
  |some q=>
   simp only[nG,bH,fB,kO,and_true]
   have h1:((parts.toList.map (·.1)).zipIdx)[n]? =some (q.1,n):=by
    rw[Gx,eW,hq];simp
   have:=(qc.1 Bk) (q.1,n) (n6 h1)
   exact eI this
 have AN:¬len*i.size>2^24:=by rw[b9];omega
 have sd:len<=maxLen:=by
  have:len<=len*U.wd τ:=Nat.le_mul_of_pos_right _ hw
  simp only[maxLen];omega
 have fin:∀cells:Array Value,cells.toList=(parts.toList.map fun q=>a.eval q.2).flatMap (fun u=>u.cells.toList)->
   (Instr.buildSlice t len (parts.map fun(i,x)=>(i,a.eval x))).run E.P w=.ok (.slice (some ⟨w.heap.size,0,none⟩) len len) (w.alloc (.cells cells e))->o.wp E.P a w next Q:=by
  intro cells jT cx
  have ik:cells.size=len*U.wd τ:=by
   obtain⟨fl,h1,_⟩:=r5
   have:=h1.1
   rw[<-jT,r9] at this
   simpa using this
  obtain⟨F',kv',fp',ff⟩:=zU h ho hd fj (ps:=ps) (dp:=dp) pj r3 r4 r5 (w1:=w.alloc (.cells cells e)) (fun b hb=>l8 w _ hb) (bB.alloc _ _ _) (by simp) (cap:=len) (cur:=cells)
   (by rw[kr];exact heap_alloc_new w _) (by omega) sd ik (by rw[r9,<-jT,zt (by simp[ik])])
  refine gW (v:=.slice (some ⟨w.heap.size,0,none⟩) len len) (w':=w.alloc (.cells cells e)) ?_ (hn F' kv' fp' _ _ ?_)
  ·unfold execOp;simp only[gy];exact b8 cx
  ·rw[r9] at ff;exact ff
 by_cases h0:len=0
 ·have sb:parts.toList=[]:=qk (by omega)
  have vB:parts= #[]:=la sb
  subst h0
  refine fin #[] (by simp[sb]) ?_
  simp[Instr.buildSlice,run_underlying hu,Go.sizeOf,typeInfo,hi,vB,Instr.fill,newRow,Array.range_zero']
 ·have pe:¬len*i.size=0:=by
   rw[b9]
   have:=Nat.mul_pos (Nat.pos_of_ne_zero h0) hw
   omega
  have vP:=Great.fill_whole (s:=i.size) (by rw[b9];exact hw) (parts.toList.map fun q=>a.eval q.2) ((Array.range (len*i.size)).map (z.cells[·%z.cells.size]!)) (fun v hv=>by rw[b9];exact r2 v hv) (by simp[pf])
  refine fin ((parts.toList.map fun q=>a.eval q.2).flatMap fun v=>v.cells.toList).toArray rfl (run_buildSlice w t e len _ _ i z hu hi hz AN pe ?_)
  rw[sa]
  exact vP
theorem HF(hE:E.Ok){e:TypeId}{τ:U.Ty}(hc:E.code e=some τ){i:TypeInfo}{z:Value}(hi:E.P.info? e=some i)(hz:i.zero=some z):
  z.cells.size=U.wd τ/\∀n,∃fl,aO E w F true τ (List.replicate n (U.bj τ)) (madeCells z.cells (n*U.wd τ)).toList fl/\fl.flatten=[]:=by
 obtain⟨kr,i',z',gu,yP,b9,lg,qg,tQ⟩:=hE.code e τ hc
 rw[hi] at gu;cases gu
 rw[hz] at yP;cases yP
 have hw:=U.dq τ
 refine⟨lg,fun n=>⟨List.replicate (n*U.wd τ) [],⟨by simp[madeCells],by simp,fun k x j c hx hj=> ?_⟩,k_ _⟩⟩
 have bU:=bm hx hj
 rw[Gy] at bU
 have N5:x=U.bj τ:=by
  rw[GA] at hx
  split at hx
  ·cases hx;rfl
  ·cases hx
 subst N5
 obtain⟨u,h1,h2⟩:=tQ j c hj
 have ua:j<U.wd τ:=by
  rw[<-U.aK τ (U.bj τ)]
  rcases fA j (U.enc τ (U.bj τ)).length with h|h
  ·exact h
  ·rw[fb h] at hj;cases hj
 have gf:(madeCells z.cells (n*U.wd τ)).toList.getD (k*U.wd τ+j) undef=u:=by
  rw[cB,rK]
  unfold madeCells
  rw[Array.getElem?_map,Array.getElem?_range,if_pos bU]
  simp only[nG,yz,lg]
  rw[BX,Nat.add_mul_mod_self_right,Nat.mod_eq_of_lt ua]
  rw[getElem!_def,h1]
 rw[gf,oT]
 rcases h2 with⟨rfl,h3⟩|⟨nZ,rfl,rfl⟩
 ·exact .lit _ _ h3
 ·exact .nil _ _ _ _ (fun _=>rfl)
theorem I3(hE:E.Ok)(h:aE E pm F kv fp σ a w){o:Oper}{d:Nat}(ho:o.dst=some d)(hd:d<σ.n){t e:TypeId}{x y:Operand}(gy:o.op=.makeSlice t x y)
  {τ:U.Ty} (iT:E.elem t=some e) (hc:E.code e=some τ) {sx sy:SV U} {n m:Int} (hx:RS E w F kv fp (ay σ) sx (a.eval x)) (KI:cq sx=some (.int .i64 n))
  (hy:RS E w F kv fp (ay σ) sy (a.eval y)) (Oz:cq sy=some (.int .i64 m)) (h0:0<=n) (gR:n=m) (hle:n<=4294967296) {ps:List Prop}
  (fj:¬Names σ (d,0)) {next:Act->World->Prop} {Q:Exit->Act->World->Prop}
  (hn:∀F kv fp a' w',aE E pm F kv fp (AM.apply o ⟨some (one (.ref (d,0) [])),[(0,.arr ⟨τ,List.replicate n.toNat (U.bj τ)⟩ true)],[],[],ps⟩ σ) a' w'->next a' w'):o.wp E.P a w next Q:=by
 obtain⟨kr,i,z,hi,hz,b9,lg,qg,_⟩:=hE.code e τ hc
 have hu:=mO iT
 subst gR
 obtain⟨_,nN⟩:=HF (w:=w) (F:=F) hE hc hi hz
 obtain⟨fl,h1,h2⟩:=nN n.toNat
 have hb:(i.bytes:Int)*n<=281474976710656:=by
  have h3:(i.bytes:Int)*n<=4096*4294967296:=Int.mul_le_mul (by omega) hle h0 (by omega)
  omega
 have cx:=run_make (P:=E.P) w t e i z hu hi hz .i64 .i64 n n h0 (Int.le_refl _) hb (by omega)
 obtain⟨F',kv',fp',ff⟩:=zU h ho hd fj (τ:=τ) (rows:=List.replicate n.toNat (U.bj τ)) (ks:=[]) (dp:=true) (ps:=ps) (vs:=(madeCells z.cells (n.toNat*U.wd τ)).toList) (by simp) (by simp)
  (fun _=>⟨fl,h1,by simp[h2],by simp[h2]⟩) (by
   refine⟨_,h1.dy (F':=FK F fp []) (fun b hb=> .inl hb) (by simp[h2]),k_ _⟩)
  (w1:=w.alloc (.cells (madeCells z.cells (n.toNat*i.size)) e)) (fun b hb=>l8 w _ hb) (bB.alloc _ _ _) (by simp) (cap:=n.toNat) (cur:=madeCells z.cells (n.toNat*U.wd τ))
  (by rw[kr,b9];exact heap_alloc_new w _) (by simp) (by simp only[maxLen];omega) (size_madeCells _ _) (by rw[zt (by simp[size_madeCells])])
 refine gW (v:=.slice (some ⟨w.heap.size,0,none⟩) n.toNat n.toNat) (w':=w.alloc (.cells (madeCells z.cells (n.toNat*i.size)) e)) ?_ (hn F' kv' fp' _ _ ?_)
 ·unfold execOp;simp only[gy,fR hx KI,fR hy Oz];exact b8 cx
 ·rw[Gy] at ff;exact ff
end AM
