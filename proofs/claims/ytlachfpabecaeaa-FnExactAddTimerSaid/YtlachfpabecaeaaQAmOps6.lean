/- THE ABSTRACT MACHINE: the operations that make memory. -/
import Derived.Test.YtlachfpabecaeaaQAmTake
import Derived.Laws.MakeOwn
namespace AM
set_option linter.unusedVariables false
open Go
variable{U:dh}{E:Env U}{pm:Pm}
variable{F F':Nat->Prop}{kv:Key->Value}{fp:Key->List Nat}{σ:aa U}{a:Act}{w w':World}{bad:Key->Bool}
def aO{β:Type}(f:Key->β)(k:Key)(v:β):Key->β:=fun k'=>if k'=k then v else f k'
theorem gV{β:Type}{f:Key->β}{k:Key}{v:β}:aO f k v k=v:=by simp[aO]
theorem la{β:Type}{f:Key->β}{k k':Key}{v:β}(h:k'≠k):aO f k v k'=f k':=by simp[aO,h]
structure Env.Ok(E:Env U):Prop where
 code:∀e τ,E.code e=some τ->E.tid τ=e/\∃i z,E.P.info? e=some i/\i.zero=some z/\i.size=U.wd τ/\z.cells.size=U.wd τ/\i.bytes<=4096/\
  ∀(j:Nat)(c:U.C),(U.enc τ (U.bn τ))[j]? =some c->∃u,z.cells[j]? =some u/\((c=.lit u/\bI u)\/∃nj,c=.sl nj []/\u=.slice none 0 0)
 mixed:E.P.follows .mixedOrders=true
theorem bH.Ru{W:Nat->Prop}{a b c:World}(h:bH W a b)(k:bH (fun x=>W x\/a.heap.size<=x) b c):bH W a c:=h.trans k
theorem aC.mG(h:aC E pm F kv fp σ a w){o:Oper}{d:Nat}(ho:o.dst=some d)(hd:d<σ.n)(e:b9 U)(sv:SV U)(ks:List Key)(ps:List Prop)(v v0:Value)(kU:List Nat)
  (eK:¬Names σ (d,0))
  (mg:∀bad,RS E w' F' (aO kv (d,0) v0) (aO fp (d,0) kU) bad sv v)
  (hE:∀bad,gO E w' F' (aO kv (d,0) v0) (aO fp (d,0) kU) bad e v0 kU)
  (kY:∀b,F b->F' b/\w'.heap[b]? =w.heap[b]?)
  (mq:∀b,F' b->F b\/(∃k∈ks,(σ.aq k).isSome=true/\b∈fp k)\/(w.heap.size<=b/\b<w'.heap.size))
  (cG:∀k e,k∉ks->σ.aq k=some e->∀b∈fp k,w'.heap[b]? =w.heap[b]?)
  (eH:kU.Nodup) (xL:∀b∈kU,¬F' b/\((∃k∈ks,(σ.aq k).isSome=true/\b∈fp k)\/(w.heap.size<=b/\b<w'.heap.size)))
  (eJ:bH (fun b=>pm.W b\/pm.w0.heap.size<=b) w w'):
  aC E pm F' (aO kv (d,0) v0) (aO fp (d,0) kU) (AM.apply o ⟨some sv,[(0,e)],ks,[],ps⟩ σ) (a.put o.dst v) w':=by
 have cP:aQ o (⟨some sv,[(0,e)],ks,[],ps⟩:aw U)=[(d,0)]:=by simp[aQ,ho]
 have cX:cF (⟨some sv,[(0,e)],ks,[],ps⟩:aw U)=[]:=rfl
 have hW:pm.w0.heap.size<=w.heap.size:=h.upto.size
 refine h.apply o _ v (fun x hx=>by rw[ho] at hx;cases hx;exact hd) ?_ ?_ ?_ ?_ kY ?_ ?_ ?_ ?_ ?_ ?_ (h.upto.trans eJ) eJ.size
 ·intro x hx;cases hx;exact mg _
 ·intro k hk;rw[cP] at hk;exact la (by simpa using hk)
 ·intro k hk _;rw[cP] at hk;exact la (by simpa using hk)
 ·intro k hk;rw[cP] at hk;rw[gj.1 hk];exact eK
 ·intro k e' hk _ ej he b hb;exact cG k e' ej he b hb
 ·rintro k e' (⟨j,rfl,hj⟩|hk)
  ·simp only[gj,eX] at hj
   obtain⟨rfl,rfl⟩:=hj
   have:o.dst.getD 1000000=d:=by rw[ho];rfl
   rw[this,gV,gV]
   refine⟨hE _,eH,fun b hb=> ?_⟩
   obtain⟨h1,h2⟩:=xL b hb
   refine⟨h1,?_⟩
   rcases h2 with⟨k,hk,hl,hb⟩|h2
   ·obtain⟨w_,mn⟩:=ef.1 hl
    have h3:=h.bC k w_ b mn hb
    have:=eJ.size
    exact⟨h3.2.1,by omega⟩
   ·exact⟨.inr (by omega),h2.2⟩
  ·simp at hk
 ·intro k e' b hk _ ej he hb jr
  rcases mq b jr with h1|⟨k',aG,hl,aj⟩|h1
  ·exact(h.bC k e' b he hb).1 h1
  ·obtain⟨w_,mn⟩:=ef.1 hl
   exact h.apart k k' e' w_ b (fun e=>ej (e▸aG)) he mn hb aj
  ·have:=(h.bC k e' b he hb).2.2;omega
 ·intro k k' b a_ hk aG hb
  rw[cP,cX] at hk aG
  simp only[gj,vt,or_false,false_or] at hk aG
  subst hk
  rw[gV] at hb
  rcases aG with rfl|⟨aG,p5⟩
  ·exact absurd rfl a_
  ·rw[la (Ne.symm a_)]
   obtain⟨e',bf⟩:=ef.1 p5
   intro aj
   rcases(xL b hb).2 with⟨k,hk,hl,cq⟩|h2
   ·obtain⟨w_,mn⟩:=ef.1 hl
    exact h.apart k k' w_ e' b (fun e=>aG (e▸hk)) mn bf cq aj
   ·have:=(h.bC k' e' b bf aj).2.2;omega
 ·intro b hb
  rcases mq b hb with h1|⟨k,hk,hl,aj⟩|h1
  ·have:=h.hJ b h1;have:=eJ.size;omega
  ·obtain⟨w_,mn⟩:=ef.1 hl
   have:=(h.bC k w_ b mn aj).2.2;have:=eJ.size;omega
  ·exact h1.2
 ·intro b hb
  rcases mq b hb with h1|⟨k,hk,hl,aj⟩|h1
  ·exact h.hH b h1
  ·obtain⟨w_,mn⟩:=ef.1 hl
   exact .inr (h.bC k w_ b mn aj).2.1
  ·exact .inr (.inr (by omega))
theorem Pd{o:Oper}{d:Nat}(ho:o.dst=some d){e:b9 U}{sv:SV U}{ks:List Key}{ps:List Prop}:True:=trivial
theorem nU(h:aC E pm F kv fp σ a w){k:Key}{e:b9 U}{b:Nat}(he:σ.aq k=some e)(hb:b∈fp k):b<w.heap.size:=(h.bC k e b he hb).2.2
theorem lc(w:World)(o:Obj){b:Nat}(hb:b<w.heap.size):(w.alloc o).heap[b]? =w.heap[b]? :=RowKit.Below.heap_alloc w o b hb
theorem bH.alloc(W:Nat->Prop)(w:World)(o:Obj):bH W w (w.alloc o):=
 ⟨rfl,rfl,rfl,by simp,fun k hk _=>RowKit.Below.heap_alloc w o k hk⟩
theorem JO(h:aC E pm F kv fp σ a w){o:Oper}{d:Nat}(ho:o.dst=some d)(hd:d<σ.n){t:TypeId}(fV:o.op=.alloc t){z:Value}(hz:(E.P.info? t).bind (·.zero)=some z)
  {l:List (AC U)} (hl:cD z.cells.toList=some l) (eK:¬Names σ (d,0)) {next:Act->World->Prop} {Q:Exit->Act->World->Prop}
  (hn:∀F kv fp a' w',aC E pm F kv fp (AM.apply o ⟨some (one (.cR (d,0) 0)),[(0,.box l)],[],[],[]⟩ σ) a' w'->next a' w'):o.wp E.P a w next Q:=by
 have cu:(execOp a.eval o).run E.P w=.ok (.value (.pointer (some ⟨w.heap.size,0,none⟩))) (w.alloc (.cells z.cells t)):=by
  cases hi:E.P.info? t with
  |none=>rw[hi] at hz;cases hz
  |some i=>
   rw[hi] at hz
   have xB:i.zero=some z:=hz
   unfold execOp;simp only[fV]
   refine cd ?_
   simp[Instr.alloc,zeroValue,typeInfo,hi,xB,newVar,newRow]
 refine gq cu (hn F (aO kv (d,0) (.pointer (some ⟨w.heap.size,0,none⟩))) (aO fp (d,0) [w.heap.size]) _ _ (h.mG (w':=w.alloc (.cells z.cells t)) ho hd _ _ [] _ (.pointer (some ⟨w.heap.size,0,none⟩)) _ _ eK ?_ ?_ ?_ ?_ ?_ ?_ ?_ ?_))
 ·intro bad
  exact b8 ⟨⟨rfl,trivial⟩,.inr ⟨w.heap.size,gV,rfl⟩⟩
 ·intro bad
  exact⟨w.heap.size,z.cells,t,rfl,heap_alloc_new w _,rfl,wm hl⟩
 ·intro b hb;exact⟨hb,lc w _ (h.hJ b hb)⟩
 ·intro b hb;exact .inl hb
 ·intro k e _ he b hb;exact lc w _ (nU h he hb)
 ·simp
 ·intro b hb
  rw[gj.1 hb]
  exact⟨fun hF=>by have:=h.hJ _ hF;omega,.inr ⟨nl _,by simp⟩⟩
 ·exact bH.alloc _ _ _
theorem yM(h:aC E pm F kv fp σ a w){o:Oper}{d:Nat}(ho:o.dst=some d)(hd:d<σ.n)(eK:¬Names σ (d,0)){τ:U.Ty}{rows:List (U.T τ)}{ks:List Key}{dp:Bool}{ps:List Prop}
  {vs:List Value} (oj:ks.Nodup) (mL:∀k∈ks,(σ.aq k).isSome=true)
  (EZ:dp=true->∃fl,aR E w F true τ rows vs fl/\fl.flatten.Nodup/\∀b∈fl.flatten,∃k∈ks,b∈fp k)
  (KX:∃fl,aR E w (FK F fp ks) false τ rows vs fl/\fl.flatten=[])
  {w1:World} (jL:∀b,b<w.heap.size->w1.heap[b]? =w.heap[b]?) (eJ:bH (fun b=>pm.W b\/pm.w0.heap.size<=b) w w1) (iG:w.heap.size<w1.heap.size)
  {cap:Nat} {cur:Array Value} (hb:w1.heap[w.heap.size]? =some (.cells cur (E.tid τ) (0,0))) (hc:rows.length<=cap) (hm:cap<=maxLen) (hs:cur.size=cap*U.wd τ) (gy:cur.toList.take (rows.length*U.wd τ)=vs):
  ∃F' kv' fp',aC E pm F' kv' fp' (AM.apply o ⟨some (one (.ref (d,0) [])),[(0,.arr ⟨τ,rows⟩ dp)],ks,[],ps⟩ σ) (a.put o.dst (.slice (some ⟨w.heap.size,0,none⟩) rows.length cap)) w1:=by
 have mg:∀(F':Nat->Prop)(kU:List Nat) bad,RS E w1 F' (aO kv (d,0) (.slice (some ⟨w.heap.size,0,none⟩) rows.length cap)) (aO fp (d,0) kU) bad (one (.ref (d,0) [])) (.slice (some ⟨w.heap.size,0,none⟩) rows.length cap):=
  fun F' kU bad=>b8 ⟨⟨rfl,trivial⟩,.inr (by simp only[RA,gV];rfl)⟩
 have cG:∀k e,σ.aq k=some e->∀b∈fp k,w1.heap[b]? =w.heap[b]? :=fun k e he b hb=>jL b (nU h he hb)
 have eU:∀{l:List Nat},(∀b∈l,∃k∈ks,b∈fp k)->∀b∈l,b<w.heap.size:=fun hl b hb=>by
  obtain⟨k,hk,hb⟩:=hl b hb
  obtain⟨e,he⟩:=ef.1 (mL k hk)
  exact nU h he hb
 cases dp with
 |true=>
  obtain⟨fl,h1,h2,h3⟩:=EZ rfl
  refine⟨F,_,_,h.mG ho hd _ _ ks ps _ _ (w.heap.size::fl.flatten) eK (mg F _) ?_ ?_ ?_ ?_ ?_ ?_ eJ⟩
  ·intro bad
   exact ba.d_ hb hc hm hs gy (h1.bD (fun b hb=>⟨hb,jL b (h.hJ b hb)⟩) (fun b hb=>jL b (eU h3 b hb)))
  ·intro b hb;exact⟨hb,jL b (h.hJ b hb)⟩
  ·intro b hb;exact .inl hb
  ·intro k e _ he b hb;exact cG k e he b hb
  ·refine fU.2 ⟨fun hb=> ?_,h2⟩
   have:=eU h3 _ hb;omega
  ·intro b hb
   rcases dQ.1 hb with rfl|hb
   ·exact⟨fun hF=>by have:=h.hJ _ hF;omega,.inr ⟨nl _,iG⟩⟩
   ·obtain⟨k,hk,cq⟩:=h3 b hb
    obtain⟨e,he⟩:=ef.1 (mL k hk)
    exact⟨(h.bC k e b he cq).1,.inl ⟨k,hk,mL k hk,cq⟩⟩
 |false=>
  obtain⟨fl,h1,h2⟩:=KX
  have OR:∀b,FK F fp ks b->b<w.heap.size:=by
   rintro b (hb|⟨k,hk,hb⟩)
   ·exact h.hJ b hb
   ·obtain⟨e,he⟩:=ef.1 (mL k hk)
    exact nU h he hb
  refine⟨FK F fp ks,_,_,h.mG ho hd _ _ ks ps _ _ [w.heap.size] eK (mg _ _) ?_ ?_ ?_ ?_ ?_ ?_ eJ⟩
  ·intro bad
   have:=ba.d_ hb hc hm hs gy (h1.bD (w':=w1) (F':=FK F fp ks) (fun b hb=>⟨hb,jL b (OR b hb)⟩) (by simp[h2]))
   rw[h2] at this
   exact this
  ·intro b hb;exact⟨.inl hb,jL b (h.hJ b hb)⟩
  ·rintro b (hb|⟨k,hk,hb⟩)
   ·exact .inl hb
   ·exact .inr (.inl ⟨k,hk,mL k hk,hb⟩)
  ·intro k e _ he b hb;exact cG k e he b hb
  ·simp
  ·intro b hb
   rw[gj.1 hb]
   exact⟨fun hF=>by have:=OR _ hF;omega,.inr ⟨nl _,iG⟩⟩
theorem Jy(hE:E.Ok)(h:aC E pm F kv fp σ a w){o:Oper}{d:Nat}(ho:o.dst=some d)(hd:d<σ.n){t e:TypeId}{len:Nat}{parts:Array (Nat×Operand)}(fV:o.op=.buildSlice t len parts)
  {τ:U.Ty} (iq:E.elem t=some e) (hc:E.code e=some τ) {xs:List (SV U)} (hx:xs.length=parts.toList.length)
  (hv:∀(i:Nat)(x:SV U)(q:Nat×Operand),xs[i]? =some x->parts.toList[i]? =some q->RS E w F kv fp (av σ) x (a.eval q.2))
  (hlen:(parts.toList.map (·.1)).length=len) (Ae:((parts.toList.map (·.1)).zipIdx).all (fun(a,b)=>Nat.beq a b)=true) (Pu:len*U.wd τ<=1000000)
  {rs:List Key} {want:List (Option U.Ty)} {ps:List Prop} {rows:List (U.T τ)} {ks:List Key} {dp:Bool} (hr:rowsOf τ (restrict σ.aq rs) want xs=some (ps,rows,ks,dp)) (hp:∀p∈ps,p) (oj:ks.Nodup)
  (eK:¬Names σ (d,0)) {next:Act->World->Prop} {Q:Exit->Act->World->Prop}
  (hn:∀F kv fp a' w',aC E pm F kv fp (AM.apply o ⟨some (one (.ref (d,0) [])),[(0,.arr ⟨τ,rows⟩ dp)],ks,[],ps⟩ σ) a' w'->next a' w'):o.wp E.P a w next Q:=by
 obtain⟨jM,i,z,hi,hz,ci,kz,pu,_⟩:=hE.code e τ hc
 have hu:=l5 iq
 have hw:=U.c_ τ
 obtain⟨r1,r2,r3,r4,r5⟩:=HN h (us:=parts.toList.map fun q=>a.eval q.2) hr hp (by simp[hx]) (fun i x u sF ga=>by
  rw[eC] at ga
  cases hq:parts.toList[i]? with
  |none=>rw[hq] at ga;cases ga
  |some q=>rw[hq] at ga;cases ga;exact hv i x q sF hq) oj
 have qN:rows.length=len:=by rw[r1,hx,<-hlen];simp
 have oe:parts.toList.length=len:=by rw[<-hlen];simp
 have qP:(parts.map fun(i,x)=>(i,a.eval x)).toList=((parts.toList.map fun q=>a.eval q.2).zipIdx 0).map fun x=>(x.2,x.1):=by
  rw[Cg]
  refine vp fun n=> ?_
  rw[eC,eC,FX,eC]
  cases hq:parts.toList[n]? with
  |none=>rfl
  |some q=>
   simp only[mP,bM,eX,ke,and_true]
   have h1:((parts.toList.map (·.1)).zipIdx)[n]? =some (q.1,n):=by
    rw[FX,eC,hq];simp
   have:=(qp.1 Ae) (q.1,n) (np h1)
   exact en this
 have zA:¬len*i.size>2^24:=by rw[ci];omega
 have qR:len<=maxLen:=by
  have:len<=len*U.wd τ:=Nat.le_mul_of_pos_right _ hw
  simp only[maxLen];omega
 have fin:∀cells:Array Value,cells.toList=(parts.toList.map fun q=>a.eval q.2).flatMap (fun u=>u.cells.toList)->
   (Instr.buildSlice t len (parts.map fun(i,x)=>(i,a.eval x))).run E.P w=.ok (.slice (some ⟨w.heap.size,0,none⟩) len len) (w.alloc (.cells cells e))->o.wp E.P a w next Q:=by
  intro cells jq cu
  have gS:cells.size=len*U.wd τ:=by
   obtain⟨fl,h1,_⟩:=r5
   have:=h1.1
   rw[<-jq,qN] at this
   simpa using this
  obtain⟨F',kv',fp',eI⟩:=yM h ho hd eK (ps:=ps) (dp:=dp) oj r3 r4 r5 (w1:=w.alloc (.cells cells e)) (fun b hb=>lc w _ hb) (bH.alloc _ _ _) (by simp) (cap:=len) (cur:=cells)
   (by rw[jM];exact heap_alloc_new w _) (by omega) qR gS (by rw[qN,<-jq,yj (by simp[gS])])
  refine gq (v:=.slice (some ⟨w.heap.size,0,none⟩) len len) (w':=w.alloc (.cells cells e)) ?_ (hn F' kv' fp' _ _ ?_)
  ·unfold execOp;simp only[fV];exact cd cu
  ·rw[qN] at eI;exact eI
 by_cases h0:len=0
 ·have qQ:parts.toList=[]:=pB (by omega)
  have ur:parts= #[]:=ku qQ
  subst h0
  refine fin #[] (by simp[qQ]) ?_
  simp[Instr.buildSlice,run_underlying hu,Go.sizeOf,typeInfo,hi,ur,Instr.fill,newRow,Array.range_zero']
 ·have od:¬len*i.size=0:=by
   rw[ci]
   have:=Nat.mul_pos (Nat.pos_of_ne_zero h0) hw
   omega
  have uH:=Great.fill_whole (s:=i.size) (by rw[ci];exact hw) (parts.toList.map fun q=>a.eval q.2) ((Array.range (len*i.size)).map (z.cells[·%z.cells.size]!)) (fun v hv=>by rw[ci];exact r2 v hv) (by simp[oe])
  refine fin ((parts.toList.map fun q=>a.eval q.2).flatMap fun v=>v.cells.toList).toArray rfl (run_buildSlice w t e len _ _ i z hu hi hz zA od ?_)
  rw[qP]
  exact uH
theorem Hf(hE:E.Ok){e:TypeId}{τ:U.Ty}(hc:E.code e=some τ){i:TypeInfo}{z:Value}(hi:E.P.info? e=some i)(hz:i.zero=some z):
  z.cells.size=U.wd τ/\∀n,∃fl,aR E w F true τ (List.replicate n (U.bn τ)) (madeCells z.cells (n*U.wd τ)).toList fl/\fl.flatten=[]:=by
 obtain⟨jM,i',z',fP,xB,ci,kz,pu,sH⟩:=hE.code e τ hc
 rw[hi] at fP;cases fP
 rw[hz] at xB;cases xB
 have hw:=U.c_ τ
 refine⟨kz,fun n=>⟨List.replicate (n*U.wd τ) [],⟨by simp[madeCells],by simp,fun k x j c hx hj=> ?_⟩,kt _⟩⟩
 have bZ:=bw hx hj
 rw[FY] at bZ
 have Pj:x=U.bn τ:=by
  rw[F5] at hx
  split at hx
  ·cases hx;rfl
  ·cases hx
 subst Pj
 obtain⟨u,h1,h2⟩:=sH j c hj
 have sR:j<U.wd τ:=by
  rw[<-U.aM τ (U.bn τ)]
  rcases eW j (U.enc τ (U.bn τ)).length with h|h
  ·exact h
  ·rw[eD h] at hj;cases hj
 have fD:(madeCells z.cells (n*U.wd τ)).toList.getD (k*U.wd τ+j) undef=u:=by
  rw[cI,qt]
  unfold madeCells
  rw[Array.getElem?_map,Array.getElem?_range,if_pos bZ]
  simp only[mP,xk,kz]
  rw[BG,Nat.add_mul_mod_self_right,Nat.mod_eq_of_lt sR]
  rw[getElem!_def,h1]
 rw[fD,nT]
 rcases h2 with⟨rfl,h3⟩|⟨nj,rfl,rfl⟩
 ·exact .lit _ _ h3
 ·exact .nil _ _ _ _ (fun _=>rfl)
theorem ID(hE:E.Ok)(h:aC E pm F kv fp σ a w){o:Oper}{d:Nat}(ho:o.dst=some d)(hd:d<σ.n){t e:TypeId}{x y:Operand}(fV:o.op=.makeSlice t x y)
  {τ:U.Ty} (iq:E.elem t=some e) (hc:E.code e=some τ) {sx sy:SV U} {n m:Int} (hx:RS E w F kv fp (av σ) sx (a.eval x)) (Kk:cr sx=some (.int .i64 n))
  (hy:RS E w F kv fp (av σ) sy (a.eval y)) (PL:cr sy=some (.int .i64 m)) (h0:0<=n) (gi:n=m) (hle:n<=4294967296) {ps:List Prop}
  (eK:¬Names σ (d,0)) {next:Act->World->Prop} {Q:Exit->Act->World->Prop}
  (hn:∀F kv fp a' w',aC E pm F kv fp (AM.apply o ⟨some (one (.ref (d,0) [])),[(0,.arr ⟨τ,List.replicate n.toNat (U.bn τ)⟩ true)],[],[],ps⟩ σ) a' w'->next a' w'):o.wp E.P a w next Q:=by
 obtain⟨jM,i,z,hi,hz,ci,kz,pu,_⟩:=hE.code e τ hc
 have hu:=l5 iq
 subst gi
 obtain⟨_,mY⟩:=Hf (w:=w) (F:=F) hE hc hi hz
 obtain⟨fl,h1,h2⟩:=mY n.toNat
 have hb:(i.bytes:Int)*n<=281474976710656:=by
  have h3:(i.bytes:Int)*n<=4096*4294967296:=Int.mul_le_mul (by omega) hle h0 (by omega)
  omega
 have cu:=run_make (P:=E.P) w t e i z hu hi hz .i64 .i64 n n h0 (Int.le_refl _) hb (by omega)
 obtain⟨F',kv',fp',eI⟩:=yM h ho hd eK (τ:=τ) (rows:=List.replicate n.toNat (U.bn τ)) (ks:=[]) (dp:=true) (ps:=ps) (vs:=(madeCells z.cells (n.toNat*U.wd τ)).toList) (by simp) (by simp)
  (fun _=>⟨fl,h1,by simp[h2],by simp[h2]⟩) (by
   refine⟨_,h1.di (F':=FK F fp []) (fun b hb=> .inl hb) (by simp[h2]),kt _⟩)
  (w1:=w.alloc (.cells (madeCells z.cells (n.toNat*i.size)) e)) (fun b hb=>lc w _ hb) (bH.alloc _ _ _) (by simp) (cap:=n.toNat) (cur:=madeCells z.cells (n.toNat*U.wd τ))
  (by rw[jM,ci];exact heap_alloc_new w _) (by simp) (by simp only[maxLen];omega) (size_madeCells _ _) (by rw[yj (by simp[size_madeCells])])
 refine gq (v:=.slice (some ⟨w.heap.size,0,none⟩) n.toNat n.toNat) (w':=w.alloc (.cells (madeCells z.cells (n.toNat*i.size)) e)) ?_ (hn F' kv' fp' _ _ ?_)
 ·unfold execOp;simp only[fV,fq hx Kk,fq hy PL];exact cd cu
 ·rw[FY] at eI;exact eI
end AM
