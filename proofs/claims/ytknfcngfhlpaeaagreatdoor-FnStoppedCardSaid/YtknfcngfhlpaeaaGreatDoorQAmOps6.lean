import Derived.Test.YtknfcngfhlpaeaaGreatDoorQAmTake
import Derived.Laws.MakeOwn
namespace AM
set_option linter.unusedVariables false
open Go
variable{U:kz}{E:Env U}{pm:Pm}
variable{F F':Nat->Prop}{kv:Key->Value}{fp:Key->List Nat}{σ:ak U}{a:Act}{w w':World}{bad:Key->Bool}
def c_{β:Type}(f:Key->β)(k:Key)(v:β):Key->β:=fun k'=>if k'=k then v else f k'
theorem sE{β:Type}{f:Key->β}{k:Key}{v:β}:c_ f k v k=v:=by simp[c_]
theorem zR{β:Type}{f:Key->β}{k k':Key}{v:β}(h:k'≠k):c_ f k v k'=f k':=by simp[c_,h]
structure Env.Ok(E:Env U):Prop where
 code:∀e τ,E.code e=some τ->E.tid τ=e/\∃i z,E.P.info? e=some i/\i.zero=some z/\i.size=U.wd τ/\z.cells.size=U.wd τ/\i.bytes<=4096/\
  ∀(j:Nat)(c:U.C),(U.enc τ (U.ee τ))[j]? =some c->∃u,z.cells[j]? =some u/\((c=.lit u/\fI u)\/∃El,c=.sl El []/\u=.slice none 0 0)
 mixed:E.P.follows .mixedOrders=true
theorem cG.Dy(h:cG E pm F kv fp σ a w){o:Oper}{d:Nat}(ho:o.dst=some d)(hd:d<σ.n)(e:ie U)(sv:SV U)(ks:List Key)(ps:List Prop)(v v0:Value)(zo:List Nat)
  (nu:¬Names σ (d,0))
  (C4:∀bad,RS E w' F' (c_ kv (d,0) v0) (c_ fp (d,0) zo) bad sv v)
  (hE:∀bad,sg E w' F' (c_ kv (d,0) v0) (c_ fp (d,0) zo) bad e v0 zo)
  (zx:∀b,F b->F' b/\w'.heap[b]? =w.heap[b]?)
  (Db:∀b,F' b->F b\/(∃k∈ks,(σ.bH k).isSome=true/\b∈fp k)\/(w.heap.size<=b/\b<w'.heap.size))
  (iN:∀k e,k∉ks->σ.bH k=some e->∀b∈fp k,w'.heap[b]? =w.heap[b]?)
  (o9:zo.Nodup) (Nq:∀b∈zo,¬F' b/\((∃k∈ks,(σ.bH k).isSome=true/\b∈fp k)\/(w.heap.size<=b/\b<w'.heap.size)))
  (oV:gq (fun b=>pm.W b\/pm.w0.heap.size<=b) w w'):
  cG E pm F' (c_ kv (d,0) v0) (c_ fp (d,0) zo) (AM.apply o ⟨some sv,[(0,e)],ks,[],ps⟩ σ) (a.put o.dst v) w':=by
 have jS:dk o (⟨some sv,[(0,e)],ks,[],ps⟩:bX U)=[(d,0)]:=by simp[dk,ho]
 have kj:jh (⟨some sv,[(0,e)],ks,[],ps⟩:bX U)=[]:=rfl
 have hW:pm.w0.heap.size<=w.heap.size:=h.upto.size
 refine h.apply o _ v (fun x hx=>by rw[ho] at hx;cases hx;exact hd) ?_ ?_ ?_ ?_ zx ?_ ?_ ?_ ?_ ?_ ?_ (h.upto.trans oV) oV.size
 ·intro x hx;cases hx;exact C4 _
 ·intro k hk;rw[jS] at hk;exact zR (by simpa using hk)
 ·intro k hk _;rw[jS] at hk;exact zR (by simpa using hk)
 ·intro k hk;rw[jS] at hk;rw[mb.1 hk];exact nu
 ·intro k e' hk _ kx he b hb;exact iN k e' kx he b hb
 ·rintro k e' (⟨j,rfl,hj⟩|hk)
  ·simp only[mb,nT] at hj
   obtain⟨rfl,rfl⟩:=hj
   have:o.dst.getD 1000000=d:=by rw[ho];rfl
   rw[this,sE,sE]
   refine⟨hE _,o9,fun b hb=> ?_⟩
   obtain⟨h1,h2⟩:=Nq b hb
   refine⟨h1,?_⟩
   rcases h2 with⟨k,hk,hl,hb⟩|h2
   ·obtain⟨SS,C_⟩:=l6.1 hl
    have h3:=h.fj k SS b C_ hb
    have:=oV.size
    exact⟨h3.2.1,by omega⟩
   ·exact⟨.inr (by omega),h2.2⟩
  ·simp at hk
 ·intro k e' b hk _ kx he hb uT
  rcases Db b uT with h1|⟨k',cK,hl,bg⟩|h1
  ·exact(h.fj k e' b he hb).1 h1
  ·obtain⟨SS,C_⟩:=l6.1 hl
   exact h.apart k k' e' SS b (fun e=>kx (e▸cK)) he C_ hb bg
  ·have:=(h.fj k e' b he hb).2.2;omega
 ·intro k k' b d_ hk cK hb
  rw[jS,kj] at hk cK
  simp only[mb,LX,or_false,false_or] at hk cK
  subst hk
  rw[sE] at hb
  rcases cK with rfl|⟨cK,Gf⟩
  ·exact absurd rfl d_
  ·rw[zR (Ne.symm d_)]
   obtain⟨e',ew⟩:=l6.1 Gf
   intro bg
   rcases(Nq b hb).2 with⟨k,hk,hl,ic⟩|h2
   ·obtain⟨SS,C_⟩:=l6.1 hl
    exact h.apart k k' SS e' b (fun e=>cK (e▸hk)) C_ ew ic bg
   ·have:=(h.fj k' e' b ew bg).2.2;omega
 ·intro b hb
  rcases Db b hb with h1|⟨k,hk,hl,bg⟩|h1
  ·have:=h.sO b h1;have:=oV.size;omega
  ·obtain⟨SS,C_⟩:=l6.1 hl
   have:=(h.fj k SS b C_ bg).2.2;have:=oV.size;omega
  ·exact h1.2
 ·intro b hb
  rcases Db b hb with h1|⟨k,hk,hl,bg⟩|h1
  ·exact h.sN b h1
  ·obtain⟨SS,C_⟩:=l6.1 hl
   exact .inr (h.fj k SS b C_ bg).2.1
  ·exact .inr (.inr (by omega))
theorem FL(h:cG E pm F kv fp σ a w){k:Key}{e:ie U}{b:Nat}(he:σ.bH k=some e)(hb:b∈fp k):b<w.heap.size:=(h.fj k e b he hb).2.2
theorem zS(w:World)(o:Obj){b:Nat}(hb:b<w.heap.size):(w.alloc o).heap[b]? =w.heap[b]? :=RowKit.Below.heap_alloc w o b hb
theorem gq.alloc(W:Nat->Prop)(w:World)(o:Obj):gq W w (w.alloc o):=
 ⟨rfl,rfl,rfl,by simp,fun k hk _=>RowKit.Below.heap_alloc w o k hk⟩
theorem ajR(h:cG E pm F kv fp σ a w){o:Oper}{d:Nat}(ho:o.dst=some d)(hd:d<σ.n){t:TypeId}(qB:o.op=.alloc t){z:Value}(hz:(E.P.info? t).bind (·.zero)=some z)
  {l:List (AC U)} (hl:jf z.cells.toList=some l) (nu:¬Names σ (d,0)) {next:Act->World->Prop} {Q:Exit->Act->World->Prop}
  (hn:∀F kv fp a' w',cG E pm F kv fp (AM.apply o ⟨some (one (.jU (d,0) 0)),[(0,.box l)],[],[],[]⟩ σ) a' w'->next a' w'):o.wp E.P a w next Q:=by
 have iM:(execOp a.eval o).run E.P w=.ok (.value (.pointer (some ⟨w.heap.size,0,none⟩))) (w.alloc (.cells z.cells t)):=by
  cases hi:E.P.info? t with
  |none=>rw[hi] at hz;cases hz
  |some i=>
   rw[hi] at hz
   have QS:i.zero=some z:=hz
   unfold execOp;simp only[qB]
   refine gY ?_
   simp[Instr.alloc,zeroValue,typeInfo,hi,QS,newVar,newRow]
 refine qZ iM (hn F (c_ kv (d,0) (.pointer (some ⟨w.heap.size,0,none⟩))) (c_ fp (d,0) [w.heap.size]) _ _ (h.Dy (w':=w.alloc (.cells z.cells t)) ho hd _ _ [] _ (.pointer (some ⟨w.heap.size,0,none⟩)) _ _ nu ?_ ?_ ?_ ?_ ?_ ?_ ?_ ?_))
 ·intro bad
  exact gP ⟨⟨rfl,trivial⟩,.inr ⟨w.heap.size,sE,rfl⟩⟩
 ·intro bad
  exact⟨w.heap.size,z.cells,t,rfl,heap_alloc_new w _,rfl,RM hl⟩
 ·intro b hb;exact⟨hb,zS w _ (h.sO b hb)⟩
 ·intro b hb;exact .inl hb
 ·intro k e _ he b hb;exact zS w _ (FL h he hb)
 ·simp
 ·intro b hb
  rw[mb.1 hb]
  exact⟨fun hF=>by have:=h.sO _ hF;omega,.inr ⟨sB _,by simp⟩⟩
 ·exact gq.alloc _ _ _
theorem WI(h:cG E pm F kv fp σ a w){o:Oper}{d:Nat}(ho:o.dst=some d)(hd:d<σ.n)(nu:¬Names σ (d,0)){τ:U.Ty}{rows:List (U.T τ)}{ks:List Key}{dp:Bool}{ps:List Prop}
  {vs:List Value} (Gg:ks.Nodup) (D0:∀k∈ks,(σ.bH k).isSome=true)
  (ab3:dp=true->∃fl,eg E w F true τ rows vs fl/\fl.flatten.Nodup/\∀b∈fl.flatten,∃k∈ks,b∈fp k)
  (akt:∃fl,eg E w (FK F fp ks) false τ rows vs fl/\fl.flatten=[])
  {w1:World} (yz:∀b,b<w.heap.size->w1.heap[b]? =w.heap[b]?) (oV:gq (fun b=>pm.W b\/pm.w0.heap.size<=b) w w1) (tU:w.heap.size<w1.heap.size)
  {cap:Nat} {cur:Array Value} (hb:w1.heap[w.heap.size]? =some (.cells cur (E.tid τ) (0,0))) (hc:rows.length<=cap) (hm:cap<=maxLen) (hs:cur.size=cap*U.wd τ) (zu:cur.toList.take (rows.length*U.wd τ)=vs):
  ∃F' kv' fp',cG E pm F' kv' fp' (AM.apply o ⟨some (one (.ref (d,0) [])),[(0,.arr ⟨τ,rows⟩ dp)],ks,[],ps⟩ σ) (a.put o.dst (.slice (some ⟨w.heap.size,0,none⟩) rows.length cap)) w1:=by
 have C4:∀(F':Nat->Prop)(zo:List Nat) bad,RS E w1 F' (c_ kv (d,0) (.slice (some ⟨w.heap.size,0,none⟩) rows.length cap)) (c_ fp (d,0) zo) bad (one (.ref (d,0) [])) (.slice (some ⟨w.heap.size,0,none⟩) rows.length cap):=
  fun F' zo bad=>gP ⟨⟨rfl,trivial⟩,.inr (by simp only[RA,sE];rfl)⟩
 have iN:∀k e,σ.bH k=some e->∀b∈fp k,w1.heap[b]? =w.heap[b]? :=fun k e he b hb=>yz b (FL h he hb)
 have o_:∀{l:List Nat},(∀b∈l,∃k∈ks,b∈fp k)->∀b∈l,b<w.heap.size:=fun hl b hb=>by
  obtain⟨k,hk,hb⟩:=hl b hb
  obtain⟨e,he⟩:=l6.1 (D0 k hk)
  exact FL h he hb
 cases dp with
 |true=>
  obtain⟨fl,h1,h2,h3⟩:=ab3 rfl
  refine⟨F,_,_,h.Dy ho hd _ _ ks ps _ _ (w.heap.size::fl.flatten) nu (C4 F _) ?_ ?_ ?_ ?_ ?_ ?_ oV⟩
  ·intro bad
   exact eo.mU hb hc hm hs zu (h1.fC (fun b hb=>⟨hb,yz b (h.sO b hb)⟩) (fun b hb=>yz b (o_ h3 b hb)))
  ·intro b hb;exact⟨hb,yz b (h.sO b hb)⟩
  ·intro b hb;exact .inl hb
  ·intro k e _ he b hb;exact iN k e he b hb
  ·refine sC.2 ⟨fun hb=> ?_,h2⟩
   have:=o_ h3 _ hb;omega
  ·intro b hb
   rcases jF.1 hb with rfl|hb
   ·exact⟨fun hF=>by have:=h.sO _ hF;omega,.inr ⟨sB _,tU⟩⟩
   ·obtain⟨k,hk,ic⟩:=h3 b hb
    obtain⟨e,he⟩:=l6.1 (D0 k hk)
    exact⟨(h.fj k e b he ic).1,.inl ⟨k,hk,D0 k hk,ic⟩⟩
 |false=>
  obtain⟨fl,h1,h2⟩:=akt
  have hFK:∀b,FK F fp ks b->b<w.heap.size:=by
   rintro b (hb|⟨k,hk,hb⟩)
   ·exact h.sO b hb
   ·obtain⟨e,he⟩:=l6.1 (D0 k hk)
    exact FL h he hb
  refine⟨FK F fp ks,_,_,h.Dy ho hd _ _ ks ps _ _ [w.heap.size] nu (C4 _ _) ?_ ?_ ?_ ?_ ?_ ?_ oV⟩
  ·intro bad
   have:=eo.mU hb hc hm hs zu (h1.fC (w':=w1) (F':=FK F fp ks) (fun b hb=>⟨hb,yz b (hFK b hb)⟩) (by simp[h2]))
   rw[h2] at this
   exact this
  ·intro b hb;exact⟨.inl hb,yz b (h.sO b hb)⟩
  ·rintro b (hb|⟨k,hk,hb⟩)
   ·exact .inl hb
   ·exact .inr (.inl ⟨k,hk,D0 k hk,hb⟩)
  ·intro k e _ he b hb;exact iN k e he b hb
  ·simp
  ·intro b hb
   rw[mb.1 hb]
   exact⟨fun hF=>by have:=hFK _ hF;omega,.inr ⟨sB _,tU⟩⟩
theorem ajB(hE:E.Ok)(h:cG E pm F kv fp σ a w){o:Oper}{d:Nat}(ho:o.dst=some d)(hd:d<σ.n){t e:TypeId}{len:Nat}{parts:Array (Nat×Operand)}(qB:o.op=.buildSlice t len parts)
  {τ:U.Ty} (tt:E.elem t=some e) (hc:E.code e=some τ) {xs:List (SV U)} (hx:xs.length=parts.toList.length)
  (hv:∀(i:Nat)(x:SV U)(q:Nat×Operand),xs[i]? =some x->parts.toList[i]? =some q->RS E w F kv fp (bR σ) x (a.eval q.2))
  (hlen:(parts.toList.map (·.1)).length=len) (Yd:((parts.toList.map (·.1)).zipIdx).all (fun(a,b)=>Nat.beq a b)=true) (hsm:len*U.wd τ<=1000000)
  {rs:List Key} {want:List (Option U.Ty)} {ps:List Prop} {rows:List (U.T τ)} {ks:List Key} {dp:Bool} (hr:rowsOf τ (restrict σ.bH rs) want xs=some (ps,rows,ks,dp)) (hp:∀p∈ps,p) (Gg:ks.Nodup)
  (nu:¬Names σ (d,0)) {next:Act->World->Prop} {Q:Exit->Act->World->Prop}
  (hn:∀F kv fp a' w',cG E pm F kv fp (AM.apply o ⟨some (one (.ref (d,0) [])),[(0,.arr ⟨τ,rows⟩ dp)],ks,[],ps⟩ σ) a' w'->next a' w'):o.wp E.P a w next Q:=by
 obtain⟨yA,i,z,hi,hz,iL,MF,Uc,_⟩:=hE.code e τ hc
 have hu:=CH tt
 have hw:=U.kp τ
 obtain⟨r1,r2,r3,r4,r5⟩:=ahT h (us:=parts.toList.map fun q=>a.eval q.2) hr hp (by simp[hx]) (fun i x u QT rf=>by
  rw[mw] at rf
  cases hq:parts.toList[i]? with
  |none=>rw[hq] at rf;cases rf
  |some q=>rw[hq] at rf;cases rf;exact hv i x q QT hq) Gg
 have Kf:rows.length=len:=by rw[r1,hx,<-hlen];simp
 have zU:parts.toList.length=len:=by rw[<-hlen];simp
 have Kh:(parts.map fun(i,x)=>(i,a.eval x)).toList=((parts.toList.map fun q=>a.eval q.2).zipIdx 0).map fun x=>(x.2,x.1):=by
  rw[ZD]
  refine QO fun n=> ?_
  rw[mw,mw,zej,mw]
  cases hq:parts.toList[n]? with
  |none=>rfl
  |some q=>
   simp only[D3,fM,nT,tH,and_true]
   have h1:((parts.toList.map (·.1)).zipIdx)[n]? =some (q.1,n):=by
    rw[zej,mw,hq];simp
   have:=(sh.1 Yd) (q.1,n) (Em h1)
   exact mc this
 have Xq:¬len*i.size>2^24:=by rw[iL];omega
 have Kj:len<=maxLen:=by
  have:len<=len*U.wd τ:=Nat.le_mul_of_pos_right _ hw
  simp only[maxLen];omega
 have fin:∀cells:Array Value,cells.toList=(parts.toList.map fun q=>a.eval q.2).flatMap (fun u=>u.cells.toList)->
   (Instr.buildSlice t len (parts.map fun(i,x)=>(i,a.eval x))).run E.P w=.ok (.slice (some ⟨w.heap.size,0,none⟩) len len) (w.alloc (.cells cells e))->o.wp E.P a w next Q:=by
  intro cells rr iM
  have tY:cells.size=len*U.wd τ:=by
   obtain⟨fl,h1,_⟩:=r5
   have:=h1.1
   rw[<-rr,Kf] at this
   simpa using this
  obtain⟨F',kv',fp',nI⟩:=WI h ho hd nu (ps:=ps) (dp:=dp) Gg r3 r4 r5 (w1:=w.alloc (.cells cells e)) (fun b hb=>zS w _ hb) (gq.alloc _ _ _) (by simp) (cap:=len) (cur:=cells)
   (by rw[yA];exact heap_alloc_new w _) (by omega) Kj tY (by rw[Kf,<-rr,QN (by simp[tY])])
  refine qZ (v:=.slice (some ⟨w.heap.size,0,none⟩) len len) (w':=w.alloc (.cells cells e)) ?_ (hn F' kv' fp' _ _ ?_)
  ·unfold execOp;simp only[qB];exact gY iM
  ·rw[Kf] at nI;exact nI
 by_cases h0:len=0
 ·have Ki:parts.toList=[]:=Fy (by omega)
  have O9:parts= #[]:=yn Ki
  subst h0
  refine fin #[] (by simp[Ki]) ?_
  simp[Instr.buildSlice,run_underlying hu,Go.sizeOf,typeInfo,hi,O9,Instr.fill,newRow,Array.range_zero']
 ·have Ix:¬len*i.size=0:=by
   rw[iL]
   have:=Nat.mul_pos (Nat.pos_of_ne_zero h0) hw
   omega
  have Pl:=Great.fill_whole (s:=i.size) (by rw[iL];exact hw) (parts.toList.map fun q=>a.eval q.2) ((Array.range (len*i.size)).map (z.cells[·%z.cells.size]!)) (fun v hv=>by rw[iL];exact r2 v hv) (by simp[zU])
  refine fin ((parts.toList.map fun q=>a.eval q.2).flatMap fun v=>v.cells.toList).toArray rfl (run_buildSlice w t e len _ _ i z hu hi hz Xq Ix ?_)
  rw[Kh]
  exact Pl
theorem ahn(hE:E.Ok){e:TypeId}{τ:U.Ty}(hc:E.code e=some τ){i:TypeInfo}{z:Value}(hi:E.P.info? e=some i)(hz:i.zero=some z):
  z.cells.size=U.wd τ/\∀n,∃fl,eg E w F true τ (List.replicate n (U.ee τ)) (madeCells z.cells (n*U.wd τ)).toList fl/\fl.flatten=[]:=by
 obtain⟨yA,i',z',pa,QS,iL,MF,Uc,MI⟩:=hE.code e τ hc
 rw[hi] at pa;cases pa
 rw[hz] at QS;cases QS
 have hw:=U.kp τ
 refine⟨MF,fun n=>⟨List.replicate (n*U.wd τ) [],⟨by simp[madeCells],by simp,fun k x j c hx hj=> ?_⟩,ym _⟩⟩
 have fU:=fi hx hj
 rw[zee] at fU
 have hxx:x=U.ee τ:=by
  rw[zdz] at hx
  split at hx
  ·cases hx;rfl
  ·cases hx
 subst hxx
 obtain⟨u,h1,h2⟩:=MI j c hj
 have MT:j<U.wd τ:=by
  rw[<-U.cY τ (U.ee τ)]
  rcases nL j (U.enc τ (U.ee τ)).length with h|h
  ·exact h
  ·rw[nb h] at hj;cases hj
 have nN:(madeCells z.cells (n*U.wd τ)).toList.getD (k*U.wd τ+j) undef=u:=by
  rw[dB,JE]
  unfold madeCells
  rw[Array.getElem?_map,Array.getElem?_range,if_pos fU]
  simp only[D3,DY,MF]
  rw[Y5,Nat.add_mul_mod_self_right,Nat.mod_eq_of_lt MT]
  rw[getElem!_def,h1]
 rw[nN,FJ]
 rcases h2 with⟨rfl,h3⟩|⟨El,rfl,rfl⟩
 ·exact .lit _ _ h3
 ·exact .nil _ _ _ _ (fun _=>rfl)
theorem aiH(hE:E.Ok)(h:cG E pm F kv fp σ a w){o:Oper}{d:Nat}(ho:o.dst=some d)(hd:d<σ.n){t e:TypeId}{x y:Operand}(qB:o.op=.makeSlice t x y)
  {τ:U.Ty} (tt:E.elem t=some e) (hc:E.code e=some τ) {sx sy:SV U} {n m:Int} (hx:RS E w F kv fp (bR σ) sx (a.eval x)) (hlx:ix sx=some (.int .i64 n))
  (hy:RS E w F kv fp (bR σ) sy (a.eval y)) (hly:ix sy=some (.int .i64 m)) (h0:0<=n) (tW:n=m) (hle:n<=4294967296) {ps:List Prop}
  (nu:¬Names σ (d,0)) {next:Act->World->Prop} {Q:Exit->Act->World->Prop}
  (hn:∀F kv fp a' w',cG E pm F kv fp (AM.apply o ⟨some (one (.ref (d,0) [])),[(0,.arr ⟨τ,List.replicate n.toNat (U.ee τ)⟩ true)],[],[],ps⟩ σ) a' w'->next a' w'):o.wp E.P a w next Q:=by
 obtain⟨yA,i,z,hi,hz,iL,MF,Uc,_⟩:=hE.code e τ hc
 have hu:=CH tt
 subst tW
 obtain⟨_,sz⟩:=ahn (w:=w) (F:=F) hE hc hi hz
 obtain⟨fl,h1,h2⟩:=sz n.toNat
 have hb:(i.bytes:Int)*n<=281474976710656:=by
  have h3:(i.bytes:Int)*n<=4096*4294967296:=Int.mul_le_mul (by omega) hle h0 (by omega)
  omega
 have iM:=run_make (P:=E.P) w t e i z hu hi hz .i64 .i64 n n h0 (Int.le_refl _) hb (by omega)
 obtain⟨F',kv',fp',nI⟩:=WI h ho hd nu (τ:=τ) (rows:=List.replicate n.toNat (U.ee τ)) (ks:=[]) (dp:=true) (ps:=ps) (vs:=(madeCells z.cells (n.toNat*U.wd τ)).toList) (by simp) (by simp)
  (fun _=>⟨fl,h1,by simp[h2],by simp[h2]⟩) (by
   refine⟨_,h1.kB (F':=FK F fp []) (fun b hb=> .inl hb) (by simp[h2]),ym _⟩)
  (w1:=w.alloc (.cells (madeCells z.cells (n.toNat*i.size)) e)) (fun b hb=>zS w _ hb) (gq.alloc _ _ _) (by simp) (cap:=n.toNat) (cur:=madeCells z.cells (n.toNat*U.wd τ))
  (by rw[yA,iL];exact heap_alloc_new w _) (by simp) (by simp only[maxLen];omega) (size_madeCells _ _) (by rw[QN (by simp[size_madeCells])])
 refine qZ (v:=.slice (some ⟨w.heap.size,0,none⟩) n.toNat n.toNat) (w':=w.alloc (.cells (madeCells z.cells (n.toNat*i.size)) e)) ?_ (hn F' kv' fp' _ _ ?_)
 ·unfold execOp;simp only[qB,o6 hx hlx,o6 hy hly];exact gY iM
 ·rw[zee] at nI;exact nI
end AM
