import Derived.Test.YtmcepppejchhkaaGreatDoorQAmTake
import Derived.Laws.MakeOwn
namespace AM
set_option linter.unusedVariables false
open Go
variable{U:lQ}{E:Env U}{pm:Pm}
variable{F F':Nat->Prop}{kv:Key->Value}{fp:Key->List Nat}{σ:ak U}{a:Act}{w w':World}{bad:Key->Bool}
def dJ{β:Type}(f:Key->β)(k:Key)(v:β):Key->β:=fun k'=>if k'=k then v else f k'
theorem uw{β:Type}{f:Key->β}{k:Key}{v:β}:dJ f k v k=v:=by simp[dJ]
theorem BV{β:Type}{f:Key->β}{k k':Key}{v:β}(h:k'≠k):dJ f k v k'=f k':=by simp[dJ,h]
structure Env.Ok(E:Env U):Prop where
 code:∀e τ,E.code e=some τ->E.tid τ=e/\∃i z,E.P.info? e=some i/\i.zero=some z/\i.size=U.wd τ/\z.cells.size=U.wd τ/\i.bytes<=4096/\
  ∀(j:Nat)(c:U.C),(U.enc τ (U.ff τ))[j]? =some c->∃u,z.cells[j]? =some u/\((c=.lit u/\gD u)\/∃GI,c=.sl GI []/\u=.slice none 0 0)
 mixed:E.P.follows .mixedOrders=true
theorem cR.FO(h:cR E pm F kv fp σ a w){o:Oper}{d:Nat}(ho:o.dst=some d)(hd:d<σ.n)(e:iX U)(sv:SV U)(ks:List Key)(ps:List Prop)(v v0:Value)(Bq:List Nat)
  (oG:¬Names σ (d,0))
  (E5:∀bad,RS E w' F' (dJ kv (d,0) v0) (dJ fp (d,0) Bq) bad sv v)
  (hE:∀bad,ug E w' F' (dJ kv (d,0) v0) (dJ fp (d,0) Bq) bad e v0 Bq)
  (BC:∀b,F b->F' b/\w'.heap[b]? =w.heap[b]?)
  (Fg:∀b,F' b->F b\/(∃k∈ks,(σ.bP k).isSome=true/\b∈fp k)\/(w.heap.size<=b/\b<w'.heap.size))
  (jA:∀k e,k∉ks->σ.bP k=some e->∀b∈fp k,w'.heap[b]? =w.heap[b]?)
  (qE:Bq.Nodup) (QO:∀b∈Bq,¬F' b/\((∃k∈ks,(σ.bP k).isSome=true/\b∈fp k)\/(w.heap.size<=b/\b<w'.heap.size)))
  (qw:ic (fun b=>pm.W b\/pm.w0.heap.size<=b) w w'):
  cR E pm F' (dJ kv (d,0) v0) (dJ fp (d,0) Bq) (AM.apply o ⟨some sv,[(0,e)],ks,[],ps⟩ σ) (a.put o.dst v) w':=by
 have kN:dZ o (⟨some sv,[(0,e)],ks,[],ps⟩:cq U)=[(d,0)]:=by simp[dZ,ho]
 have ll:jW (⟨some sv,[(0,e)],ks,[],ps⟩:cq U)=[]:=rfl
 have hW:pm.w0.heap.size<=w.heap.size:=h.upto.size
 refine h.apply o _ v (fun x hx=>by rw[ho] at hx;cases hx;exact hd) ?_ ?_ ?_ ?_ BC ?_ ?_ ?_ ?_ ?_ ?_ (h.upto.trans qw) qw.size
 ·intro x hx;cases hx;exact E5 _
 ·intro k hk;rw[kN] at hk;exact BV (by simpa using hk)
 ·intro k hk _;rw[kN] at hk;exact BV (by simpa using hk)
 ·intro k hk;rw[kN] at hk;rw[mW.1 hk];exact oG
 ·intro k e' hk _ lH he b hb;exact jA k e' lH he b hb
 ·rintro k e' (⟨j,rfl,hj⟩|hk)
  ·simp only[mW,pE] at hj
   obtain⟨rfl,rfl⟩:=hj
   have:o.dst.getD 1000000=d:=by rw[ho];rfl
   rw[this,uw,uw]
   refine⟨hE _,qE,fun b hb=> ?_⟩
   obtain⟨h1,h2⟩:=QO b hb
   refine⟨h1,?_⟩
   rcases h2 with⟨k,hk,hl,hb⟩|h2
   ·obtain⟨WB,Fe⟩:=nA.1 hl
    have h3:=h.fT k WB b Fe hb
    have:=qw.size
    exact⟨h3.2.1,by omega⟩
   ·exact⟨.inr (by omega),h2.2⟩
  ·simp at hk
 ·intro k e' b hk _ lH he hb wO
  rcases Fg b wO with h1|⟨k',cY,hl,bj⟩|h1
  ·exact(h.fT k e' b he hb).1 h1
  ·obtain⟨WB,Fe⟩:=nA.1 hl
   exact h.apart k k' e' WB b (fun e=>lH (e▸cY)) he Fe hb bj
  ·have:=(h.fT k e' b he hb).2.2;omega
 ·intro k k' b fc hk cY hb
  rw[kN,ll] at hk cY
  simp only[mW,NV,or_false,false_or] at hk cY
  subst hk
  rw[uw] at hb
  rcases cY with rfl|⟨cY,Iw⟩
  ·exact absurd rfl fc
  ·rw[BV (Ne.symm fc)]
   obtain⟨e',fi⟩:=nA.1 Iw
   intro bj
   rcases(QO b hb).2 with⟨k,hk,hl,iW⟩|h2
   ·obtain⟨WB,Fe⟩:=nA.1 hl
    exact h.apart k k' WB e' b (fun e=>cY (e▸hk)) Fe fi iW bj
   ·have:=(h.fT k' e' b fi bj).2.2;omega
 ·intro b hb
  rcases Fg b hb with h1|⟨k,hk,hl,bj⟩|h1
  ·have:=h.uI b h1;have:=qw.size;omega
  ·obtain⟨WB,Fe⟩:=nA.1 hl
   have:=(h.fT k WB b Fe bj).2.2;have:=qw.size;omega
  ·exact h1.2
 ·intro b hb
  rcases Fg b hb with h1|⟨k,hk,hl,bj⟩|h1
  ·exact h.uH b h1
  ·obtain⟨WB,Fe⟩:=nA.1 hl
   exact .inr (h.fT k WB b Fe bj).2.1
  ·exact .inr (.inr (by omega))
theorem H4(h:cR E pm F kv fp σ a w){k:Key}{e:iX U}{b:Nat}(he:σ.bP k=some e)(hb:b∈fp k):b<w.heap.size:=(h.fT k e b he hb).2.2
theorem BW(w:World)(o:Obj){b:Nat}(hb:b<w.heap.size):(w.alloc o).heap[b]? =w.heap[b]? :=RowKit.Below.heap_alloc w o b hb
theorem ic.alloc(W:Nat->Prop)(w:World)(o:Obj):ic W w (w.alloc o):=
 ⟨rfl,rfl,rfl,by simp,fun k hk _=>RowKit.Below.heap_alloc w o k hk⟩
theorem anl(h:cR E pm F kv fp σ a w){o:Oper}{d:Nat}(ho:o.dst=some d)(hd:d<σ.n){t:TypeId}(sR:o.op=.alloc t){z:Value}(hz:(E.P.info? t).bind (·.zero)=some z)
  {l:List (AC U)} (hl:jT z.cells.toList=some l) (oG:¬Names σ (d,0)) {next:Act->World->Prop} {Q:Exit->Act->World->Prop}
  (hn:∀F kv fp a' w',cR E pm F kv fp (AM.apply o ⟨some (one (.kQ (d,0) 0)),[(0,.box l)],[],[],[]⟩ σ) a' w'->next a' w'):o.wp E.P a w next Q:=by
 have jz:(execOp a.eval o).run E.P w=.ok (.value (.pointer (some ⟨w.heap.size,0,none⟩))) (w.alloc (.cells z.cells t)):=by
  cases hi:E.P.info? t with
  |none=>rw[hi] at hz;cases hz
  |some i=>
   rw[hi] at hz
   have Xo:i.zero=some z:=hz
   unfold execOp;simp only[sR]
   refine iM ?_
   simp[Instr.alloc,zeroValue,typeInfo,hi,Xo,newVar,newRow]
 refine te jz (hn F (dJ kv (d,0) (.pointer (some ⟨w.heap.size,0,none⟩))) (dJ fp (d,0) [w.heap.size]) _ _ (h.FO (w':=w.alloc (.cells z.cells t)) ho hd _ _ [] _ (.pointer (some ⟨w.heap.size,0,none⟩)) _ _ oG ?_ ?_ ?_ ?_ ?_ ?_ ?_ ?_))
 ·intro bad
  exact iD ⟨⟨rfl,trivial⟩,.inr ⟨w.heap.size,uw,rfl⟩⟩
 ·intro bad
  exact⟨w.heap.size,z.cells,t,rfl,heap_alloc_new w _,rfl,Vs hl⟩
 ·intro b hb;exact⟨hb,BW w _ (h.uI b hb)⟩
 ·intro b hb;exact .inl hb
 ·intro k e _ he b hb;exact BW w _ (H4 h he hb)
 ·simp
 ·intro b hb
  rw[mW.1 hb]
  exact⟨fun hF=>by have:=h.uI _ hF;omega,.inr ⟨uh _,by simp⟩⟩
 ·exact ic.alloc _ _ _
theorem aal(h:cR E pm F kv fp σ a w){o:Oper}{d:Nat}(ho:o.dst=some d)(hd:d<σ.n)(oG:¬Names σ (d,0)){τ:U.Ty}{rows:List (U.T τ)}{ks:List Key}{dp:Bool}{ps:List Prop}
  {vs:List Value} (Ix:ks.Nodup) (Gg:∀k∈ks,(σ.bP k).isSome=true)
  (aeN:dp=true->∃fl,e9 E w F true τ rows vs fl/\fl.flatten.Nodup/\∀b∈fl.flatten,∃k∈ks,b∈fp k)
  (an4:∃fl,e9 E w (FK F fp ks) false τ rows vs fl/\fl.flatten=[])
  {w1:World} (Aw:∀b,b<w.heap.size->w1.heap[b]? =w.heap[b]?) (qw:ic (fun b=>pm.W b\/pm.w0.heap.size<=b) w w1) (vQ:w.heap.size<w1.heap.size)
  {cap:Nat} {cur:Array Value} (hb:w1.heap[w.heap.size]? =some (.cells cur (E.tid τ) (0,0))) (hc:rows.length<=cap) (hm:cap<=maxLen) (hs:cur.size=cap*U.wd τ) (Bx:cur.toList.take (rows.length*U.wd τ)=vs):
  ∃F' kv' fp',cR E pm F' kv' fp' (AM.apply o ⟨some (one (.ref (d,0) [])),[(0,.arr ⟨τ,rows⟩ dp)],ks,[],ps⟩ σ) (a.put o.dst (.slice (some ⟨w.heap.size,0,none⟩) rows.length cap)) w1:=by
 have E5:∀(F':Nat->Prop)(Bq:List Nat) bad,RS E w1 F' (dJ kv (d,0) (.slice (some ⟨w.heap.size,0,none⟩) rows.length cap)) (dJ fp (d,0) Bq) bad (one (.ref (d,0) [])) (.slice (some ⟨w.heap.size,0,none⟩) rows.length cap):=
  fun F' Bq bad=>iD ⟨⟨rfl,trivial⟩,.inr (by simp only[RA,uw];rfl)⟩
 have jA:∀k e,σ.bP k=some e->∀b∈fp k,w1.heap[b]? =w.heap[b]? :=fun k e he b hb=>Aw b (H4 h he hb)
 have qG:∀{l:List Nat},(∀b∈l,∃k∈ks,b∈fp k)->∀b∈l,b<w.heap.size:=fun hl b hb=>by
  obtain⟨k,hk,hb⟩:=hl b hb
  obtain⟨e,he⟩:=nA.1 (Gg k hk)
  exact H4 h he hb
 cases dp with
 |true=>
  obtain⟨fl,h1,h2,h3⟩:=aeN rfl
  refine⟨F,_,_,h.FO ho hd _ _ ks ps _ _ (w.heap.size::fl.flatten) oG (E5 F _) ?_ ?_ ?_ ?_ ?_ ?_ qw⟩
  ·intro bad
   exact fe.og hb hc hm hs Bx (h1.gv (fun b hb=>⟨hb,Aw b (h.uI b hb)⟩) (fun b hb=>Aw b (qG h3 b hb)))
  ·intro b hb;exact⟨hb,Aw b (h.uI b hb)⟩
  ·intro b hb;exact .inl hb
  ·intro k e _ he b hb;exact jA k e he b hb
  ·refine ur.2 ⟨fun hb=> ?_,h2⟩
   have:=qG h3 _ hb;omega
  ·intro b hb
   rcases kc.1 hb with rfl|hb
   ·exact⟨fun hF=>by have:=h.uI _ hF;omega,.inr ⟨uh _,vQ⟩⟩
   ·obtain⟨k,hk,iW⟩:=h3 b hb
    obtain⟨e,he⟩:=nA.1 (Gg k hk)
    exact⟨(h.fT k e b he iW).1,.inl ⟨k,hk,Gg k hk,iW⟩⟩
 |false=>
  obtain⟨fl,h1,h2⟩:=an4
  have hFK:∀b,FK F fp ks b->b<w.heap.size:=by
   rintro b (hb|⟨k,hk,hb⟩)
   ·exact h.uI b hb
   ·obtain⟨e,he⟩:=nA.1 (Gg k hk)
    exact H4 h he hb
  refine⟨FK F fp ks,_,_,h.FO ho hd _ _ ks ps _ _ [w.heap.size] oG (E5 _ _) ?_ ?_ ?_ ?_ ?_ ?_ qw⟩
  ·intro bad
   have:=fe.og hb hc hm hs Bx (h1.gv (w':=w1) (F':=FK F fp ks) (fun b hb=>⟨hb,Aw b (hFK b hb)⟩) (by simp[h2]))
   rw[h2] at this
   exact this
  ·intro b hb;exact⟨.inl hb,Aw b (h.uI b hb)⟩
  ·rintro b (hb|⟨k,hk,hb⟩)
   ·exact .inl hb
   ·exact .inr (.inl ⟨k,hk,Gg k hk,hb⟩)
  ·intro k e _ he b hb;exact jA k e he b hb
  ·simp
  ·intro b hb
   rw[mW.1 hb]
   exact⟨fun hF=>by have:=hFK _ hF;omega,.inr ⟨uh _,vQ⟩⟩
theorem am6(hE:E.Ok)(h:cR E pm F kv fp σ a w){o:Oper}{d:Nat}(ho:o.dst=some d)(hd:d<σ.n){t e:TypeId}{len:Nat}{parts:Array (Nat×Operand)}(sR:o.op=.buildSlice t len parts)
  {τ:U.Ty} (vj:E.elem t=some e) (hc:E.code e=some τ) {xs:List (SV U)} (hx:xs.length=parts.toList.length)
  (hv:∀(i:Nat)(x:SV U)(q:Nat×Operand),xs[i]? =some x->parts.toList[i]? =some q->RS E w F kv fp (bY σ) x (a.eval q.2))
  (hlen:(parts.toList.map (·.1)).length=len) (abw:((parts.toList.map (·.1)).zipIdx).all (fun(a,b)=>Nat.beq a b)=true) (hsm:len*U.wd τ<=1000000)
  {rs:List Key} {want:List (Option U.Ty)} {ps:List Prop} {rows:List (U.T τ)} {ks:List Key} {dp:Bool} (hr:rowsOf τ (restrict σ.bP rs) want xs=some (ps,rows,ks,dp)) (hp:∀p∈ps,p) (Ix:ks.Nodup)
  (oG:¬Names σ (d,0)) {next:Act->World->Prop} {Q:Exit->Act->World->Prop}
  (hn:∀F kv fp a' w',cR E pm F kv fp (AM.apply o ⟨some (one (.ref (d,0) [])),[(0,.arr ⟨τ,rows⟩ dp)],ks,[],ps⟩ σ) a' w'->next a' w'):o.wp E.P a w next Q:=by
 obtain⟨Ax,i,z,hi,hz,jy,PV,XN,_⟩:=hE.code e τ hc
 have hu:=EG vj
 have hw:=U.lq τ
 obtain⟨r1,r2,r3,r4,r5⟩:=alm h (us:=parts.toList.map fun q=>a.eval q.2) hr hp (by simp[hx]) (fun i x u Ux tr=>by
  rw[nS] at tr
  cases hq:parts.toList[i]? with
  |none=>rw[hq] at tr;cases tr
  |some q=>rw[hq] at tr;cases tr;exact hv i x q Ux hq) Ix
 have Nl:rows.length=len:=by rw[r1,hx,<-hlen];simp
 have By:parts.toList.length=len:=by rw[<-hlen];simp
 have No:(parts.map fun(i,x)=>(i,a.eval x)).toList=((parts.toList.map fun q=>a.eval q.2).zipIdx 0).map fun x=>(x.2,x.1):=by
  rw[zeo]
  refine Uu fun n=> ?_
  rw[nS,nS,zej,nS]
  cases hq:parts.toList[n]? with
  |none=>rfl
  |some q=>
   simp only[Gj,gI,pE,vB,and_true]
   have h1:((parts.toList.map (·.1)).zipIdx)[n]? =some (q.1,n):=by
    rw[zej,nS,hq];simp
   have:=(sP.1 abw) (q.1,n) (GK h1)
   exact nF this
 have aaY:¬len*i.size>2^24:=by rw[jy];omega
 have Nq:len<=maxLen:=by
  have:len<=len*U.wd τ:=Nat.le_mul_of_pos_right _ hw
  simp only[maxLen];omega
 have fin:∀cells:Array Value,cells.toList=(parts.toList.map fun q=>a.eval q.2).flatMap (fun u=>u.cells.toList)->
   (Instr.buildSlice t len (parts.map fun(i,x)=>(i,a.eval x))).run E.P w=.ok (.slice (some ⟨w.heap.size,0,none⟩) len len) (w.alloc (.cells cells e))->o.wp E.P a w next Q:=by
  intro cells tA jz
  have vU:cells.size=len*U.wd τ:=by
   obtain⟨fl,h1,_⟩:=r5
   have:=h1.1
   rw[<-tA,Nl] at this
   simpa using this
  obtain⟨F',kv',fp',pf⟩:=aal h ho hd oG (ps:=ps) (dp:=dp) Ix r3 r4 r5 (w1:=w.alloc (.cells cells e)) (fun b hb=>BW w _ hb) (ic.alloc _ _ _) (by simp) (cap:=len) (cur:=cells)
   (by rw[Ax];exact heap_alloc_new w _) (by omega) Nq vU (by rw[Nl,<-tA,Ut (by simp[vU])])
  refine te (v:=.slice (some ⟨w.heap.size,0,none⟩) len len) (w':=w.alloc (.cells cells e)) ?_ (hn F' kv' fp' _ _ ?_)
  ·unfold execOp;simp only[sR];exact iM jz
  ·rw[Nl] at pf;exact pf
 by_cases h0:len=0
 ·have Np:parts.toList=[]:=Gl (by omega)
  have St:parts= #[]:=Ao Np
  subst h0
  refine fin #[] (by simp[Np]) ?_
  simp[Instr.buildSlice,run_underlying hu,Go.sizeOf,typeInfo,hi,St,Instr.fill,newRow,Array.range_zero']
 ·have PZ:¬len*i.size=0:=by
   rw[jy]
   have:=Nat.mul_pos (Nat.pos_of_ne_zero h0) hw
   omega
  have SG:=Great.fill_whole (s:=i.size) (by rw[jy];exact hw) (parts.toList.map fun q=>a.eval q.2) ((Array.range (len*i.size)).map (z.cells[·%z.cells.size]!)) (fun v hv=>by rw[jy];exact r2 v hv) (by simp[By])
  refine fin ((parts.toList.map fun q=>a.eval q.2).flatMap fun v=>v.cells.toList).toArray rfl (run_buildSlice w t e len _ _ i z hu hi hz aaY PZ ?_)
  rw[No]
  exact SG
theorem akR(hE:E.Ok){e:TypeId}{τ:U.Ty}(hc:E.code e=some τ){i:TypeInfo}{z:Value}(hi:E.P.info? e=some i)(hz:i.zero=some z):
  z.cells.size=U.wd τ/\∀n,∃fl,e9 E w F true τ (List.replicate n (U.ff τ)) (madeCells z.cells (n*U.wd τ)).toList fl/\fl.flatten=[]:=by
 obtain⟨Ax,i',z',qH,Xo,jy,PV,XN,PY⟩:=hE.code e τ hc
 rw[hi] at qH;cases qH
 rw[hz] at Xo;cases Xo
 have hw:=U.lq τ
 refine⟨PV,fun n=>⟨List.replicate (n*U.wd τ) [],⟨by simp[madeCells],by simp,fun k x j c hx hj=> ?_⟩,An _⟩⟩
 have gy:=fS hx hj
 rw[zee] at gy
 have hxx:x=U.ff τ:=by
  rw[zdz] at hx
  split at hx
  ·cases hx;rfl
  ·cases hx
 subst hxx
 obtain⟨u,h1,h2⟩:=PY j c hj
 have P_:j<U.wd τ:=by
  rw[<-U.dG τ (U.ff τ)]
  rcases pt j (U.enc τ (U.ff τ)).length with h|h
  ·exact h
  ·rw[ot h] at hj;cases hj
 have px:(madeCells z.cells (n*U.wd τ)).toList.getD (k*U.wd τ+j) undef=u:=by
  rw[eV,MK]
  unfold madeCells
  rw[Array.getElem?_map,Array.getElem?_range,if_pos gy]
  simp only[Gj,Gi,PV]
  rw[zew,Nat.add_mul_mod_self_right,Nat.mod_eq_of_lt P_]
  rw[getElem!_def,h1]
 rw[px,H3]
 rcases h2 with⟨rfl,h3⟩|⟨GI,rfl,rfl⟩
 ·exact .lit _ _ h3
 ·exact .nil _ _ _ _ (fun _=>rfl)
theorem ama(hE:E.Ok)(h:cR E pm F kv fp σ a w){o:Oper}{d:Nat}(ho:o.dst=some d)(hd:d<σ.n){t e:TypeId}{x y:Operand}(sR:o.op=.makeSlice t x y)
  {τ:U.Ty} (vj:E.elem t=some e) (hc:E.code e=some τ) {sx sy:SV U} {n m:Int} (hx:RS E w F kv fp (bY σ) sx (a.eval x)) (hlx:ji sx=some (.int .i64 n))
  (hy:RS E w F kv fp (bY σ) sy (a.eval y)) (hly:ji sy=some (.int .i64 m)) (h0:0<=n) (vS:n=m) (hle:n<=4294967296) {ps:List Prop}
  (oG:¬Names σ (d,0)) {next:Act->World->Prop} {Q:Exit->Act->World->Prop}
  (hn:∀F kv fp a' w',cR E pm F kv fp (AM.apply o ⟨some (one (.ref (d,0) [])),[(0,.arr ⟨τ,List.replicate n.toNat (U.ff τ)⟩ true)],[],[],ps⟩ σ) a' w'->next a' w'):o.wp E.P a w next Q:=by
 obtain⟨Ax,i,z,hi,hz,jy,PV,XN,_⟩:=hE.code e τ hc
 have hu:=EG vj
 subst vS
 obtain⟨_,uo⟩:=akR (w:=w) (F:=F) hE hc hi hz
 obtain⟨fl,h1,h2⟩:=uo n.toNat
 have hb:(i.bytes:Int)*n<=281474976710656:=by
  have h3:(i.bytes:Int)*n<=4096*4294967296:=Int.mul_le_mul (by omega) hle h0 (by omega)
  omega
 have jz:=run_make (P:=E.P) w t e i z hu hi hz .i64 .i64 n n h0 (Int.le_refl _) hb (by omega)
 obtain⟨F',kv',fp',pf⟩:=aal h ho hd oG (τ:=τ) (rows:=List.replicate n.toNat (U.ff τ)) (ks:=[]) (dp:=true) (ps:=ps) (vs:=(madeCells z.cells (n.toNat*U.wd τ)).toList) (by simp) (by simp)
  (fun _=>⟨fl,h1,by simp[h2],by simp[h2]⟩) (by
   refine⟨_,h1.lT (F':=FK F fp []) (fun b hb=> .inl hb) (by simp[h2]),An _⟩)
  (w1:=w.alloc (.cells (madeCells z.cells (n.toNat*i.size)) e)) (fun b hb=>BW w _ hb) (ic.alloc _ _ _) (by simp) (cap:=n.toNat) (cur:=madeCells z.cells (n.toNat*U.wd τ))
  (by rw[Ax,jy];exact heap_alloc_new w _) (by simp) (by simp only[maxLen];omega) (size_madeCells _ _) (by rw[Ut (by simp[size_madeCells])])
 refine te (v:=.slice (some ⟨w.heap.size,0,none⟩) n.toNat n.toNat) (w':=w.alloc (.cells (madeCells z.cells (n.toNat*i.size)) e)) ?_ (hn F' kv' fp' _ _ ?_)
 ·unfold execOp;simp only[sR,qB hx hlx,qB hy hly];exact iM jz
 ·rw[zee] at pf;exact pf
end AM
