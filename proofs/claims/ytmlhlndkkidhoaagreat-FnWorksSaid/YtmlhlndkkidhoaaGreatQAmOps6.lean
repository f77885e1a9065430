/- THE ABSTRACT MACHINE: the operations that make memory. -/
import Derived.Test.YtmlhlndkkidhoaaGreatQAmTake
import Derived.Laws.MakeOwn
namespace AM
set_option linter.unusedVariables false
open Go
variable{U:kZ}{E:Env U}{pm:Pm}
variable{F F':Nat->Prop}{kv:Key->Value}{fp:Key->List Nat}{σ:ah U}{a:Act}{w w':World}{bad:Key->Bool}
def dl{β:Type}(f:Key->β)(k:Key)(v:β):Key->β:=fun k'=>if k'=k then v else f k'
theorem sP{β:Type}{f:Key->β}{k:Key}{v:β}:dl f k v k=v:=by simp[dl]
theorem Ag{β:Type}{f:Key->β}{k k':Key}{v:β}(h:k'≠k):dl f k v k'=f k':=by simp[dl,h]
structure Env.Ok(E:Env U):Prop where
 code:∀e τ,E.code e=some τ->E.tid τ=e/\∃i z,E.P.info? e=some i/\i.zero=some z/\i.size=U.wd τ/\z.cells.size=U.wd τ/\i.bytes<=4096/\
  ∀(j:Nat)(c:U.C),(U.enc τ (U.e_ τ))[j]? =some c->∃u,z.cells[j]? =some u/\((c=.lit u/\gp u)\/∃EK,c=.sl EK []/\u=.slice none 0 0)
 mixed:E.P.follows .mixedOrders=true
theorem gN.app{W:Nat->Prop}{a b c:World}(h:gN W a b)(k:gN (fun x=>W x\/a.heap.size<=x) b c):gN W a c:=h.trans k
theorem cE.DN(h:cE E pm F kv fp σ a w){o:Oper}{d:Nat}(ho:o.dst=some d)(hd:d<σ.n)(e:iv U)(sv:SV U)(ks:List Key)(ps:List Prop)(v v0:Value)(zP:List Nat)
  (nM:¬Names σ (d,0))
  (C1:∀bad,RS E w' F' (dl kv (d,0) v0) (dl fp (d,0) zP) bad sv v)
  (hE:∀bad,sE E w' F' (dl kv (d,0) v0) (dl fp (d,0) zP) bad e v0 zP)
  (zW:∀b,F b->F' b/\w'.heap[b]? =w.heap[b]?)
  (Df:∀b,F' b->F b\/(∃k∈ks,(σ.bJ k).isSome=true/\b∈fp k)\/(w.heap.size<=b/\b<w'.heap.size))
  (jf:∀k e,k∉ks->σ.bJ k=some e->∀b∈fp k,w'.heap[b]? =w.heap[b]?)
  (pL:zP.Nodup) (Oh:∀b∈zP,¬F' b/\((∃k∈ks,(σ.bJ k).isSome=true/\b∈fp k)\/(w.heap.size<=b/\b<w'.heap.size)))
  (pE:gN (fun b=>pm.W b\/pm.w0.heap.size<=b) w w'):
  cE E pm F' (dl kv (d,0) v0) (dl fp (d,0) zP) (AM.apply o ⟨some sv,[(0,e)],ks,[],ps⟩ σ) (a.put o.dst v) w':=by
 have j_:dG o (⟨some sv,[(0,e)],ks,[],ps⟩:cd U)=[(d,0)]:=by simp[dG,ho]
 have kF:jE (⟨some sv,[(0,e)],ks,[],ps⟩:cd U)=[]:=rfl
 have hW:pm.w0.heap.size<=w.heap.size:=h.upto.size
 refine h.apply o _ v (fun x hx=>by rw[ho] at hx;cases hx;exact hd) ?_ ?_ ?_ ?_ zW ?_ ?_ ?_ ?_ ?_ ?_ (h.upto.trans pE) pE.size
 ·intro x hx;cases hx;exact C1 _
 ·intro k hk;rw[j_] at hk;exact Ag (by simpa using hk)
 ·intro k hk _;rw[j_] at hk;exact Ag (by simpa using hk)
 ·intro k hk;rw[j_] at hk;rw[ma.1 hk];exact nM
 ·intro k e' hk _ kU he b hb;exact jf k e' kU he b hb
 ·rintro k e' (⟨j,rfl,hj⟩|hk)
  ·simp only[ma,ox] at hj
   obtain⟨rfl,rfl⟩:=hj
   have:o.dst.getD 1000000=d:=by rw[ho];rfl
   rw[this,sP,sP]
   refine⟨hE _,pL,fun b hb=> ?_⟩
   obtain⟨h1,h2⟩:=Oh b hb
   refine⟨h1,?_⟩
   rcases h2 with⟨k,hk,hl,hb⟩|h2
   ·obtain⟨Va,Dc⟩:=mI.1 hl
    have h3:=h.fK k Va b Dc hb
    have:=pE.size
    exact⟨h3.2.1,by omega⟩
   ·exact⟨.inr (by omega),h2.2⟩
  ·simp at hk
 ·intro k e' b hk _ kU he hb u9
  rcases Df b u9 with h1|⟨k',cO,hl,bf⟩|h1
  ·exact(h.fK k e' b he hb).1 h1
  ·obtain⟨Va,Dc⟩:=mI.1 hl
   exact h.apart k k' e' Va b (fun e=>kU (e▸cO)) he Dc hb bf
  ·have:=(h.fK k e' b he hb).2.2;omega
 ·intro k k' b eO hk cO hb
  rw[j_,kF] at hk cO
  simp only[ma,LA,or_false,false_or] at hk cO
  subst hk
  rw[sP] at hb
  rcases cO with rfl|⟨cO,GH⟩
  ·exact absurd rfl eO
  ·rw[Ag (Ne.symm eO)]
   obtain⟨e',e8⟩:=mI.1 GH
   intro bf
   rcases(Oh b hb).2 with⟨k,hk,hl,iO⟩|h2
   ·obtain⟨Va,Dc⟩:=mI.1 hl
    exact h.apart k k' Va e' b (fun e=>cO (e▸hk)) Dc e8 iO bf
   ·have:=(h.fK k' e' b e8 bf).2.2;omega
 ·intro b hb
  rcases Df b hb with h1|⟨k,hk,hl,bf⟩|h1
  ·have:=h.sZ b h1;have:=pE.size;omega
  ·obtain⟨Va,Dc⟩:=mI.1 hl
   have:=(h.fK k Va b Dc bf).2.2;have:=pE.size;omega
  ·exact h1.2
 ·intro b hb
  rcases Df b hb with h1|⟨k,hk,hl,bf⟩|h1
  ·exact h.sY b h1
  ·obtain⟨Va,Dc⟩:=mI.1 hl
   exact .inr (h.fK k Va b Dc bf).2.1
  ·exact .inr (.inr (by omega))
theorem at6{o:Oper}{d:Nat}(ho:o.dst=some d){e:iv U}{sv:SV U}{ks:List Key}{ps:List Prop}:True:=trivial
theorem Gc(h:cE E pm F kv fp σ a w){k:Key}{e:iv U}{b:Nat}(he:σ.bJ k=some e)(hb:b∈fp k):b<w.heap.size:=(h.fK k e b he hb).2.2
theorem Ah(w:World)(o:Obj){b:Nat}(hb:b<w.heap.size):(w.alloc o).heap[b]? =w.heap[b]? :=RowKit.Below.heap_alloc w o b hb
theorem gN.alloc(W:Nat->Prop)(w:World)(o:Obj):gN W w (w.alloc o):=
 ⟨rfl,rfl,rfl,by simp,fun k hk _=>RowKit.Below.heap_alloc w o k hk⟩
theorem anX(h:cE E pm F kv fp σ a w){o:Oper}{d:Nat}(ho:o.dst=some d)(hd:d<σ.n){t:TypeId}(rf:o.op=.alloc t){z:Value}(hz:(E.P.info? t).bind (·.zero)=some z)
  {l:List (AC U)} (hl:jC z.cells.toList=some l) (nM:¬Names σ (d,0)) {next:Act->World->Prop} {Q:Exit->Act->World->Prop}
  (hn:∀F kv fp a' w',cE E pm F kv fp (AM.apply o ⟨some (one (.kc (d,0) 0)),[(0,.box l)],[],[],[]⟩ σ) a' w'->next a' w'):o.wp E.P a w next Q:=by
 have je:(execOp a.eval o).run E.P w=.ok (.value (.pointer (some ⟨w.heap.size,0,none⟩))) (w.alloc (.cells z.cells t)):=by
  cases hi:E.P.info? t with
  |none=>rw[hi] at hz;cases hz
  |some i=>
   rw[hi] at hz
   have VY:i.zero=some z:=hz
   unfold execOp;simp only[rf]
   refine iA ?_
   simp[Instr.alloc,zeroValue,typeInfo,hi,VY,newVar,newRow]
 refine rD je (hn F (dl kv (d,0) (.pointer (some ⟨w.heap.size,0,none⟩))) (dl fp (d,0) [w.heap.size]) _ _ (h.DN (w':=w.alloc (.cells z.cells t)) ho hd _ _ [] _ (.pointer (some ⟨w.heap.size,0,none⟩)) _ _ nM ?_ ?_ ?_ ?_ ?_ ?_ ?_ ?_))
 ·intro bad
  exact ik ⟨⟨rfl,trivial⟩,.inr ⟨w.heap.size,sP,rfl⟩⟩
 ·intro bad
  exact⟨w.heap.size,z.cells,t,rfl,heap_alloc_new w _,rfl,Ug hl⟩
 ·intro b hb;exact⟨hb,Ah w _ (h.sZ b hb)⟩
 ·intro b hb;exact .inl hb
 ·intro k e _ he b hb;exact Ah w _ (Gc h he hb)
 ·simp
 ·intro b hb
  rw[ma.1 hb]
  exact⟨fun hF=>by have:=h.sZ _ hF;omega,.inr ⟨s_ _,by simp⟩⟩
 ·exact gN.alloc _ _ _
theorem XL(h:cE E pm F kv fp σ a w){o:Oper}{d:Nat}(ho:o.dst=some d)(hd:d<σ.n)(nM:¬Names σ (d,0)){τ:U.Ty}{rows:List (U.T τ)}{ks:List Key}{dp:Bool}{ps:List Prop}
  {vs:List Value} (GI:ks.Nodup) (Ei:∀k∈ks,(σ.bJ k).isSome=true)
  (adJ:dp=true->∃fl,eI E w F true τ rows vs fl/\fl.flatten.Nodup/\∀b∈fl.flatten,∃k∈ks,b∈fp k)
  (aoz:∃fl,eI E w (FK F fp ks) false τ rows vs fl/\fl.flatten=[])
  {w1:World} (yL:∀b,b<w.heap.size->w1.heap[b]? =w.heap[b]?) (pE:gN (fun b=>pm.W b\/pm.w0.heap.size<=b) w w1) (wy:w.heap.size<w1.heap.size)
  {cap:Nat} {cur:Array Value} (hb:w1.heap[w.heap.size]? =some (.cells cur (E.tid τ) (0,0))) (hc:rows.length<=cap) (hm:cap<=maxLen) (hs:cur.size=cap*U.wd τ) (zT:cur.toList.take (rows.length*U.wd τ)=vs):
  ∃F' kv' fp',cE E pm F' kv' fp' (AM.apply o ⟨some (one (.ref (d,0) [])),[(0,.arr ⟨τ,rows⟩ dp)],ks,[],ps⟩ σ) (a.put o.dst (.slice (some ⟨w.heap.size,0,none⟩) rows.length cap)) w1:=by
 have C1:∀(F':Nat->Prop)(zP:List Nat) bad,RS E w1 F' (dl kv (d,0) (.slice (some ⟨w.heap.size,0,none⟩) rows.length cap)) (dl fp (d,0) zP) bad (one (.ref (d,0) [])) (.slice (some ⟨w.heap.size,0,none⟩) rows.length cap):=
  fun F' zP bad=>ik ⟨⟨rfl,trivial⟩,.inr (by simp only[RA,sP];rfl)⟩
 have jf:∀k e,σ.bJ k=some e->∀b∈fp k,w1.heap[b]? =w.heap[b]? :=fun k e he b hb=>yL b (Gc h he hb)
 have pM:∀{l:List Nat},(∀b∈l,∃k∈ks,b∈fp k)->∀b∈l,b<w.heap.size:=fun hl b hb=>by
  obtain⟨k,hk,hb⟩:=hl b hb
  obtain⟨e,he⟩:=mI.1 (Ei k hk)
  exact Gc h he hb
 cases dp with
 |true=>
  obtain⟨fl,h1,h2,h3⟩:=adJ rfl
  refine⟨F,_,_,h.DN ho hd _ _ ks ps _ _ (w.heap.size::fl.flatten) nM (C1 F _) ?_ ?_ ?_ ?_ ?_ ?_ pE⟩
  ·intro bad
   exact eW.nr hb hc hm hs zT (h1.f_ (fun b hb=>⟨hb,yL b (h.sZ b hb)⟩) (fun b hb=>yL b (pM h3 b hb)))
  ·intro b hb;exact⟨hb,yL b (h.sZ b hb)⟩
  ·intro b hb;exact .inl hb
  ·intro k e _ he b hb;exact jf k e he b hb
  ·refine sN.2 ⟨fun hb=> ?_,h2⟩
   have:=pM h3 _ hb;omega
  ·intro b hb
   rcases jQ.1 hb with rfl|hb
   ·exact⟨fun hF=>by have:=h.sZ _ hF;omega,.inr ⟨s_ _,wy⟩⟩
   ·obtain⟨k,hk,iO⟩:=h3 b hb
    obtain⟨e,he⟩:=mI.1 (Ei k hk)
    exact⟨(h.fK k e b he iO).1,.inl ⟨k,hk,Ei k hk,iO⟩⟩
 |false=>
  obtain⟨fl,h1,h2⟩:=aoz
  have hFK:∀b,FK F fp ks b->b<w.heap.size:=by
   rintro b (hb|⟨k,hk,hb⟩)
   ·exact h.sZ b hb
   ·obtain⟨e,he⟩:=mI.1 (Ei k hk)
    exact Gc h he hb
  refine⟨FK F fp ks,_,_,h.DN ho hd _ _ ks ps _ _ [w.heap.size] nM (C1 _ _) ?_ ?_ ?_ ?_ ?_ ?_ pE⟩
  ·intro bad
   have:=eW.nr hb hc hm hs zT (h1.f_ (w':=w1) (F':=FK F fp ks) (fun b hb=>⟨hb,yL b (hFK b hb)⟩) (by simp[h2]))
   rw[h2] at this
   exact this
  ·intro b hb;exact⟨.inl hb,yL b (h.sZ b hb)⟩
  ·rintro b (hb|⟨k,hk,hb⟩)
   ·exact .inl hb
   ·exact .inr (.inl ⟨k,hk,Ei k hk,hb⟩)
  ·intro k e _ he b hb;exact jf k e he b hb
  ·simp
  ·intro b hb
   rw[ma.1 hb]
   exact⟨fun hF=>by have:=hFK _ hF;omega,.inr ⟨s_ _,wy⟩⟩
theorem anG(hE:E.Ok)(h:cE E pm F kv fp σ a w){o:Oper}{d:Nat}(ho:o.dst=some d)(hd:d<σ.n){t e:TypeId}{len:Nat}{parts:Array (Nat×Operand)}(rf:o.op=.buildSlice t len parts)
  {τ:U.Ty} (tF:E.elem t=some e) (hc:E.code e=some τ) {xs:List (SV U)} (hx:xs.length=parts.toList.length)
  (hv:∀(i:Nat)(x:SV U)(q:Nat×Operand),xs[i]? =some x->parts.toList[i]? =some q->RS E w F kv fp (bW σ) x (a.eval q.2))
  (hlen:(parts.toList.map (·.1)).length=len) (Y3:((parts.toList.map (·.1)).zipIdx).all (fun(a,b)=>Nat.beq a b)=true) (hsm:len*U.wd τ<=1000000)
  {rs:List Key} {want:List (Option U.Ty)} {ps:List Prop} {rows:List (U.T τ)} {ks:List Key} {dp:Bool} (hr:rowsOf τ (restrict σ.bJ rs) want xs=some (ps,rows,ks,dp)) (hp:∀p∈ps,p) (GI:ks.Nodup)
  (nM:¬Names σ (d,0)) {next:Act->World->Prop} {Q:Exit->Act->World->Prop}
  (hn:∀F kv fp a' w',cE E pm F kv fp (AM.apply o ⟨some (one (.ref (d,0) [])),[(0,.arr ⟨τ,rows⟩ dp)],ks,[],ps⟩ σ) a' w'->next a' w'):o.wp E.P a w next Q:=by
 obtain⟨yM,i,z,hi,hz,jd,Nk,Wk,_⟩:=hE.code e τ hc
 have hu:=CD tF
 have hw:=U.kJ τ
 obtain⟨r1,r2,r3,r4,r5⟩:=alW h (us:=parts.toList.map fun q=>a.eval q.2) hr hp (by simp[hx]) (fun i x u Ta rI=>by
  rw[nk] at rI
  cases hq:parts.toList[i]? with
  |none=>rw[hq] at rI;cases rI
  |some q=>rw[hq] at rI;cases rI;exact hv i x q Ta hq) GI
 have KX:rows.length=len:=by rw[r1,hx,<-hlen];simp
 have AA:parts.toList.length=len:=by rw[<-hlen];simp
 have KZ:(parts.map fun(i,x)=>(i,a.eval x)).toList=((parts.toList.map fun q=>a.eval q.2).zipIdx 0).map fun x=>(x.2,x.1):=by
  rw[zeo]
  refine Oq fun n=> ?_
  rw[nk,nk,zej,nk]
  cases hq:parts.toList[n]? with
  |none=>rfl
  |some q=>
   simp only[Ek,gx,ox,tY,and_true]
   have h1:((parts.toList.map (·.1)).zipIdx)[n]? =some (q.1,n):=by
    rw[zej,nk,hq];simp
   have:=(rh.1 Y3) (q.1,n) (EM h1)
   exact mM this
 have Yw:¬len*i.size>2^24:=by rw[jd];omega
 have K3:len<=maxLen:=by
  have:len<=len*U.wd τ:=Nat.le_mul_of_pos_right _ hw
  simp only[maxLen];omega
 have fin:∀cells:Array Value,cells.toList=(parts.toList.map fun q=>a.eval q.2).flatMap (fun u=>u.cells.toList)->
   (Instr.buildSlice t len (parts.map fun(i,x)=>(i,a.eval x))).run E.P w=.ok (.slice (some ⟨w.heap.size,0,none⟩) len len) (w.alloc (.cells cells e))->o.wp E.P a w next Q:=by
  intro cells vY je
  have ur:cells.size=len*U.wd τ:=by
   obtain⟨fl,h1,_⟩:=r5
   have:=h1.1
   rw[<-vY,KX] at this
   simpa using this
  obtain⟨F',kv',fp',n8⟩:=XL h ho hd nM (ps:=ps) (dp:=dp) GI r3 r4 r5 (w1:=w.alloc (.cells cells e)) (fun b hb=>Ah w _ hb) (gN.alloc _ _ _) (by simp) (cap:=len) (cur:=cells)
   (by rw[yM];exact heap_alloc_new w _) (by omega) K3 ur (by rw[KX,<-vY,Tq (by simp[ur])])
  refine rD (v:=.slice (some ⟨w.heap.size,0,none⟩) len len) (w':=w.alloc (.cells cells e)) ?_ (hn F' kv' fp' _ _ ?_)
  ·unfold execOp;simp only[rf];exact iA je
  ·rw[KX] at n8;exact n8
 by_cases h0:len=0
 ·have K0:parts.toList=[]:=Em (by omega)
  have PP:parts= #[]:=yD K0
  subst h0
  refine fin #[] (by simp[K0]) ?_
  simp[Instr.buildSlice,run_underlying hu,Go.sizeOf,typeInfo,hi,PP,Instr.fill,newRow,Array.range_zero']
 ·have No:¬len*i.size=0:=by
   rw[jd]
   have:=Nat.mul_pos (Nat.pos_of_ne_zero h0) hw
   omega
  have P5:=Great.fill_whole (s:=i.size) (by rw[jd];exact hw) (parts.toList.map fun q=>a.eval q.2) ((Array.range (len*i.size)).map (z.cells[·%z.cells.size]!)) (fun v hv=>by rw[jd];exact r2 v hv) (by simp[AA])
  refine fin ((parts.toList.map fun q=>a.eval q.2).flatMap fun v=>v.cells.toList).toArray rfl (run_buildSlice w t e len _ _ i z hu hi hz Yw No ?_)
  rw[KZ]
  exact P5
theorem alp(hE:E.Ok){e:TypeId}{τ:U.Ty}(hc:E.code e=some τ){i:TypeInfo}{z:Value}(hi:E.P.info? e=some i)(hz:i.zero=some z):
  z.cells.size=U.wd τ/\∀n,∃fl,eI E w F true τ (List.replicate n (U.e_ τ)) (madeCells z.cells (n*U.wd τ)).toList fl/\fl.flatten=[]:=by
 obtain⟨yM,i',z',pN,VY,jd,Nk,Wk,Nn⟩:=hE.code e τ hc
 rw[hi] at pN;cases pN
 rw[hz] at VY;cases VY
 have hw:=U.kJ τ
 refine⟨Nk,fun n=>⟨List.replicate (n*U.wd τ) [],⟨by simp[madeCells],by simp,fun k x j c hx hj=> ?_⟩,yC _⟩⟩
 have gF:=fJ hx hj
 rw[zee] at gF
 have hxx:x=U.e_ τ:=by
  rw[zdz] at hx
  split at hx
  ·cases hx;rfl
  ·cases hx
 subst hxx
 obtain⟨u,h1,h2⟩:=Nn j c hj
 have NA:j<U.wd τ:=by
  rw[<-U.dj τ (U.e_ τ)]
  rcases nV j (U.enc τ (U.e_ τ)).length with h|h
  ·exact h
  ·rw[nz h] at hj;cases hj
 have p_:(madeCells z.cells (n*U.wd τ)).toList.getD (k*U.wd τ+j) undef=u:=by
  rw[eY,Kk]
  unfold madeCells
  rw[Array.getElem?_map,Array.getElem?_range,if_pos gF]
  simp only[Ek,FU,Nk]
  rw[zew,Nat.add_mul_mod_self_right,Nat.mod_eq_of_lt NA]
  rw[getElem!_def,h1]
 rw[p_,Gb]
 rcases h2 with⟨rfl,h3⟩|⟨EK,rfl,rfl⟩
 ·exact .lit _ _ h3
 ·exact .nil _ _ _ _ (fun _=>rfl)
theorem amI(hE:E.Ok)(h:cE E pm F kv fp σ a w){o:Oper}{d:Nat}(ho:o.dst=some d)(hd:d<σ.n){t e:TypeId}{x y:Operand}(rf:o.op=.makeSlice t x y)
  {τ:U.Ty} (tF:E.elem t=some e) (hc:E.code e=some τ) {sx sy:SV U} {n m:Int} (hx:RS E w F kv fp (bW σ) sx (a.eval x)) (hlx:iR sx=some (.int .i64 n))
  (hy:RS E w F kv fp (bW σ) sy (a.eval y)) (hly:iR sy=some (.int .i64 m)) (h0:0<=n) (uk:n=m) (hle:n<=4294967296) {ps:List Prop}
  (nM:¬Names σ (d,0)) {next:Act->World->Prop} {Q:Exit->Act->World->Prop}
  (hn:∀F kv fp a' w',cE E pm F kv fp (AM.apply o ⟨some (one (.ref (d,0) [])),[(0,.arr ⟨τ,List.replicate n.toNat (U.e_ τ)⟩ true)],[],[],ps⟩ σ) a' w'->next a' w'):o.wp E.P a w next Q:=by
 obtain⟨yM,i,z,hi,hz,jd,Nk,Wk,_⟩:=hE.code e τ hc
 have hu:=CD tF
 subst uk
 obtain⟨_,u5⟩:=alp (w:=w) (F:=F) hE hc hi hz
 obtain⟨fl,h1,h2⟩:=u5 n.toNat
 have hb:(i.bytes:Int)*n<=281474976710656:=by
  have h3:(i.bytes:Int)*n<=4096*4294967296:=Int.mul_le_mul (by omega) hle h0 (by omega)
  omega
 have je:=run_make (P:=E.P) w t e i z hu hi hz .i64 .i64 n n h0 (Int.le_refl _) hb (by omega)
 obtain⟨F',kv',fp',n8⟩:=XL h ho hd nM (τ:=τ) (rows:=List.replicate n.toNat (U.e_ τ)) (ks:=[]) (dp:=true) (ps:=ps) (vs:=(madeCells z.cells (n.toNat*U.wd τ)).toList) (by simp) (by simp)
  (fun _=>⟨fl,h1,by simp[h2],by simp[h2]⟩) (by
   refine⟨_,h1.k8 (F':=FK F fp []) (fun b hb=> .inl hb) (by simp[h2]),yC _⟩)
  (w1:=w.alloc (.cells (madeCells z.cells (n.toNat*i.size)) e)) (fun b hb=>Ah w _ hb) (gN.alloc _ _ _) (by simp) (cap:=n.toNat) (cur:=madeCells z.cells (n.toNat*U.wd τ))
  (by rw[yM,jd];exact heap_alloc_new w _) (by simp) (by simp only[maxLen];omega) (size_madeCells _ _) (by rw[Tq (by simp[size_madeCells])])
 refine rD (v:=.slice (some ⟨w.heap.size,0,none⟩) n.toNat n.toNat) (w':=w.alloc (.cells (madeCells z.cells (n.toNat*i.size)) e)) ?_ (hn F' kv' fp' _ _ ?_)
 ·unfold execOp;simp only[rf,pH hx hlx,pH hy hly];exact iA je
 ·rw[zee] at n8;exact n8
end AM
