import Derived.Test.YthciaocifglggaaGreatDoorQAmTake
import Derived.Laws.MakeOwn
namespace AM
set_option linter.unusedVariables false
open Go
variable{U:kz}{E:Env U}{pm:Pm}
variable{F F':Nat->Prop}{kv:Key->Value}{fp:Key->List Nat}{σ:af U}{a:Act}{w w':World}{bad:Key->Bool}
def db{β:Type}(f:Key->β)(k:Key)(v:β):Key->β:=fun k'=>if k'=k then v else f k'
theorem rA{β:Type}{f:Key->β}{k:Key}{v:β}:db f k v k=v:=by simp[db]
theorem ye{β:Type}{f:Key->β}{k k':Key}{v:β}(h:k'≠k):db f k v k'=f k':=by simp[db,h]
structure Env.Ok(E:Env U):Prop where
 code:∀e τ,E.code e=some τ->E.tid τ=e/\∃i z,E.P.info? e=some i/\i.zero=some z/\i.size=U.wd τ/\z.cells.size=U.wd τ/\i.bytes<=4096/\
  ∀(j:Nat)(c:U.C),(U.enc τ (U.eP τ))[j]? =some c->∃u,z.cells[j]? =some u/\((c=.lit u/\fA u)\/∃Cr,c=.sl Cr []/\u=.slice none 0 0)
 mixed:E.P.follows .mixedOrders=true
theorem cG.BJ(h:cG E pm F kv fp σ a w){o:Oper}{d:Nat}(ho:o.dst=some d)(hd:d<σ.n)(e:ir U)(sv:SV U)(ks:List Key)(ps:List Prop)(v v0:Value)(xz:List Nat)
  (ng:¬Names σ (d,0))
  (A_:∀bad,RS E w' F' (db kv (d,0) v0) (db fp (d,0) xz) bad sv v)
  (hE:∀bad,ri E w' F' (db kv (d,0) v0) (db fp (d,0) xz) bad e v0 xz)
  (xM:∀b,F b->F' b/\w'.heap[b]? =w.heap[b]?)
  (Bo:∀b,F' b->F b\/(∃k∈ks,(σ.bH k).isSome=true/\b∈fp k)\/(w.heap.size<=b/\b<w'.heap.size))
  (jq:∀k e,k∉ks->σ.bH k=some e->∀b∈fp k,w'.heap[b]? =w.heap[b]?)
  (oi:xz.Nodup) (Lh:∀b∈xz,¬F' b/\((∃k∈ks,(σ.bH k).isSome=true/\b∈fp k)\/(w.heap.size<=b/\b<w'.heap.size)))
  (ob:gy (fun b=>pm.W b\/pm.w0.heap.size<=b) w w'):
  cG E pm F' (db kv (d,0) v0) (db fp (d,0) xz) (AM.apply o ⟨some sv,[(0,e)],ks,[],ps⟩ σ) (a.put o.dst v) w':=by
 have jV:du o (⟨some sv,[(0,e)],ks,[],ps⟩:ch U)=[(d,0)]:=by simp[du,ho]
 have kl:jp (⟨some sv,[(0,e)],ks,[],ps⟩:ch U)=[]:=rfl
 have hW:pm.w0.heap.size<=w.heap.size:=h.upto.size
 refine h.apply o _ v (fun x hx=>by rw[ho] at hx;cases hx;exact hd) ?_ ?_ ?_ ?_ xM ?_ ?_ ?_ ?_ ?_ ?_ (h.upto.trans ob) ob.size
 ·intro x hx;cases hx;exact A_ _
 ·intro k hk;rw[jV] at hk;exact ye (by simpa using hk)
 ·intro k hk _;rw[jV] at hk;exact ye (by simpa using hk)
 ·intro k hk;rw[jV] at hk;rw[oa.1 hk];exact ng
 ·intro k e' hk _ kJ he b hb;exact jq k e' kJ he b hb
 ·rintro k e' (⟨j,rfl,hj⟩|hk)
  ·simp only[oa,nE] at hj
   obtain⟨rfl,rfl⟩:=hj
   have:o.dst.getD 1000000=d:=by rw[ho];rfl
   rw[this,rA,rA]
   refine⟨hE _,oi,fun b hb=> ?_⟩
   obtain⟨h1,h2⟩:=Lh b hb
   refine⟨h1,?_⟩
   rcases h2 with⟨k,hk,hl,hb⟩|h2
   ·obtain⟨QR,Bm⟩:=lJ.1 hl
    have h3:=h.ff k QR b Bm hb
    have:=ob.size
    exact⟨h3.2.1,by omega⟩
   ·exact⟨.inr (by omega),h2.2⟩
  ·simp at hk
 ·intro k e' b hk _ kJ he hb uq
  rcases Bo b uq with h1|⟨k',cM,hl,aY⟩|h1
  ·exact(h.ff k e' b he hb).1 h1
  ·obtain⟨QR,Bm⟩:=lJ.1 hl
   exact h.apart k k' e' QR b (fun e=>kJ (e▸cM)) he Bm hb aY
  ·have:=(h.ff k e' b he hb).2.2;omega
 ·intro k k' b et hk cM hb
  rw[jV,kl] at hk cM
  simp only[oa,FE,or_false,false_or] at hk cM
  subst hk
  rw[rA] at hb
  rcases cM with rfl|⟨cM,D3⟩
  ·exact absurd rfl et
  ·rw[ye (Ne.symm et)]
   obtain⟨e',eG⟩:=lJ.1 D3
   intro aY
   rcases(Lh b hb).2 with⟨k,hk,hl,iq⟩|h2
   ·obtain⟨QR,Bm⟩:=lJ.1 hl
    exact h.apart k k' QR e' b (fun e=>cM (e▸hk)) Bm eG iq aY
   ·have:=(h.ff k' e' b eG aY).2.2;omega
 ·intro b hb
  rcases Bo b hb with h1|⟨k,hk,hl,aY⟩|h1
  ·have:=h.rI b h1;have:=ob.size;omega
  ·obtain⟨QR,Bm⟩:=lJ.1 hl
   have:=(h.ff k QR b Bm aY).2.2;have:=ob.size;omega
  ·exact h1.2
 ·intro b hb
  rcases Bo b hb with h1|⟨k,hk,hl,aY⟩|h1
  ·exact h.rH b h1
  ·obtain⟨QR,Bm⟩:=lJ.1 hl
   exact .inr (h.ff k QR b Bm aY).2.1
  ·exact .inr (.inr (by omega))
theorem DE(h:cG E pm F kv fp σ a w){k:Key}{e:ir U}{b:Nat}(he:σ.bH k=some e)(hb:b∈fp k):b<w.heap.size:=(h.ff k e b he hb).2.2
theorem yf(w:World)(o:Obj){b:Nat}(hb:b<w.heap.size):(w.alloc o).heap[b]? =w.heap[b]? :=RowKit.Below.heap_alloc w o b hb
theorem gy.alloc(W:Nat->Prop)(w:World)(o:Obj):gy W w (w.alloc o):=
 ⟨rfl,rfl,rfl,by simp,fun k hk _=>RowKit.Below.heap_alloc w o k hk⟩
theorem alZ(h:cG E pm F kv fp σ a w){o:Oper}{d:Nat}(ho:o.dst=some d)(hd:d<σ.n){t:TypeId}(p5:o.op=.alloc t){z:Value}(hz:(E.P.info? t).bind (·.zero)=some z)
  {l:List (AC U)} (hl:jn z.cells.toList=some l) (ng:¬Names σ (d,0)) {next:Act->World->Prop} {Q:Exit->Act->World->Prop}
  (hn:∀F kv fp a' w',cG E pm F kv fp (AM.apply o ⟨some (one (.j0 (d,0) 0)),[(0,.box l)],[],[],[]⟩ σ) a' w'->next a' w'):o.wp E.P a w next Q:=by
 have iV:(execOp a.eval o).run E.P w=.ok (.value (.pointer (some ⟨w.heap.size,0,none⟩))) (w.alloc (.cells z.cells t)):=by
  cases hi:E.P.info? t with
  |none=>rw[hi] at hz;cases hz
  |some i=>
   rw[hi] at hz
   have Sb:i.zero=some z:=hz
   unfold execOp;simp only[p5]
   refine ic ?_
   simp[Instr.alloc,zeroValue,typeInfo,hi,Sb,newVar,newRow]
 refine qd iV (hn F (db kv (d,0) (.pointer (some ⟨w.heap.size,0,none⟩))) (db fp (d,0) [w.heap.size]) _ _ (h.BJ (w':=w.alloc (.cells z.cells t)) ho hd _ _ [] _ (.pointer (some ⟨w.heap.size,0,none⟩)) _ _ ng ?_ ?_ ?_ ?_ ?_ ?_ ?_ ?_))
 ·intro bad
  exact gZ ⟨⟨rfl,trivial⟩,.inr ⟨w.heap.size,rA,rfl⟩⟩
 ·intro bad
  exact⟨w.heap.size,z.cells,t,rfl,heap_alloc_new w _,rfl,PJ hl⟩
 ·intro b hb;exact⟨hb,yf w _ (h.rI b hb)⟩
 ·intro b hb;exact .inl hb
 ·intro k e _ he b hb;exact yf w _ (DE h he hb)
 ·simp
 ·intro b hb
  rw[oa.1 hb]
  exact⟨fun hF=>by have:=h.rI _ hF;omega,.inr ⟨tB _,by simp⟩⟩
 ·exact gy.alloc _ _ _
theorem Wj(h:cG E pm F kv fp σ a w){o:Oper}{d:Nat}(ho:o.dst=some d)(hd:d<σ.n)(ng:¬Names σ (d,0)){τ:U.Ty}{rows:List (U.T τ)}{ks:List Key}{dp:Bool}{ps:List Prop}
  {vs:List Value} (D4:ks.Nodup) (BY:∀k∈ks,(σ.bH k).isSome=true)
  (ab2:dp=true->∃fl,ep E w F true τ rows vs fl/\fl.flatten.Nodup/\∀b∈fl.flatten,∃k∈ks,b∈fp k)
  (amx:∃fl,ep E w (FK F fp ks) false τ rows vs fl/\fl.flatten=[])
  {w1:World} (wY:∀b,b<w.heap.size->w1.heap[b]? =w.heap[b]?) (ob:gy (fun b=>pm.W b\/pm.w0.heap.size<=b) w w1) (sL:w.heap.size<w1.heap.size)
  {cap:Nat} {cur:Array Value} (hb:w1.heap[w.heap.size]? =some (.cells cur (E.tid τ) (0,0))) (hc:rows.length<=cap) (hm:cap<=maxLen) (hs:cur.size=cap*U.wd τ) (xI:cur.toList.take (rows.length*U.wd τ)=vs):
  ∃F' kv' fp',cG E pm F' kv' fp' (AM.apply o ⟨some (one (.ref (d,0) [])),[(0,.arr ⟨τ,rows⟩ dp)],ks,[],ps⟩ σ) (a.put o.dst (.slice (some ⟨w.heap.size,0,none⟩) rows.length cap)) w1:=by
 have A_:∀(F':Nat->Prop)(xz:List Nat) bad,RS E w1 F' (db kv (d,0) (.slice (some ⟨w.heap.size,0,none⟩) rows.length cap)) (db fp (d,0) xz) bad (one (.ref (d,0) [])) (.slice (some ⟨w.heap.size,0,none⟩) rows.length cap):=
  fun F' xz bad=>gZ ⟨⟨rfl,trivial⟩,.inr (by simp only[RA,rA];rfl)⟩
 have jq:∀k e,σ.bH k=some e->∀b∈fp k,w1.heap[b]? =w.heap[b]? :=fun k e he b hb=>wY b (DE h he hb)
 have px:∀{l:List Nat},(∀b∈l,∃k∈ks,b∈fp k)->∀b∈l,b<w.heap.size:=fun hl b hb=>by
  obtain⟨k,hk,hb⟩:=hl b hb
  obtain⟨e,he⟩:=lJ.1 (BY k hk)
  exact DE h he hb
 cases dp with
 |true=>
  obtain⟨fl,h1,h2,h3⟩:=ab2 rfl
  refine⟨F,_,_,h.BJ ho hd _ _ ks ps _ _ (w.heap.size::fl.flatten) ng (A_ F _) ?_ ?_ ?_ ?_ ?_ ?_ ob⟩
  ·intro bad
   exact eu.mj hb hc hm hs xI (h1.fE (fun b hb=>⟨hb,wY b (h.rI b hb)⟩) (fun b hb=>wY b (px h3 b hb)))
  ·intro b hb;exact⟨hb,wY b (h.rI b hb)⟩
  ·intro b hb;exact .inl hb
  ·intro k e _ he b hb;exact jq k e he b hb
  ·refine rv.2 ⟨fun hb=> ?_,h2⟩
   have:=px h3 _ hb;omega
  ·intro b hb
   rcases jw.1 hb with rfl|hb
   ·exact⟨fun hF=>by have:=h.rI _ hF;omega,.inr ⟨tB _,sL⟩⟩
   ·obtain⟨k,hk,iq⟩:=h3 b hb
    obtain⟨e,he⟩:=lJ.1 (BY k hk)
    exact⟨(h.ff k e b he iq).1,.inl ⟨k,hk,BY k hk,iq⟩⟩
 |false=>
  obtain⟨fl,h1,h2⟩:=amx
  have hFK:∀b,FK F fp ks b->b<w.heap.size:=by
   rintro b (hb|⟨k,hk,hb⟩)
   ·exact h.rI b hb
   ·obtain⟨e,he⟩:=lJ.1 (BY k hk)
    exact DE h he hb
  refine⟨FK F fp ks,_,_,h.BJ ho hd _ _ ks ps _ _ [w.heap.size] ng (A_ _ _) ?_ ?_ ?_ ?_ ?_ ?_ ob⟩
  ·intro bad
   have:=eu.mj hb hc hm hs xI (h1.fE (w':=w1) (F':=FK F fp ks) (fun b hb=>⟨hb,wY b (hFK b hb)⟩) (by simp[h2]))
   rw[h2] at this
   exact this
  ·intro b hb;exact⟨.inl hb,wY b (h.rI b hb)⟩
  ·rintro b (hb|⟨k,hk,hb⟩)
   ·exact .inl hb
   ·exact .inr (.inl ⟨k,hk,BY k hk,hb⟩)
  ·intro k e _ he b hb;exact jq k e he b hb
  ·simp
  ·intro b hb
   rw[oa.1 hb]
   exact⟨fun hF=>by have:=hFK _ hF;omega,.inr ⟨tB _,sL⟩⟩
theorem alJ(hE:E.Ok)(h:cG E pm F kv fp σ a w){o:Oper}{d:Nat}(ho:o.dst=some d)(hd:d<σ.n){t e:TypeId}{len:Nat}{parts:Array (Nat×Operand)}(p5:o.op=.buildSlice t len parts)
  {τ:U.Ty} (se:E.elem t=some e) (hc:E.code e=some τ) {xs:List (SV U)} (hx:xs.length=parts.toList.length)
  (hv:∀(i:Nat)(x:SV U)(q:Nat×Operand),xs[i]? =some x->parts.toList[i]? =some q->RS E w F kv fp (bW σ) x (a.eval q.2))
  (hlen:(parts.toList.map (·.1)).length=len) (XO:((parts.toList.map (·.1)).zipIdx).all (fun(a,b)=>Nat.beq a b)=true) (hsm:len*U.wd τ<=1000000)
  {rs:List Key} {want:List (Option U.Ty)} {ps:List Prop} {rows:List (U.T τ)} {ks:List Key} {dp:Bool} (hr:rowsOf τ (restrict σ.bH rs) want xs=some (ps,rows,ks,dp)) (hp:∀p∈ps,p) (D4:ks.Nodup)
  (ng:¬Names σ (d,0)) {next:Act->World->Prop} {Q:Exit->Act->World->Prop}
  (hn:∀F kv fp a' w',cG E pm F kv fp (AM.apply o ⟨some (one (.ref (d,0) [])),[(0,.arr ⟨τ,rows⟩ dp)],ks,[],ps⟩ σ) a' w'->next a' w'):o.wp E.P a w next Q:=by
 obtain⟨wZ,i,z,hi,hz,iU,KA,SC,_⟩:=hE.code e τ hc
 have hu:=AL se
 have hw:=U.kq τ
 obtain⟨r1,r2,r3,r4,r5⟩:=aj0 h (us:=parts.toList.map fun q=>a.eval q.2) hr hp (by simp[hx]) (fun i x u OO qg=>by
  rw[lZ] at qg
  cases hq:parts.toList[i]? with
  |none=>rw[hq] at qg;cases qg
  |some q=>rw[hq] at qg;cases qg;exact hv i x q OO hq) D4
 have If:rows.length=len:=by rw[r1,hx,<-hlen];simp
 have yB:parts.toList.length=len:=by rw[<-hlen];simp
 have Ih:(parts.map fun(i,x)=>(i,a.eval x)).toList=((parts.toList.map fun q=>a.eval q.2).zipIdx 0).map fun x=>(x.2,x.1):=by
  rw[Zv]
  refine Lp fun n=> ?_
  rw[lZ,lZ,zej,lZ]
  cases hq:parts.toList[n]? with
  |none=>rfl
  |some q=>
   simp only[B5,fJ,nE,tW,and_true]
   have h1:((parts.toList.map (·.1)).zipIdx)[n]? =some (q.1,n):=by
    rw[zej,lZ,hq];simp
   have:=(As.1 XO) (q.1,n) (Cs h1)
   exact lN this
 have W4:¬len*i.size>2^24:=by rw[iU];omega
 have Ij:len<=maxLen:=by
  have:len<=len*U.wd τ:=Nat.le_mul_of_pos_right _ hw
  simp only[maxLen];omega
 have fin:∀cells:Array Value,cells.toList=(parts.toList.map fun q=>a.eval q.2).flatMap (fun u=>u.cells.toList)->
   (Instr.buildSlice t len (parts.map fun(i,x)=>(i,a.eval x))).run E.P w=.ok (.slice (some ⟨w.heap.size,0,none⟩) len len) (w.alloc (.cells cells e))->o.wp E.P a w next Q:=by
  intro cells qq iV
  have sN:cells.size=len*U.wd τ:=by
   obtain⟨fl,h1,_⟩:=r5
   have:=h1.1
   rw[<-qq,If] at this
   simpa using this
  obtain⟨F',kv',fp',nb⟩:=Wj h ho hd ng (ps:=ps) (dp:=dp) D4 r3 r4 r5 (w1:=w.alloc (.cells cells e)) (fun b hb=>yf w _ hb) (gy.alloc _ _ _) (by simp) (cap:=len) (cur:=cells)
   (by rw[wZ];exact heap_alloc_new w _) (by omega) Ij sN (by rw[If,<-qq,O5 (by simp[sN])])
  refine qd (v:=.slice (some ⟨w.heap.size,0,none⟩) len len) (w':=w.alloc (.cells cells e)) ?_ (hn F' kv' fp' _ _ ?_)
  ·unfold execOp;simp only[p5];exact ic iV
  ·rw[If] at nb;exact nb
 by_cases h0:len=0
 ·have Ii:parts.toList=[]:=Du (by omega)
  have M8:parts= #[]:=wT Ii
  subst h0
  refine fin #[] (by simp[Ii]) ?_
  simp[Instr.buildSlice,run_underlying hu,Go.sizeOf,typeInfo,hi,M8,Instr.fill,newRow,Array.range_zero']
 ·have Xf:¬len*i.size=0:=by
   rw[iU]
   have:=Nat.mul_pos (Nat.pos_of_ne_zero h0) hw
   omega
  have Nn:=Great.fill_whole (s:=i.size) (by rw[iU];exact hw) (parts.toList.map fun q=>a.eval q.2) ((Array.range (len*i.size)).map (z.cells[·%z.cells.size]!)) (fun v hv=>by rw[iU];exact r2 v hv) (by simp[yB])
  refine fin ((parts.toList.map fun q=>a.eval q.2).flatMap fun v=>v.cells.toList).toArray rfl (run_buildSlice w t e len _ _ i z hu hi hz W4 Xf ?_)
  rw[Ih]
  exact Nn
theorem aju(hE:E.Ok){e:TypeId}{τ:U.Ty}(hc:E.code e=some τ){i:TypeInfo}{z:Value}(hi:E.P.info? e=some i)(hz:i.zero=some z):
  z.cells.size=U.wd τ/\∀n,∃fl,ep E w F true τ (List.replicate n (U.eP τ)) (madeCells z.cells (n*U.wd τ)).toList fl/\fl.flatten=[]:=by
 obtain⟨wZ,i',z',pg,Sb,iU,KA,SC,KC⟩:=hE.code e τ hc
 rw[hi] at pg;cases pg
 rw[hz] at Sb;cases Sb
 have hw:=U.kq τ
 refine⟨KA,fun n=>⟨List.replicate (n*U.wd τ) [],⟨by simp[madeCells],by simp,fun k x j c hx hj=> ?_⟩,wS _⟩⟩
 have fX:=fe hx hj
 rw[zee] at fX
 have hxx:x=U.eP τ:=by
  rw[zdz] at hx
  split at hx
  ·cases hx;rfl
  ·cases hx
 subst hxx
 obtain⟨u,h1,h2⟩:=KC j c hj
 have KO:j<U.wd τ:=by
  rw[<-U.cZ τ (U.eP τ)]
  rcases mX j (U.enc τ (U.eP τ)).length with h|h
  ·exact h
  ·rw[mi h] at hj;cases hj
 have nj:(madeCells z.cells (n*U.wd τ)).toList.getD (k*U.wd τ+j) undef=u:=by
  rw[fY,HJ]
  unfold madeCells
  rw[Array.getElem?_map,Array.getElem?_range,if_pos fX]
  simp only[B5,Ds,KA]
  rw[Y6,Nat.add_mul_mod_self_right,Nat.mod_eq_of_lt KO]
  rw[getElem!_def,h1]
 rw[nj,DD]
 rcases h2 with⟨rfl,h3⟩|⟨Cr,rfl,rfl⟩
 ·exact .lit _ _ h3
 ·exact .nil _ _ _ _ (fun _=>rfl)
theorem akN(hE:E.Ok)(h:cG E pm F kv fp σ a w){o:Oper}{d:Nat}(ho:o.dst=some d)(hd:d<σ.n){t e:TypeId}{x y:Operand}(p5:o.op=.makeSlice t x y)
  {τ:U.Ty} (se:E.elem t=some e) (hc:E.code e=some τ) {sx sy:SV U} {n m:Int} (hx:RS E w F kv fp (bW σ) sx (a.eval x)) (hlx:iC sx=some (.int .i64 n))
  (hy:RS E w F kv fp (bW σ) sy (a.eval y)) (hly:iC sy=some (.int .i64 m)) (h0:0<=n) (sM:n=m) (hle:n<=4294967296) {ps:List Prop}
  (ng:¬Names σ (d,0)) {next:Act->World->Prop} {Q:Exit->Act->World->Prop}
  (hn:∀F kv fp a' w',cG E pm F kv fp (AM.apply o ⟨some (one (.ref (d,0) [])),[(0,.arr ⟨τ,List.replicate n.toNat (U.eP τ)⟩ true)],[],[],ps⟩ σ) a' w'->next a' w'):o.wp E.P a w next Q:=by
 obtain⟨wZ,i,z,hi,hz,iU,KA,SC,_⟩:=hE.code e τ hc
 have hu:=AL se
 subst sM
 obtain⟨_,vl⟩:=aju (w:=w) (F:=F) hE hc hi hz
 obtain⟨fl,h1,h2⟩:=vl n.toNat
 have hb:(i.bytes:Int)*n<=281474976710656:=by
  have h3:(i.bytes:Int)*n<=4096*4294967296:=Int.mul_le_mul (by omega) hle h0 (by omega)
  omega
 have iV:=run_make (P:=E.P) w t e i z hu hi hz .i64 .i64 n n h0 (Int.le_refl _) hb (by omega)
 obtain⟨F',kv',fp',nb⟩:=Wj h ho hd ng (τ:=τ) (rows:=List.replicate n.toNat (U.eP τ)) (ks:=[]) (dp:=true) (ps:=ps) (vs:=(madeCells z.cells (n.toNat*U.wd τ)).toList) (by simp) (by simp)
  (fun _=>⟨fl,h1,by simp[h2],by simp[h2]⟩) (by
   refine⟨_,h1.kD (F':=FK F fp []) (fun b hb=> .inl hb) (by simp[h2]),wS _⟩)
  (w1:=w.alloc (.cells (madeCells z.cells (n.toNat*i.size)) e)) (fun b hb=>yf w _ hb) (gy.alloc _ _ _) (by simp) (cap:=n.toNat) (cur:=madeCells z.cells (n.toNat*U.wd τ))
  (by rw[wZ,iU];exact heap_alloc_new w _) (by simp) (by simp only[maxLen];omega) (size_madeCells _ _) (by rw[O5 (by simp[size_madeCells])])
 refine qd (v:=.slice (some ⟨w.heap.size,0,none⟩) n.toNat n.toNat) (w':=w.alloc (.cells (madeCells z.cells (n.toNat*i.size)) e)) ?_ (hn F' kv' fp' _ _ ?_)
 ·unfold execOp;simp only[p5,og hx hlx,og hy hly];exact ic iV
 ·rw[zee] at nb;exact nb
end AM
