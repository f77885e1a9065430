/- THE ABSTRACT MACHINE: the operations that make memory. -/
import Derived.Test.YtjlajhgabffmpaaGreatQAmTake
import Derived.Laws.MakeOwn
namespace AM
set_option linter.unusedVariables false
open Go
variable{U:lu}{E:Env U}{pm:Pm}
variable{F F':Nat->Prop}{kv:Key->Value}{fp:Key->List Nat}{σ:ai U}{a:Act}{w w':World}{bad:Key->Bool}
def dQ{β:Type}(f:Key->β)(k:Key)(v:β):Key->β:=fun k'=>if k'=k then v else f k'
theorem tU{β:Type}{f:Key->β}{k:Key}{v:β}:dQ f k v k=v:=by simp[dQ]
theorem Bu{β:Type}{f:Key->β}{k k':Key}{v:β}(h:k'≠k):dQ f k v k'=f k':=by simp[dQ,h]
structure Env.Ok(E:Env U):Prop where
 code:∀e τ,E.code e=some τ->E.tid τ=e/\∃i z,E.P.info? e=some i/\i.zero=some z/\i.size=U.wd τ/\z.cells.size=U.wd τ/\i.bytes<=4096/\
  ∀(j:Nat)(c:U.C),(U.enc τ (U.fq τ))[j]? =some c->∃u,z.cells[j]? =some u/\((c=.lit u/\gM u)\/∃Gk,c=.sl Gk []/\u=.slice none 0 0)
 mixed:E.P.follows .mixedOrders=true
theorem cQ.Fp(h:cQ E pm F kv fp σ a w){o:Oper}{d:Nat}(ho:o.dst=some d)(hd:d<σ.n)(e:i_ U)(sv:SV U)(ks:List Key)(ps:List Prop)(v v0:Value)(A1:List Nat)
  (od:¬Names σ (d,0))
  (Ey:∀bad,RS E w' F' (dQ kv (d,0) v0) (dQ fp (d,0) A1) bad sv v)
  (hE:∀bad,tH E w' F' (dQ kv (d,0) v0) (dQ fp (d,0) A1) bad e v0 A1)
  (A':∀b,F b->F' b/\w'.heap[b]? =w.heap[b]?)
  (EQ:∀b,F' b->F b\/(∃k∈ks,(σ.bM k).isSome=true/\b∈fp k)\/(w.heap.size<=b/\b<w'.heap.size))
  (jA:∀k e,k∉ks->σ.bM k=some e->∀b∈fp k,w'.heap[b]? =w.heap[b]?)
  (qD:A1.Nodup) (QP:∀b∈A1,¬F' b/\((∃k∈ks,(σ.bM k).isSome=true/\b∈fp k)\/(w.heap.size<=b/\b<w'.heap.size)))
  (qz:iC (fun b=>pm.W b\/pm.w0.heap.size<=b) w w'):
  cQ E pm F' (dQ kv (d,0) v0) (dQ fp (d,0) A1) (AM.apply o ⟨some sv,[(0,e)],ks,[],ps⟩ σ) (a.put o.dst v) w':=by
 have kF:eo o (⟨some sv,[(0,e)],ks,[],ps⟩:cm U)=[(d,0)]:=by simp[eo,ho]
 have kX:jY (⟨some sv,[(0,e)],ks,[],ps⟩:cm U)=[]:=rfl
 have hW:pm.w0.heap.size<=w.heap.size:=h.upto.size
 refine h.apply o _ v (fun x hx=>by rw[ho] at hx;cases hx;exact hd) ?_ ?_ ?_ ?_ A' ?_ ?_ ?_ ?_ ?_ ?_ (h.upto.trans qz) qz.size
 ·intro x hx;cases hx;exact Ey _
 ·intro k hk;rw[kF] at hk;exact Bu (by simpa using hk)
 ·intro k hk _;rw[kF] at hk;exact Bu (by simpa using hk)
 ·intro k hk;rw[kF] at hk;rw[mF.1 hk];exact od
 ·intro k e' hk _ lm he b hb;exact jA k e' lm he b hb
 ·rintro k e' (⟨j,rfl,hj⟩|hk)
  ·simp only[mF,pb] at hj
   obtain⟨rfl,rfl⟩:=hj
   have:o.dst.getD 1000000=d:=by rw[ho];rfl
   rw[this,tU,tU]
   refine⟨hE _,qD,fun b hb=> ?_⟩
   obtain⟨h1,h2⟩:=QP b hb
   refine⟨h1,?_⟩
   rcases h2 with⟨k,hk,hl,hb⟩|h2
   ·obtain⟨Wj,EN⟩:=m8.1 hl
    have h3:=h.fV k Wj b EN hb
    have:=qz.size
    exact⟨h3.2.1,by omega⟩
   ·exact⟨.inr (by omega),h2.2⟩
  ·simp at hk
 ·intro k e' b hk _ lm he hb wj
  rcases EQ b wj with h1|⟨k',db,hl,bg⟩|h1
  ·exact(h.fV k e' b he hb).1 h1
  ·obtain⟨Wj,EN⟩:=m8.1 hl
   exact h.apart k k' e' Wj b (fun e=>lm (e▸db)) he EN hb bg
  ·have:=(h.fV k e' b he hb).2.2;omega
 ·intro k k' b fg hk db hb
  rw[kF,kX] at hk db
  simp only[mF,NO,or_false,false_or] at hk db
  subst hk
  rw[tU] at hb
  rcases db with rfl|⟨db,H_⟩
  ·exact absurd rfl fg
  ·rw[Bu (Ne.symm fg)]
   obtain⟨e',fo⟩:=m8.1 H_
   intro bg
   rcases(QP b hb).2 with⟨k,hk,hl,jg⟩|h2
   ·obtain⟨Wj,EN⟩:=m8.1 hl
    exact h.apart k k' Wj e' b (fun e=>db (e▸hk)) EN fo jg bg
   ·have:=(h.fV k' e' b fo bg).2.2;omega
 ·intro b hb
  rcases EQ b hb with h1|⟨k,hk,hl,bg⟩|h1
  ·have:=h.uc b h1;have:=qz.size;omega
  ·obtain⟨Wj,EN⟩:=m8.1 hl
   have:=(h.fV k Wj b EN bg).2.2;have:=qz.size;omega
  ·exact h1.2
 ·intro b hb
  rcases EQ b hb with h1|⟨k,hk,hl,bg⟩|h1
  ·exact h.ub b h1
  ·obtain⟨Wj,EN⟩:=m8.1 hl
   exact .inr (h.fV k Wj b EN bg).2.1
  ·exact .inr (.inr (by omega))
theorem HI(h:cQ E pm F kv fp σ a w){k:Key}{e:i_ U}{b:Nat}(he:σ.bM k=some e)(hb:b∈fp k):b<w.heap.size:=(h.fV k e b he hb).2.2
theorem Bv(w:World)(o:Obj){b:Nat}(hb:b<w.heap.size):(w.alloc o).heap[b]? =w.heap[b]? :=RowKit.Below.heap_alloc w o b hb
theorem iC.alloc(W:Nat->Prop)(w:World)(o:Obj):iC W w (w.alloc o):=
 ⟨rfl,rfl,rfl,by simp,fun k hk _=>RowKit.Below.heap_alloc w o k hk⟩
theorem al8(h:cQ E pm F kv fp σ a w){o:Oper}{d:Nat}(ho:o.dst=some d)(hd:d<σ.n){t:TypeId}(sj:o.op=.alloc t){z:Value}(hz:(E.P.info? t).bind (·.zero)=some z)
  {l:List (AC U)} (hl:jW z.cells.toList=some l) (od:¬Names σ (d,0)) {next:Act->World->Prop} {Q:Exit->Act->World->Prop}
  (hn:∀F kv fp a' w',cQ E pm F kv fp (AM.apply o ⟨some (one (.kH (d,0) 0)),[(0,.box l)],[],[],[]⟩ σ) a' w'->next a' w'):o.wp E.P a w next Q:=by
 have jz:(execOp a.eval o).run E.P w=.ok (.value (.pointer (some ⟨w.heap.size,0,none⟩))) (w.alloc (.cells z.cells t)):=by
  cases hi:E.P.info? t with
  |none=>rw[hi] at hz;cases hz
  |some i=>
   rw[hi] at hz
   have WW:i.zero=some z:=hz
   unfold execOp;simp only[sj]
   refine iQ ?_
   simp[Instr.alloc,zeroValue,typeInfo,hi,WW,newVar,newRow]
 refine sH jz (hn F (dQ kv (d,0) (.pointer (some ⟨w.heap.size,0,none⟩))) (dQ fp (d,0) [w.heap.size]) _ _ (h.Fp (w':=w.alloc (.cells z.cells t)) ho hd _ _ [] _ (.pointer (some ⟨w.heap.size,0,none⟩)) _ _ od ?_ ?_ ?_ ?_ ?_ ?_ ?_ ?_))
 ·intro bad
  exact iD ⟨⟨rfl,trivial⟩,.inr ⟨w.heap.size,tU,rfl⟩⟩
 ·intro bad
  exact⟨w.heap.size,z.cells,t,rfl,heap_alloc_new w _,rfl,Vf hl⟩
 ·intro b hb;exact⟨hb,Bv w _ (h.uc b hb)⟩
 ·intro b hb;exact .inl hb
 ·intro k e _ he b hb;exact Bv w _ (HI h he hb)
 ·simp
 ·intro b hb
  rw[mF.1 hb]
  exact⟨fun hF=>by have:=h.uc _ hF;omega,.inr ⟨tR _,by simp⟩⟩
 ·exact iC.alloc _ _ _
theorem ZJ(h:cQ E pm F kv fp σ a w){o:Oper}{d:Nat}(ho:o.dst=some d)(hd:d<σ.n)(od:¬Names σ (d,0)){τ:U.Ty}{rows:List (U.T τ)}{ks:List Key}{dp:Bool}{ps:List Prop}
  {vs:List Value} (Ia:ks.Nodup) (FP:∀k∈ks,(σ.bM k).isSome=true)
  (ad0:dp=true->∃fl,e9 E w F true τ rows vs fl/\fl.flatten.Nodup/\∀b∈fl.flatten,∃k∈ks,b∈fp k)
  (amJ:∃fl,e9 E w (FK F fp ks) false τ rows vs fl/\fl.flatten=[])
  {w1:World} (zQ:∀b,b<w.heap.size->w1.heap[b]? =w.heap[b]?) (qz:iC (fun b=>pm.W b\/pm.w0.heap.size<=b) w w1) (xu:w.heap.size<w1.heap.size)
  {cap:Nat} {cur:Array Value} (hb:w1.heap[w.heap.size]? =some (.cells cur (E.tid τ) (0,0))) (hc:rows.length<=cap) (hm:cap<=maxLen) (hs:cur.size=cap*U.wd τ) (A6:cur.toList.take (rows.length*U.wd τ)=vs):
  ∃F' kv' fp',cQ E pm F' kv' fp' (AM.apply o ⟨some (one (.ref (d,0) [])),[(0,.arr ⟨τ,rows⟩ dp)],ks,[],ps⟩ σ) (a.put o.dst (.slice (some ⟨w.heap.size,0,none⟩) rows.length cap)) w1:=by
 have Ey:∀(F':Nat->Prop)(A1:List Nat) bad,RS E w1 F' (dQ kv (d,0) (.slice (some ⟨w.heap.size,0,none⟩) rows.length cap)) (dQ fp (d,0) A1) bad (one (.ref (d,0) [])) (.slice (some ⟨w.heap.size,0,none⟩) rows.length cap):=
  fun F' A1 bad=>iD ⟨⟨rfl,trivial⟩,.inr (by simp only[RA,tU];rfl)⟩
 have jA:∀k e,σ.bM k=some e->∀b∈fp k,w1.heap[b]? =w.heap[b]? :=fun k e he b hb=>zQ b (HI h he hb)
 have qg:∀{l:List Nat},(∀b∈l,∃k∈ks,b∈fp k)->∀b∈l,b<w.heap.size:=fun hl b hb=>by
  obtain⟨k,hk,hb⟩:=hl b hb
  obtain⟨e,he⟩:=m8.1 (FP k hk)
  exact HI h he hb
 cases dp with
 |true=>
  obtain⟨fl,h1,h2,h3⟩:=ad0 rfl
  refine⟨F,_,_,h.Fp ho hd _ _ ks ps _ _ (w.heap.size::fl.flatten) od (Ey F _) ?_ ?_ ?_ ?_ ?_ ?_ qz⟩
  ·intro bad
   exact fi.nS hb hc hm hs A6 (h1.gx (fun b hb=>⟨hb,zQ b (h.uc b hb)⟩) (fun b hb=>zQ b (qg h3 b hb)))
  ·intro b hb;exact⟨hb,zQ b (h.uc b hb)⟩
  ·intro b hb;exact .inl hb
  ·intro k e _ he b hb;exact jA k e he b hb
  ·refine tS.2 ⟨fun hb=> ?_,h2⟩
   have:=qg h3 _ hb;omega
  ·intro b hb
   rcases kf.1 hb with rfl|hb
   ·exact⟨fun hF=>by have:=h.uc _ hF;omega,.inr ⟨tR _,xu⟩⟩
   ·obtain⟨k,hk,jg⟩:=h3 b hb
    obtain⟨e,he⟩:=m8.1 (FP k hk)
    exact⟨(h.fV k e b he jg).1,.inl ⟨k,hk,FP k hk,jg⟩⟩
 |false=>
  obtain⟨fl,h1,h2⟩:=amJ
  have hFK:∀b,FK F fp ks b->b<w.heap.size:=by
   rintro b (hb|⟨k,hk,hb⟩)
   ·exact h.uc b hb
   ·obtain⟨e,he⟩:=m8.1 (FP k hk)
    exact HI h he hb
  refine⟨FK F fp ks,_,_,h.Fp ho hd _ _ ks ps _ _ [w.heap.size] od (Ey _ _) ?_ ?_ ?_ ?_ ?_ ?_ qz⟩
  ·intro bad
   have:=fi.nS hb hc hm hs A6 (h1.gx (w':=w1) (F':=FK F fp ks) (fun b hb=>⟨hb,zQ b (hFK b hb)⟩) (by simp[h2]))
   rw[h2] at this
   exact this
  ·intro b hb;exact⟨.inl hb,zQ b (h.uc b hb)⟩
  ·rintro b (hb|⟨k,hk,hb⟩)
   ·exact .inl hb
   ·exact .inr (.inl ⟨k,hk,FP k hk,hb⟩)
  ·intro k e _ he b hb;exact jA k e he b hb
  ·simp
  ·intro b hb
   rw[mF.1 hb]
   exact⟨fun hF=>by have:=hFK _ hF;omega,.inr ⟨tR _,xu⟩⟩
theorem alS(hE:E.Ok)(h:cQ E pm F kv fp σ a w){o:Oper}{d:Nat}(ho:o.dst=some d)(hd:d<σ.n){t e:TypeId}{len:Nat}{parts:Array (Nat×Operand)}(sj:o.op=.buildSlice t len parts)
  {τ:U.Ty} (uM:E.elem t=some e) (hc:E.code e=some τ) {xs:List (SV U)} (hx:xs.length=parts.toList.length)
  (hv:∀(i:Nat)(x:SV U)(q:Nat×Operand),xs[i]? =some x->parts.toList[i]? =some q->RS E w F kv fp (bR σ) x (a.eval q.2))
  (hlen:(parts.toList.map (·.1)).length=len) (aaP:((parts.toList.map (·.1)).zipIdx).all (fun(a,b)=>Nat.beq a b)=true) (hsm:len*U.wd τ<=1000000)
  {rs:List Key} {want:List (Option U.Ty)} {ps:List Prop} {rows:List (U.T τ)} {ks:List Key} {dp:Bool} (hr:rowsOf τ (restrict σ.bM rs) want xs=some (ps,rows,ks,dp)) (hp:∀p∈ps,p) (Ia:ks.Nodup)
  (od:¬Names σ (d,0)) {next:Act->World->Prop} {Q:Exit->Act->World->Prop}
  (hn:∀F kv fp a' w',cQ E pm F kv fp (AM.apply o ⟨some (one (.ref (d,0) [])),[(0,.arr ⟨τ,rows⟩ dp)],ks,[],ps⟩ σ) a' w'->next a' w'):o.wp E.P a w next Q:=by
 obtain⟨zR,i,z,hi,hz,jy,PO,Xh,_⟩:=hE.code e τ hc
 have hu:=D9 uM
 have hw:=U.la τ
 obtain⟨r1,r2,r3,r4,r5⟩:=aj9 h (us:=parts.toList.map fun q=>a.eval q.2) hr hp (by simp[hx]) (fun i x u Uo sN=>by
  rw[nO] at sN
  cases hq:parts.toList[i]? with
  |none=>rw[hq] at sN;cases sN
  |some q=>rw[hq] at sN;cases sN;exact hv i x q Uo hq) Ia
 have M9:rows.length=len:=by rw[r1,hx,<-hlen];simp
 have A7:parts.toList.length=len:=by rw[<-hlen];simp
 have M_:(parts.map fun(i,x)=>(i,a.eval x)).toList=((parts.toList.map fun q=>a.eval q.2).zipIdx 0).map fun x=>(x.2,x.1):=by
  rw[zeo]
  refine Um fun n=> ?_
  rw[nO,nO,zej,nO]
  cases hq:parts.toList[n]? with
  |none=>rfl
  |some q=>
   simp only[FR,gJ,pb,vf,and_true]
   have h1:((parts.toList.map (·.1)).zipIdx)[n]? =some (q.1,n):=by
    rw[zej,nO,hq];simp
   have:=(sk.1 aaP) (q.1,n) (Gn h1)
   exact nc this
 have aao:¬len*i.size>2^24:=by rw[jy];omega
 have Nb:len<=maxLen:=by
  have:len<=len*U.wd τ:=Nat.le_mul_of_pos_right _ hw
  simp only[maxLen];omega
 have fin:∀cells:Array Value,cells.toList=(parts.toList.map fun q=>a.eval q.2).flatMap (fun u=>u.cells.toList)->
   (Instr.buildSlice t len (parts.map fun(i,x)=>(i,a.eval x))).run E.P w=.ok (.slice (some ⟨w.heap.size,0,none⟩) len len) (w.alloc (.cells cells e))->o.wp E.P a w next Q:=by
  intro cells w8 jz
  have vz:cells.size=len*U.wd τ:=by
   obtain⟨fl,h1,_⟩:=r5
   have:=h1.1
   rw[<-w8,M9] at this
   simpa using this
  obtain⟨F',kv',fp',oJ⟩:=ZJ h ho hd od (ps:=ps) (dp:=dp) Ia r3 r4 r5 (w1:=w.alloc (.cells cells e)) (fun b hb=>Bv w _ hb) (iC.alloc _ _ _) (by simp) (cap:=len) (cur:=cells)
   (by rw[zR];exact heap_alloc_new w _) (by omega) Nb vz (by rw[M9,<-w8,Ul (by simp[vz])])
  refine sH (v:=.slice (some ⟨w.heap.size,0,none⟩) len len) (w':=w.alloc (.cells cells e)) ?_ (hn F' kv' fp' _ _ ?_)
  ·unfold execOp;simp only[sj];exact iQ jz
  ·rw[M9] at oJ;exact oJ
 by_cases h0:len=0
 ·have Na:parts.toList=[]:=FU (by omega)
  have Sp:parts= #[]:=zJ Na
  subst h0
  refine fin #[] (by simp[Na]) ?_
  simp[Instr.buildSlice,run_underlying hu,Go.sizeOf,typeInfo,hi,Sp,Instr.fill,newRow,Array.range_zero']
 ·have PS:¬len*i.size=0:=by
   rw[jy]
   have:=Nat.mul_pos (Nat.pos_of_ne_zero h0) hw
   omega
  have SB:=Great.fill_whole (s:=i.size) (by rw[jy];exact hw) (parts.toList.map fun q=>a.eval q.2) ((Array.range (len*i.size)).map (z.cells[·%z.cells.size]!)) (fun v hv=>by rw[jy];exact r2 v hv) (by simp[A7])
  refine fin ((parts.toList.map fun q=>a.eval q.2).flatMap fun v=>v.cells.toList).toArray rfl (run_buildSlice w t e len _ _ i z hu hi hz aao PS ?_)
  rw[M_]
  exact SB
theorem ajD(hE:E.Ok){e:TypeId}{τ:U.Ty}(hc:E.code e=some τ){i:TypeInfo}{z:Value}(hi:E.P.info? e=some i)(hz:i.zero=some z):
  z.cells.size=U.wd τ/\∀n,∃fl,e9 E w F true τ (List.replicate n (U.fq τ)) (madeCells z.cells (n*U.wd τ)).toList fl/\fl.flatten=[]:=by
 obtain⟨zR,i',z',qh,WW,jy,PO,Xh,PR⟩:=hE.code e τ hc
 rw[hi] at qh;cases qh
 rw[hz] at WW;cases WW
 have hw:=U.la τ
 refine⟨PO,fun n=>⟨List.replicate (n*U.wd τ) [],⟨by simp[madeCells],by simp,fun k x j c hx hj=> ?_⟩,zI _⟩⟩
 have gZ:=fU hx hj
 rw[zee] at gZ
 have hxx:x=U.fq τ:=by
  rw[zdz] at hx
  split at hx
  ·cases hx;rfl
  ·cases hx
 subst hxx
 obtain⟨u,h1,h2⟩:=PR j c hj
 have P9:j<U.wd τ:=by
  rw[<-U.dK τ (U.fq τ)]
  rcases pa j (U.enc τ (U.fq τ)).length with h|h
  ·exact h
  ·rw[ox h] at hj;cases hj
 have qE:(madeCells z.cells (n*U.wd τ)).toList.getD (k*U.wd τ+j) undef=u:=by
  rw[eX,Mt]
  unfold madeCells
  rw[Array.getElem?_map,Array.getElem?_range,if_pos gZ]
  simp only[FR,Gm,PO]
  rw[zew,Nat.add_mul_mod_self_right,Nat.mod_eq_of_lt P9]
  rw[getElem!_def,h1]
 rw[qE,HG]
 rcases h2 with⟨rfl,h3⟩|⟨Gk,rfl,rfl⟩
 ·exact .lit _ _ h3
 ·exact .nil _ _ _ _ (fun _=>rfl)
theorem akW(hE:E.Ok)(h:cQ E pm F kv fp σ a w){o:Oper}{d:Nat}(ho:o.dst=some d)(hd:d<σ.n){t e:TypeId}{x y:Operand}(sj:o.op=.makeSlice t x y)
  {τ:U.Ty} (uM:E.elem t=some e) (hc:E.code e=some τ) {sx sy:SV U} {n m:Int} (hx:RS E w F kv fp (bR σ) sx (a.eval x)) (hlx:jj sx=some (.int .i64 n))
  (hy:RS E w F kv fp (bR σ) sy (a.eval y)) (hly:jj sy=some (.int .i64 m)) (h0:0<=n) (vv:n=m) (hle:n<=4294967296) {ps:List Prop}
  (od:¬Names σ (d,0)) {next:Act->World->Prop} {Q:Exit->Act->World->Prop}
  (hn:∀F kv fp a' w',cQ E pm F kv fp (AM.apply o ⟨some (one (.ref (d,0) [])),[(0,.arr ⟨τ,List.replicate n.toNat (U.fq τ)⟩ true)],[],[],ps⟩ σ) a' w'->next a' w'):o.wp E.P a w next Q:=by
 obtain⟨zR,i,z,hi,hz,jy,PO,Xh,_⟩:=hE.code e τ hc
 have hu:=D9 uM
 subst vv
 obtain⟨_,sM⟩:=ajD (w:=w) (F:=F) hE hc hi hz
 obtain⟨fl,h1,h2⟩:=sM n.toNat
 have hb:(i.bytes:Int)*n<=281474976710656:=by
  have h3:(i.bytes:Int)*n<=4096*4294967296:=Int.mul_le_mul (by omega) hle h0 (by omega)
  omega
 have jz:=run_make (P:=E.P) w t e i z hu hi hz .i64 .i64 n n h0 (Int.le_refl _) hb (by omega)
 obtain⟨F',kv',fp',oJ⟩:=ZJ h ho hd od (τ:=τ) (rows:=List.replicate n.toNat (U.fq τ)) (ks:=[]) (dp:=true) (ps:=ps) (vs:=(madeCells z.cells (n.toNat*U.wd τ)).toList) (by simp) (by simp)
  (fun _=>⟨fl,h1,by simp[h2],by simp[h2]⟩) (by
   refine⟨_,h1.lz (F':=FK F fp []) (fun b hb=> .inl hb) (by simp[h2]),zI _⟩)
  (w1:=w.alloc (.cells (madeCells z.cells (n.toNat*i.size)) e)) (fun b hb=>Bv w _ hb) (iC.alloc _ _ _) (by simp) (cap:=n.toNat) (cur:=madeCells z.cells (n.toNat*U.wd τ))
  (by rw[zR,jy];exact heap_alloc_new w _) (by simp) (by simp only[maxLen];omega) (size_madeCells _ _) (by rw[Ul (by simp[size_madeCells])])
 refine sH (v:=.slice (some ⟨w.heap.size,0,none⟩) n.toNat n.toNat) (w':=w.alloc (.cells (madeCells z.cells (n.toNat*i.size)) e)) ?_ (hn F' kv' fp' _ _ ?_)
 ·unfold execOp;simp only[sj,qd hx hlx,qd hy hly];exact iQ jz
 ·rw[zee] at oJ;exact oJ
end AM
