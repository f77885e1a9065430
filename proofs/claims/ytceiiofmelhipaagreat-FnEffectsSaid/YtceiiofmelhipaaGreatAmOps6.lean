/- THE ABSTRACT MACHINE: the operations that make memory. -/
import Derived.Test.YtceiiofmelhipaaGreatAmTake
import Derived.Laws.MakeOwn
namespace AM
set_option linter.unusedVariables false
open Go
variable{U:Uni}{E:Env U}{pm:Pm}
variable{F F':Nat→Prop}{kv:Key→Value}{fp:Key→List Nat}{σ:AState U}{a:Act}{w w':World}{bad:Key→Bool}
def setKey{β:Type}(f:Key→β)(k:Key)(v:β):Key→β:=fun k'=>if k'=k then v else f k'
theorem qalw{β:Type}{f:Key→β}{k:Key}{v:β}:setKey f k v k=v:=by simp[setKey]
theorem qalv{β:Type}{f:Key→β}{k k':Key}{v:β}(h:k'≠k):setKey f k v k'=f k':=by simp[setKey,h]
structure Env.Ok(E:Env U):Prop where
 code:∀e τ,E.code e=some τ→E.tid τ=e∧∃i z,E.P.info? e=some i∧i.zero=some z∧i.size=U.wd τ∧z.cells.size=U.wd τ∧i.bytes≤4096∧
  ∀(j:Nat)(c:U.C),(U.enc τ (U.dflt τ))[j]? =some c→∃u,z.cells[j]? =some u∧((c=.lit u∧LitOk u)∨∃τ',c=.sl τ' []∧u=.slice none 0 0)
 mixed:E.P.follows .mixedOrders=true
theorem Upto.app{W:Nat→Prop}{a b c:World}(h:Upto W a b)(k:Upto (fun x=>W x∨a.heap.size≤x) b c):Upto W a c:=h.trans k
theorem Sim.add1(h:Sim E pm F kv fp σ a w){o:Oper}{d:Nat}(ho:o.dst=some d)(hd:d<σ.n)(e:Ent U)(sv:SV U)(ks:List Key)(ps:List Prop)(v v0:Value)(nfp:List Nat)
  (hfr:¬Names σ (d,0))
  (hsv:∀bad,RS E w' F' (setKey kv (d,0) v0) (setKey fp (d,0) nfp) bad sv v)
  (hE:∀bad,REnt E w' F' (setKey kv (d,0) v0) (setKey fp (d,0) nfp) bad e v0 nfp)
  (hFF:∀b,F b→F' b∧w'.heap[b]? =w.heap[b]?)
  (hFnew:∀b,F' b→F b∨(∃k∈ks,(σ.ent k).isSome=true∧b∈fp k)∨(w.heap.size≤b∧b<w'.heap.size))
  (hlive:∀k e,k∉ks→σ.ent k=some e→∀b∈fp k,w'.heap[b]? =w.heap[b]?)
  (hnd:nfp.Nodup) (hnb:∀b∈nfp,¬F' b∧((∃k∈ks,(σ.ent k).isSome=true∧b∈fp k)∨(w.heap.size≤b∧b<w'.heap.size)))
  (hup:Upto (fun b=>pm.W b∨pm.w0.heap.size≤b) w w'):
  Sim E pm F' (setKey kv (d,0) v0) (setKey fp (d,0) nfp) (AM.apply o ⟨some sv,[(0,e)],ks,[],ps⟩ σ) (a.put o.dst v) w':=by
 have hadds:adds o (⟨some sv,[(0,e)],ks,[],ps⟩:Rslt U)=[(d,0)]:=by simp[adds,ho]
 have hupds:upds (⟨some sv,[(0,e)],ks,[],ps⟩:Rslt U)=[]:=rfl
 have hW:pm.w0.heap.size≤w.heap.size:=h.upto.size
 refine h.apply o _ v (fun x hx=>by rw[ho] at hx;cases hx;exact hd) ?_ ?_ ?_ ?_ hFF ?_ ?_ ?_ ?_ ?_ ?_ (h.upto.trans hup) hup.size
 ·intro x hx;cases hx;exact hsv _
 ·intro k hk;rw[hadds] at hk;exact qalv (by simpa using hk)
 ·intro k hk _;rw[hadds] at hk;exact qalv (by simpa using hk)
 ·intro k hk;rw[hadds] at hk;rw[zau.1 hk];exact hfr
 ·intro k e' hk _ hk2 he b hb;exact hlive k e' hk2 he b hb
 ·rintro k e' (⟨j,rfl,hj⟩|hk)
  ·simp only[zau,zax] at hj
   obtain⟨rfl,rfl⟩:=hj
   have:o.dst.getD 1000000=d:=by rw[ho];rfl
   rw[this,qalw,qalw]
   refine⟨hE _,hnd,fun b hb=> ?_⟩
   obtain⟨h1,h2⟩:=hnb b hb
   refine⟨h1,?_⟩
   rcases h2 with⟨k,hk,hl,hb⟩|h2
   ·obtain⟨e'',he''⟩:=zag.1 hl
    have h3:=h.mine k e'' b he'' hb
    have:=hup.size
    exact⟨h3.2.1,by omega⟩
   ·exact⟨.inr (by omega),h2.2⟩
  ·simp at hk
 ·intro k e' b hk _ hk2 he hb hF'
  rcases hFnew b hF' with h1|⟨k',hk',hl,hb'⟩|h1
  ·exact(h.mine k e' b he hb).1 h1
  ·obtain⟨e'',he''⟩:=zag.1 hl
   exact h.apart k k' e' e'' b (fun e=>hk2 (e▸hk')) he he'' hb hb'
  ·have:=(h.mine k e' b he hb).2.2;omega
 ·intro k k' b hne hk hk' hb
  rw[hadds,hupds] at hk hk'
  simp only[zau,zcf,or_false,false_or] at hk hk'
  subst hk
  rw[qalw] at hb
  rcases hk' with rfl|⟨hk',hl'⟩
  ·exact absurd rfl hne
  ·rw[qalv (Ne.symm hne)]
   obtain⟨e',he'⟩:=zag.1 hl'
   intro hb'
   rcases(hnb b hb).2 with⟨k,hk,hl,hbk⟩|h2
   ·obtain⟨e'',he''⟩:=zag.1 hl
    exact h.apart k k' e'' e' b (fun e=>hk' (e▸hk)) he'' he' hbk hb'
   ·have:=(h.mine k' e' b he' hb').2.2;omega
 ·intro b hb
  rcases hFnew b hb with h1|⟨k,hk,hl,hb'⟩|h1
  ·have:=h.Flt b h1;have:=hup.size;omega
  ·obtain⟨e'',he''⟩:=zag.1 hl
   have:=(h.mine k e'' b he'' hb').2.2;have:=hup.size;omega
  ·exact h1.2
 ·intro b hb
  rcases hFnew b hb with h1|⟨k,hk,hl,hb'⟩|h1
  ·exact h.Fsub b h1
  ·obtain⟨e'',he''⟩:=zag.1 hl
   exact .inr (h.mine k e'' b he'' hb').2.1
  ·exact .inr (.inr (by omega))
theorem qaao{o:Oper}{d:Nat}(ho:o.dst=some d){e:Ent U}{sv:SV U}{ks:List Key}{ps:List Prop}:True:=trivial
theorem qafk(h:Sim E pm F kv fp σ a w){k:Key}{e:Ent U}{b:Nat}(he:σ.ent k=some e)(hb:b∈fp k):b<w.heap.size:=(h.mine k e b he hb).2.2
theorem qaga(w:World)(o:Obj){b:Nat}(hb:b<w.heap.size):(w.alloc o).heap[b]? =w.heap[b]? :=RowKit.Below.heap_alloc w o b hb
theorem Upto.alloc(W:Nat→Prop)(w:World)(o:Obj):Upto W w (w.alloc o):=
 ⟨rfl,rfl,rfl,by simp,fun k hk _=>RowKit.Below.heap_alloc w o k hk⟩
theorem qaas(h:Sim E pm F kv fp σ a w){o:Oper}{d:Nat}(ho:o.dst=some d)(hd:d<σ.n){t:TypeId}(hop:o.op=.alloc t){z:Value}(hz:(E.P.info? t).bind (·.zero)=some z)
  {l:List (AC U)} (hl:constCells z.cells.toList=some l) (hfr:¬Names σ (d,0)) {next:Act→World→Prop} {Q:Exit→Act→World→Prop}
  (hn:∀F kv fp a' w',Sim E pm F kv fp (AM.apply o ⟨some (one (.bptr (d,0) 0)),[(0,.box l)],[],[],[]⟩ σ) a' w'→next a' w'):o.wp E.P a w next Q:=by
 have hrun:(execOp a.eval o).run E.P w=.ok (.value (.pointer (some ⟨w.heap.size,0,none⟩))) (w.alloc (.cells z.cells t)):=by
  cases hi:E.P.info? t with
  |none=>rw[hi] at hz;cases hz
  |some i=>
   rw[hi] at hz
   have hz':i.zero=some z:=hz
   unfold execOp;simp only[hop]
   refine run_v ?_
   simp[Instr.alloc,zeroValue,typeInfo,hi,hz',newVar,newRow]
 refine qanv hrun (hn F (setKey kv (d,0) (.pointer (some ⟨w.heap.size,0,none⟩))) (setKey fp (d,0) [w.heap.size]) _ _ (h.add1 (w':=w.alloc (.cells z.cells t)) ho hd _ _ [] _ (.pointer (some ⟨w.heap.size,0,none⟩)) _ _ hfr ?_ ?_ ?_ ?_ ?_ ?_ ?_ ?_))
 ·intro bad
  exact RS_one ⟨⟨rfl,trivial⟩,.inr ⟨w.heap.size,qalw,rfl⟩⟩
 ·intro bad
  exact⟨w.heap.size,z.cells,t,rfl,heap_alloc_new w _,rfl,qact hl⟩
 ·intro b hb;exact⟨hb,qaga w _ (h.Flt b hb)⟩
 ·intro b hb;exact .inl hb
 ·intro k e _ he b hb;exact qaga w _ (qafk h he hb)
 ·simp
 ·intro b hb
  rw[zau.1 hb]
  exact⟨fun hF=>by have:=h.Flt _ hF;omega,.inr ⟨zca _,by simp⟩⟩
 ·exact Upto.alloc _ _ _
theorem qaiv(h:Sim E pm F kv fp σ a w){o:Oper}{d:Nat}(ho:o.dst=some d)(hd:d<σ.n)(hfr:¬Names σ (d,0)){τ:U.Ty}{rows:List (U.T τ)}{ks:List Key}{dp:Bool}{ps:List Prop}
  {vs:List Value} (hks:ks.Nodup) (hlv:∀k∈ks,(σ.ent k).isSome=true)
  (hdeep:dp=true→∃fl,RRow E w F true τ rows vs fl∧fl.flatten.Nodup∧∀b∈fl.flatten,∃k∈ks,b∈fp k)
  (hany:∃fl,RRow E w (FK F fp ks) false τ rows vs fl∧fl.flatten=[])
  {w1:World} (hw1:∀b,b<w.heap.size→w1.heap[b]? =w.heap[b]?) (hup:Upto (fun b=>pm.W b∨pm.w0.heap.size≤b) w w1) (hsz:w.heap.size<w1.heap.size)
  {cap:Nat} {cur:Array Value} (hb:w1.heap[w.heap.size]? =some (.cells cur (E.tid τ) (0,0))) (hc:rows.length≤cap) (hm:cap≤maxLen) (hs:cur.size=cap*U.wd τ) (htk:cur.toList.take (rows.length*U.wd τ)=vs):
  ∃F' kv' fp',Sim E pm F' kv' fp' (AM.apply o ⟨some (one (.ref (d,0) [])),[(0,.arr ⟨τ,rows⟩ dp)],ks,[],ps⟩ σ) (a.put o.dst (.slice (some ⟨w.heap.size,0,none⟩) rows.length cap)) w1:=by
 have hsv:∀(F':Nat→Prop)(nfp:List Nat) bad,RS E w1 F' (setKey kv (d,0) (.slice (some ⟨w.heap.size,0,none⟩) rows.length cap)) (setKey fp (d,0) nfp) bad (one (.ref (d,0) [])) (.slice (some ⟨w.heap.size,0,none⟩) rows.length cap):=
  fun F' nfp bad=>RS_one ⟨⟨rfl,trivial⟩,.inr (by simp only[RA,qalw];rfl)⟩
 have hlive:∀k e,σ.ent k=some e→∀b∈fp k,w1.heap[b]? =w.heap[b]? :=fun k e he b hb=>hw1 b (qafk h he hb)
 have hin:∀{l:List Nat},(∀b∈l,∃k∈ks,b∈fp k)→∀b∈l,b<w.heap.size:=fun hl b hb=>by
  obtain⟨k,hk,hb⟩:=hl b hb
  obtain⟨e,he⟩:=zag.1 (hlv k hk)
  exact qafk h he hb
 cases dp with
 |true=>
  obtain⟨fl,h1,h2,h3⟩:=hdeep rfl
  refine⟨F,_,_,h.add1 ho hd _ _ ks ps _ _ (w.heap.size::fl.flatten) hfr (hsv F _) ?_ ?_ ?_ ?_ ?_ ?_ hup⟩
  ·intro bad
   exact ROwn.of_rows hb hc hm hs htk (h1.keep (fun b hb=>⟨hb,hw1 b (h.Flt b hb)⟩) (fun b hb=>hw1 b (hin h3 b hb)))
  ·intro b hb;exact⟨hb,hw1 b (h.Flt b hb)⟩
  ·intro b hb;exact .inl hb
  ·intro k e _ he b hb;exact hlive k e he b hb
  ·refine zbe.2 ⟨fun hb=> ?_,h2⟩
   have:=hin h3 _ hb;omega
  ·intro b hb
   rcases zak.1 hb with rfl|hb
   ·exact⟨fun hF=>by have:=h.Flt _ hF;omega,.inr ⟨zca _,hsz⟩⟩
   ·obtain⟨k,hk,hbk⟩:=h3 b hb
    obtain⟨e,he⟩:=zag.1 (hlv k hk)
    exact⟨(h.mine k e b he hbk).1,.inl ⟨k,hk,hlv k hk,hbk⟩⟩
 |false=>
  obtain⟨fl,h1,h2⟩:=hany
  have hFK:∀b,FK F fp ks b→b<w.heap.size:=by
   rintro b (hb|⟨k,hk,hb⟩)
   ·exact h.Flt b hb
   ·obtain⟨e,he⟩:=zag.1 (hlv k hk)
    exact qafk h he hb
  refine⟨FK F fp ks,_,_,h.add1 ho hd _ _ ks ps _ _ [w.heap.size] hfr (hsv _ _) ?_ ?_ ?_ ?_ ?_ ?_ hup⟩
  ·intro bad
   have:=ROwn.of_rows hb hc hm hs htk (h1.keep (w':=w1) (F':=FK F fp ks) (fun b hb=>⟨hb,hw1 b (hFK b hb)⟩) (by simp[h2]))
   rw[h2] at this
   exact this
  ·intro b hb;exact⟨.inl hb,hw1 b (h.Flt b hb)⟩
  ·rintro b (hb|⟨k,hk,hb⟩)
   ·exact .inl hb
   ·exact .inr (.inl ⟨k,hk,hlv k hk,hb⟩)
  ·intro k e _ he b hb;exact hlive k e he b hb
  ·simp
  ·intro b hb
   rw[zau.1 hb]
   exact⟨fun hF=>by have:=hFK _ hF;omega,.inr ⟨zca _,hsz⟩⟩
theorem qaca(hE:E.Ok)(h:Sim E pm F kv fp σ a w){o:Oper}{d:Nat}(ho:o.dst=some d)(hd:d<σ.n){t e:TypeId}{len:Nat}{parts:Array (Nat×Operand)}(hop:o.op=.buildSlice t len parts)
  {τ:U.Ty} (hel:E.elem t=some e) (hc:E.code e=some τ) {xs:List (SV U)} (hx:xs.length=parts.toList.length)
  (hv:∀(i:Nat)(x:SV U)(q:Nat×Operand),xs[i]? =some x→parts.toList[i]? =some q→RS E w F kv fp (badK σ) x (a.eval q.2))
  (hlen:(parts.toList.map (·.1)).length=len) (hidx:((parts.toList.map (·.1)).zipIdx).all (fun(a,b)=>Nat.beq a b)=true) (hsm:len*U.wd τ≤1000000)
  {rs:List Key} {want:List (Option U.Ty)} {ps:List Prop} {rows:List (U.T τ)} {ks:List Key} {dp:Bool} (hr:rowsOf τ (restrict σ.ent rs) want xs=some (ps,rows,ks,dp)) (hp:∀p∈ps,p) (hks:ks.Nodup)
  (hfr:¬Names σ (d,0)) {next:Act→World→Prop} {Q:Exit→Act→World→Prop}
  (hn:∀F kv fp a' w',Sim E pm F kv fp (AM.apply o ⟨some (one (.ref (d,0) [])),[(0,.arr ⟨τ,rows⟩ dp)],ks,[],ps⟩ σ) a' w'→next a' w'):o.wp E.P a w next Q:=by
 obtain⟨htid,i,z,hi,hz,hsize,hzs,hby,_⟩:=hE.code e τ hc
 have hu:=qadk hel
 have hw:=U.wd_pos τ
 obtain⟨r1,r2,r3,r4,r5⟩:=qali h (us:=parts.toList.map fun q=>a.eval q.2) hr hp (by simp[hx]) (fun i x u hx' hu'=>by
  rw[zal] at hu'
  cases hq:parts.toList[i]? with
  |none=>rw[hq] at hu';cases hu'
  |some q=>rw[hq] at hu';cases hu';exact hv i x q hx' hq) hks
 have hrl:rows.length=len:=by rw[r1,hx,←hlen];simp
 have hpl:parts.toList.length=len:=by rw[←hlen];simp
 have hparts:(parts.map fun(i,x)=>(i,a.eval x)).toList=((parts.toList.map fun q=>a.eval q.2).zipIdx 0).map fun x=>(x.2,x.1):=by
  rw[zeo]
  refine zcx fun n=> ?_
  rw[zal,zal,zej,zal]
  cases hq:parts.toList[n]? with
  |none=>rfl
  |some q=>
   simp only[zcd,zae,zax,zbw,and_true]
   have h1:((parts.toList.map (·.1)).zipIdx)[n]? =some (q.1,n):=by
    rw[zej,zal,hq];simp
   have:=(zcb.1 hidx) (q.1,n) (zbl h1)
   exact zai this
 have hsm':¬len*i.size>2^24:=by rw[hsize];omega
 have hmax:len≤maxLen:=by
  have:len≤len*U.wd τ:=Nat.le_mul_of_pos_right _ hw
  simp only[maxLen];omega
 have fin:∀cells:Array Value,cells.toList=(parts.toList.map fun q=>a.eval q.2).flatMap (fun u=>u.cells.toList)→
   (Instr.buildSlice t len (parts.map fun(i,x)=>(i,a.eval x))).run E.P w=.ok (.slice (some ⟨w.heap.size,0,none⟩) len len) (w.alloc (.cells cells e))→o.wp E.P a w next Q:=by
  intro cells hcells hrun
  have hcs:cells.size=len*U.wd τ:=by
   obtain⟨fl,h1,_⟩:=r5
   have:=h1.1
   rw[←hcells,hrl] at this
   simpa using this
  obtain⟨F',kv',fp',hsim⟩:=qaiv h ho hd hfr (ps:=ps) (dp:=dp) hks r3 r4 r5 (w1:=w.alloc (.cells cells e)) (fun b hb=>qaga w _ hb) (Upto.alloc _ _ _) (by simp) (cap:=len) (cur:=cells)
   (by rw[htid];exact heap_alloc_new w _) (by omega) hmax hcs (by rw[hrl,←hcells,zcy (by simp[hcs])])
  refine qanv (v:=.slice (some ⟨w.heap.size,0,none⟩) len len) (w':=w.alloc (.cells cells e)) ?_ (hn F' kv' fp' _ _ ?_)
  ·unfold execOp;simp only[hop];exact run_v hrun
  ·rw[hrl] at hsim;exact hsim
 by_cases h0:len=0
 ·have hnil:parts.toList=[]:=zbh (by omega)
  have hnil':parts= #[]:=qabq hnil
  subst h0
  refine fin #[] (by simp[hnil]) ?_
  simp[Instr.buildSlice,run_underlying hu,Go.sizeOf,typeInfo,hi,hnil',Instr.fill,newRow,Array.range_zero']
 ·have hpos:¬len*i.size=0:=by
   rw[hsize]
   have:=Nat.mul_pos (Nat.pos_of_ne_zero h0) hw
   omega
  have hfill:=Great.fill_whole (s:=i.size) (by rw[hsize];exact hw) (parts.toList.map fun q=>a.eval q.2) ((Array.range (len*i.size)).map (z.cells[·%z.cells.size]!)) (fun v hv=>by rw[hsize];exact r2 v hv) (by simp[hpl])
  refine fin ((parts.toList.map fun q=>a.eval q.2).flatMap fun v=>v.cells.toList).toArray rfl (run_buildSlice w t e len _ _ i z hu hi hz hsm' hpos ?_)
  rw[hparts]
  exact hfill
theorem qanz(hE:E.Ok){e:TypeId}{τ:U.Ty}(hc:E.code e=some τ){i:TypeInfo}{z:Value}(hi:E.P.info? e=some i)(hz:i.zero=some z):
  z.cells.size=U.wd τ∧∀n,∃fl,RRow E w F true τ (List.replicate n (U.dflt τ)) (madeCells z.cells (n*U.wd τ)).toList fl∧fl.flatten=[]:=by
 obtain⟨htid,i',z',hi',hz',hsize,hzs,hby,hrep⟩:=hE.code e τ hc
 rw[hi] at hi';cases hi'
 rw[hz] at hz';cases hz'
 have hw:=U.wd_pos τ
 refine⟨hzs,fun n=>⟨List.replicate (n*U.wd τ) [],⟨by simp[madeCells],by simp,fun k x j c hx hj=> ?_⟩,qaer _⟩⟩
 have hlt:=row_lt hx hj
 rw[zee] at hlt
 have hxx:x=U.dflt τ:=by
  rw[zdz] at hx
  split at hx
  ·cases hx;rfl
  ·cases hx
 subst hxx
 obtain⟨u,h1,h2⟩:=hrep j c hj
 have hjw:j<U.wd τ:=by
  rw[←U.enc_len τ (U.dflt τ)]
  rcases zba j (U.enc τ (U.dflt τ)).length with h|h
  ·exact h
  ·rw[zaj h] at hj;cases hj
 have hcell:(madeCells z.cells (n*U.wd τ)).toList.getD (k*U.wd τ+j) undef=u:=by
  rw[zac,zbx]
  unfold madeCells
  rw[Array.getElem?_map,Array.getElem?_range,if_pos hlt]
  simp only[zcd,zcj,hzs]
  rw[zew,Nat.add_mul_mod_self_right,Nat.mod_eq_of_lt hjw]
  rw[getElem!_def,h1]
 rw[hcell,qafs]
 rcases h2 with⟨rfl,h3⟩|⟨τ',rfl,rfl⟩
 ·exact .lit _ _ h3
 ·exact .nil _ _ _ _ (fun _=>rfl)
theorem qahi(hE:E.Ok)(h:Sim E pm F kv fp σ a w){o:Oper}{d:Nat}(ho:o.dst=some d)(hd:d<σ.n){t e:TypeId}{x y:Operand}(hop:o.op=.makeSlice t x y)
  {τ:U.Ty} (hel:E.elem t=some e) (hc:E.code e=some τ) {sx sy:SV U} {n m:Int} (hx:RS E w F kv fp (badK σ) sx (a.eval x)) (hlx:lit? sx=some (.int .i64 n))
  (hy:RS E w F kv fp (badK σ) sy (a.eval y)) (hly:lit? sy=some (.int .i64 m)) (h0:0≤n) (hnm:n=m) (hle:n≤4294967296) {ps:List Prop}
  (hfr:¬Names σ (d,0)) {next:Act→World→Prop} {Q:Exit→Act→World→Prop}
  (hn:∀F kv fp a' w',Sim E pm F kv fp (AM.apply o ⟨some (one (.ref (d,0) [])),[(0,.arr ⟨τ,List.replicate n.toNat (U.dflt τ)⟩ true)],[],[],ps⟩ σ) a' w'→next a' w'):o.wp E.P a w next Q:=by
 obtain⟨htid,i,z,hi,hz,hsize,hzs,hby,_⟩:=hE.code e τ hc
 have hu:=qadk hel
 subst hnm
 obtain⟨_,hz2⟩:=qanz (w:=w) (F:=F) hE hc hi hz
 obtain⟨fl,h1,h2⟩:=hz2 n.toNat
 have hb:(i.bytes:Int)*n≤281474976710656:=by
  have h3:(i.bytes:Int)*n≤4096*4294967296:=Int.mul_le_mul (by omega) hle h0 (by omega)
  omega
 have hrun:=run_make (P:=E.P) w t e i z hu hi hz .i64 .i64 n n h0 (Int.le_refl _) hb (by omega)
 obtain⟨F',kv',fp',hsim⟩:=qaiv h ho hd hfr (τ:=τ) (rows:=List.replicate n.toNat (U.dflt τ)) (ks:=[]) (dp:=true) (ps:=ps) (vs:=(madeCells z.cells (n.toNat*U.wd τ)).toList) (by simp) (by simp)
  (fun _=>⟨fl,h1,by simp[h2],by simp[h2]⟩) (by
   refine⟨_,h1.share (F':=FK F fp []) (fun b hb=> .inl hb) (by simp[h2]),qaer _⟩)
  (w1:=w.alloc (.cells (madeCells z.cells (n.toNat*i.size)) e)) (fun b hb=>qaga w _ hb) (Upto.alloc _ _ _) (by simp) (cap:=n.toNat) (cur:=madeCells z.cells (n.toNat*U.wd τ))
  (by rw[htid,hsize];exact heap_alloc_new w _) (by simp) (by simp only[maxLen];omega) (size_madeCells _ _) (by rw[zcy (by simp[size_madeCells])])
 refine qanv (v:=.slice (some ⟨w.heap.size,0,none⟩) n.toNat n.toNat) (w':=w.alloc (.cells (madeCells z.cells (n.toNat*i.size)) e)) ?_ (hn F' kv' fp' _ _ ?_)
 ·unfold execOp;simp only[hop,qaah hx hlx,qaah hy hly];exact run_v hrun
 ·rw[zee] at hsim;exact hsim
end AM
