import Derived.Test.YtmcepppejchhkaaGreatDoorQAmOps9
import Derived.Test.YtmcepppejchhkaaGreatDoorQAmPart2
import Derived.Test.YtmcepppejchhkaaGreatDoorQAmOps10
namespace AM
set_option linter.unusedVariables false
open Go
variable{U:lQ}{E:Env U}{pm:Pm}
variable{F F':Nat->Prop}{kv:Key->Value}{fp:Key->List Nat}{σ:ak U}{a:Act}{w w':World}{bad:Key->Bool}
theorem cI.wp{o:Oper}{sv:SV U}{ps:List Prop}(hm:cI E F kv fp (bY σ) a w o sv)(h:cR E pm F kv fp σ a w)(hd:∀d,o.dst=some d->d<σ.n){next:Act->World->Prop}{Q:Exit->Act->World->Prop}
  (hn:∀F kv fp a' w',cR E pm F kv fp (AM.apply o ⟨some sv,[],[],[],ps⟩ σ) a' w'->next a' w'):o.wp E.P a w next Q:=by
 obtain⟨v,hr,hv⟩:=hm
 exact te hr (hn _ _ _ _ _ (h.val o (some sv) ps v hd (by rintro x ⟨⟩;exact hv)))
theorem Px{o:Oper}{xs:List (SV U)}(h:rO σ o=some xs):xs.length=(Oper.looks o).length/\∀(i:Nat)(x:SV U)(q:Operand),xs[i]? =some x->(Oper.looks o)[i]? =some q->M_ σ q=some x:=by
 obtain⟨h1,h2⟩:=ade h
 refine⟨h1,fun i x q hx hq=> ?_⟩
 obtain⟨y,hy,ho⟩:=h2 i q hq
 rw[hx] at hy;cases hy;exact ho
theorem alA{q:Operand}{x:SV U}(h:M_ σ q=some x):∀k∈x.keys,Names σ k:=by
 cases q with
 |tmp t=>exact fun k hk=> .inl ⟨t,x,h,hk⟩
 |global g=>cases h
 |func f=>cases h;intro k hk;simp[SV.keys,SV.Cu] at hk
 |const v=>
  intro k hk
  exfalso
  have hc:∀{v:Value}{y:AC U},pQ v=some y->y.keys=[]:=by
   intro v y hy
   unfold pQ at hy
   split at hy
   ·cases hy;rfl
   ·cases hy;rfl
   ·rw[iw] at hy;split at hy<;>cases hy;rfl
   ·cases hy;rfl
   ·rw[iw] at hy;split at hy<;>cases hy;rfl
   ·cases hy
  have vU:∀{vs:List Value}{ys:List (AC U)},jT vs=some ys->∀y∈ys,y.keys=[]:=by
   intro vs
   induction vs with
   |nil=>intro ys hy y hy';cases hy;cases hy'
   |cons v vs ih=>
    intro ys hy y hy'
    simp only[jT] at hy
    split at hy
    ·rename_i y1 ys1 h1 h2
     cases hy
     rcases kc.1 hy' with rfl|hy'
     ·exact hc h1
     ·exact ih h2 y hy'
    ·cases hy
  simp only[M_] at h
  unfold IN at h
  split at h
  ·unfold sz at h
   split at h
   ·rename_i l hl
    cases h
    obtain⟨y,hy,AB⟩:=SV.mem_keys.1 hk
    rw[vU hl y hy] at AB;cases AB
   ·cases h
  ·split at h
   ·rename_i y hy
    cases h
    obtain⟨z,hz,AB⟩:=SV.mem_keys.1 hk
    simp only[one,SV.Cu,mW] at hz
    subst hz
    rw[hc hy] at AB;cases AB
   ·cases h
theorem NS{b:Option Operand}{bs bs':List (SV U)}{l:Option Int}(h:cR E pm F kv fp σ a w)(hb:HG b bs=some (l,bs')){L L':List Operand}(hL:L=b.toList++L')
  (hv:bs.length=L.length/\∀(i:Nat)(x:SV U)(q:Operand),bs[i]? =some x->L[i]? =some q->M_ σ q=some x):
  W8 l (b.map a.eval)/\bs'.length=L'.length/\∀(i:Nat)(x:SV U)(q:Operand),bs'[i]? =some x->L'[i]? =some q->M_ σ q=some x:=by
 rcases am8 hb with⟨rfl,rfl,rfl⟩|⟨y,sy,k,n,rfl,rfl,h1,rfl⟩
 ·subst hL
  exact⟨.inl ⟨rfl,rfl⟩,by simpa using hv.1,fun i x q hx hq=>hv.2 i x q hx (by simpa using hq)⟩
 ·subst hL
  have hy:=hv.2 0 sy y rfl rfl
  have:=qB (EF h hy) h1
  exact⟨.inr ⟨k,n,rfl,by simp[this]⟩,by simpa using hv.1,fun i x q hx hq=>hv.2 (i+1) x q (by simpa using hx) (by simpa using hq)⟩
section
variable(E)
structure Env.Good:Prop where
 ok:E.Ok
 Qw:∀f k,E.Qw f=some k->zW E.P f/\eQ E f k
 Qv:∀f k,E.Qv f=some k->zW E.P f/\eQ E f k
theorem Env.Good.WG{E:Env U}(h:E.Good){b:Bool}{f:FuncId}{k:ka U}(hk:E.WG b f=some k):zW E.P f/\eQ E f k:=by
 cases b with
 |false=>exact h.Qw f k hk
 |true=>exact h.Qv f k hk
end
theorem ul(h:cR E pm F kv fp σ a w){o:Oper}{q:Operand}{x:SV U}(hl:Oper.looks o=[q])(hg:rO σ o=some [x]):RS E w F kv fp (bY σ) x (a.eval q):=
 EF h ((Px hg).2 0 x q rfl (by rw[hl];rfl))
theorem EV(h:cR E pm F kv fp σ a w){o:Oper}{q q':Operand}{x y:SV U}(hl:Oper.looks o=[q,q'])(hg:rO σ o=some [x,y]):
  RS E w F kv fp (bY σ) x (a.eval q)/\RS E w F kv fp (bY σ) y (a.eval q'):=
 ⟨EF h ((Px hg).2 0 x q rfl (by rw[hl];rfl)),EF h ((Px hg).2 1 y q' rfl (by rw[hl];rfl))⟩
theorem sg(h:cR E pm F kv fp σ a w){o:Oper}{l:List Operand}{xs:List (SV U)}(hl:Oper.looks o=l)(hg:rO σ o=some xs):
  xs.length=l.length/\(∀(i:Nat)(x:SV U)(q:Operand),xs[i]? =some x->l[i]? =some q->RS E w F kv fp (bY σ) x (a.eval q)):=by
 obtain⟨h1,h2⟩:=Px hg
 rw[hl] at h1 h2
 exact⟨h1,fun i x q hx hq=>EF h (h2 i x q hx hq)⟩
theorem aav{o:Oper}{xs:List (SV U)}(hg:rO σ o=some xs):∀x∈xs,∀k∈x.keys,Names σ k:=by
 intro x hx k hk
 obtain⟨i,hi,rfl⟩:=sT hx
 obtain⟨h1,h2⟩:=Px hg
 have gy:i<(Oper.looks o).length:=by omega
 exact alA (h2 i xs[i] (Oper.looks o)[i] (fE hi) (fE gy)) k hk
theorem cR.akK{F:Nat->Prop}{kv:Key->Value}{fp:Key->List Nat}{σ:ak U}{a:Act}{w w':World}(h:cR E pm F kv fp σ a w)(hu:ic (fun _=>False) w w')(o:Oper)(sv:Option (SV U))(ps:List Prop)(v:Value)
  (hd:∀d,o.dst=some d->d<σ.n) (hv:∀x,sv=some x->RS E w' F kv fp (bY σ) x v):
  cR E pm F kv fp (AM.apply o ⟨sv,[],[],[],ps⟩ σ) (a.put o.dst v) w':=by
 have hb:bY (AM.apply o ⟨sv,[],[],[],ps⟩ σ)=bY σ:=rfl
 refine h.apply (F':=F) (kv':=kv) (fp':=fp) (w':=w') o _ v hd ?_ (fun _ _=>rfl) (fun _ _ _=>rfl) ?_ (fun b hb=>⟨hb,hu.block b (h.uI b hb) (fun x=>x)⟩) (fun k e _ _ _ he b hb=>hu.block b (h.fT k e b he hb).2.2 (fun x=>x)) ?_ ?_ ?_
  (fun b hb=>zds (h.uI b hb) hu.size) h.uH (h.upto.trans (hu.mono (fun i hi=>hi.elim))) hu.size
 ·intro x hx;rw[hb];exact hv x hx
 ·intro k hk;simp[dZ] at hk
 ·intro k e hk;simp at hk
 ·intro k e b _ _ _ he hbb;exact(h.fT k e b he hbb).1
 ·intro k k' b _ hk;simp[dZ,jW] at hk
theorem alj{P:Program}{w:World}{a:Act}{o:Oper}{cl:Call}{q:Operand}{f:FuncId}{ql:Array Value}(sR:o.op=.call cl)(ix:cl.callee=.value q)(hq:a.eval q=.func (.func f) #[] ql)(hf:zW P f):
  (execOp a.eval o).run P w=.ok (.enter f ((cl.args.toList.map a.eval).toArray++ql)) w:=by
 obtain⟨fn,h1,h2,h3⟩:=hf
 have e:execOp a.eval o=callFunc f (#[]++cl.args.map a.eval++ql):=by
  unfold execOp
  rw[sR]
  simp only[resolve,ix,hq]
  rfl
 rw[e]
 have e2:(#[]++cl.args.map a.eval++ql:Array Value)=(cl.args.toList.map a.eval).toArray++ql:=by
  apply Array.ext'
  simp
 rw[e2]
 have h4:fn.body≠none:=by cases hb:fn.body<;>simp[hb] at h2⊢
 have h5:fn.name≠ "runtime.NumGoroutine" :=by simpa using h3
 simp[callFunc,go_sem,h1,h4,h5]
theorem amQ(h:cR E pm F kv fp σ a w){rs:List Key}{K:List Key}:∀{xs:List (SV U)}{ws:List (List (Option U.Ty))}{vs:List Value}{ps:List Prop}{ds:List (DA U)},BG (restrict σ.bP rs) σ.aS ws xs=some (ps,ds)->(∀p∈ps,p)->xs.length=vs.length->
  (∀(i:Nat)(x:SV U)(u:Value),xs[i]? =some x->vs[i]? =some u->RS E w F kv fp (bY σ) x u)->(∀x∈xs,∀k∈x.keys,(σ.bP k).isSome=true->k∈K)->akz E w (FK F fp K) ds vs:=by
 intro xs
 induction xs with
 |nil=>
  intro ws vs ps ds hc hp hl hx hK
  simp only[BG,gI,pE] at hc
  obtain⟨rfl,rfl⟩:=hc
  exact⟨by simpa using hl,fun i d v hd=>by simp at hd⟩
 |cons x xs ih=>
  intro ws vs ps ds hc hp hl hx hK
  cases vs with
  |nil=>simp at hl
  |cons v vs=>
   simp only[BG] at hc
   split at hc
   ·rename_i Uw c ps2 ds2 h1 h2
    cases hc
    obtain⟨i1,i2⟩:=ih h2 (fun p kW=>hp p (by simp[kW])) (by simpa using hl) (fun i y u hy hu=>hx (i+1) y u (by simpa using hy) (by simpa using hu)) (fun y hy=>hK y (fF _ hy))
    obtain⟨g1,_⟩:o6 E w (FK F fp K) .ro (.one c) v []:=Vv h h1 (fun p kW=>hp p (by simp[kW])) (hx 0 x v rfl rfl) (hK x iH)
    refine⟨by simp[i1],fun i d u hd hu=> ?_⟩
    cases i with
    |zero=>
     simp only[vF,gI] at hd hu
     subst hd;subst hu
     exact⟨[v],rfl,fun i c' nC=>by
      cases i with
      |zero=>simp only[vF,gI] at nC;subst nC;exact g1
      |succ i=>simp at nC,rfl⟩
    |succ i=>exact i2 i d u (by simpa using hd) (by simpa using hu)
   ·rename_i Uw cs ps2 ds2 h1 h2
    cases hc
    obtain⟨i1,i2⟩:=ih h2 (fun p kW=>hp p (by simp[kW])) (by simpa using hl) (fun i y u hy hu=>hx (i+1) y u (by simpa using hy) (by simpa using hu)) (fun y hy=>hK y (fF _ hy))
    obtain⟨us,g1,g2,g3,_⟩:o6 E w (FK F fp K) .ro (.agg cs) v []:=Vv h h1 (fun p kW=>hp p (by simp[kW])) (hx 0 x v rfl rfl) (hK x iH)
    refine⟨by simp[i1],fun i d u hd hu=> ?_⟩
    cases i with
    |zero=>
     simp only[vF,gI] at hd hu
     subst hd;subst hu
     exact⟨us,g2,g3,g1⟩
    |succ i=>exact i2 i d u (by simpa using hd) (by simpa using hu)
   ·cases hc
theorem ad4:∀{xs:List (SV U)}{l:List (AV U)},BI xs=some l->xs=l.map SV.v
 |[],l,h=>by cases h;rfl
 | .v x::r,l,h=>by
  simp only[BI] at h
  split at h
  ·rename_i l' hl;cases h;rw[ad4 hl];rfl
  ·cases h
 | .wR _::r,l,h=>by simp[BI] at h
 | .fn _::r,l,h=>by simp[BI] at h
 | .Hy _ _::r,l,h=>by simp[BI] at h
theorem al8{bad:Key->Bool}{o:Oper}{g:FuncId}{fst XV:Array Operand}{xs:List (SV U)}{l:List (AV U)}(ho:o.op=.makeFunc (.func g) fst XV)(he:fst.isEmpty=true)(hl:BI xs=some l)
  (h1:xs.length=(fst++XV).toList.length) (h2:∀(i:Nat)(x:SV U)(q:Operand),xs[i]? =some x->(fst++XV).toList[i]? =some q->RS E w F kv fp bad x (a.eval q)):cI E F kv fp bad a w o (.Hy g l):=by
 have hf:fst= #[]:=by simpa using he
 subst hf
 have hx:=ad4 hl
 subst hx
 refine⟨.func (.func g) #[] (XV.map a.eval),?_,⟨(XV.map a.eval).toList,by rw[Array.toArray_toList],by simpa using h1,fun i x u hx hu=> ?_⟩⟩
 ·unfold execOp;simp only[ho]
  have e:Array.map a.eval #[]= #[]:=by simp
  rw[e]
  exact iM rfl
 ·rw[zeo,nS] at hu
  cases hq:XV.toList[i]? with
  |none=>rw[hq] at hu;cases hu
  |some q=>
   rw[hq] at hu;cases hu
   exact h2 i (.v x) q (by rw[nS,hx];rfl) (by simpa using hq)
theorem amz(hE:E.Good)(h:cR E pm F kv fp σ a w){o:Oper}(hd:∀d,o.dst=some d->d<σ.n)(hk:kindOk o=true){xs:List (SV U)}(hg:rO σ o=some xs){rs:List Key}{r:cq U}
  {b:Bool} (hr:AO E b (restrict σ.bP rs) σ.aS o xs=some r) (hp:∀p∈r.pre,p) (oG:∀k∈dZ o r,¬Names σ k) {next:Act->World->Prop} {Q:Exit->Act->World->Prop}
  (hn:∀F kv fp a' w',cR E pm F kv fp (AM.apply o r σ) a' w'->next a' w'):o.wp E.P a w next Q:=by
 have Xt:∀{t:Option Nat},t.isSome=true->∃d,t=some d:=fun h=>nA.1 h
 unfold AO at hr
 simp only at hr
 split at hr
 ·
  rename_i q x ho
  cases hr
  exact cI.wp (alT ho (ul h (by simp[Oper.looks,ho,Op.operands]) hg)) h hd hn
 ·
  rename_i q x ho
  cases hr
  exact cI.wp (al_ ho (ul h (by simp[Oper.looks,ho,Op.operands]) hg)) h hd hn
 ·
  rename_i op t q x ho
  split at hr
  ·rename_i v hv
   cases hu:Lo op v with
   |none=>rw[hu] at hr;cases hr
   |some u=>
    rw[hu] at hr;cases hr
    exact cI.wp (alP ho (ul h (by simp[Oper.looks,ho,Op.operands]) hg) hv hu) h hd hn
  ·cases hr
 ·
  rename_i op t q q' t' x y ho
  split at hr
  ·rename_i u v hu hv
   cases hb:EZ E t op u v with
   |none=>rw[hb] at hr;cases hr
   |some pv=>
    obtain⟨ps,v'⟩:=pv
    rw[hb] at hr;cases hr
    obtain⟨h1,h2⟩:=EV (q:=q) (q':=q') h (by simp[Oper.looks,ho,Op.operands]) hg
    exact cI.wp (al' ho h1 hu h2 hv hb hp) h hd hn
  ·split at hr
   ·rename_i r' qc
    cases hr
    obtain⟨h1,h2⟩:=EV (q:=q) (q':=q') h (by simp[Oper.looks,ho,Op.operands]) hg
    obtain⟨b,rfl,hm⟩:=al5 ho h1 h2 qc
    exact cI.wp hm h hd hn
   unfold R1 at hr
   split at hr
   ·rename_i n c b τ xs _ _
    split at hr
    ·rename_i e hu
     cases hr
     obtain⟨h1,h2⟩:=EV (q:=q) (q':=.const (.slice none n c)) h (by simp[Oper.looks,ho,Op.operands]) hg
     exact cI.wp (alS ho h1 hu) h hd hn
    ·cases hr
   ·cases hr
 ·
  rename_i q i l ho
  cases hy:l[i]? with
  |none=>rw[hy] at hr;cases hr
  |some y=>
   rw[hy] at hr;cases hr
   exact cI.wp (al4 ho (ul h (by simp[Oper.looks,ho,Op.operands]) hg) hy) h hd hn
 ·
  rename_i t ho
  split at hr
  ·rename_i z hz
   split at hr
   ·rename_i x hx
    cases hr
    obtain⟨d,kM⟩:=Xt (by simpa[kindOk,ho] using hk)
    unfold sz at hx
    split at hx
    ·rename_i l hl
     cases hx
     have xt:¬Names σ (d,0):=oG _ (by simp[dZ,kM])
     refine anl h kM (hd d kM) ho hz hl xt (fun F kv fp a' w' hs=>hn F kv fp a' w' ?_)
     simpa[kM] using hs
    ·cases hx
   ·cases hr
  ·cases hr
 ·
  rename_i t q x ho
  split at hr
  ·rename_i y n g hy wN Wf
   split at hr
   ·rename_i r' V3
    cases hr
    rw[iw] at V3
    split at V3
    ·obtain⟨sv,ps,rfl,hm⟩:=alR h ho (ul h (by simp[Oper.looks,ho,Op.operands]) hg) hy wN Wf V3 hp
     exact cI.wp hm h hd hn
    ·cases V3
   split at hr
   ·rename_i r' Gy
    cases hr
    obtain⟨sv,ps,rfl,hm⟩:=alU h ho (ul h (by simp[Oper.looks,ho,Op.operands]) hg) hy wN Wf Gy hp
    exact cI.wp hm h hd hn
   ·refine alM h hd ho (ul h (by simp[Oper.looks,ho,Op.operands]) hg) hy (fun k hk=>aav hg x (by simp) k ?_) wN Wf hr hp oG hn
    rw[Mk hy];simpa[one,SV.keys,SV.Cu] using hk
  ·cases hr
 ·
  rename_i t q q' p x ho
  split at hr
  ·rename_i y n hy hs
   cases hb:Nat.beq n x.cs.length<;>simp only[hb,cond_true,cond_false] at hr
   ·cases hr
   ·obtain⟨h1,h2⟩:=EV (q:=q) (q':=q') h (by simp[Oper.looks,ho,Op.operands]) hg
    have Ou:o.dst=none:=by simpa[kindOk,ho] using hk
    split at hr
    ·rename_i r' Gy
     cases hr
     exact ak0 h Ou ho h1 hy h2 hs (nF hb) Gy hp hn
    ·split at hr
     ·rename_i r' Gy
      cases hr
      exact ak1 h Ou ho h1 hy h2 hs (nF hb) Gy hp hn
     ·exact ak2 h Ou ho h1 hy h2 hs (nF hb) hr hp hn
  ·cases hr
 ·
  rename_i t q f x ho
  split at hr
  ·rename_i y off ft hy hf
   split at hr
   ·rename_i n hs
    have hx:=ul (q:=q) h (by simp[Oper.looks,ho,Op.operands]) hg
    split at hr
    ·cases hr
     exact cI.wp (al0 ho hx hy hf hs) h hd hn
    ·cases hr
     exact cI.wp (al2 ho hx hy hf hs) h hd hn
    ·rename_i k p i wd oo
     cases hc:fU (restrict σ.bP rs) σ.aS k p<;>simp only[hc,cond_true,cond_false] at hr
     ·cases hr
     ·cases hr
      have hb:iT (bY σ) (AC.l7 (U:=U) k p i wd oo)=false:=by
       simp only[iT]
       have nC:=hc
       unfold fU at nC
       cases hpe:p.isEmpty
       ·rw[hpe] at nC
        simp only[GJ,cN] at nC
        obtain⟨e,he⟩:=nA.1 nC.1
        have:=H5 hc he
        rwa[hpe] at this
       ·rfl
      exact cI.wp (al1 ho hx hy hb hf hs) h hd hn
    ·cases hr
   ·cases hr
  ·cases hr
 ·
  rename_i t q f cs ho
  split at hr
  ·rename_i off ft hf
   split at hr
   ·rename_i n g hs Wf
    cases hb:(Nat.ble (off+n) cs.length&&(g||Nat.beq n 1))<;>simp only[hb,cond_true,cond_false] at hr
    ·cases hr
    ·cases hr
     exact cI.wp (al3 ho (ul h (by simp[Oper.looks,ho,Op.operands]) hg) hf hs Wf hb) h hd hn
   ·cases hr
  ·cases hr
 ·
  rename_i t parts ho
  split at hr
  ·rename_i pl z By hz
   split at hr
   ·rename_i l hl
    split at hr
    ·rename_i cs hc
     cases hr
     obtain⟨h1,h2⟩:=sg h (l:=parts.toList.map (·.2)) (by simp[Oper.looks,ho]) hg
     refine cI.wp (al9 ho (by simpa using h1) (fun i x q hx hq=>h2 i x q.2 hx (by rw[nS,hq];rfl)) By hz hl hc) h hd hn
    ·cases hr
   ·cases hr
  ·cases hr
 ·
  rename_i t len parts ho
  split at hr
  ·rename_i e he
   split at hr
   ·rename_i τ MB
    rw[iw] at hr
    split at hr
    ·rename_i hc
     simp only[cN] at hc
     obtain⟨⟨GC,Qf⟩,hc3⟩:=hc
     rw[iw] at hr
     split at hr
     ·rw[iw] at hr
      split at hr
      ·rename_i hkp
       cases hr
       obtain⟨d,kM⟩:=Xt (by simpa[kindOk,ho] using hk)
       obtain⟨h1,h2⟩:=sg h (l:=parts.toList.map (·.2)) (by simp[Oper.looks,ho]) hg
       have xt:¬Names σ (d,0):=oG _ (by simp[dZ,kM])
       refine amj hE.ok h kM (hd d kM) ho he MB (by simpa using h1) (fun i x q hx hq=>h2 i x q.2 hx (by rw[nS,hq];rfl)) (nF GC) Qf (Kp hc3) hkp xt
        (fun F kv fp a' w' hs=>hn F kv fp a' w' ?_)
       simpa[kM] using hs
      ·cases hr
     split at hr
     ·rename_i ps rows ks dp aer
      rw[iw] at hr
      split at hr
      ·rename_i tz
       cases hr
       obtain⟨d,kM⟩:=Xt (by simpa[kindOk,ho] using hk)
       obtain⟨h1,h2⟩:=sg h (l:=parts.toList.map (·.2)) (by simp[Oper.looks,ho]) hg
       have xt:¬Names σ (d,0):=oG _ (by simp[dZ,kM])
       refine am6 hE.ok h kM (hd d kM) ho he MB (by simpa using h1) (fun i x q hx hq=>h2 i x q.2 hx (by rw[nS,hq];rfl)) (nF GC) Qf (Kp hc3) aer hp (va.1 tz) xt
        (fun F kv fp a' w' hs=>hn F kv fp a' w' ?_)
       simpa[kM] using hs
      ·cases hr
     ·cases hr
    ·cases hr
   ·cases hr
  ·cases hr
 ·
  rename_i t q q' l c ho
  split at hr
  ·rename_i e n m he hl hc
   split at hr
   ·rename_i τ MB
    cases hr
    obtain⟨d,kM⟩:=Xt (by simpa[kindOk,ho] using hk)
    obtain⟨h1,h2⟩:=EV (q:=q) (q':=q') h (by simp[Oper.looks,ho,Op.operands]) hg
    have xt:¬Names σ (d,0):=oG _ (by simp[dZ,kM])
    refine ama hE.ok h kM (hd d kM) ho he MB h1 hl h2 hc (hp _ (by simp)) (hp _ (by simp)) (hp _ (by simp)) (ps:=[0<=n,n=m,n<=4294967296]) xt (fun F kv fp a' w' hs=>hn F kv fp a' w' ?_)
    simpa[kM] using hs
   ·cases hr
  ·cases hr
 ·
  rename_i t q q' x i ho
  split at hr
  ·rename_i kd n y m hi hy hm
   obtain⟨h1,h2⟩:=EV (q:=q) (q':=q') h (by simp[Oper.looks,ho,Op.operands]) hg
   split at hr
   ·rename_i τ ys
    rw[iw] at hr
    split at hr
    ·rename_i hb
     cases hr
     exact cI.wp (alZ ho h1 hy h2 hi hm (nF hb) (hp _ (by simp[cq.cP])) (hp _ (by simp[cq.cP]))) h hd hn
    ·cases hr
   ·rename_i k p
    split at hr
    ·rename_i ps b ha
     rw[iw] at hr
     split at hr
     ·rename_i hb
      cases hr
      exact cI.wp (alX h ho h1 hy h2 hi hm ha (nF hb) (fun p kW=>hp p (by simp[cq.cP,kW])) (hp _ (by simp[cq.cP])) (hp _ (by simp[cq.cP]))) h hd hn
     ·cases hr
    ·split at hr
     ·rename_i b hpo _
      rw[iw] at hr
      split at hr
      ·rename_i hb
       cases hr
       exact cI.wp (alY h ho h1 hy h2 hi hm hpo (nF hb) (hp _ (by simp[cq.cP])) (hp _ (by simp[cq.cP]))) h hd hn
      ·cases hr
     ·cases hr
   ·cases hr
  ·cases hr
 ·
  rename_i t q q' x i ho
  split at hr
  ·rename_i s kd n hx hi hu
   cases hr
   obtain⟨h1,h2⟩:=EV (q:=q) (q':=q') h (by simp[Oper.looks,ho,Op.operands]) hg
   exact cI.wp (alW ho h1 hx h2 hi hu (hp _ (by simp[cq.lit,cq.cP])) (hp _ (by simp[cq.lit,cq.cP]))) h hd hn
  ·cases hr
 ·
  rename_i t q lo hi mx x bs ho
  have hl:Oper.looks o=q::(lo.toList++(hi.toList++(mx.toList++[]))):=by simp[Oper.looks,ho,Op.operands]
  obtain⟨g1,g2⟩:=Px hg
  rw[hl] at g1 g2
  have hx:RS E w F kv fp (bY σ) x (a.eval q):=EF h (g2 0 x q rfl rfl)
  split at hr
  ·rename_i l bs1 uD
   obtain⟨k1,k2⟩:=NS (a:=a) (w:=w) (L:=lo.toList++(hi.toList++(mx.toList++[]))) (L':=hi.toList++(mx.toList++[])) h uD rfl ⟨by simpa using g1,fun i y u hy hu=>g2 (i+1) y u (by simpa using hy) (by simpa using hu)⟩
   split at hr
   ·rename_i hh bs2 uC
    obtain⟨k3,k4⟩:=NS (L':=mx.toList++[]) h uC rfl k2
    split at hr
    ·rename_i m hb3
     obtain⟨k5,k6⟩:=NS (L':=[]) h hb3 rfl k4
     obtain⟨sv,ps,rfl,hm⟩:=alQ h ho hx k1 k3 k5 hr hp
     exact cI.wp hm h hd hn
    ·cases hr
   ·cases hr
  ·cases hr
 ·
  rename_i args argTypes x ho
  split at hr
  ·rename_i t Ce
   have GA:Oper.looks o=args.toList:=by simp[Oper.looks,ho]
   obtain⟨g1,g2⟩:=sg h GA hg
   obtain⟨q,hq⟩:∃q,args.toList=[q]:=by
    match hm:args.toList,g1 with
    |[q],_=>exact⟨q,rfl⟩
   have hx:RS E w F kv fp (bY σ) x (a.eval q):=g2 0 x q rfl (by rw[hq];rfl)
   split at hr
   ·rename_i s hs
    split at hr
    ·rename_i hu
     cases hr
     exact cI.wp (alV ho rfl hq Ce hx hs hu) h hd hn
    ·cases hr
   ·cases hr
   ·split at hr
    ·rename_i e yO vj
     cases hr
     obtain⟨ad,had⟩:=cx (lD hx yO) rfl
     exact cI.wp (aao (n:=0) ho rfl hq Ce ⟨ad,0,had⟩ (EG vj) (Nat.zero_le _)) h hd hn
    ·rename_i y e yO vj
     split at hr
     ·rename_i ps b ha
      cases hr
      have hrp:=aaE h ha hp (lD hx yO)
      obtain⟨ad,c,hs,_⟩:=hrp.slice
      exact cI.wp (aao ho rfl hq Ce ⟨ad,c,hs⟩ (EG vj) hrp.len) h hd hn
     ·split at hr
      ·rename_i b hpo
       cases hr
       obtain⟨k,dead,_,_,oB⟩:=adr h hpo (lD hx yO)
       obtain⟨ad,c,hs,hle⟩:=oB.slice
       exact cI.wp (aao ho rfl hq Ce ⟨ad,c,hs⟩ (EG vj) hle) h hd hn
      ·cases hr
    ·cases hr
  ·cases hr
 ·
  rename_i args argTypes x ho
  split at hr
  rotate_left
  ·cases hr
  rename_i t Ce
  split at hr
  rotate_left
  ·cases hr
  rename_i e k wd lo hi vj yO
  split at hr
  rotate_left
  ·cases hr
  rename_i τ a0 dead hc he
  rw[iw] at hr
  split at hr
  rotate_left
  ·cases hr
  rename_i vP
  split at hr
  rotate_left
  ·cases hr
  rename_i xs hx0
  cases hr
  have:=eh hx0
  subst this
  have vP:=nF vP
  subst vP
  have GA:Oper.looks o=args.toList:=by simp[Oper.looks,ho]
  obtain⟨g1,g2⟩:=sg h GA hg
  obtain⟨q,hq⟩:∃q,args.toList=[q]:=by
   match hm:args.toList,g1 with
   |[q],_=>exact⟨q,rfl⟩
  exact amX hE.ok h hd ho rfl hq Ce vj hc (g2 0 x q rfl (by rw[hq];rfl)) yO (kf he) (hp _ (by simp)) (hp _ (by simp)) hn
 ·
  rename_i args argTypes x y ho
  split at hr
  ·rename_i kd m n hx hy
   rw[iw] at hr
   split at hr
   ·rename_i E_
    have E_:=of_decide_eq_true E_
    subst E_
    cases hr
    have GA:Oper.looks o=args.toList:=by simp[Oper.looks,ho]
    obtain⟨g1,g2⟩:=sg h GA hg
    obtain⟨q,q',hq⟩:∃q q',args.toList=[q,q']:=by
     match hm:args.toList,g1 with
     |[q,q'],_=>exact⟨q,q',rfl⟩
    have:=adC (b:=true) ho (by rfl) hq (g2 0 x q rfl (by rw[hq];rfl)) hx (g2 1 y q' rfl (by rw[hq];rfl)) hy
    exact cI.wp (by simpa using this) h hd hn
   ·cases hr
  ·cases hr
 ·
  rename_i args argTypes x y ho
  split at hr
  ·rename_i kd m n hx hy
   rw[iw] at hr
   split at hr
   ·rename_i E_
    have E_:=of_decide_eq_true E_
    subst E_
    cases hr
    have GA:Oper.looks o=args.toList:=by simp[Oper.looks,ho]
    obtain⟨g1,g2⟩:=sg h GA hg
    obtain⟨q,q',hq⟩:∃q q',args.toList=[q,q']:=by
     match hm:args.toList,g1 with
     |[q,q'],_=>exact⟨q,q',rfl⟩
    have:=adC (b:=false) ho (by rfl) hq (g2 0 x q rfl (by rw[hq];rfl)) hx (g2 1 y q' rfl (by rw[hq];rfl)) hy
    exact cI.wp (by simpa using this) h hd hn
   ·cases hr
  ·cases hr
 ·
  rename_i args argTypes s x ho
  split at hr
  ·rename_i t u Ce
   split at hr
   ·rename_i e e' ys yx vj anU hs hx
    rw[iw] at hr
    split at hr
    ·rename_i hc
     simp only[cN] at hc
     have htu:t=u:=nF hc.1
     subst htu
     split at hr
     ·rename_i τ MB
      split at hr
      ·rename_i ps xs ks d1 qs zs ks' d2 h1 h2
       rw[iw] at hr
       split at hr
       ·rename_i tz
        cases hr
        obtain⟨d,kM⟩:=Xt (by simpa[kindOk,ho] using hk)
        have GA:Oper.looks o=args.toList:=by simp[Oper.looks,ho]
        obtain⟨g1,g2⟩:=sg h GA hg
        obtain⟨q,q',hq⟩:∃q q',args.toList=[q,q']:=by
         match hm:args.toList,g1 with
         |[q,q'],_=>exact⟨q,q',rfl⟩
        have xt:¬Names σ (d,0):=oG _ (by simp[dZ,kM])
        refine anj (pall:=ps++qs++[xs.length+zs.length<=4294967296]) hE.ok h kM (hd d kM) ho rfl hq Ce vj MB (g2 0 s q rfl (by rw[hq];rfl)) hs (g2 1 x q' rfl (by rw[hq];rfl)) hx h1 h2 (fun p kW=>hp p (by simp[kW])) (va.1 tz) (hp _ (by simp)) xt
         (fun F kv fp a' w' hs=>hn F kv fp a' w' ?_)
        simpa[kM] using hs
       ·cases hr
      ·rename_i ps xs ks h1 _
       split at hr
       ·rename_i zs ks' h2
        rw[iw] at hr
        split at hr
        ·rename_i tz
         cases hr
         obtain⟨d,kM⟩:=Xt (by simpa[kindOk,ho] using hk)
         have GA:Oper.looks o=args.toList:=by simp[Oper.looks,ho]
         obtain⟨g1,g2⟩:=sg h GA hg
         obtain⟨q,q',hq⟩:∃q q',args.toList=[q,q']:=by
          match hm:args.toList,g1 with
          |[q,q'],_=>exact⟨q,q',rfl⟩
         have xt:¬Names σ (d,0):=oG _ (by simp[dZ,kM])
         refine ank (pall:=ps++[xs.length+zs.length<=4294967296]) hE.ok h kM (hd d kM) ho rfl hq Ce vj MB (g2 0 s q rfl (by rw[hq];rfl)) hs (g2 1 x q' rfl (by rw[hq];rfl)) hx h1 h2 (fun p kW=>hp p (by simp[kW])) (va.1 tz) (hp _ (by simp)) xt
          (fun F kv fp a' w' hs=>hn F kv fp a' w' ?_)
         simpa[kM] using hs
        ·cases hr
       ·cases hr
      ·cases hr
     ·cases hr
    ·cases hr
   ·rename_i e ys str vj anU hs hx
    split at hr
    ·rename_i τ hu MB
     split at hr
     ·rename_i ps xs ks d1 zs h1 h2
      rw[iw] at hr
      split at hr
      ·rename_i tz
       cases hr
       obtain⟨d,kM⟩:=Xt (by simpa[kindOk,ho] using hk)
       have GA:Oper.looks o=args.toList:=by simp[Oper.looks,ho]
       obtain⟨g1,g2⟩:=sg h GA hg
       obtain⟨q,q',hq⟩:∃q q',args.toList=[q,q']:=by
        match hm:args.toList,g1 with
        |[q,q'],_=>exact⟨q,q',rfl⟩
       have xt:¬Names σ (d,0):=oG _ (by simp[dZ,kM])
       have hlx:ji x=some (.string str):=by
        unfold vx at hx
        split at hx
        ·cases hx;rfl
        ·cases hx
       refine ani (pall:=ps++[xs.length+zs.length<=4294967296]) hE.ok h kM (hd d kM) ho rfl hq Ce vj MB (g2 0 s q rfl (by rw[hq];rfl)) hs (g2 1 x q' rfl (by rw[hq];rfl)) hlx hu h1 h2 (fun p kW=>hp p (by simp[kW])) (va.1 tz) (hp _ (by simp)) xt
        (fun F kv fp a' w' hs=>hn F kv fp a' w' ?_)
       simpa[kM] using hs
      ·cases hr
     ·cases hr
    ·cases hr
   ·cases hr
  ·cases hr
 ·
  rename_i g fst XV ho
  rw[iw] at hr
  split at hr
  ·rename_i anT
   split at hr
   ·rename_i l hl
    cases hr
    have GA:Oper.looks o=(fst++XV).toList:=by simp[Oper.looks,ho,Op.operands]
    obtain⟨g1,g2⟩:=sg h GA hg
    exact cI.wp (al8 ho anT hl (by simpa using g1) (by simpa using g2)) h hd hn
   ·cases hr
  ·cases hr
 ·
  rename_i t args argTypes p xs' ho
  have GA:Oper.looks o=.tmp t::args.toList:=by simp[Oper.looks,ho]
  obtain⟨g1,g2⟩:=sg h GA hg
  have hfn:oa E w F p (a.eval (.tmp t)):=g2 0 (.fn p) (.tmp t) rfl rfl
  obtain⟨g,ql,hv,hf,aeO⟩:=hfn
  unfold Fj at hr
  split at hr
  ·rename_i ps ds IA
   have main:∀(v:Value)(K6:List Prop),(∀q∈ps++[p ds=some v],q)->r=⟨some (wL v),[],[],[],K6⟩->o.wp E.P a w next Q:=by
    intro v K6 hq hr
    have hda:=amQ (K:=(xs'.flatMap SV.keys).filter fun k=>(σ.bP k).isSome) (vs:=args.toList.map a.eval) h IA (fun q hq'=>hq q (by simp[hq'])) (by simpa using g1) (fun i x u hx hu=>by
     rw[nS] at hu
     cases hq:args.toList[i]? with
     |none=>rw[hq] at hu;cases hu
     |some q=>rw[hq] at hu;cases hu;exact g2 (i+1) x q (by simpa using hx) (by simpa using hq)) (fun x hx k hk hs=>xR.2 ⟨o8.2 ⟨x,hx,hk⟩,hs⟩)
    have gy:∀b,FK F fp ((xs'.flatMap SV.keys).filter fun k=>(σ.bP k).isSome) b->b<w.heap.size:=by
     rintro b (hb|⟨k,hk,hb⟩)
     ·exact h.uI b hb
     ·obtain⟨e,he⟩:=nA.1 (xR.1 hk).2
      exact(h.fT k e b he hb).2.2
    have hc:=aeO ds v (hq _ (by simp)) w _ (fun b hb=>⟨.inl hb,rfl⟩) gy _ hda
    show o.upon E.P a next Q ((execOp a.eval o).run E.P w)
    rw[alj ho rfl hv hf,Oper.upon_enter]
    refine hc.mono ?_
    rintro e w' ⟨rfl,aa',qw⟩
    show next (a.put o.dst v) w'
    refine hn F kv fp _ w' ?_
    rw[hr]
    exact h.akK qw o _ _ v hd (fun x hx=>by cases hx;exact ny aa')
   split at hr
   ·have G9:=(ZA hr).symm
    exact main _ _ (by rw[G9] at hp;exact hp) G9
   ·have G9:=(ZA hr).symm
    exact main _ _ (by rw[G9] at hp;exact hp) G9
   ·cases hr
  ·cases hr
 ·
  rename_i f args argTypes ho
  split at hr
  ·rename_i k anW
   obtain⟨hf,hs⟩:=hE.WG anW
   have GA:Oper.looks o=args.toList:=by simp[Oper.looks,ho]
   obtain⟨g1,g2⟩:=sg h GA hg
   exact am2 hE.Qw h hd ho rfl hf hs g1 (aav hg) g2 hr hp oG hn
  ·cases hr
 ·
  rename_i t q x ho
  rw[iw] at hr
  split at hr
  ·rename_i hc
   simp only[cN] at hc
   cases hr
   obtain⟨d,kM⟩:=Xt (by simpa[kindOk,ho] using hk)
   have xt:¬Names σ (d,0):=oG _ (by simp[dZ,kM])
   refine am7 h kM (hd d kM) ho (ul h (by simp[Oper.looks,ho,Op.operands]) hg) (fun y hy k hk=>aav hg (.v x) (by simp) k (SV.mem_keys.2 ⟨y,hy,hk⟩)) hc.1 xt (fun F kv fp a' w' hs=>hn F kv fp a' w' ?_)
   simpa[kM] using hs
  ·cases hr
 ·
  rename_i q x ho
  have hx:=ul (q:=q) h (by simp[Oper.looks,ho,Op.operands]) hg
  split at hr
  ·rename_i cs yO
   cases hr
   obtain⟨b,o',h1,_⟩:=cx (lD hx yO) rfl
   exact cI.wp (aan ho hx h1) h hd hn
  ·rename_i k off yO
   cases hr
   obtain⟨b,_,h1⟩:=cx (lD hx yO) rfl
   exact cI.wp (aan ho hx h1) h hd hn
  ·rename_i k p i wd off yO
   rw[iw] at hr
   split at hr
   ·rename_i ix
    cases hr
    obtain⟨b,o',n,c,_,h1⟩:=cx (lD hx yO) (adZ (x:=.l7 k p i wd off) ix)
    exact cI.wp (aan ho hx h1) h hd hn
   ·cases hr
  ·cases hr
 ·
  rename_i s d q x ho
  have hx:=ul (q:=q) h (by simp[Oper.looks,ho,Op.operands]) hg
  split at hr
  ·rename_i k MC
   split at hr
   ·rename_i k0 k' n w5 hl
    cases hr
    exact cI.wp (al6 ho hx hl MC w5) h hd hn
   ·cases hr
  ·rename_i MC
   split at hr
   ·rename_i e w5
    split at hr
    ·rename_i hue yO
     cases hr
     obtain⟨ad,h1⟩:=cx (lD hx yO) rfl
     refine cI.wp (sv:=wL (.string ByteArray.empty)) ⟨.string ByteArray.empty,?_,ny ⟨rfl,by decide⟩⟩ h hd hn
     unfold execOp;simp only[ho,h1]
     exact iM (adX w5 hue MC ad 0)
    ·rename_i y hue yO
     split at hr
     ·rename_i ps b ha
      split at hr
      ·rename_i ys hys
       cases hr
       have:=eh hys
       subst this
       exact cI.wp (al7 ho (zl h ha (fun p kW=>hp p kW) (lD hx yO)) w5 hue MC) h hd hn
      ·cases hr
     ·cases hr
    ·cases hr
   ·cases hr
  ·cases hr
 ·cases hr
theorem ak5(hE:E.Good)(h:cR E pm F kv fp σ a w){b:Bool}{o:Oper}{r:cq U}{ks:List Key}(hs:step E b σ o=some (r,ks))(hp:∀p∈r.pre,p)(oG:∀k∈dZ o r,¬Names σ k)
  {next:Act->World->Prop} {Q:Exit->Act->World->Prop} (hn:∀F kv fp a' w',cR E pm F kv fp (AM.apply o r σ) a' w'->next a' w'):o.wp E.P a w next Q:=by
 unfold step at hs
 rw[iw] at hs
 split at hs
 ·rename_i hc
  simp only[cN] at hc
  have hd:∀d,o.dst=some d->d<σ.n:=by
   intro d hd
   have:=hc.1
   unfold rl at this
   rw[hd] at this
   exact Nat.blt_eq▸this
  split at hs
  ·rename_i c x y ho
   split at hs
   ·rename_i t ht
    have Nw:∃sc,M_ σ c=some sc/\ji sc=some (.bool t):=by
     unfold Ap GP at ht
     split at ht
     ·rename_i sc hsc;exact⟨sc,hsc,ht⟩
     ·cases ht
    obtain⟨sc,h1,h2⟩:=Nw
    cases t with
    |true=>
     simp only[cond_true] at hs
     split at hs
     ·rename_i sv E5
      cases hs
      exact cI.wp (adB ho (EF h h1) h2 (by simpa using EF h E5)) h hd hn
     ·cases hs
    |false=>
     simp only[cond_false] at hs
     split at hs
     ·rename_i sv E5
      cases hs
      exact cI.wp (adB ho (EF h h1) h2 (by simpa using EF h E5)) h hd hn
     ·cases hs
   ·cases hs
  ·split at hs
   ·rename_i xs hg
    split at hs
    ·rename_i r' hr
     cases hs
     exact amz hE h hd hc.2 hg hr hp oG hn
    ·cases hs
   ·cases hs
 ·cases hs
end AM
