/- THE ABSTRACT MACHINE: one operation. -/
import Derived.Test.YtpkdgcookaobfaaGreatDoorQAmOps9
import Derived.Test.YtpkdgcookaobfaaGreatDoorQAmPart2
import Derived.Test.YtpkdgcookaobfaaGreatDoorQAmOps10
namespace AM
set_option linter.unusedVariables false
open Go
variable{U:lz}{E:Env U}{pm:Pm}
variable{F F':Nat->Prop}{kv:Key->Value}{fp:Key->List Nat}{σ:ak U}{a:Act}{w w':World}{bad:Key->Bool}
theorem cF.wp{o:Oper}{sv:SV U}{ps:List Prop}(hm:cF E F kv fp (bW σ) a w o sv)(h:cM E pm F kv fp σ a w)(hd:∀d,o.dst=some d->d<σ.n){next:Act->World->Prop}{Q:Exit->Act->World->Prop}
  (hn:∀F kv fp a' w',cM E pm F kv fp (AM.apply o ⟨some sv,[],[],[],ps⟩ σ) a' w'->next a' w'):o.wp E.P a w next Q:=by
 obtain⟨v,hr,hv⟩:=hm
 exact sQ hr (hn _ _ _ _ _ (h.val o (some sv) ps v hd (by rintro x ⟨⟩;exact hv)))
theorem Pn{o:Oper}{xs:List (SV U)}(h:rD σ o=some xs):xs.length=(Oper.looks o).length/\∀(i:Nat)(x:SV U)(q:Operand),xs[i]? =some x->(Oper.looks o)[i]? =some q->MV σ q=some x:=by
 obtain⟨h1,h2⟩:=acT h
 refine⟨h1,fun i x q hx hq=> ?_⟩
 obtain⟨y,hy,ho⟩:=h2 i q hq
 rw[hx] at hy;cases hy;exact ho
theorem ak9{q:Operand}{x:SV U}(h:MV σ q=some x):∀k∈x.keys,Names σ k:=by
 cases q with
 |tmp t=>exact fun k hk=> .inl ⟨t,x,h,hk⟩
 |global g=>cases h
 |func f=>cases h;intro k hk;simp[SV.keys,SV.Ca] at hk
 |const v=>
  intro k hk
  exfalso
  have hc:∀{v:Value}{y:AC U},pC v=some y->y.keys=[]:=by
   intro v y hy
   unfold pC at hy
   split at hy
   ·cases hy;rfl
   ·cases hy;rfl
   ·rw[im] at hy;split at hy<;>cases hy;rfl
   ·cases hy;rfl
   ·rw[im] at hy;split at hy<;>cases hy;rfl
   ·cases hy
  have vA:∀{vs:List Value}{ys:List (AC U)},jN vs=some ys->∀y∈ys,y.keys=[]:=by
   intro vs
   induction vs with
   |nil=>intro ys hy y hy';cases hy;cases hy'
   |cons v vs ih=>
    intro ys hy y hy'
    simp only[jN] at hy
    split at hy
    ·rename_i y1 ys1 h1 h2
     cases hy
     rcases jZ.1 hy' with rfl|hy'
     ·exact hc h1
     ·exact ih h2 y hy'
    ·cases hy
  simp only[MV] at h
  unfold IA at h
  split at h
  ·unfold sd at h
   split at h
   ·rename_i l hl
    cases h
    obtain⟨y,hy,Aa⟩:=SV.mem_keys.1 hk
    rw[vA hl y hy] at Aa;cases Aa
   ·cases h
  ·split at h
   ·rename_i y hy
    cases h
    obtain⟨z,hz,Aa⟩:=SV.mem_keys.1 hk
    simp only[one,SV.Ca,mI] at hz
    subst hz
    rw[hc hy] at Aa;cases Aa
   ·cases h
theorem ND{b:Option Operand}{bs bs':List (SV U)}{l:Option Int}(h:cM E pm F kv fp σ a w)(hb:Hr b bs=some (l,bs')){L L':List Operand}(hL:L=b.toList++L')
  (hv:bs.length=L.length/\∀(i:Nat)(x:SV U)(q:Operand),bs[i]? =some x->L[i]? =some q->MV σ q=some x):
  WN l (b.map a.eval)/\bs'.length=L'.length/\∀(i:Nat)(x:SV U)(q:Operand),bs'[i]? =some x->L'[i]? =some q->MV σ q=some x:=by
 rcases amH hb with⟨rfl,rfl,rfl⟩|⟨y,sy,k,n,rfl,rfl,h1,rfl⟩
 ·subst hL
  exact⟨.inl ⟨rfl,rfl⟩,by simpa using hv.1,fun i x q hx hq=>hv.2 i x q hx (by simpa using hq)⟩
 ·subst hL
  have hy:=hv.2 0 sy y rfl rfl
  have:=qp (Eh h hy) h1
  exact⟨.inr ⟨k,n,rfl,by simp[this]⟩,by simpa using hv.1,fun i x q hx hq=>hv.2 (i+1) x q (by simpa using hx) (by simpa using hq)⟩
section
variable(E)
structure Env.Good:Prop where
 ok:E.Ok
 Ql:∀f k,E.Ql f=some k->zy E.P f/\eG E f k
 Qk:∀f k,E.Qk f=some k->zy E.P f/\eG E f k
theorem Env.Good.Wr{E:Env U}(h:E.Good){b:Bool}{f:FuncId}{k:jY U}(hk:E.Wr b f=some k):zy E.P f/\eG E f k:=by
 cases b with
 |false=>exact h.Ql f k hk
 |true=>exact h.Qk f k hk
end
theorem tU(h:cM E pm F kv fp σ a w){o:Oper}{q:Operand}{x:SV U}(hl:Oper.looks o=[q])(hg:rD σ o=some [x]):RS E w F kv fp (bW σ) x (a.eval q):=
 Eh h ((Pn hg).2 0 x q rfl (by rw[hl];rfl))
theorem Ez(h:cM E pm F kv fp σ a w){o:Oper}{q q':Operand}{x y:SV U}(hl:Oper.looks o=[q,q'])(hg:rD σ o=some [x,y]):
  RS E w F kv fp (bW σ) x (a.eval q)/\RS E w F kv fp (bW σ) y (a.eval q'):=
 ⟨Eh h ((Pn hg).2 0 x q rfl (by rw[hl];rfl)),Eh h ((Pn hg).2 1 y q' rfl (by rw[hl];rfl))⟩
theorem rT(h:cM E pm F kv fp σ a w){o:Oper}{l:List Operand}{xs:List (SV U)}(hl:Oper.looks o=l)(hg:rD σ o=some xs):
  xs.length=l.length/\(∀(i:Nat)(x:SV U)(q:Operand),xs[i]? =some x->l[i]? =some q->RS E w F kv fp (bW σ) x (a.eval q)):=by
 obtain⟨h1,h2⟩:=Pn hg
 rw[hl] at h1 h2
 exact⟨h1,fun i x q hx hq=>Eh h (h2 i x q hx hq)⟩
theorem aab{o:Oper}{xs:List (SV U)}(hg:rD σ o=some xs):∀x∈xs,∀k∈x.keys,Names σ k:=by
 intro x hx k hk
 obtain⟨i,hi,rfl⟩:=sG hx
 obtain⟨h1,h2⟩:=Pn hg
 have gI:i<(Oper.looks o).length:=by omega
 exact ak9 (h2 i xs[i] (Oper.looks o)[i] (fw hi) (fw gI)) k hk
theorem cM.akj{F:Nat->Prop}{kv:Key->Value}{fp:Key->List Nat}{σ:ak U}{a:Act}{w w':World}(h:cM E pm F kv fp σ a w)(hu:hU (fun _=>False) w w')(o:Oper)(sv:Option (SV U))(ps:List Prop)(v:Value)
  (hd:∀d,o.dst=some d->d<σ.n) (hv:∀x,sv=some x->RS E w' F kv fp (bW σ) x v):
  cM E pm F kv fp (AM.apply o ⟨sv,[],[],[],ps⟩ σ) (a.put o.dst v) w':=by
 have hb:bW (AM.apply o ⟨sv,[],[],[],ps⟩ σ)=bW σ:=rfl
 refine h.apply (F':=F) (kv':=kv) (fp':=fp) (w':=w') o _ v hd ?_ (fun _ _=>rfl) (fun _ _ _=>rfl) ?_ (fun b hb=>⟨hb,hu.block b (h.uk b hb) (fun x=>x)⟩) (fun k e _ _ _ he b hb=>hu.block b (h.fQ k e b he hb).2.2 (fun x=>x)) ?_ ?_ ?_
  (fun b hb=>zds (h.uk b hb) hu.size) h.uj (h.upto.trans (hu.mono (fun i hi=>hi.elim))) hu.size
 ·intro x hx;rw[hb];exact hv x hx
 ·intro k hk;simp[dR] at hk
 ·intro k e hk;simp at hk
 ·intro k e b _ _ _ he hbb;exact(h.fQ k e b he hbb).1
 ·intro k k' b _ hk;simp[dR,jQ] at hk
theorem akU{P:Program}{w:World}{a:Act}{o:Oper}{cl:Call}{q:Operand}{f:FuncId}{qa:Array Value}(sF:o.op=.call cl)(iv:cl.callee=.value q)(hq:a.eval q=.func (.func f) #[] qa)(hf:zy P f):
  (execOp a.eval o).run P w=.ok (.enter f ((cl.args.toList.map a.eval).toArray++qa)) w:=by
 obtain⟨fn,h1,h2,h3⟩:=hf
 have e:execOp a.eval o=callFunc f (#[]++cl.args.map a.eval++qa):=by
  unfold execOp
  rw[sF]
  simp only[resolve,iv,hq]
  rfl
 rw[e]
 have e2:(#[]++cl.args.map a.eval++qa:Array Value)=(cl.args.toList.map a.eval).toArray++qa:=by
  apply Array.ext'
  simp
 rw[e2]
 have h4:fn.body≠none:=by cases hb:fn.body<;>simp[hb] at h2⊢
 have h5:fn.name≠ "runtime.NumGoroutine" :=by simpa using h3
 simp[callFunc,go_sem,h1,h4,h5]
theorem amp(h:cM E pm F kv fp σ a w){rs:List Key}{K:List Key}:∀{xs:List (SV U)}{ws:List (List (Option U.Ty))}{vs:List Value}{ps:List Prop}{ds:List (DA U)},Bn (restrict σ.bO rs) σ.aT ws xs=some (ps,ds)->(∀p∈ps,p)->xs.length=vs.length->
  (∀(i:Nat)(x:SV U)(u:Value),xs[i]? =some x->vs[i]? =some u->RS E w F kv fp (bW σ) x u)->(∀x∈xs,∀k∈x.keys,(σ.bO k).isSome=true->k∈K)->aj' E w (FK F fp K) ds vs:=by
 intro xs
 induction xs with
 |nil=>
  intro ws vs ps ds hc hp hl hx hK
  simp only[Bn,gA,pq] at hc
  obtain⟨rfl,rfl⟩:=hc
  exact⟨by simpa using hl,fun i d v hd=>by simp at hd⟩
 |cons x xs ih=>
  intro ws vs ps ds hc hp hl hx hK
  cases vs with
  |nil=>simp at hl
  |cons v vs=>
   simp only[Bn] at hc
   split at hc
   ·rename_i Um c ps2 ds2 h1 h2
    cases hc
    obtain⟨i1,i2⟩:=ih h2 (fun p kJ=>hp p (by simp[kJ])) (by simpa using hl) (fun i y u hy hu=>hx (i+1) y u (by simpa using hy) (by simpa using hu)) (fun y hy=>hK y (fA _ hy))
    obtain⟨g1,_⟩:oK E w (FK F fp K) .ro (.one c) v []:=Vl h h1 (fun p kJ=>hp p (by simp[kJ])) (hx 0 x v rfl rfl) (hK x iy)
    refine⟨by simp[i1],fun i d u hd hu=> ?_⟩
    cases i with
    |zero=>
     simp only[vn,gA] at hd hu
     subst hd;subst hu
     exact⟨[v],rfl,fun i c' ni=>by
      cases i with
      |zero=>simp only[vn,gA] at ni;subst ni;exact g1
      |succ i=>simp at ni,rfl⟩
    |succ i=>exact i2 i d u (by simpa using hd) (by simpa using hu)
   ·rename_i Um cs ps2 ds2 h1 h2
    cases hc
    obtain⟨i1,i2⟩:=ih h2 (fun p kJ=>hp p (by simp[kJ])) (by simpa using hl) (fun i y u hy hu=>hx (i+1) y u (by simpa using hy) (by simpa using hu)) (fun y hy=>hK y (fA _ hy))
    obtain⟨us,g1,g2,g3,_⟩:oK E w (FK F fp K) .ro (.agg cs) v []:=Vl h h1 (fun p kJ=>hp p (by simp[kJ])) (hx 0 x v rfl rfl) (hK x iy)
    refine⟨by simp[i1],fun i d u hd hu=> ?_⟩
    cases i with
    |zero=>
     simp only[vn,gA] at hd hu
     subst hd;subst hu
     exact⟨us,g2,g3,g1⟩
    |succ i=>exact i2 i d u (by simpa using hd) (by simpa using hu)
   ·cases hc
theorem adK:∀{xs:List (SV U)}{l:List (AV U)},Bp xs=some l->xs=l.map SV.v
 |[],l,h=>by cases h;rfl
 | .v x::r,l,h=>by
  simp only[Bp] at h
  split at h
  ·rename_i l' hl;cases h;rw[adK hl];rfl
  ·cases h
 | .wv _::r,l,h=>by simp[Bp] at h
 | .fn _::r,l,h=>by simp[Bp] at h
 | .Hk _ _::r,l,h=>by simp[Bp] at h
theorem alH{bad:Key->Bool}{o:Oper}{g:FuncId}{fst Xw:Array Operand}{xs:List (SV U)}{l:List (AV U)}(ho:o.op=.makeFunc (.func g) fst Xw)(he:fst.isEmpty=true)(hl:Bp xs=some l)
  (h1:xs.length=(fst++Xw).toList.length) (h2:∀(i:Nat)(x:SV U)(q:Operand),xs[i]? =some x->(fst++Xw).toList[i]? =some q->RS E w F kv fp bad x (a.eval q)):cF E F kv fp bad a w o (.Hk g l):=by
 have hf:fst= #[]:=by simpa using he
 subst hf
 have hx:=adK hl
 subst hx
 refine⟨.func (.func g) #[] (Xw.map a.eval),?_,⟨(Xw.map a.eval).toList,by rw[Array.toArray_toList],by simpa using h1,fun i x u hx hu=> ?_⟩⟩
 ·unfold execOp;simp only[ho]
  have e:Array.map a.eval #[]= #[]:=by simp
  rw[e]
  exact iD rfl
 ·rw[zeo,nT] at hu
  cases hq:Xw.toList[i]? with
  |none=>rw[hq] at hu;cases hu
  |some q=>
   rw[hq] at hu;cases hu
   exact h2 i (.v x) q (by rw[nT,hx];rfl) (by simpa using hq)
theorem al'(hE:E.Good)(h:cM E pm F kv fp σ a w){o:Oper}(hd:∀d,o.dst=some d->d<σ.n)(hk:kindOk o=true){xs:List (SV U)}(hg:rD σ o=some xs){rs:List Key}{r:cn U}
  {b:Bool} (hr:Am E b (restrict σ.bO rs) σ.aT o xs=some r) (hp:∀p∈r.pre,p) (ov:∀k∈dR o r,¬Names σ k) {next:Act->World->Prop} {Q:Exit->Act->World->Prop}
  (hn:∀F kv fp a' w',cM E pm F kv fp (AM.apply o r σ) a' w'->next a' w'):o.wp E.P a w next Q:=by
 have W7:∀{t:Option Nat},t.isSome=true->∃d,t=some d:=fun h=>nf.1 h
 unfold Am at hr
 simp only at hr
 split at hr
 ·
  rename_i q x ho
  cases hr
  exact cF.wp (alr ho (tU h (by simp[Oper.looks,ho,Op.operands]) hg)) h hd hn
 ·
  rename_i q x ho
  cases hr
  exact cF.wp (alK ho (tU h (by simp[Oper.looks,ho,Op.operands]) hg)) h hd hn
 ·
  rename_i op t q x ho
  split at hr
  ·rename_i v hv
   cases hu:KZ op v with
   |none=>rw[hu] at hr;cases hr
   |some u=>
    rw[hu] at hr;cases hr
    exact cF.wp (aln ho (tU h (by simp[Oper.looks,ho,Op.operands]) hg) hv hu) h hd hn
  ·cases hr
 ·
  rename_i op t q q' t' x y ho
  split at hr
  ·rename_i u v hu hv
   cases hb:EC E t op u v with
   |none=>rw[hb] at hr;cases hr
   |some pv=>
    obtain⟨ps,v'⟩:=pv
    rw[hb] at hr;cases hr
    obtain⟨h1,h2⟩:=Ez (q:=q) (q':=q') h (by simp[Oper.looks,ho,Op.operands]) hg
    exact cF.wp (alJ ho h1 hu h2 hv hb hp) h hd hn
  ·split at hr
   ·rename_i r' pV
    cases hr
    obtain⟨h1,h2⟩:=Ez (q:=q) (q':=q') h (by simp[Oper.looks,ho,Op.operands]) hg
    obtain⟨b,rfl,hm⟩:=alE ho h1 h2 pV
    exact cF.wp hm h hd hn
   unfold RQ at hr
   split at hr
   ·rename_i n c b τ xs _ _
    split at hr
    ·rename_i e hu
     cases hr
     obtain⟨h1,h2⟩:=Ez (q:=q) (q':=.const (.slice none n c)) h (by simp[Oper.looks,ho,Op.operands]) hg
     exact cF.wp (alq ho h1 hu) h hd hn
    ·cases hr
   ·cases hr
 ·
  rename_i q i l ho
  cases hy:l[i]? with
  |none=>rw[hy] at hr;cases hr
  |some y=>
   rw[hy] at hr;cases hr
   exact cF.wp (alD ho (tU h (by simp[Oper.looks,ho,Op.operands]) hg) hy) h hd hn
 ·
  rename_i t ho
  split at hr
  ·rename_i z hz
   split at hr
   ·rename_i x hx
    cases hr
    obtain⟨d,kY⟩:=W7 (by simpa[kindOk,ho] using hk)
    unfold sd at hx
    split at hx
    ·rename_i l hl
     cases hx
     have w8:¬Names σ (d,0):=ov _ (by simp[dR,kY])
     refine amV h kY (hd d kY) ho hz hl w8 (fun F kv fp a' w' hs=>hn F kv fp a' w' ?_)
     simpa[kY] using hs
    ·cases hx
   ·cases hr
  ·cases hr
 ·
  rename_i t q x ho
  split at hr
  ·rename_i y n g hy wm V4
   split at hr
   ·rename_i r' VQ
    cases hr
    rw[im] at VQ
    split at VQ
    ·obtain⟨sv,ps,rfl,hm⟩:=alp h ho (tU h (by simp[Oper.looks,ho,Op.operands]) hg) hy wm V4 VQ hp
     exact cF.wp hm h hd hn
    ·cases VQ
   split at hr
   ·rename_i r' Ga
    cases hr
    obtain⟨sv,ps,rfl,hm⟩:=als h ho (tU h (by simp[Oper.looks,ho,Op.operands]) hg) hy wm V4 Ga hp
    exact cF.wp hm h hd hn
   ·refine alj h hd ho (tU h (by simp[Oper.looks,ho,Op.operands]) hg) hy (fun k hk=>aab hg x (by simp) k ?_) wm V4 hr hp ov hn
    rw[L0 hy];simpa[one,SV.keys,SV.Ca] using hk
  ·cases hr
 ·
  rename_i t q q' p x ho
  split at hr
  ·rename_i y n hy hs
   cases hb:Nat.beq n x.cs.length<;>simp only[hb,cond_true,cond_false] at hr
   ·cases hr
   ·obtain⟨h1,h2⟩:=Ez (q:=q) (q':=q') h (by simp[Oper.looks,ho,Op.operands]) hg
    have Og:o.dst=none:=by simpa[kindOk,ho] using hk
    split at hr
    ·rename_i r' Ga
     cases hr
     exact akz h Og ho h1 hy h2 hs (nk hb) Ga hp hn
    ·split at hr
     ·rename_i r' Ga
      cases hr
      exact akA h Og ho h1 hy h2 hs (nk hb) Ga hp hn
     ·exact akB h Og ho h1 hy h2 hs (nk hb) hr hp hn
  ·cases hr
 ·
  rename_i t q f x ho
  split at hr
  ·rename_i y off ft hy hf
   split at hr
   ·rename_i n hs
    have hx:=tU (q:=q) h (by simp[Oper.looks,ho,Op.operands]) hg
    split at hr
    ·cases hr
     exact cF.wp (alz ho hx hy hf hs) h hd hn
    ·cases hr
     exact cF.wp (alB ho hx hy hf hs) h hd hn
    ·rename_i k p i wd oo
     cases hc:fR (restrict σ.bO rs) σ.aT k p<;>simp only[hc,cond_true,cond_false] at hr
     ·cases hr
     ·cases hr
      have hb:iJ (bW σ) (AC.lN (U:=U) k p i wd oo)=false:=by
       simp only[iJ]
       have ni:=hc
       unfold fR at ni
       cases hpe:p.isEmpty
       ·rw[hpe] at ni
        simp only[Gk,cJ] at ni
        obtain⟨e,he⟩:=nf.1 ni.1
        have:=HR hc he
        rwa[hpe] at this
       ·rfl
      exact cF.wp (alA ho hx hy hb hf hs) h hd hn
    ·cases hr
   ·cases hr
  ·cases hr
 ·
  rename_i t q f cs ho
  split at hr
  ·rename_i off ft hf
   split at hr
   ·rename_i n g hs V4
    cases hb:(Nat.ble (off+n) cs.length&&(g||Nat.beq n 1))<;>simp only[hb,cond_true,cond_false] at hr
    ·cases hr
    ·cases hr
     exact cF.wp (alC ho (tU h (by simp[Oper.looks,ho,Op.operands]) hg) hf hs V4 hb) h hd hn
   ·cases hr
  ·cases hr
 ·
  rename_i t parts ho
  split at hr
  ·rename_i pl z Bb hz
   split at hr
   ·rename_i l hl
    split at hr
    ·rename_i cs hc
     cases hr
     obtain⟨h1,h2⟩:=rT h (l:=parts.toList.map (·.2)) (by simp[Oper.looks,ho]) hg
     refine cF.wp (alI ho (by simpa using h1) (fun i x q hx hq=>h2 i x q.2 hx (by rw[nT,hq];rfl)) Bb hz hl hc) h hd hn
    ·cases hr
   ·cases hr
  ·cases hr
 ·
  rename_i t len parts ho
  split at hr
  ·rename_i e he
   split at hr
   ·rename_i τ Mi
    rw[im] at hr
    split at hr
    ·rename_i hc
     simp only[cJ] at hc
     obtain⟨⟨Gf,P6⟩,hc3⟩:=hc
     rw[im] at hr
     split at hr
     ·rw[im] at hr
      split at hr
      ·rename_i hkp
       cases hr
       obtain⟨d,kY⟩:=W7 (by simpa[kindOk,ho] using hk)
       obtain⟨h1,h2⟩:=rT h (l:=parts.toList.map (·.2)) (by simp[Oper.looks,ho]) hg
       have w8:¬Names σ (d,0):=ov _ (by simp[dR,kY])
       refine alU hE.ok h kY (hd d kY) ho he Mi (by simpa using h1) (fun i x q hx hq=>h2 i x q.2 hx (by rw[nT,hq];rfl)) (nk Gf) P6 (J' hc3) hkp w8
        (fun F kv fp a' w' hs=>hn F kv fp a' w' ?_)
       simpa[kY] using hs
      ·cases hr
     split at hr
     ·rename_i ps rows ks dp ad9
      rw[im] at hr
      split at hr
      ·rename_i s7
       cases hr
       obtain⟨d,kY⟩:=W7 (by simpa[kindOk,ho] using hk)
       obtain⟨h1,h2⟩:=rT h (l:=parts.toList.map (·.2)) (by simp[Oper.looks,ho]) hg
       have w8:¬Names σ (d,0):=ov _ (by simp[dR,kY])
       refine amF hE.ok h kY (hd d kY) ho he Mi (by simpa using h1) (fun i x q hx hq=>h2 i x q.2 hx (by rw[nT,hq];rfl)) (nk Gf) P6 (J' hc3) ad9 hp (uN.1 s7) w8
        (fun F kv fp a' w' hs=>hn F kv fp a' w' ?_)
       simpa[kY] using hs
      ·cases hr
     ·cases hr
    ·cases hr
   ·cases hr
  ·cases hr
 ·
  rename_i t q q' l c ho
  split at hr
  ·rename_i e n m he hl hc
   split at hr
   ·rename_i τ Mi
    cases hr
    obtain⟨d,kY⟩:=W7 (by simpa[kindOk,ho] using hk)
    obtain⟨h1,h2⟩:=Ez (q:=q) (q':=q') h (by simp[Oper.looks,ho,Op.operands]) hg
    have w8:¬Names σ (d,0):=ov _ (by simp[dR,kY])
    refine alL hE.ok h kY (hd d kY) ho he Mi h1 hl h2 hc (hp _ (by simp)) (hp _ (by simp)) (hp _ (by simp)) (ps:=[0<=n,n=m,n<=4294967296]) w8 (fun F kv fp a' w' hs=>hn F kv fp a' w' ?_)
    simpa[kY] using hs
   ·cases hr
  ·cases hr
 ·
  rename_i t q q' x i ho
  split at hr
  ·rename_i kd n y m hi hy hm
   obtain⟨h1,h2⟩:=Ez (q:=q) (q':=q') h (by simp[Oper.looks,ho,Op.operands]) hg
   split at hr
   ·rename_i τ ys
    rw[im] at hr
    split at hr
    ·rename_i hb
     cases hr
     exact cF.wp (aly ho h1 hy h2 hi hm (nk hb) (hp _ (by simp[cn.cL])) (hp _ (by simp[cn.cL]))) h hd hn
    ·cases hr
   ·rename_i k p
    split at hr
    ·rename_i ps b ha
     rw[im] at hr
     split at hr
     ·rename_i hb
      cases hr
      exact cF.wp (alw h ho h1 hy h2 hi hm ha (nk hb) (fun p kJ=>hp p (by simp[cn.cL,kJ])) (hp _ (by simp[cn.cL])) (hp _ (by simp[cn.cL]))) h hd hn
     ·cases hr
    ·split at hr
     ·rename_i b hpo _
      rw[im] at hr
      split at hr
      ·rename_i hb
       cases hr
       exact cF.wp (alx h ho h1 hy h2 hi hm hpo (nk hb) (hp _ (by simp[cn.cL])) (hp _ (by simp[cn.cL]))) h hd hn
      ·cases hr
     ·cases hr
   ·cases hr
  ·cases hr
 ·
  rename_i t q q' x i ho
  split at hr
  ·rename_i s kd n hx hi hu
   cases hr
   obtain⟨h1,h2⟩:=Ez (q:=q) (q':=q') h (by simp[Oper.looks,ho,Op.operands]) hg
   exact cF.wp (alv ho h1 hx h2 hi hu (hp _ (by simp[cn.lit,cn.cL])) (hp _ (by simp[cn.lit,cn.cL]))) h hd hn
  ·cases hr
 ·
  rename_i t q lo hi mx x bs ho
  have hl:Oper.looks o=q::(lo.toList++(hi.toList++(mx.toList++[]))):=by simp[Oper.looks,ho,Op.operands]
  obtain⟨g1,g2⟩:=Pn hg
  rw[hl] at g1 g2
  have hx:RS E w F kv fp (bW σ) x (a.eval q):=Eh h (g2 0 x q rfl rfl)
  split at hr
  ·rename_i l bs1 uh
   obtain⟨k1,k2⟩:=ND (a:=a) (w:=w) (L:=lo.toList++(hi.toList++(mx.toList++[]))) (L':=hi.toList++(mx.toList++[])) h uh rfl ⟨by simpa using g1,fun i y u hy hu=>g2 (i+1) y u (by simpa using hy) (by simpa using hu)⟩
   split at hr
   ·rename_i hh bs2 ug
    obtain⟨k3,k4⟩:=ND (L':=mx.toList++[]) h ug rfl k2
    split at hr
    ·rename_i m hb3
     obtain⟨k5,k6⟩:=ND (L':=[]) h hb3 rfl k4
     obtain⟨sv,ps,rfl,hm⟩:=alo h ho hx k1 k3 k5 hr hp
     exact cF.wp hm h hd hn
    ·cases hr
   ·cases hr
  ·cases hr
 ·
  rename_i args argTypes x ho
  split at hr
  ·rename_i t BV
   have Gc:Oper.looks o=args.toList:=by simp[Oper.looks,ho]
   obtain⟨g1,g2⟩:=rT h Gc hg
   obtain⟨q,hq⟩:∃q,args.toList=[q]:=by
    match hm:args.toList,g1 with
    |[q],_=>exact⟨q,rfl⟩
   have hx:RS E w F kv fp (bW σ) x (a.eval q):=g2 0 x q rfl (by rw[hq];rfl)
   split at hr
   ·rename_i s hs
    split at hr
    ·rename_i hu
     cases hr
     exact cF.wp (alu ho rfl hq BV hx hs hu) h hd hn
    ·cases hr
   ·cases hr
   ·split at hr
    ·rename_i e yi uW
     cases hr
     obtain⟨ad,had⟩:=cw (li hx yi) rfl
     exact cF.wp (Z6 (n:=0) ho rfl hq BV ⟨ad,0,had⟩ (Ei uW) (Nat.zero_le _)) h hd hn
    ·rename_i y e yi uW
     split at hr
     ·rename_i ps b ha
      cases hr
      have hrp:=aak h ha hp (li hx yi)
      obtain⟨ad,c,hs,_⟩:=hrp.slice
      exact cF.wp (Z6 ho rfl hq BV ⟨ad,c,hs⟩ (Ei uW) hrp.len) h hd hn
     ·split at hr
      ·rename_i b hpo
       cases hr
       obtain⟨k,dead,_,_,om⟩:=ac7 h hpo (li hx yi)
       obtain⟨ad,c,hs,hle⟩:=om.slice
       exact cF.wp (Z6 ho rfl hq BV ⟨ad,c,hs⟩ (Ei uW) hle) h hd hn
      ·cases hr
    ·cases hr
  ·cases hr
 ·
  rename_i args argTypes x ho
  split at hr
  rotate_left
  ·cases hr
  rename_i t BV
  split at hr
  rotate_left
  ·cases hr
  rename_i e k wd lo hi uW yi
  split at hr
  rotate_left
  ·cases hr
  rename_i τ a0 dead hc he
  rw[im] at hr
  split at hr
  rotate_left
  ·cases hr
  rename_i vw
  split at hr
  rotate_left
  ·cases hr
  rename_i xs hx0
  cases hr
  have:=d_ hx0
  subst this
  have vw:=nk vw
  subst vw
  have Gc:Oper.looks o=args.toList:=by simp[Oper.looks,ho]
  obtain⟨g1,g2⟩:=rT h Gc hg
  obtain⟨q,hq⟩:∃q,args.toList=[q]:=by
   match hm:args.toList,g1 with
   |[q],_=>exact⟨q,rfl⟩
  exact amw hE.ok h hd ho rfl hq BV uW hc (g2 0 x q rfl (by rw[hq];rfl)) yi (j0 he) (hp _ (by simp)) (hp _ (by simp)) hn
 ·
  rename_i args argTypes x y ho
  split at hr
  ·rename_i kd m n hx hy
   rw[im] at hr
   split at hr
   ·rename_i EN
    have EN:=of_decide_eq_true EN
    subst EN
    cases hr
    have Gc:Oper.looks o=args.toList:=by simp[Oper.looks,ho]
    obtain⟨g1,g2⟩:=rT h Gc hg
    obtain⟨q,q',hq⟩:∃q q',args.toList=[q,q']:=by
     match hm:args.toList,g1 with
     |[q,q'],_=>exact⟨q,q',rfl⟩
    have:=adi (b:=true) ho (by rfl) hq (g2 0 x q rfl (by rw[hq];rfl)) hx (g2 1 y q' rfl (by rw[hq];rfl)) hy
    exact cF.wp (by simpa using this) h hd hn
   ·cases hr
  ·cases hr
 ·
  rename_i args argTypes x y ho
  split at hr
  ·rename_i kd m n hx hy
   rw[im] at hr
   split at hr
   ·rename_i EN
    have EN:=of_decide_eq_true EN
    subst EN
    cases hr
    have Gc:Oper.looks o=args.toList:=by simp[Oper.looks,ho]
    obtain⟨g1,g2⟩:=rT h Gc hg
    obtain⟨q,q',hq⟩:∃q q',args.toList=[q,q']:=by
     match hm:args.toList,g1 with
     |[q,q'],_=>exact⟨q,q',rfl⟩
    have:=adi (b:=false) ho (by rfl) hq (g2 0 x q rfl (by rw[hq];rfl)) hx (g2 1 y q' rfl (by rw[hq];rfl)) hy
    exact cF.wp (by simpa using this) h hd hn
   ·cases hr
  ·cases hr
 ·
  rename_i args argTypes s x ho
  split at hr
  ·rename_i t u BV
   split at hr
   ·rename_i e e' ys yx uW ano hs hx
    rw[im] at hr
    split at hr
    ·rename_i hc
     simp only[cJ] at hc
     have htu:t=u:=nk hc.1
     subst htu
     split at hr
     ·rename_i τ Mi
      split at hr
      ·rename_i ps xs ks d1 qs zs ks' d2 h1 h2
       rw[im] at hr
       split at hr
       ·rename_i s7
        cases hr
        obtain⟨d,kY⟩:=W7 (by simpa[kindOk,ho] using hk)
        have Gc:Oper.looks o=args.toList:=by simp[Oper.looks,ho]
        obtain⟨g1,g2⟩:=rT h Gc hg
        obtain⟨q,q',hq⟩:∃q q',args.toList=[q,q']:=by
         match hm:args.toList,g1 with
         |[q,q'],_=>exact⟨q,q',rfl⟩
        have w8:¬Names σ (d,0):=ov _ (by simp[dR,kY])
        refine amT (pall:=ps++qs++[xs.length+zs.length<=4294967296]) hE.ok h kY (hd d kY) ho rfl hq BV uW Mi (g2 0 s q rfl (by rw[hq];rfl)) hs (g2 1 x q' rfl (by rw[hq];rfl)) hx h1 h2 (fun p kJ=>hp p (by simp[kJ])) (uN.1 s7) (hp _ (by simp)) w8
         (fun F kv fp a' w' hs=>hn F kv fp a' w' ?_)
        simpa[kY] using hs
       ·cases hr
      ·rename_i ps xs ks h1 _
       split at hr
       ·rename_i zs ks' h2
        rw[im] at hr
        split at hr
        ·rename_i s7
         cases hr
         obtain⟨d,kY⟩:=W7 (by simpa[kindOk,ho] using hk)
         have Gc:Oper.looks o=args.toList:=by simp[Oper.looks,ho]
         obtain⟨g1,g2⟩:=rT h Gc hg
         obtain⟨q,q',hq⟩:∃q q',args.toList=[q,q']:=by
          match hm:args.toList,g1 with
          |[q,q'],_=>exact⟨q,q',rfl⟩
         have w8:¬Names σ (d,0):=ov _ (by simp[dR,kY])
         refine amU (pall:=ps++[xs.length+zs.length<=4294967296]) hE.ok h kY (hd d kY) ho rfl hq BV uW Mi (g2 0 s q rfl (by rw[hq];rfl)) hs (g2 1 x q' rfl (by rw[hq];rfl)) hx h1 h2 (fun p kJ=>hp p (by simp[kJ])) (uN.1 s7) (hp _ (by simp)) w8
          (fun F kv fp a' w' hs=>hn F kv fp a' w' ?_)
         simpa[kY] using hs
        ·cases hr
       ·cases hr
      ·cases hr
     ·cases hr
    ·cases hr
   ·rename_i e ys str uW ano hs hx
    split at hr
    ·rename_i τ hu Mi
     split at hr
     ·rename_i ps xs ks d1 zs h1 h2
      rw[im] at hr
      split at hr
      ·rename_i s7
       cases hr
       obtain⟨d,kY⟩:=W7 (by simpa[kindOk,ho] using hk)
       have Gc:Oper.looks o=args.toList:=by simp[Oper.looks,ho]
       obtain⟨g1,g2⟩:=rT h Gc hg
       obtain⟨q,q',hq⟩:∃q q',args.toList=[q,q']:=by
        match hm:args.toList,g1 with
        |[q,q'],_=>exact⟨q,q',rfl⟩
       have w8:¬Names σ (d,0):=ov _ (by simp[dR,kY])
       have hlx:iZ x=some (.string str):=by
        unfold vd at hx
        split at hx
        ·cases hx;rfl
        ·cases hx
       refine amS (pall:=ps++[xs.length+zs.length<=4294967296]) hE.ok h kY (hd d kY) ho rfl hq BV uW Mi (g2 0 s q rfl (by rw[hq];rfl)) hs (g2 1 x q' rfl (by rw[hq];rfl)) hlx hu h1 h2 (fun p kJ=>hp p (by simp[kJ])) (uN.1 s7) (hp _ (by simp)) w8
        (fun F kv fp a' w' hs=>hn F kv fp a' w' ?_)
       simpa[kY] using hs
      ·cases hr
     ·cases hr
    ·cases hr
   ·cases hr
  ·cases hr
 ·
  rename_i g fst Xw ho
  rw[im] at hr
  split at hr
  ·rename_i anm
   split at hr
   ·rename_i l hl
    cases hr
    have Gc:Oper.looks o=(fst++Xw).toList:=by simp[Oper.looks,ho,Op.operands]
    obtain⟨g1,g2⟩:=rT h Gc hg
    exact cF.wp (alH ho anm hl (by simpa using g1) (by simpa using g2)) h hd hn
   ·cases hr
  ·cases hr
 ·
  rename_i t args argTypes p xs' ho
  have Gc:Oper.looks o=.tmp t::args.toList:=by simp[Oper.looks,ho]
  obtain⟨g1,g2⟩:=rT h Gc hg
  have hfn:nS E w F p (a.eval (.tmp t)):=g2 0 (.fn p) (.tmp t) rfl rfl
  obtain⟨g,qa,hv,hf,aeu⟩:=hfn
  unfold EU at hr
  split at hr
  ·rename_i ps ds Im
   have main:∀(v:Value)(KH:List Prop),(∀q∈ps++[p ds=some v],q)->r=⟨some (wk v),[],[],[],KH⟩->o.wp E.P a w next Q:=by
    intro v KH hq hr
    have hda:=amp (K:=(xs'.flatMap SV.keys).filter fun k=>(σ.bO k).isSome) (vs:=args.toList.map a.eval) h Im (fun q hq'=>hq q (by simp[hq'])) (by simpa using g1) (fun i x u hx hu=>by
     rw[nT] at hu
     cases hq:args.toList[i]? with
     |none=>rw[hq] at hu;cases hu
     |some q=>rw[hq] at hu;cases hu;exact g2 (i+1) x q (by simpa using hx) (by simpa using hq)) (fun x hx k hk hs=>zA.2 ⟨oQ.2 ⟨x,hx,hk⟩,hs⟩)
    have gI:∀b,FK F fp ((xs'.flatMap SV.keys).filter fun k=>(σ.bO k).isSome) b->b<w.heap.size:=by
     rintro b (hb|⟨k,hk,hb⟩)
     ·exact h.uk b hb
     ·obtain⟨e,he⟩:=nf.1 (zA.1 hk).2
      exact(h.fQ k e b he hb).2.2
    have hc:=aeu ds v (hq _ (by simp)) w _ (fun b hb=>⟨.inl hb,rfl⟩) gI _ hda
    show o.upon E.P a next Q ((execOp a.eval o).run E.P w)
    rw[akU ho rfl hv hf,Oper.upon_enter]
    refine hc.mono ?_
    rintro e w' ⟨rfl,aaR,ql⟩
    show next (a.put o.dst v) w'
    refine hn F kv fp _ w' ?_
    rw[hr]
    exact h.akj ql o _ _ v hd (fun x hx=>by cases hx;exact nc aaR)
   split at hr
   ·have GR:=(Zd hr).symm
    exact main _ _ (by rw[GR] at hp;exact hp) GR
   ·have GR:=(Zd hr).symm
    exact main _ _ (by rw[GR] at hp;exact hp) GR
   ·cases hr
  ·cases hr
 ·
  rename_i f args argTypes ho
  split at hr
  ·rename_i k anq
   obtain⟨hf,hs⟩:=hE.Wr anq
   have Gc:Oper.looks o=args.toList:=by simp[Oper.looks,ho]
   obtain⟨g1,g2⟩:=rT h Gc hg
   exact amB hE.Ql h hd ho rfl hf hs g1 (aab hg) g2 hr hp ov hn
  ·cases hr
 ·
  rename_i t q x ho
  rw[im] at hr
  split at hr
  ·rename_i hc
   simp only[cJ] at hc
   cases hr
   obtain⟨d,kY⟩:=W7 (by simpa[kindOk,ho] using hk)
   have w8:¬Names σ (d,0):=ov _ (by simp[dR,kY])
   refine amG h kY (hd d kY) ho (tU h (by simp[Oper.looks,ho,Op.operands]) hg) (fun y hy k hk=>aab hg (.v x) (by simp) k (SV.mem_keys.2 ⟨y,hy,hk⟩)) hc.1 w8 (fun F kv fp a' w' hs=>hn F kv fp a' w' ?_)
   simpa[kY] using hs
  ·cases hr
 ·
  rename_i q x ho
  have hx:=tU (q:=q) h (by simp[Oper.looks,ho,Op.operands]) hg
  split at hr
  ·rename_i cs yi
   cases hr
   obtain⟨b,o',h1,_⟩:=cw (li hx yi) rfl
   exact cF.wp (Z5 ho hx h1) h hd hn
  ·rename_i k off yi
   cases hr
   obtain⟨b,_,h1⟩:=cw (li hx yi) rfl
   exact cF.wp (Z5 ho hx h1) h hd hn
  ·rename_i k p i wd off yi
   rw[im] at hr
   split at hr
   ·rename_i iv
    cases hr
    obtain⟨b,o',n,c,_,h1⟩:=cw (li hx yi) (adF (x:=.lN k p i wd off) iv)
    exact cF.wp (Z5 ho hx h1) h hd hn
   ·cases hr
  ·cases hr
 ·
  rename_i s d q x ho
  have hx:=tU (q:=q) h (by simp[Oper.looks,ho,Op.operands]) hg
  split at hr
  ·rename_i k Mj
   split at hr
   ·rename_i k0 k' n wF hl
    cases hr
    exact cF.wp (alF ho hx hl Mj wF) h hd hn
   ·cases hr
  ·rename_i Mj
   split at hr
   ·rename_i e wF
    split at hr
    ·rename_i hue yi
     cases hr
     obtain⟨ad,h1⟩:=cw (li hx yi) rfl
     refine cF.wp (sv:=wk (.string ByteArray.empty)) ⟨.string ByteArray.empty,?_,nc ⟨rfl,by decide⟩⟩ h hd hn
     unfold execOp;simp only[ho,h1]
     exact iD (adD wF hue Mj ad 0)
    ·rename_i y hue yi
     split at hr
     ·rename_i ps b ha
      split at hr
      ·rename_i ys hys
       cases hr
       have:=d_ hys
       subst this
       exact cF.wp (alG ho (yS h ha (fun p kJ=>hp p kJ) (li hx yi)) wF hue Mj) h hd hn
      ·cases hr
     ·cases hr
    ·cases hr
   ·cases hr
  ·cases hr
 ·cases hr
theorem akE(hE:E.Good)(h:cM E pm F kv fp σ a w){b:Bool}{o:Oper}{r:cn U}{ks:List Key}(hs:step E b σ o=some (r,ks))(hp:∀p∈r.pre,p)(ov:∀k∈dR o r,¬Names σ k)
  {next:Act->World->Prop} {Q:Exit->Act->World->Prop} (hn:∀F kv fp a' w',cM E pm F kv fp (AM.apply o r σ) a' w'->next a' w'):o.wp E.P a w next Q:=by
 unfold step at hs
 rw[im] at hs
 split at hs
 ·rename_i hc
  simp only[cJ] at hc
  have hd:∀d,o.dst=some d->d<σ.n:=by
   intro d hd
   have:=hc.1
   unfold qW at this
   rw[hd] at this
   exact Nat.blt_eq▸this
  split at hs
  ·rename_i c x y ho
   split at hs
   ·rename_i t ht
    have Xp:∃sc,MV σ c=some sc/\iZ sc=some (.bool t):=by
     unfold zP Gu at ht
     split at ht
     ·rename_i sc hsc;exact⟨sc,hsc,ht⟩
     ·cases ht
    obtain⟨sc,h1,h2⟩:=Xp
    cases t with
    |true=>
     simp only[cond_true] at hs
     split at hs
     ·rename_i sv EI
      cases hs
      exact cF.wp (adh ho (Eh h h1) h2 (by simpa using Eh h EI)) h hd hn
     ·cases hs
    |false=>
     simp only[cond_false] at hs
     split at hs
     ·rename_i sv EI
      cases hs
      exact cF.wp (adh ho (Eh h h1) h2 (by simpa using Eh h EI)) h hd hn
     ·cases hs
   ·cases hs
  ·split at hs
   ·rename_i xs hg
    split at hs
    ·rename_i r' hr
     cases hs
     exact al' hE h hd hc.2 hg hr hp ov hn
    ·cases hs
   ·cases hs
 ·cases hs
end AM
