import Derived.Test.YtnndcpncmmcaaaaGreatQAmOps9
import Derived.Test.YtnndcpncmmcaaaaGreatQAmPart2
import Derived.Test.YtnndcpncmmcaaaaGreatQAmOps10
import Derived.Test.YtnndcpncmmcaaaaGreatQAmSh
namespace AM
set_option linter.unusedVariables false
open Go
variable{U:jO}{E:Env U}{pm:Pm}
variable{F F':Nat->Prop}{kv:Key->Value}{fp:Key->List Nat}{σ:ah U}{a:Act}{w w':World}{bad:Key->Bool}
theorem cA.wp{o:Oper}{sv:SV U}{ps:List Prop}(hm:cA E F kv fp (aZ σ) a w o sv)(h:cd E pm F kv fp σ a w)(hd:∀d,o.dst=some d->d<σ.n){next:Act->World->Prop}{Q:Exit->Act->World->Prop}
  (hn:∀F kv fp a' w',cd E pm F kv fp (AM.apply o ⟨some sv,[],[],[],ps,[]⟩ σ) a' w'->next a' w'):o.wp E.P a w next Q:=by
 obtain⟨v,hr,hv⟩:=hm
 exact pC hr (hn _ _ _ _ _ (h.val o (some sv) ps v hd (by rintro x ⟨⟩;exact hv)))
theorem MY{o:Oper}{xs:List (SV U)}(h:qm σ o=some xs):xs.length=(Oper.looks o).length/\∀(i:Nat)(x:SV U)(q:Operand),xs[i]? =some x->(Oper.looks o)[i]? =some q->Ku σ q=some x:=by
 obtain⟨h1,h2⟩:=adf h
 refine⟨h1,fun i x q hx hq=> ?_⟩
 obtain⟨y,hy,ho⟩:=h2 i q hq
 rw[hx] at hy;cases hy;exact ho
theorem am4{q:Operand}{x:SV U}(h:Ku σ q=some x):∀k∈x.keys,Names σ k:=by
 cases q with
 |tmp t=>exact fun k hk=> .inl ⟨t,x,h,hk⟩
 |global g=>cases h
 |func f=>cases h;intro k hk;simp[SV.keys,SV.xE] at hk
 |const v=>
  intro k hk
  exfalso
  have hc:∀{v:Value}{y:AC U},oD v=some y->y.keys=[]:=by
   intro v y hy
   unfold oD at hy
   split at hy
   ·cases hy;rfl
   ·cases hy;rfl
   ·rw[fc] at hy;split at hy<;>cases hy;rfl
   ·cases hy;rfl
   ·rw[fc] at hy;split at hy<;>cases hy;rfl
   ·cases hy
  have lh:∀{vs:List Value}{ys:List (AC U)},iW vs=some ys->∀y∈ys,y.keys=[]:=by
   intro vs
   induction vs with
   |nil=>intro ys hy y hy';cases hy;cases hy'
   |cons v vs ih=>
    intro ys hy y hy'
    simp only[iW] at hy
    split at hy
    ·rename_i y1 ys1 h1 h2
     cases hy
     rcases h_.1 hy' with rfl|hy'
     ·exact hc h1
     ·exact ih h2 y hy'
    ·cases hy
  simp only[Ku] at h
  unfold GR at h
  split at h
  ·unfold rb at h
   split at h
   ·rename_i l hl
    cases h
    obtain⟨y,hy,lg⟩:=SV.mem_keys.1 hk
    rw[lh hl y hy] at lg;cases lg
   ·cases h
  ·split at h
   ·rename_i y hy
    cases h
    obtain⟨z,hz,lg⟩:=SV.mem_keys.1 hk
    simp only[one,SV.xE,g_] at hz
    subst hz
    rw[hc hy] at lg;cases lg
   ·cases h
theorem Ll{b:Option Operand}{bs bs':List (SV U)}{l:Option Int}(h:cd E pm F kv fp σ a w)(hb:bound b bs=some (l,bs')){L L':List Operand}(hL:L=b.toList++L')
  (hv:bs.length=L.length/\∀(i:Nat)(x:SV U)(q:Operand),bs[i]? =some x->L[i]? =some q->Ku σ q=some x):
  Vm l (b.map a.eval)/\bs'.length=L'.length/\∀(i:Nat)(x:SV U)(q:Operand),bs'[i]? =some x->L'[i]? =some q->Ku σ q=some x:=by
 rcases aoO hb with⟨rfl,rfl,rfl⟩|⟨y,sy,k,n,rfl,rfl,h1,rfl⟩
 ·subst hL
  exact⟨.inl ⟨rfl,rfl⟩,by simpa using hv.1,fun i x q hx hq=>hv.2 i x q hx (by simpa using hq)⟩
 ·subst hL
  have hy:=hv.2 0 sy y rfl rfl
  have:=pD (CT h hy) h1
  exact⟨.inr ⟨k,n,rfl,by simp[this]⟩,by simpa using hv.1,fun i x q hx hq=>hv.2 (i+1) x q (by simpa using hx) (by simpa using hq)⟩
section
variable(E)
structure Env.Good:Prop where
 ok:E.Ok
 NU:∀f k,E.NU f=some k->u7 E.P f/\eL E f k
 NT:∀f k,E.NT f=some k->u7 E.P f/\eL E f k
theorem Env.Good.Uq{E:Env U}(h:E.Good){b:Bool}{f:FuncId}{k:kq U}(hk:E.Uq b f=some k):u7 E.P f/\eL E f k:=by
 cases b with
 |false=>exact h.NU f k hk
 |true=>exact h.NT f k hk
end
theorem qN(h:cd E pm F kv fp σ a w){o:Oper}{q:Operand}{x:SV U}(hl:Oper.looks o=[q])(hg:qm σ o=some [x]):RS E w F kv fp (aZ σ) x (a.eval q):=
 CT h ((MY hg).2 0 x q rfl (by rw[hl];rfl))
theorem C3(h:cd E pm F kv fp σ a w){o:Oper}{q q':Operand}{x y:SV U}(hl:Oper.looks o=[q,q'])(hg:qm σ o=some [x,y]):
  RS E w F kv fp (aZ σ) x (a.eval q)/\RS E w F kv fp (aZ σ) y (a.eval q'):=
 ⟨CT h ((MY hg).2 0 x q rfl (by rw[hl];rfl)),CT h ((MY hg).2 1 y q' rfl (by rw[hl];rfl))⟩
theorem pQ(h:cd E pm F kv fp σ a w){o:Oper}{l:List Operand}{xs:List (SV U)}(hl:Oper.looks o=l)(hg:qm σ o=some xs):
  xs.length=l.length/\(∀(i:Nat)(x:SV U)(q:Operand),xs[i]? =some x->l[i]? =some q->RS E w F kv fp (aZ σ) x (a.eval q)):=by
 obtain⟨h1,h2⟩:=MY hg
 rw[hl] at h1 h2
 exact⟨h1,fun i x q hx hq=>CT h (h2 i x q hx hq)⟩
theorem Io{o:Oper}{xs:List (SV U)}(hg:qm σ o=some xs):∀x∈xs,∀k∈x.keys,Names σ k:=by
 intro x hx k hk
 obtain⟨i,hi,rfl⟩:=zG hx
 obtain⟨h1,h2⟩:=MY hg
 have fx:i<(Oper.looks o).length:=by omega
 exact am4 (h2 i xs[i] (Oper.looks o)[i] (gr hi) (gr fx)) k hk
theorem cd.alU{F:Nat->Prop}{kv:Key->Value}{fp:Key->List Nat}{σ:ah U}{a:Act}{w w':World}(h:cd E pm F kv fp σ a w)(hu:fm (fun _=>False) w w')(o:Oper)(sv:Option (SV U))(ps:List Prop)(v:Value)
  (hd:∀d,o.dst=some d->d<σ.n) (hv:∀x,sv=some x->RS E w' F kv fp (aZ σ) x v):
  cd E pm F kv fp (AM.apply o ⟨sv,[],[],[],ps,[]⟩ σ) (a.put o.dst v) w':=by
 have hb:aZ (AM.apply o ⟨sv,[],[],[],ps,[]⟩ σ)=aZ σ:=rfl
 refine h.apply (F':=F) (kv':=kv) (fp':=fp) (w':=w') o _ v hd ?_ (fun _ _=>rfl) (fun _ _ _=>rfl) ?_ (fun b hb=>⟨hb,hu.block b (h.lT b hb) (fun x=>x)⟩) (fun k e _ _ _ he b hb=>hu.block b (h.cU k e b he hb).2.2 (fun x=>x)) ?_ ?_ ?_
  (fun b hb=>MI (h.lT b hb) hu.size) h.ny (h.upto.trans (hu.mono (fun i hi=>hi.elim))) hu.size (fun _ hk=>absurd hk rh) (fun k e hk=>by simp at hk)
 ·intro x hx;rw[hb];exact hv x hx
 ·intro k hk;simp[ct] at hk
 ·intro k e hk;simp at hk
 ·intro k e b _ _ _ he hbb;exact(h.cU k e b he hbb).1
 ·intro k k' b _ hk;simp[ct,fM] at hk
theorem amF{P:Program}{w:World}{a:Act}{o:Oper}{cl:Call}{q:Operand}{f:FuncId}{oe:Array Value}(mI:o.op=.call cl)(fa:cl.callee=.value q)(hq:a.eval q=.func (.func f) #[] oe)(hf:u7 P f):
  (execOp a.eval o).run P w=.ok (.enter f ((cl.args.toList.map a.eval).toArray++oe)) w:=by
 obtain⟨fn,h1,h2,h3⟩:=hf
 have e:execOp a.eval o=callFunc f (#[]++cl.args.map a.eval++oe):=by
  unfold execOp
  rw[mI]
  simp only[resolve,fa,hq]
  rfl
 rw[e]
 have e2:(#[]++cl.args.map a.eval++oe:Array Value)=(cl.args.toList.map a.eval).toArray++oe:=by
  apply Array.ext'
  simp
 rw[e2]
 have h4:fn.body≠none:=by cases hb:fn.body<;>simp[hb] at h2⊢
 have h5:fn.name≠ "runtime.NumGoroutine" :=by simpa using h3
 simp[callFunc,go_sem,h1,h4,h5]
theorem aou(h:cd E pm F kv fp σ a w){rs:List Key}{K:List Key}:∀{xs:List (SV U)}{ws:List (List (Option U.Ty))}{vs:List Value}{ps:List Prop}{ds:List (DA U)},zY (restrict σ.aU rs) σ.ay ws xs=some (ps,ds)->(∀p∈ps,p)->xs.length=vs.length->
  (∀(i:Nat)(x:SV U)(u:Value),xs[i]? =some x->vs[i]? =some u->RS E w F kv fp (aZ σ) x u)->(∀x∈xs,∀k∈x.keys,(σ.aU k).isSome=true->k∈K)->alB E w (FK F fp K) ds vs:=by
 intro xs
 induction xs with
 |nil=>
  intro ws vs ps ds hc hp hl hx hK
  simp only[zY,eZ,kG] at hc
  obtain⟨rfl,rfl⟩:=hc
  exact⟨by simpa using hl,fun i d v hd=>by simp at hd⟩
 |cons x xs ih=>
  intro ws vs ps ds hc hp hl hx hK
  cases vs with
  |nil=>simp at hl
  |cons v vs=>
   simp only[zY] at hc
   split at hc
   ·rename_i Rv c ps2 ds2 h1 h2
    cases hc
    obtain⟨i1,i2⟩:=ih h2 (fun p jf=>hp p (by simp[jf])) (by simpa using hl) (fun i y u hy hu=>hx (i+1) y u (by simpa using hy) (by simpa using hu)) (fun y hy=>hK y (aJ _ hy))
    obtain⟨g1,_⟩:mN E w (FK F fp K) .ro (.one c) v []:=Sl h h1 (fun p jf=>hp p (by simp[jf])) (hx 0 x v rfl rfl) (hK x cH)
    refine⟨by simp[i1],fun i d u hd hu=> ?_⟩
    cases i with
    |zero=>
     simp only[sT,eZ] at hd hu
     subst hd;subst hu
     exact⟨[v],rfl,fun i c' jr=>by
      cases i with
      |zero=>simp only[sT,eZ] at jr;subst jr;exact g1
      |succ i=>simp at jr,rfl⟩
    |succ i=>exact i2 i d u (by simpa using hd) (by simpa using hu)
   ·rename_i Rv cs ps2 ds2 h1 h2
    cases hc
    obtain⟨i1,i2⟩:=ih h2 (fun p jf=>hp p (by simp[jf])) (by simpa using hl) (fun i y u hy hu=>hx (i+1) y u (by simpa using hy) (by simpa using hu)) (fun y hy=>hK y (aJ _ hy))
    obtain⟨us,g1,g2,g3,_⟩:mN E w (FK F fp K) .ro (.agg cs) v []:=Sl h h1 (fun p jf=>hp p (by simp[jf])) (hx 0 x v rfl rfl) (hK x cH)
    refine⟨by simp[i1],fun i d u hd hu=> ?_⟩
    cases i with
    |zero=>
     simp only[sT,eZ] at hd hu
     subst hd;subst hu
     exact⟨us,g2,g3,g1⟩
    |succ i=>exact i2 i d u (by simpa using hd) (by simpa using hu)
   ·cases hc
theorem ad_:∀{xs:List (SV U)}{l:List (AV U)},Ab xs=some l->xs=l.map SV.v
 |[],l,h=>by cases h;rfl
 | .v x::r,l,h=>by
  simp only[Ab] at h
  split at h
  ·rename_i l' hl;cases h;rw[ad_ hl];rfl
  ·cases h
 | .tX _::r,l,h=>by simp[Ab] at h
 | .fn _::r,l,h=>by simp[Ab] at h
 | .El _ _::r,l,h=>by simp[Ab] at h
theorem anD{bad:Key->Bool}{o:Oper}{g:FuncId}{fst V':Array Operand}{xs:List (SV U)}{l:List (AV U)}(ho:o.op=.makeFunc (.func g) fst V')(he:fst.isEmpty=true)(hl:Ab xs=some l)
  (h1:xs.length=(fst++V').toList.length) (h2:∀(i:Nat)(x:SV U)(q:Operand),xs[i]? =some x->(fst++V').toList[i]? =some q->RS E w F kv fp bad x (a.eval q)):cA E F kv fp bad a w o (.El g l):=by
 have hf:fst= #[]:=by simpa using he
 subst hf
 have hx:=ad_ hl
 subst hx
 refine⟨.func (.func g) #[] (V'.map a.eval),?_,⟨(V'.map a.eval).toList,by rw[Array.toArray_toList],by simpa using h1,fun i x u hx hu=> ?_⟩⟩
 ·unfold execOp;simp only[ho]
  have e:Array.map a.eval #[]= #[]:=by simp
  rw[e]
  exact gF rfl
 ·rw[zeo,mE] at hu
  cases hq:V'.toList[i]? with
  |none=>rw[hq] at hu;cases hu
  |some q=>
   rw[hq] at hu;cases hu
   exact h2 i (.v x) q (by rw[mE,hx];rfl) (by simpa using hq)
theorem aoc(hE:E.Good)(h:cd E pm F kv fp σ a w){o:Oper}(hd:∀d,o.dst=some d->d<σ.n)(hk:kindOk o=true){xs:List (SV U)}(hg:qm σ o=some xs){rs:List Key}{r:bz U}
  {b:Bool} (hr:zn E b (restrict σ.aU rs) σ.ay o xs=some r) (hp:∀p∈r.pre,p) (jq:∀k∈ct o r,¬Names σ k) {next:Act->World->Prop} {Q:Exit->Act->World->Prop}
  (hn:∀F kv fp a' w',cd E pm F kv fp (AM.apply o r σ) a' w'->next a' w'):o.wp E.P a w next Q:=by
 have Tz:∀{t:Option Nat},t.isSome=true->∃d,t=some d:=fun h=>kH.1 h
 unfold zn at hr
 simp only at hr
 split at hr
 ·
  rename_i q x ho
  cases hr
  exact cA.wp (anm ho (qN h (by simp[Oper.looks,ho,Op.operands]) hg)) h hd hn
 ·
  rename_i q x ho
  cases hr
  exact cA.wp (anG ho (qN h (by simp[Oper.looks,ho,Op.operands]) hg)) h hd hn
 ·
  rename_i op t q x ho
  split at hr
  ·rename_i v hv
   cases hu:IC op v with
   |none=>rw[hu] at hr;cases hr
   |some u=>
    rw[hu] at hr;cases hr
    exact cA.wp (ani ho (qN h (by simp[Oper.looks,ho,Op.operands]) hg) hv hu) h hd hn
  ·cases hr
 ·
  rename_i op t q q' t' x y ho
  split at hr
  ·rename_i u v hu hv
   cases hb:C8 E t op u v with
   |none=>rw[hb] at hr;cases hr
   |some pv=>
    obtain⟨ps,v'⟩:=pv
    rw[hb] at hr;cases hr
    obtain⟨h1,h2⟩:=C3 (q:=q) (q':=q') h (by simp[Oper.looks,ho,Op.operands]) hg
    exact cA.wp (anF ho h1 hu h2 hv hb hp) h hd hn
  ·split at hr
   ·rename_i r' ph
    cases hr
    obtain⟨h1,h2⟩:=C3 (q:=q) (q':=q') h (by simp[Oper.looks,ho,Op.operands]) hg
    obtain⟨b,rfl,hm⟩:=anA ho h1 h2 ph
    exact cA.wp hm h hd hn
   unfold Ph at hr
   split at hr
   ·rename_i n c b τ xs _ _
    split at hr
    ·rename_i e hu
     cases hr
     obtain⟨h1,h2⟩:=C3 (q:=q) (q':=.const (.slice none n c)) h (by simp[Oper.looks,ho,Op.operands]) hg
     exact cA.wp (anl ho h1 hu) h hd hn
    ·cases hr
   ·cases hr
 ·
  rename_i q i l ho
  cases hy:l[i]? with
  |none=>rw[hy] at hr;cases hr
  |some y=>
   rw[hy] at hr;cases hr
   exact cA.wp (anz ho (qN h (by simp[Oper.looks,ho,Op.operands]) hg) hy) h hd hn
 ·
  rename_i t ho
  split at hr
  ·rename_i z hz
   split at hr
   ·rename_i x hx
    cases hr
    obtain⟨d,jh⟩:=Tz (by simpa[kindOk,ho] using hk)
    unfold rb at hx
    split at hx
    ·rename_i l hl
     cases hx
     have tH:¬Names σ (d,0):=jq _ (by simp[ct,jh])
     refine ao5 h jh (hd d jh) ho hz hl tH (fun F kv fp a' w' hs=>hn F kv fp a' w' ?_)
     simpa[jh] using hs
    ·cases hx
   ·cases hr
  ·cases hr
 ·
  rename_i t q x ho
  split at hr
  ·rename_i y n g hy qi NP
   split at hr
   ·rename_i r' Ob
    cases hr
    rw[fc] at Ob
    split at Ob
    ·obtain⟨sv,ps,rfl,hm⟩:=ank h ho (qN h (by simp[Oper.looks,ho,Op.operands]) hg) hy qi NP Ob hp
     exact cA.wp hm h hd hn
    ·rw[fc] at Ob
     split at Ob
     ·rename_i L6
      simp only[fY] at L6
      refine amf h hd ho (qN h (by simp[Oper.looks,ho,Op.operands]) hg) hy (fun k hk=>Io hg x (by simp) k ?_) (jp L6.2▸qi) NP Ob hp jq hn
      rw[tS hy];simpa[one,SV.keys,SV.xE] using hk
     ·cases Ob
   split at hr
   ·rename_i r' zc
    cases hr
    obtain⟨sv,ps,rfl,hm⟩:=ano h ho (qN h (by simp[Oper.looks,ho,Op.operands]) hg) hy qi NP zc hp
    exact cA.wp hm h hd hn
   ·refine anf h hd ho (qN h (by simp[Oper.looks,ho,Op.operands]) hg) hy (fun k hk=>Io hg x (by simp) k ?_) qi NP hr hp jq hn
    rw[tS hy];simpa[one,SV.keys,SV.xE] using hk
  ·cases hr
 ·
  rename_i t q q' p x ho
  split at hr
  ·rename_i y n hy hs
   cases hb:Nat.beq n x.cs.length<;>simp only[hb,cond_true,cond_false] at hr
   ·cases hr
   ·obtain⟨h1,h2⟩:=C3 (q:=q) (q':=q') h (by simp[Oper.looks,ho,Op.operands]) hg
    have H4:o.dst=none:=by simpa[kindOk,ho] using hk
    split at hr
    ·rename_i r' zc
     cases hr
     exact amg h H4 ho h1 hy h2 hs (jp hb) zc hp hn
    ·split at hr
     ·rename_i r' zc
      cases hr
      exact ac2 h H4 ho h1 hy h2 hs (jp hb) zc hp hn
     ·split at hr
      ·rename_i r' zc
       cases hr
       exact amh h H4 ho h1 hy h2 hs (jp hb) zc hp hn
      ·rw[fc] at hr
       split at hr
       ·rename_i h1n
        exact am0 h H4 ho h1 hy h2 hs (jp hb) (jp h1n) hr hp hn
       ·cases hr
  ·cases hr
 ·
  rename_i t q f x ho
  split at hr
  ·rename_i y off ft hy hf
   split at hr
   ·rename_i n hs
    have hx:=qN (q:=q) h (by simp[Oper.looks,ho,Op.operands]) hg
    split at hr
    ·cases hr
     exact cA.wp (anu ho hx hy hf hs) h hd hn
    ·cases hr
     exact cA.wp (anw ho hx hy hf hs) h hd hn
    ·rename_i k p i wd oo
     cases hc:eg (restrict σ.aU rs) σ.ay k p<;>simp only[hc,cond_true,cond_false] at hr
     ·cases hr
     ·cases hr
      have hb:gg (aZ σ) (AC.iC (U:=U) k p i wd oo)=false:=by
       simp only[gg]
       have jr:=hc
       unfold eg at jr
       cases hpe:p.isEmpty
       ·rw[hpe] at jr
        simp only[JY,fY] at jr
        obtain⟨e,he⟩:=kH.1 jr.1
        have:=y4 hc he
        rwa[hpe] at this
       ·rfl
      exact cA.wp (anv ho hx hy hb hf hs) h hd hn
    ·cases hr
   ·cases hr
  ·cases hr
 ·
  rename_i t q f cs ho
  split at hr
  ·rename_i off ft hf
   split at hr
   ·rename_i n g hs NP
    cases hb:(Nat.ble (off+n) cs.length&&(g||Nat.beq n 1))<;>simp only[hb,cond_true,cond_false] at hr
    ·cases hr
    ·cases hr
     exact cA.wp (anx ho (qN h (by simp[Oper.looks,ho,Op.operands]) hg) hf hs NP hb) h hd hn
   ·cases hr
  ·cases hr
 ·
  rename_i t parts ho
  split at hr
  ·rename_i pl z wl hz
   split at hr
   ·rename_i l hl
    split at hr
    ·rename_i cs hc
     cases hr
     obtain⟨h1,h2⟩:=pQ h (l:=parts.toList.map (·.2)) (by simp[Oper.looks,ho]) hg
     refine cA.wp (anE ho (by simpa using h1) (fun i x q hx hq=>h2 i x q.2 hx (by rw[mE,hq];rfl)) wl hz hl hc) h hd hn
    ·cases hr
   ·cases hr
  ·cases hr
 ·
  rename_i t len parts ho
  split at hr
  ·rename_i e he
   split at hr
   ·rename_i τ IH
    rw[fc] at hr
    split at hr
    ·rename_i hc
     simp only[fY] at hc
     obtain⟨⟨yL,Fg⟩,hc3⟩:=hc
     rw[fc] at hr
     split at hr
     ·rw[fc] at hr
      split at hr
      ·rename_i hkp
       cases hr
       obtain⟨d,jh⟩:=Tz (by simpa[kindOk,ho] using hk)
       obtain⟨h1,h2⟩:=pQ h (l:=parts.toList.map (·.2)) (by simp[Oper.looks,ho]) hg
       have tH:¬Names σ (d,0):=jq _ (by simp[ct,jh])
       refine anU hE.ok h jh (hd d jh) ho he IH (by simpa using h1) (fun i x q hx hq=>h2 i x q.2 hx (by rw[mE,hq];rfl)) (jp yL) Fg (H6 hc3) hkp tH
        (fun F kv fp a' w' hs=>hn F kv fp a' w' ?_)
       simpa[jh] using hs
      ·cases hr
     split at hr
     ·rename_i ps rows ks dp aey
      rw[fc] at hr
      split at hr
      ·rename_i pj
       cases hr
       obtain⟨d,jh⟩:=Tz (by simpa[kindOk,ho] using hk)
       obtain⟨h1,h2⟩:=pQ h (l:=parts.toList.map (·.2)) (by simp[Oper.looks,ho]) hg
       have tH:¬Names σ (d,0):=jq _ (by simp[ct,jh])
       refine aoM hE.ok h jh (hd d jh) ho he IH (by simpa using h1) (fun i x q hx hq=>h2 i x q.2 hx (by rw[mE,hq];rfl)) (jp yL) Fg (H6 hc3) aey hp (sV.1 pj) tH
        (fun F kv fp a' w' hs=>hn F kv fp a' w' ?_)
       simpa[jh] using hs
      ·cases hr
     ·cases hr
    ·cases hr
   ·cases hr
  ·cases hr
 ·
  rename_i t q q' l c ho
  split at hr
  ·rename_i e n m he hl hc
   split at hr
   ·rename_i τ IH
    cases hr
    obtain⟨d,jh⟩:=Tz (by simpa[kindOk,ho] using hk)
    obtain⟨h1,h2⟩:=C3 (q:=q) (q':=q') h (by simp[Oper.looks,ho,Op.operands]) hg
    have tH:¬Names σ (d,0):=jq _ (by simp[ct,jh])
    refine anH hE.ok h jh (hd d jh) ho he IH h1 hl h2 hc (hp _ (by simp)) (hp _ (by simp)) (hp _ (by simp)) (ps:=[0<=n,n=m,n<=4294967296]) tH (fun F kv fp a' w' hs=>hn F kv fp a' w' ?_)
    simpa[jh] using hs
   ·cases hr
  ·cases hr
 ·
  rename_i t q q' x i ho
  split at hr
  ·rename_i kd n y m hi hy hm
   obtain⟨h1,h2⟩:=C3 (q:=q) (q':=q') h (by simp[Oper.looks,ho,Op.operands]) hg
   split at hr
   ·rename_i τ ys
    rw[fc] at hr
    split at hr
    ·rename_i hb
     cases hr
     exact cA.wp (ant ho h1 hy h2 hi hm (jp hb) (hp _ (by simp[bz.cv])) (hp _ (by simp[bz.cv]))) h hd hn
    ·cases hr
   ·rename_i k p
    split at hr
    ·rename_i ps b ha
     rw[fc] at hr
     split at hr
     ·rename_i hb
      cases hr
      exact cA.wp (anr h ho h1 hy h2 hi hm ha (jp hb) (fun p jf=>hp p (by simp[bz.cv,jf])) (hp _ (by simp[bz.cv])) (hp _ (by simp[bz.cv]))) h hd hn
     ·cases hr
    ·split at hr
     ·rename_i b hpo _
      rw[fc] at hr
      split at hr
      ·rename_i hb
       cases hr
       exact cA.wp (ans h ho h1 hy h2 hi hm hpo (jp hb) (hp _ (by simp[bz.cv])) (hp _ (by simp[bz.cv]))) h hd hn
      ·cases hr
     ·cases hr
   ·cases hr
  ·cases hr
 ·
  rename_i t q q' x i ho
  split at hr
  ·rename_i s kd n hx hi hu
   cases hr
   obtain⟨h1,h2⟩:=C3 (q:=q) (q':=q') h (by simp[Oper.looks,ho,Op.operands]) hg
   exact cA.wp (anq ho h1 hx h2 hi hu (hp _ (by simp[bz.lit,bz.cv])) (hp _ (by simp[bz.lit,bz.cv]))) h hd hn
  ·cases hr
 ·
  rename_i t q lo hi mx x bs ho
  have hl:Oper.looks o=q::(lo.toList++(hi.toList++(mx.toList++[]))):=by simp[Oper.looks,ho,Op.operands]
  obtain⟨g1,g2⟩:=MY hg
  rw[hl] at g1 g2
  have hx:RS E w F kv fp (aZ σ) x (a.eval q):=CT h (g2 0 x q rfl rfl)
  split at hr
  ·rename_i l bs1 js
   obtain⟨k1,k2⟩:=Ll (a:=a) (w:=w) (L:=lo.toList++(hi.toList++(mx.toList++[]))) (L':=hi.toList++(mx.toList++[])) h js rfl ⟨by simpa using g1,fun i y u hy hu=>g2 (i+1) y u (by simpa using hy) (by simpa using hu)⟩
   split at hr
   ·rename_i hh bs2 iY
    obtain⟨k3,k4⟩:=Ll (L':=mx.toList++[]) h iY rfl k2
    split at hr
    ·rename_i m hb3
     obtain⟨k5,k6⟩:=Ll (L':=[]) h hb3 rfl k4
     obtain⟨sv,ps,rfl,hm⟩:=anj h ho hx k1 k3 k5 hr hp
     exact cA.wp hm h hd hn
    ·cases hr
   ·cases hr
  ·cases hr
 ·
  rename_i args argTypes x ho
  split at hr
  ·rename_i t vi
   have wm:Oper.looks o=args.toList:=by simp[Oper.looks,ho]
   obtain⟨g1,g2⟩:=pQ h wm hg
   obtain⟨q,hq⟩:∃q,args.toList=[q]:=by
    match hm:args.toList,g1 with
    |[q],_=>exact⟨q,rfl⟩
   have hx:RS E w F kv fp (aZ σ) x (a.eval q):=g2 0 x q rfl (by rw[hq];rfl)
   split at hr
   ·rename_i s hs
    split at hr
    ·rename_i hu
     cases hr
     exact cA.wp (anp ho rfl hq vi hx hs hu) h hd hn
    ·cases hr
   ·cases hr
   ·split at hr
    ·rename_i e vN pV
     cases hr
     obtain⟨ad,had⟩:=bG (bD hx vN) rfl
     exact cA.wp (ZR (n:=0) ho rfl hq vi ⟨ad,0,had⟩ (y3 pV) (Nat.zero_le _)) h hd hn
    ·rename_i y e vN pV
     split at hr
     ·rename_i ps b ha
      cases hr
      have hrp:=Z_ h ha hp (bD hx vN)
      obtain⟨ad,c,hs,_⟩:=hrp.slice
      exact cA.wp (ZR ho rfl hq vi ⟨ad,c,hs⟩ (y3 pV) hrp.len) h hd hn
     ·split at hr
      ·rename_i b hpo
       cases hr
       obtain⟨k,_,_,kz⟩:=adu h hpo (bD hx vN)
       obtain⟨ad,c,hs,hle⟩:=kz.slice
       exact cA.wp (ZR ho rfl hq vi ⟨ad,c,hs⟩ (y3 pV) hle) h hd hn
      ·cases hr
    ·cases hr
  ·cases hr
 ·
  rename_i args argTypes x ho
  split at hr
  rotate_left
  ·cases hr
  rename_i t vi
  split at hr
  rotate_left
  ·cases hr
  rename_i e k wd lo hi pV vN
  split at hr
  rotate_left
  ·cases hr
  rename_i τ a0 dead hc he
  rw[fc] at hr
  split at hr
  rotate_left
  ·cases hr
  rename_i mH
  split at hr
  rotate_left
  ·cases hr
  rename_i xs N_
  cases hr
  have:=bJ N_
  subst this
  have mH:=jp mH
  subst mH
  have wm:Oper.looks o=args.toList:=by simp[Oper.looks,ho]
  obtain⟨g1,g2⟩:=pQ h wm hg
  obtain⟨q,hq⟩:∃q,args.toList=[q]:=by
   match hm:args.toList,g1 with
   |[q],_=>exact⟨q,rfl⟩
  exact aoD hE.ok h hd ho rfl hq vi pV hc (g2 0 x q rfl (by rw[hq];rfl)) vN (fA he) (hp _ (by simp)) (hp _ (by simp)) hn
 ·
  rename_i args argTypes x y ho
  split at hr
  ·rename_i kd m n hx hy
   rw[fc] at hr
   split at hr
   ·rename_i wT
    have wT:=of_decide_eq_true wT
    subst wT
    cases hr
    have wm:Oper.looks o=args.toList:=by simp[Oper.looks,ho]
    obtain⟨g1,g2⟩:=pQ h wm hg
    obtain⟨q,q',hq⟩:∃q q',args.toList=[q,q']:=by
     match hm:args.toList,g1 with
     |[q,q'],_=>exact⟨q,q',rfl⟩
    have:=adF (b:=true) ho (by rfl) hq (g2 0 x q rfl (by rw[hq];rfl)) hx (g2 1 y q' rfl (by rw[hq];rfl)) hy
    exact cA.wp (by simpa using this) h hd hn
   ·cases hr
  ·cases hr
 ·
  rename_i args argTypes x y ho
  split at hr
  ·rename_i kd m n hx hy
   rw[fc] at hr
   split at hr
   ·rename_i wT
    have wT:=of_decide_eq_true wT
    subst wT
    cases hr
    have wm:Oper.looks o=args.toList:=by simp[Oper.looks,ho]
    obtain⟨g1,g2⟩:=pQ h wm hg
    obtain⟨q,q',hq⟩:∃q q',args.toList=[q,q']:=by
     match hm:args.toList,g1 with
     |[q,q'],_=>exact⟨q,q',rfl⟩
    have:=adF (b:=false) ho (by rfl) hq (g2 0 x q rfl (by rw[hq];rfl)) hx (g2 1 y q' rfl (by rw[hq];rfl)) hy
    exact cA.wp (by simpa using this) h hd hn
   ·cases hr
  ·cases hr
 ·
  rename_i args argTypes s x ho
  split at hr
  ·rename_i t u vi
   split at hr
   ·rename_i e e' ys yx pV apD hs hx
    rw[fc] at hr
    split at hr
    ·rename_i hc
     simp only[fY] at hc
     have htu:t=u:=jp hc.1
     subst htu
     split at hr
     ·rename_i τ IH
      split at hr
      ·rename_i ps xs ks d1 qs zs ks' d2 h1 h2
       rw[fc] at hr
       split at hr
       ·rename_i pj
        cases hr
        obtain⟨d,jh⟩:=Tz (by simpa[kindOk,ho] using hk)
        have wm:Oper.looks o=args.toList:=by simp[Oper.looks,ho]
        obtain⟨g1,g2⟩:=pQ h wm hg
        obtain⟨q,q',hq⟩:∃q q',args.toList=[q,q']:=by
         match hm:args.toList,g1 with
         |[q,q'],_=>exact⟨q,q',rfl⟩
        have tH:¬Names σ (d,0):=jq _ (by simp[ct,jh])
        refine ao1 (pall:=ps++qs++[xs.length+zs.length<=4294967296]) hE.ok h jh (hd d jh) ho rfl hq vi pV IH (g2 0 s q rfl (by rw[hq];rfl)) hs (g2 1 x q' rfl (by rw[hq];rfl)) hx h1 h2 (fun p jf=>hp p (by simp[jf])) (sV.1 pj) (hp _ (by simp)) tH
         (fun F kv fp a' w' hs=>hn F kv fp a' w' ?_)
        simpa[jh] using hs
       ·cases hr
      ·rename_i ps xs ks h1 _
       split at hr
       ·rename_i zs ks' h2
        rw[fc] at hr
        split at hr
        ·rename_i pj
         cases hr
         obtain⟨d,jh⟩:=Tz (by simpa[kindOk,ho] using hk)
         have wm:Oper.looks o=args.toList:=by simp[Oper.looks,ho]
         obtain⟨g1,g2⟩:=pQ h wm hg
         obtain⟨q,q',hq⟩:∃q q',args.toList=[q,q']:=by
          match hm:args.toList,g1 with
          |[q,q'],_=>exact⟨q,q',rfl⟩
         have tH:¬Names σ (d,0):=jq _ (by simp[ct,jh])
         refine ao2 (pall:=ps++[xs.length+zs.length<=4294967296]) hE.ok h jh (hd d jh) ho rfl hq vi pV IH (g2 0 s q rfl (by rw[hq];rfl)) hs (g2 1 x q' rfl (by rw[hq];rfl)) hx h1 h2 (fun p jf=>hp p (by simp[jf])) (sV.1 pj) (hp _ (by simp)) tH
          (fun F kv fp a' w' hs=>hn F kv fp a' w' ?_)
         simpa[jh] using hs
        ·cases hr
       ·cases hr
      ·obtain⟨kt,km,xs,zs,qs,rfl,rfl,h1,h2,Tu,nZ⟩:=ao3 hr
       obtain⟨d,jh⟩:=Tz (by simpa[kindOk,ho] using hk)
       have wm:Oper.looks o=args.toList:=by simp[Oper.looks,ho]
       obtain⟨g1,g2⟩:=pQ h wm hg
       obtain⟨q,q',hq⟩:∃q q',args.toList=[q,q']:=by
        match hm:args.toList,g1 with
        |[q,q'],_=>exact⟨q,q',rfl⟩
       rw[jh] at nZ
       subst nZ
       have tH:¬Names σ (d,0):=jq _ (by simp[ct,jh])
       exact ao4 hE.ok h jh (hd d jh) ho rfl hq vi pV IH (bD (g2 0 s q rfl (by rw[hq];rfl)) hs) (bD (g2 1 x q' rfl (by rw[hq];rfl)) hx) (fA h1) h2 (fun p jf=>hp p (by simp[jf])) Tu (hp _ (by simp)) tH
        (Io hg s (by simp) kt (by rw[tS hs];simp[one,SV.keys,SV.xE,AC.keys])) (Io hg x (by simp) km (by rw[tS hx];simp[one,SV.keys,SV.xE,AC.keys])) hn
     ·cases hr
    ·cases hr
   ·rename_i e ys str pV apD hs hx
    split at hr
    ·rename_i τ hu IH
     split at hr
     ·rename_i ps xs ks d1 zs h1 h2
      rw[fc] at hr
      split at hr
      ·rename_i pj
       cases hr
       obtain⟨d,jh⟩:=Tz (by simpa[kindOk,ho] using hk)
       have wm:Oper.looks o=args.toList:=by simp[Oper.looks,ho]
       obtain⟨g1,g2⟩:=pQ h wm hg
       obtain⟨q,q',hq⟩:∃q q',args.toList=[q,q']:=by
        match hm:args.toList,g1 with
        |[q,q'],_=>exact⟨q,q',rfl⟩
       have tH:¬Names σ (d,0):=jq _ (by simp[ct,jh])
       have hlx:ie x=some (.string str):=by
        unfold sd at hx
        split at hx
        ·cases hx;rfl
        ·cases hx
       refine ao0 (pall:=ps++[xs.length+zs.length<=4294967296]) hE.ok h jh (hd d jh) ho rfl hq vi pV IH (g2 0 s q rfl (by rw[hq];rfl)) hs (g2 1 x q' rfl (by rw[hq];rfl)) hlx hu h1 h2 (fun p jf=>hp p (by simp[jf])) (sV.1 pj) (hp _ (by simp)) tH
        (fun F kv fp a' w' hs=>hn F kv fp a' w' ?_)
       simpa[jh] using hs
      ·cases hr
     ·cases hr
    ·cases hr
   ·cases hr
  ·cases hr
 ·
  rename_i g fst V' ho
  rw[fc] at hr
  split at hr
  ·rename_i apC
   split at hr
   ·rename_i l hl
    cases hr
    have wm:Oper.looks o=(fst++V').toList:=by simp[Oper.looks,ho,Op.operands]
    obtain⟨g1,g2⟩:=pQ h wm hg
    exact cA.wp (anD ho apC hl (by simpa using g1) (by simpa using g2)) h hd hn
   ·cases hr
  ·cases hr
 ·
  rename_i t args argTypes p xs' ho
  have wm:Oper.looks o=.tmp t::args.toList:=by simp[Oper.looks,ho]
  obtain⟨g1,g2⟩:=pQ h wm hg
  have Qb:mC E w F p (a.eval (.tmp t)):=g2 0 (.fn p) (.tmp t) rfl rfl
  obtain⟨g,oe,hv,hf,Dr⟩:=Qb
  unfold Dx at hr
  split at hr
  ·rename_i ps ds EC
   have main:∀(v:Value)(HV:List Prop),(∀q∈ps++[p ds=some v],q)->r=⟨some (uX v),[],[],[],HV,[]⟩->o.wp E.P a w next Q:=by
    intro v HV hq hr
    have hda:=aou (K:=(xs'.flatMap SV.keys).filter fun k=>(σ.aU k).isSome) (vs:=args.toList.map a.eval) h EC (fun q hq'=>hq q (by simp[hq'])) (by simpa using g1) (fun i x u hx hu=>by
     rw[mE] at hu
     cases hq:args.toList[i]? with
     |none=>rw[hq] at hu;cases hu
     |some q=>rw[hq] at hu;cases hu;exact g2 (i+1) x q (by simpa using hx) (by simpa using hq)) (fun x hx k hk hs=>CD.2 ⟨ln.2 ⟨x,hx,hk⟩,hs⟩)
    have fx:∀b,FK F fp ((xs'.flatMap SV.keys).filter fun k=>(σ.aU k).isSome) b->b<w.heap.size:=by
     rintro b (hb|⟨k,hk,hb⟩)
     ·exact h.lT b hb
     ·obtain⟨e,he⟩:=kH.1 (CD.1 hk).2
      exact(h.cU k e b he hb).2.2
    have hc:=Dr ds v (hq _ (by simp)) w _ (fun b hb=>⟨.inl hb,rfl⟩) fx _ hda
    show o.upon E.P a next Q ((execOp a.eval o).run E.P w)
    rw[amF ho rfl hv hf,Oper.upon_enter]
    refine hc.mono ?_
    rintro e w' ⟨rfl,PV,kx⟩
    show next (a.put o.dst v) w'
    refine hn F kv fp _ w' ?_
    rw[hr]
    exact h.alU kx o _ _ v hd (fun x hx=>by cases hx;exact mB PV)
   split at hr
   ·have nZ:=(X2 hr).symm
    exact main _ _ (by rw[nZ] at hp;exact hp) nZ
   ·have nZ:=(X2 hr).symm
    exact main _ _ (by rw[nZ] at hp;exact hp) nZ
   ·cases hr
  ·cases hr
 ·
  rename_i f args argTypes ho
  have wm:Oper.looks o=args.toList:=by simp[Oper.looks,ho]
  obtain⟨g1,g2⟩:=pQ h wm hg
  split at hr
  ·rename_i τ fa
   exact aoy hE.ok h hd ho rfl fa g1 g2 hr hp jq hn
  ·split at hr
   ·rename_i ps cs api
    cases hr
    exact amU hE.ok h hd ho rfl g1 (Io hg) g2 api hp hn
   ·split at hr
    ·rename_i q hq
     exact amm hE.ok h hd ho rfl hq g1 (Io hg) g2 hr hp hn
    ·split at hr
     ·rename_i k apE
      obtain⟨hf,hs⟩:=hE.Uq apE
      exact aoI hE.NU h hd ho rfl hf hs g1 (Io hg) g2 hr hp jq hn
     ·cases hr
 ·
  rename_i t q x ho
  rw[fc] at hr
  split at hr
  ·rename_i hc
   simp only[fY] at hc
   cases hr
   obtain⟨d,jh⟩:=Tz (by simpa[kindOk,ho] using hk)
   have tH:¬Names σ (d,0):=jq _ (by simp[ct,jh])
   refine aoN h jh (hd d jh) ho (qN h (by simp[Oper.looks,ho,Op.operands]) hg) (fun y hy k hk=>Io hg (.v x) (by simp) k (SV.mem_keys.2 ⟨y,hy,hk⟩)) hc.1 tH (fun F kv fp a' w' hs=>hn F kv fp a' w' ?_)
   simpa[jh] using hs
  ·cases hr
 ·
  rename_i q x ho
  have hx:=qN (q:=q) h (by simp[Oper.looks,ho,Op.operands]) hg
  split at hr
  ·rename_i cs vN
   cases hr
   obtain⟨b,o',h1,_⟩:=bG (bD hx vN) rfl
   exact cA.wp (ZQ ho hx h1) h hd hn
  ·rename_i k off vN
   cases hr
   obtain⟨b,_,h1⟩:=bG (bD hx vN) rfl
   exact cA.wp (ZQ ho hx h1) h hd hn
  ·rename_i k p i wd off vN
   rw[fc] at hr
   split at hr
   ·rename_i fa
    cases hr
    obtain⟨b,o',n,c,_,h1⟩:=bG (bD hx vN) (ad4 (x:=.iC k p i wd off) fa)
    exact cA.wp (ZQ ho hx h1) h hd hn
   ·cases hr
  ·cases hr
 ·
  rename_i s d q x ho
  have hx:=qN (q:=q) h (by simp[Oper.looks,ho,Op.operands]) hg
  split at hr
  ·rename_i k J3
   split at hr
   ·rename_i k0 k' n sO hl
    cases hr
    exact cA.wp (anB ho hx hl J3 sO) h hd hn
   ·cases hr
  ·rename_i J3
   split at hr
   ·rename_i e sO
    split at hr
    ·rename_i hue vN
     cases hr
     obtain⟨ad,h1⟩:=bG (bD hx vN) rfl
     refine cA.wp (sv:=uX (.string ByteArray.empty)) ⟨.string ByteArray.empty,?_,mB ⟨rfl,by decide⟩⟩ h hd hn
     unfold execOp;simp only[ho,h1]
     exact gF (ad2 sO hue J3 ad 0)
    ·rename_i y hue vN
     split at hr
     ·rename_i ps b ha
      split at hr
      ·rename_i ys hys
       cases hr
       have:=bJ hys
       subst this
       exact cA.wp (anC ho (xB h ha (fun p jf=>hp p jf) (bD hx vN)) sO hue J3) h hd hn
      ·cases hr
     ·cases hr
    ·cases hr
   ·cases hr
  ·cases hr
 ·cases hr
theorem amk(hE:E.Good)(h:cd E pm F kv fp σ a w){b:Bool}{o:Oper}{r:bz U}{ks:List Key}(hs:step E b σ o=some (r,ks))(hp:∀p∈r.pre,p)(jq:∀k∈ct o r,¬Names σ k)
  {next:Act->World->Prop} {Q:Exit->Act->World->Prop} (hn:∀F kv fp a' w',cd E pm F kv fp (AM.apply o r σ) a' w'->next a' w'):o.wp E.P a w next Q:=by
 unfold step at hs
 rw[fc] at hs
 split at hs
 ·rename_i hc
  simp only[fY] at hc
  have hd:∀d,o.dst=some d->d<σ.n:=by
   intro d hd
   have:=hc.1
   unfold pX at this
   rw[hd] at this
   exact Nat.blt_eq▸this
  split at hs
  ·rename_i c x y ho
   split at hs
   ·rename_i t ht
    have hct:∃sc,Ku σ c=some sc/\ie sc=some (.bool t):=by
     unfold y6 ES at ht
     split at ht
     ·rename_i sc hsc;exact⟨sc,hsc,ht⟩
     ·cases ht
    obtain⟨sc,h1,h2⟩:=hct
    cases t with
    |true=>
     simp only[cond_true] at hs
     split at hs
     ·rename_i sv rD
      cases hs
      exact cA.wp (adE ho (CT h h1) h2 (by simpa using CT h rD)) h hd hn
     ·cases hs
    |false=>
     simp only[cond_false] at hs
     split at hs
     ·rename_i sv rD
      cases hs
      exact cA.wp (adE ho (CT h h1) h2 (by simpa using CT h rD)) h hd hn
     ·cases hs
   ·cases hs
  ·split at hs
   ·rename_i xs hg
    split at hs
    ·rename_i r' hr
     cases hs
     exact aoc hE h hd hc.2 hg hr hp jq hn
    ·cases hs
   ·cases hs
 ·cases hs
end AM
