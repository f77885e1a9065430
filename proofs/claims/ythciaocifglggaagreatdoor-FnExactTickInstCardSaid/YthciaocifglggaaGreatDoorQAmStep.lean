import Derived.Test.YthciaocifglggaaGreatDoorQAmOps9
import Derived.Test.YthciaocifglggaaGreatDoorQAmPart2
import Derived.Test.YthciaocifglggaaGreatDoorQAmOps10
namespace AM
set_option linter.unusedVariables false
open Go
variable{U:kz}{E:Env U}{pm:Pm}
variable{F F':Nat->Prop}{kv:Key->Value}{fp:Key->List Nat}{σ:af U}{a:Act}{w w':World}{bad:Key->Bool}
theorem cv.wp{o:Oper}{sv:SV U}{ps:List Prop}(hm:cv E F kv fp (bW σ) a w o sv)(h:cG E pm F kv fp σ a w)(hd:∀d,o.dst=some d->d<σ.n){next:Act->World->Prop}{Q:Exit->Act->World->Prop}
  (hn:∀F kv fp a' w',cG E pm F kv fp (AM.apply o ⟨some sv,[],[],[],ps⟩ σ) a' w'->next a' w'):o.wp E.P a w next Q:=by
 obtain⟨v,hr,hv⟩:=hm
 exact qd hr (hn _ _ _ _ _ (h.val o (some sv) ps v hd (by rintro x ⟨⟩;exact hv)))
theorem Kc{o:Oper}{xs:List (SV U)}(h:pi σ o=some xs):xs.length=(Oper.looks o).length/\∀(i:Nat)(x:SV U)(q:Operand),xs[i]? =some x->(Oper.looks o)[i]? =some q->H4 σ q=some x:=by
 obtain⟨h1,h2⟩:=aaw h
 refine⟨h1,fun i x q hx hq=> ?_⟩
 obtain⟨y,hy,ho⟩:=h2 i q hq
 rw[hx] at hy;cases hy;exact ho
theorem akb{q:Operand}{x:SV U}(h:H4 σ q=some x):∀k∈x.keys,Names σ k:=by
 cases q with
 |tmp t=>exact fun k hk=> .inl ⟨t,x,h,hk⟩
 |global g=>cases h
 |func f=>cases h;intro k hk;simp[SV.keys,SV.yL] at hk
 |const v=>
  intro k hk
  exfalso
  have hc:∀{v:Value}{y:AC U},nC v=some y->y.keys=[]:=by
   intro v y hy
   unfold nC at hy
   split at hy
   ·cases hy;rfl
   ·cases hy;rfl
   ·rw[gT] at hy;split at hy<;>cases hy;rfl
   ·cases hy;rfl
   ·rw[gT] at hy;split at hy<;>cases hy;rfl
   ·cases hy
  have sN:∀{vs:List Value}{ys:List (AC U)},jn vs=some ys->∀y∈ys,y.keys=[]:=by
   intro vs
   induction vs with
   |nil=>intro ys hy y hy';cases hy;cases hy'
   |cons v vs ih=>
    intro ys hy y hy'
    simp only[jn] at hy
    split at hy
    ·rename_i y1 ys1 h1 h2
     cases hy
     rcases jw.1 hy' with rfl|hy'
     ·exact hc h1
     ·exact ih h2 y hy'
    ·cases hy
  simp only[H4] at h
  unfold Ef at h
  split at h
  ·unfold pS at h
   split at h
   ·rename_i l hl
    cases h
    obtain⟨y,hy,w6⟩:=SV.mem_keys.1 hk
    rw[sN hl y hy] at w6;cases w6
   ·cases h
  ·split at h
   ·rename_i y hy
    cases h
    obtain⟨z,hz,w6⟩:=SV.mem_keys.1 hk
    simp only[one,SV.yL,oa] at hz
    subst hz
    rw[hc hy] at w6;cases w6
   ·cases h
theorem IU{b:Option Operand}{bs Yk:List (SV U)}{l:Option Int}(h:cG E pm F kv fp σ a w)(hb:De b bs=some (l,Yk)){L L':List Operand}(hL:L=b.toList++L')
  (hv:bs.length=L.length/\∀(i:Nat)(x:SV U)(q:Operand),bs[i]? =some x->L[i]? =some q->H4 σ q=some x):
  RP l (b.map a.eval)/\Yk.length=L'.length/\∀(i:Nat)(x:SV U)(q:Operand),Yk[i]? =some x->L'[i]? =some q->H4 σ q=some x:=by
 rcases alL hb with⟨rfl,rfl,rfl⟩|⟨y,sy,k,n,rfl,rfl,h1,rfl⟩
 ·subst hL
  exact⟨.inl ⟨rfl,rfl⟩,by simpa using hv.1,fun i x q hx hq=>hv.2 i x q hx (by simpa using hq)⟩
 ·subst hL
  have hy:=hv.2 0 sy y rfl rfl
  have:=og (AK h hy) h1
  exact⟨.inr ⟨k,n,rfl,by simp[this]⟩,by simpa using hv.1,fun i x q hx hq=>hv.2 (i+1) x q (by simpa using hx) (by simpa using hq)⟩
section
variable(E)
structure Env.Good:Prop where
 ok:E.Ok
 K3:∀f k,E.K3 f=some k->wB E.P f/\ee E f k
 K0:∀f k,E.K0 f=some k->wB E.P f/\ee E f k
theorem Env.Good.QV{E:Env U}(h:E.Good){b:Bool}{f:FuncId}{k:jH U}(hk:E.QV b f=some k):wB E.P f/\ee E f k:=by
 cases b with
 |false=>exact h.K3 f k hk
 |true=>exact h.K0 f k hk
end
theorem rq(h:cG E pm F kv fp σ a w){o:Oper}{q:Operand}{x:SV U}(hl:Oper.looks o=[q])(hg:pi σ o=some [x]):RS E w F kv fp (bW σ) x (a.eval q):=
 AK h ((Kc hg).2 0 x q rfl (by rw[hl];rfl))
theorem A5(h:cG E pm F kv fp σ a w){o:Oper}{q q':Operand}{x y:SV U}(hl:Oper.looks o=[q,q'])(hg:pi σ o=some [x,y]):
  RS E w F kv fp (bW σ) x (a.eval q)/\RS E w F kv fp (bW σ) y (a.eval q'):=
 ⟨AK h ((Kc hg).2 0 x q rfl (by rw[hl];rfl)),AK h ((Kc hg).2 1 y q' rfl (by rw[hl];rfl))⟩
theorem pG(h:cG E pm F kv fp σ a w){o:Oper}{l:List Operand}{xs:List (SV U)}(hl:Oper.looks o=l)(hg:pi σ o=some xs):
  xs.length=l.length/\(∀(i:Nat)(x:SV U)(q:Operand),xs[i]? =some x->l[i]? =some q->RS E w F kv fp (bW σ) x (a.eval q)):=by
 obtain⟨h1,h2⟩:=Kc hg
 rw[hl] at h1 h2
 exact⟨h1,fun i x q hx hq=>AK h (h2 i x q hx hq)⟩
theorem Wt{o:Oper}{xs:List (SV U)}(hg:pi σ o=some xs):∀x∈xs,∀k∈x.keys,Names σ k:=by
 intro x hx k hk
 obtain⟨i,hi,rfl⟩:=tX hx
 obtain⟨h1,h2⟩:=Kc hg
 have fX:i<(Oper.looks o).length:=by omega
 exact akb (h2 i xs[i] (Oper.looks o)[i] (gg hi) (gg fX)) k hk
theorem cG.ajn{F:Nat->Prop}{kv:Key->Value}{fp:Key->List Nat}{σ:af U}{a:Act}{w w':World}(h:cG E pm F kv fp σ a w)(hu:gy (fun _=>False) w w')(o:Oper)(sv:Option (SV U))(ps:List Prop)(v:Value)
  (hd:∀d,o.dst=some d->d<σ.n) (hv:∀x,sv=some x->RS E w' F kv fp (bW σ) x v):
  cG E pm F kv fp (AM.apply o ⟨sv,[],[],[],ps⟩ σ) (a.put o.dst v) w':=by
 have hb:bW (AM.apply o ⟨sv,[],[],[],ps⟩ σ)=bW σ:=rfl
 refine h.apply (F':=F) (kv':=kv) (fp':=fp) (w':=w') o _ v hd ?_ (fun _ _=>rfl) (fun _ _ _=>rfl) ?_ (fun b hb=>⟨hb,hu.block b (h.rI b hb) (fun x=>x)⟩) (fun k e _ _ _ he b hb=>hu.block b (h.ff k e b he hb).2.2 (fun x=>x)) ?_ ?_ ?_
  (fun b hb=>Y' (h.rI b hb) hu.size) h.rH (h.upto.trans (hu.mono (fun i hi=>hi.elim))) hu.size
 ·intro x hx;rw[hb];exact hv x hx
 ·intro k hk;simp[du] at hk
 ·intro k e hk;simp at hk
 ·intro k e b _ _ _ he hbb;exact(h.ff k e b he hbb).1
 ·intro k k' b _ hk;simp[du,jp] at hk
theorem ajY{P:Program}{w:World}{a:Act}{o:Oper}{cl:Call}{q:Operand}{f:FuncId}{n0:Array Value}(p5:o.op=.call cl)(gU:cl.callee=.value q)(hq:a.eval q=.func (.func f) #[] n0)(hf:wB P f):
  (execOp a.eval o).run P w=.ok (.enter f ((cl.args.toList.map a.eval).toArray++n0)) w:=by
 obtain⟨fn,h1,h2,h3⟩:=hf
 have e:execOp a.eval o=callFunc f (#[]++cl.args.map a.eval++n0):=by
  unfold execOp
  rw[p5]
  simp only[resolve,gU,hq]
  rfl
 rw[e]
 have e2:(#[]++cl.args.map a.eval++n0:Array Value)=(cl.args.toList.map a.eval).toArray++n0:=by
  apply Array.ext'
  simp
 rw[e2]
 have h4:fn.body≠none:=by cases hb:fn.body<;>simp[hb] at h2⊢
 have h5:fn.name≠ "runtime.NumGoroutine" :=by simpa using h3
 simp[callFunc,go_sem,h1,h4,h5]
theorem als(h:cG E pm F kv fp σ a w){rs:List Key}{K:List Key}:∀{xs:List (SV U)}{ws:List (List (Option U.Ty))}{vs:List Value}{ps:List Prop}{ds:List (DA U)},xS (restrict σ.bH rs) σ.aC ws xs=some (ps,ds)->(∀p∈ps,p)->xs.length=vs.length->
  (∀(i:Nat)(x:SV U)(u:Value),xs[i]? =some x->vs[i]? =some u->RS E w F kv fp (bW σ) x u)->(∀x∈xs,∀k∈x.keys,(σ.bH k).isSome=true->k∈K)->aja E w (FK F fp K) ds vs:=by
 intro xs
 induction xs with
 |nil=>
  intro ws vs ps ds hc hp hl hx hK
  simp only[xS,fJ,nE] at hc
  obtain⟨rfl,rfl⟩:=hc
  exact⟨by simpa using hl,fun i d v hd=>by simp at hd⟩
 |cons x xs ih=>
  intro ws vs ps ds hc hp hl hx hK
  cases vs with
  |nil=>simp at hl
  |cons v vs=>
   simp only[xS] at hc
   split at hc
   ·rename_i ON c WJ Yf h1 h2
    cases hc
    obtain⟨i1,i2⟩:=ih h2 (fun p j_=>hp p (by simp[j_])) (by simpa using hl) (fun i y u hy hu=>hx (i+1) y u (by simpa using hy) (by simpa using hu)) (fun y hy=>hK y (bi _ hy))
    obtain⟨g1,_⟩:mg E w (FK F fp K) .ro (.one c) v []:=PM h h1 (fun p j_=>hp p (by simp[j_])) (hx 0 x v rfl rfl) (hK x dw)
    refine⟨by simp[i1],fun i d u hd hu=> ?_⟩
    cases i with
    |zero=>
     simp only[sB,fJ] at hd hu
     subst hd;subst hu
     exact⟨[v],rfl,fun i c' ln=>by
      cases i with
      |zero=>simp only[sB,fJ] at ln;subst ln;exact g1
      |succ i=>simp at ln,rfl⟩
    |succ i=>exact i2 i d u (by simpa using hd) (by simpa using hu)
   ·rename_i ON cs WJ Yf h1 h2
    cases hc
    obtain⟨i1,i2⟩:=ih h2 (fun p j_=>hp p (by simp[j_])) (by simpa using hl) (fun i y u hy hu=>hx (i+1) y u (by simpa using hy) (by simpa using hu)) (fun y hy=>hK y (bi _ hy))
    obtain⟨us,g1,g2,g3,_⟩:mg E w (FK F fp K) .ro (.agg cs) v []:=PM h h1 (fun p j_=>hp p (by simp[j_])) (hx 0 x v rfl rfl) (hK x dw)
    refine⟨by simp[i1],fun i d u hd hu=> ?_⟩
    cases i with
    |zero=>
     simp only[sB,fJ] at hd hu
     subst hd;subst hu
     exact⟨us,g2,g3,g1⟩
    |succ i=>exact i2 i d u (by simpa using hd) (by simpa using hu)
   ·cases hc
theorem abk:∀{xs:List (SV U)}{l:List (AV U)},xT xs=some l->xs=l.map SV.v
 |[],l,h=>by cases h;rfl
 | .v x::r,l,h=>by
  simp only[xT] at h
  split at h
  ·rename_i l' hl;cases h;rw[abk hl];rfl
  ·cases h
 | .tJ _::r,l,h=>by simp[xT] at h
 | .fn _::r,l,h=>by simp[xT] at h
 | .Db _ _::r,l,h=>by simp[xT] at h
theorem akJ{bad:Key->Bool}{o:Oper}{g:FuncId}{fst SM:Array Operand}{xs:List (SV U)}{l:List (AV U)}(ho:o.op=.makeFunc (.func g) fst SM)(he:fst.isEmpty=true)(hl:xT xs=some l)
  (h1:xs.length=(fst++SM).toList.length) (h2:∀(i:Nat)(x:SV U)(q:Operand),xs[i]? =some x->(fst++SM).toList[i]? =some q->RS E w F kv fp bad x (a.eval q)):cv E F kv fp bad a w o (.Db g l):=by
 have hf:fst= #[]:=by simpa using he
 subst hf
 have hx:=abk hl
 subst hx
 refine⟨.func (.func g) #[] (SM.map a.eval),?_,⟨(SM.map a.eval).toList,by rw[Array.toArray_toList],by simpa using h1,fun i x u hx hu=> ?_⟩⟩
 ·unfold execOp;simp only[ho]
  have e:Array.map a.eval #[]= #[]:=by simp
  rw[e]
  exact ic rfl
 ·rw[Zv,lZ] at hu
  cases hq:SM.toList[i]? with
  |none=>rw[hq] at hu;cases hu
  |some q=>
   rw[hq] at hu;cases hu
   exact h2 i (.v x) q (by rw[lZ,hx];rfl) (by simpa using hq)
theorem ala(hE:E.Good)(h:cG E pm F kv fp σ a w){o:Oper}(hd:∀d,o.dst=some d->d<σ.n)(hk:kindOk o=true){xs:List (SV U)}(hg:pi σ o=some xs){rs:List Key}{r:ch U}
  {b:Bool} (hr:xd E b (restrict σ.bH rs) σ.aC o xs=some r) (hp:∀p∈r.pre,p) (ng:∀k∈du o r,¬Names σ k) {next:Act->World->Prop} {Q:Exit->Act->World->Prop}
  (hn:∀F kv fp a' w',cG E pm F kv fp (AM.apply o r σ) a' w'->next a' w'):o.wp E.P a w next Q:=by
 have Sg:∀{t:Option Nat},t.isSome=true->∃d,t=some d:=fun h=>lJ.1 h
 unfold xd at hr
 simp only at hr
 split at hr
 ·
  rename_i q x ho
  cases hr
  exact cv.wp (aku ho (rq h (by simp[Oper.looks,ho,Op.operands]) hg)) h hd hn
 ·
  rename_i q x ho
  cases hr
  exact cv.wp (akM ho (rq h (by simp[Oper.looks,ho,Op.operands]) hg)) h hd hn
 ·
  rename_i op t q x ho
  split at hr
  ·rename_i v hv
   cases hu:Gl op v with
   |none=>rw[hu] at hr;cases hr
   |some u=>
    rw[hu] at hr;cases hr
    exact cv.wp (akq ho (rq h (by simp[Oper.looks,ho,Op.operands]) hg) hv hu) h hd hn
  ·cases hr
 ·
  rename_i op t q q' t' x y ho
  split at hr
  ·rename_i u v hu hv
   cases hb:A8 E t op u v with
   |none=>rw[hb] at hr;cases hr
   |some pv=>
    obtain⟨ps,v'⟩:=pv
    rw[hb] at hr;cases hr
    obtain⟨h1,h2⟩:=A5 (q:=q) (q':=q') h (by simp[Oper.looks,ho,Op.operands]) hg
    exact cv.wp (akL ho h1 hu h2 hv hb hp) h hd hn
  ·split at hr
   ·rename_i r' nV
    cases hr
    obtain⟨h1,h2⟩:=A5 (q:=q) (q':=q') h (by simp[Oper.looks,ho,Op.operands]) hg
    obtain⟨b,rfl,hm⟩:=akG ho h1 h2 nV
    exact cv.wp hm h hd hn
   unfold Ms at hr
   split at hr
   ·rename_i n c b τ xs _ _
    split at hr
    ·rename_i e hu
     cases hr
     obtain⟨h1,h2⟩:=A5 (q:=q) (q':=.const (.slice none n c)) h (by simp[Oper.looks,ho,Op.operands]) hg
     exact cv.wp (akt ho h1 hu) h hd hn
    ·cases hr
   ·cases hr
 ·
  rename_i q i l ho
  cases hy:l[i]? with
  |none=>rw[hy] at hr;cases hr
  |some y=>
   rw[hy] at hr;cases hr
   exact cv.wp (akF ho (rq h (by simp[Oper.looks,ho,Op.operands]) hg) hy) h hd hn
 ·
  rename_i t ho
  split at hr
  ·rename_i z hz
   split at hr
   ·rename_i x hx
    cases hr
    obtain⟨d,jU⟩:=Sg (by simpa[kindOk,ho] using hk)
    unfold pS at hx
    split at hx
    ·rename_i l hl
     cases hx
     have uo:¬Names σ (d,0):=ng _ (by simp[du,jU])
     refine alZ h jU (hd d jU) ho hz hl uo (fun F kv fp a' w' hs=>hn F kv fp a' w' ?_)
     simpa[jU] using hs
    ·cases hx
   ·cases hr
  ·cases hr
 ·
  rename_i t q x ho
  split at hr
  ·rename_i y n g hy tF Qy
   split at hr
   ·rename_i r' Ql
    cases hr
    rw[gT] at Ql
    split at Ql
    ·obtain⟨sv,ps,rfl,hm⟩:=aks h ho (rq h (by simp[Oper.looks,ho,Op.operands]) hg) hy tF Qy Ql hp
     exact cv.wp hm h hd hn
    ·cases Ql
   split at hr
   ·rename_i r' Cj
    cases hr
    obtain⟨sv,ps,rfl,hm⟩:=akv h ho (rq h (by simp[Oper.looks,ho,Op.operands]) hg) hy tF Qy Cj hp
    exact cv.wp hm h hd hn
   ·refine akn h hd ho (rq h (by simp[Oper.looks,ho,Op.operands]) hg) hy (fun k hk=>Wt hg x (by simp) k ?_) tF Qy hr hp ng hn
    rw[Hn hy];simpa[one,SV.keys,SV.yL] using hk
  ·cases hr
 ·
  rename_i t q q' p x ho
  split at hr
  ·rename_i y n hy hs
   cases hb:Nat.beq n x.cs.length<;>simp only[hb,cond_true,cond_false] at hr
   ·cases hr
   ·obtain⟨h1,h2⟩:=A5 (q:=q) (q':=q') h (by simp[Oper.looks,ho,Op.operands]) hg
    have Js:o.dst=none:=by simpa[kindOk,ho] using hk
    split at hr
    ·rename_i r' Cj
     cases hr
     exact ajD h Js ho h1 hy h2 hs (lN hb) Cj hp hn
    ·split at hr
     ·rename_i r' Cj
      cases hr
      exact ajE h Js ho h1 hy h2 hs (lN hb) Cj hp hn
     ·exact ajF h Js ho h1 hy h2 hs (lN hb) hr hp hn
  ·cases hr
 ·
  rename_i t q f x ho
  split at hr
  ·rename_i y off ft hy hf
   split at hr
   ·rename_i n hs
    have hx:=rq (q:=q) h (by simp[Oper.looks,ho,Op.operands]) hg
    split at hr
    ·cases hr
     exact cv.wp (akB ho hx hy hf hs) h hd hn
    ·cases hr
     exact cv.wp (akD ho hx hy hf hs) h hd hn
    ·rename_i k p i wd oo
     cases hc:fg (restrict σ.bH rs) σ.aC k p<;>simp only[hc,cond_true,cond_false] at hr
     ·cases hr
     ·cases hr
      have hb:io (bW σ) (AC.kM (U:=U) k p i wd oo)=false:=by
       simp only[io]
       have ln:=hc
       unfold fg at ln
       cases hpe:p.isEmpty
       ·rw[hpe] at ln
        simp only[Hv,eE] at ln
        obtain⟨e,he⟩:=lJ.1 ln.1
        have:=DF hc he
        rwa[hpe] at this
       ·rfl
      exact cv.wp (akC ho hx hy hb hf hs) h hd hn
    ·cases hr
   ·cases hr
  ·cases hr
 ·
  rename_i t q f cs ho
  split at hr
  ·rename_i off ft hf
   split at hr
   ·rename_i n g hs Qy
    cases hb:(Nat.ble (off+n) cs.length&&(g||Nat.beq n 1))<;>simp only[hb,cond_true,cond_false] at hr
    ·cases hr
    ·cases hr
     exact cv.wp (akE ho (rq h (by simp[Oper.looks,ho,Op.operands]) hg) hf hs Qy hb) h hd hn
   ·cases hr
  ·cases hr
 ·
  rename_i t parts ho
  split at hr
  ·rename_i pl z yB hz
   split at hr
   ·rename_i l hl
    split at hr
    ·rename_i cs hc
     cases hr
     obtain⟨h1,h2⟩:=pG h (l:=parts.toList.map (·.2)) (by simp[Oper.looks,ho]) hg
     refine cv.wp (akK ho (by simpa using h1) (fun i x q hx hq=>h2 i x q.2 hx (by rw[lZ,hq];rfl)) yB hz hl hc) h hd hn
    ·cases hr
   ·cases hr
  ·cases hr
 ·
  rename_i t len parts ho
  split at hr
  ·rename_i e he
   split at hr
   ·rename_i τ HA
    rw[gT] at hr
    split at hr
    ·rename_i hc
     simp only[eE] at hc
     obtain⟨⟨B0,Jt⟩,hc3⟩:=hc
     rw[gT] at hr
     split at hr
     ·rw[gT] at hr
      split at hr
      ·rename_i hkp
       cases hr
       obtain⟨d,jU⟩:=Sg (by simpa[kindOk,ho] using hk)
       obtain⟨h1,h2⟩:=pG h (l:=parts.toList.map (·.2)) (by simp[Oper.looks,ho]) hg
       have uo:¬Names σ (d,0):=ng _ (by simp[du,jU])
       refine akW hE.ok h jU (hd d jU) ho he HA (by simpa using h1) (fun i x q hx hq=>h2 i x q.2 hx (by rw[lZ,hq];rfl)) (lN B0) Jt (FH hc3) hkp uo
        (fun F kv fp a' w' hs=>hn F kv fp a' w' ?_)
       simpa[jU] using hs
      ·cases hr
     split at hr
     ·rename_i ps rows ks dp abK
      rw[gT] at hr
      split at hr
      ·rename_i qp
       cases hr
       obtain⟨d,jU⟩:=Sg (by simpa[kindOk,ho] using hk)
       obtain⟨h1,h2⟩:=pG h (l:=parts.toList.map (·.2)) (by simp[Oper.looks,ho]) hg
       have uo:¬Names σ (d,0):=ng _ (by simp[du,jU])
       refine alJ hE.ok h jU (hd d jU) ho he HA (by simpa using h1) (fun i x q hx hq=>h2 i x q.2 hx (by rw[lZ,hq];rfl)) (lN B0) Jt (FH hc3) abK hp (rW.1 qp) uo
        (fun F kv fp a' w' hs=>hn F kv fp a' w' ?_)
       simpa[jU] using hs
      ·cases hr
     ·cases hr
    ·cases hr
   ·cases hr
  ·cases hr
 ·
  rename_i t q q' l c ho
  split at hr
  ·rename_i e n m he hl hc
   split at hr
   ·rename_i τ HA
    cases hr
    obtain⟨d,jU⟩:=Sg (by simpa[kindOk,ho] using hk)
    obtain⟨h1,h2⟩:=A5 (q:=q) (q':=q') h (by simp[Oper.looks,ho,Op.operands]) hg
    have uo:¬Names σ (d,0):=ng _ (by simp[du,jU])
    refine akN hE.ok h jU (hd d jU) ho he HA h1 hl h2 hc (hp _ (by simp)) (hp _ (by simp)) (hp _ (by simp)) (ps:=[0<=n,n=m,n<=4294967296]) uo (fun F kv fp a' w' hs=>hn F kv fp a' w' ?_)
    simpa[jU] using hs
   ·cases hr
  ·cases hr
 ·
  rename_i t q q' x i ho
  split at hr
  ·rename_i kd n y m hi hy hm
   obtain⟨h1,h2⟩:=A5 (q:=q) (q':=q') h (by simp[Oper.looks,ho,Op.operands]) hg
   split at hr
   ·rename_i τ ys
    rw[gT] at hr
    split at hr
    ·rename_i hb
     cases hr
     exact cv.wp (akA ho h1 hy h2 hi hm (lN hb) (hp _ (by simp[ch.cE])) (hp _ (by simp[ch.cE]))) h hd hn
    ·cases hr
   ·rename_i k p
    split at hr
    ·rename_i ps b ha
     rw[gT] at hr
     split at hr
     ·rename_i hb
      cases hr
      exact cv.wp (aky h ho h1 hy h2 hi hm ha (lN hb) (fun p j_=>hp p (by simp[ch.cE,j_])) (hp _ (by simp[ch.cE])) (hp _ (by simp[ch.cE]))) h hd hn
     ·cases hr
    ·split at hr
     ·rename_i b hpo _
      rw[gT] at hr
      split at hr
      ·rename_i hb
       cases hr
       exact cv.wp (akz h ho h1 hy h2 hi hm hpo (lN hb) (hp _ (by simp[ch.cE])) (hp _ (by simp[ch.cE]))) h hd hn
      ·cases hr
     ·cases hr
   ·cases hr
  ·cases hr
 ·
  rename_i t q q' x i ho
  split at hr
  ·rename_i s kd n hx hi hu
   cases hr
   obtain⟨h1,h2⟩:=A5 (q:=q) (q':=q') h (by simp[Oper.looks,ho,Op.operands]) hg
   exact cv.wp (akx ho h1 hx h2 hi hu (hp _ (by simp[ch.lit,ch.cE])) (hp _ (by simp[ch.lit,ch.cE]))) h hd hn
  ·cases hr
 ·
  rename_i t q lo hi mx x bs ho
  have hl:Oper.looks o=q::(lo.toList++(hi.toList++(mx.toList++[]))):=by simp[Oper.looks,ho,Op.operands]
  obtain⟨g1,g2⟩:=Kc hg
  rw[hl] at g1 g2
  have hx:RS E w F kv fp (bW σ) x (a.eval q):=AK h (g2 0 x q rfl rfl)
  split at hr
  ·rename_i l bs1 rF
   obtain⟨k1,k2⟩:=IU (a:=a) (w:=w) (L:=lo.toList++(hi.toList++(mx.toList++[]))) (L':=hi.toList++(mx.toList++[])) h rF rfl ⟨by simpa using g1,fun i y u hy hu=>g2 (i+1) y u (by simpa using hy) (by simpa using hu)⟩
   split at hr
   ·rename_i hh bs2 rE
    obtain⟨k3,k4⟩:=IU (L':=mx.toList++[]) h rE rfl k2
    split at hr
    ·rename_i m hb3
     obtain⟨k5,k6⟩:=IU (L':=[]) h hb3 rfl k4
     obtain⟨sv,ps,rfl,hm⟩:=akr h ho hx k1 k3 k5 hr hp
     exact cv.wp hm h hd hn
    ·cases hr
   ·cases hr
  ·cases hr
 ·
  rename_i args argTypes x ho
  split at hr
  ·rename_i t yz
   have Cl:Oper.looks o=args.toList:=by simp[Oper.looks,ho]
   obtain⟨g1,g2⟩:=pG h Cl hg
   obtain⟨q,hq⟩:∃q,args.toList=[q]:=by
    match hm:args.toList,g1 with
    |[q],_=>exact⟨q,rfl⟩
   have hx:RS E w F kv fp (bW σ) x (a.eval q):=g2 0 x q rfl (by rw[hq];rfl)
   split at hr
   ·rename_i s hs
    split at hr
    ·rename_i hu
     cases hr
     exact cv.wp (akw ho rfl hq yz hx hs hu) h hd hn
    ·cases hr
   ·cases hr
   ·split at hr
    ·rename_i e vr se
     cases hr
     obtain⟨ad,had⟩:=cn (kt hx vr) rfl
     exact cv.wp (Wm (n:=0) ho rfl hq yz ⟨ad,0,had⟩ (AL se) (Nat.zero_le _)) h hd hn
    ·rename_i y e vr se
     split at hr
     ·rename_i ps b ha
      cases hr
      have W_:=WC h ha hp (kt hx vr)
      obtain⟨ad,c,hs,_⟩:=W_.slice
      exact cv.wp (Wm ho rfl hq yz ⟨ad,c,hs⟩ (AL se) W_.len) h hd hn
     ·split at hr
      ·rename_i b hpo
       cases hr
       obtain⟨k,dead,_,_,mM⟩:=aaJ h hpo (kt hx vr)
       obtain⟨ad,c,hs,hle⟩:=mM.slice
       exact cv.wp (Wm ho rfl hq yz ⟨ad,c,hs⟩ (AL se) hle) h hd hn
      ·cases hr
    ·cases hr
  ·cases hr
 ·
  rename_i args argTypes x ho
  split at hr
  rotate_left
  ·cases hr
  rename_i t yz
  split at hr
  rotate_left
  ·cases hr
  rename_i e k wd lo hi se vr
  split at hr
  rotate_left
  ·cases hr
  rename_i τ a0 dead hc he
  rw[gT] at hr
  split at hr
  rotate_left
  ·cases hr
  rename_i sK
  split at hr
  rotate_left
  ·cases hr
  rename_i xs hx0
  cases hr
  have:=dC hx0
  subst this
  have sK:=lN sK
  subst sK
  have Cl:Oper.looks o=args.toList:=by simp[Oper.looks,ho]
  obtain⟨g1,g2⟩:=pG h Cl hg
  obtain⟨q,hq⟩:∃q,args.toList=[q]:=by
   match hm:args.toList,g1 with
   |[q],_=>exact⟨q,rfl⟩
  exact alA hE.ok h hd ho rfl hq yz se hc (g2 0 x q rfl (by rw[hq];rfl)) vr (jx he) (hp _ (by simp)) (hp _ (by simp)) hn
 ·
  rename_i args argTypes x y ho
  split at hr
  ·rename_i kd m n hx hy
   rw[gT] at hr
   split at hr
   ·rename_i lT
    have lT:=of_decide_eq_true lT
    subst lT
    cases hr
    have Cl:Oper.looks o=args.toList:=by simp[Oper.looks,ho]
    obtain⟨g1,g2⟩:=pG h Cl hg
    obtain⟨q,q',hq⟩:∃q q',args.toList=[q,q']:=by
     match hm:args.toList,g1 with
     |[q,q'],_=>exact⟨q,q',rfl⟩
    have:=aaU (b:=true) ho (by rfl) hq (g2 0 x q rfl (by rw[hq];rfl)) hx (g2 1 y q' rfl (by rw[hq];rfl)) hy
    exact cv.wp (by simpa using this) h hd hn
   ·cases hr
  ·cases hr
 ·
  rename_i args argTypes x y ho
  split at hr
  ·rename_i kd m n hx hy
   rw[gT] at hr
   split at hr
   ·rename_i lT
    have lT:=of_decide_eq_true lT
    subst lT
    cases hr
    have Cl:Oper.looks o=args.toList:=by simp[Oper.looks,ho]
    obtain⟨g1,g2⟩:=pG h Cl hg
    obtain⟨q,q',hq⟩:∃q q',args.toList=[q,q']:=by
     match hm:args.toList,g1 with
     |[q,q'],_=>exact⟨q,q',rfl⟩
    have:=aaU (b:=false) ho (by rfl) hq (g2 0 x q rfl (by rw[hq];rfl)) hx (g2 1 y q' rfl (by rw[hq];rfl)) hy
    exact cv.wp (by simpa using this) h hd hn
   ·cases hr
  ·cases hr
 ·
  rename_i args argTypes s x ho
  split at hr
  ·rename_i t u yz
   split at hr
   ·rename_i e e' ys yx se amo hs hx
    rw[gT] at hr
    split at hr
    ·rename_i hc
     simp only[eE] at hc
     have htu:t=u:=lN hc.1
     subst htu
     split at hr
     ·rename_i τ HA
      split at hr
      ·rename_i ps xs ks d1 qs zs ks' d2 h1 h2
       rw[gT] at hr
       split at hr
       ·rename_i qp
        cases hr
        obtain⟨d,jU⟩:=Sg (by simpa[kindOk,ho] using hk)
        have Cl:Oper.looks o=args.toList:=by simp[Oper.looks,ho]
        obtain⟨g1,g2⟩:=pG h Cl hg
        obtain⟨q,q',hq⟩:∃q q',args.toList=[q,q']:=by
         match hm:args.toList,g1 with
         |[q,q'],_=>exact⟨q,q',rfl⟩
        have uo:¬Names σ (d,0):=ng _ (by simp[du,jU])
        refine alX (pall:=ps++qs++[xs.length+zs.length<=4294967296]) hE.ok h jU (hd d jU) ho rfl hq yz se HA (g2 0 s q rfl (by rw[hq];rfl)) hs (g2 1 x q' rfl (by rw[hq];rfl)) hx h1 h2 (fun p j_=>hp p (by simp[j_])) (rW.1 qp) (hp _ (by simp)) uo
         (fun F kv fp a' w' hs=>hn F kv fp a' w' ?_)
        simpa[jU] using hs
       ·cases hr
      ·rename_i ps xs ks h1 _
       split at hr
       ·rename_i zs ks' h2
        rw[gT] at hr
        split at hr
        ·rename_i qp
         cases hr
         obtain⟨d,jU⟩:=Sg (by simpa[kindOk,ho] using hk)
         have Cl:Oper.looks o=args.toList:=by simp[Oper.looks,ho]
         obtain⟨g1,g2⟩:=pG h Cl hg
         obtain⟨q,q',hq⟩:∃q q',args.toList=[q,q']:=by
          match hm:args.toList,g1 with
          |[q,q'],_=>exact⟨q,q',rfl⟩
         have uo:¬Names σ (d,0):=ng _ (by simp[du,jU])
         refine alY (pall:=ps++[xs.length+zs.length<=4294967296]) hE.ok h jU (hd d jU) ho rfl hq yz se HA (g2 0 s q rfl (by rw[hq];rfl)) hs (g2 1 x q' rfl (by rw[hq];rfl)) hx h1 h2 (fun p j_=>hp p (by simp[j_])) (rW.1 qp) (hp _ (by simp)) uo
          (fun F kv fp a' w' hs=>hn F kv fp a' w' ?_)
         simpa[jU] using hs
        ·cases hr
       ·cases hr
      ·cases hr
     ·cases hr
    ·cases hr
   ·rename_i e ys str se amo hs hx
    split at hr
    ·rename_i τ hu HA
     split at hr
     ·rename_i ps xs ks d1 zs h1 h2
      rw[gT] at hr
      split at hr
      ·rename_i qp
       cases hr
       obtain⟨d,jU⟩:=Sg (by simpa[kindOk,ho] using hk)
       have Cl:Oper.looks o=args.toList:=by simp[Oper.looks,ho]
       obtain⟨g1,g2⟩:=pG h Cl hg
       obtain⟨q,q',hq⟩:∃q q',args.toList=[q,q']:=by
        match hm:args.toList,g1 with
        |[q,q'],_=>exact⟨q,q',rfl⟩
       have uo:¬Names σ (d,0):=ng _ (by simp[du,jU])
       have hlx:iC x=some (.string str):=by
        unfold sr at hx
        split at hx
        ·cases hx;rfl
        ·cases hx
       refine alW (pall:=ps++[xs.length+zs.length<=4294967296]) hE.ok h jU (hd d jU) ho rfl hq yz se HA (g2 0 s q rfl (by rw[hq];rfl)) hs (g2 1 x q' rfl (by rw[hq];rfl)) hlx hu h1 h2 (fun p j_=>hp p (by simp[j_])) (rW.1 qp) (hp _ (by simp)) uo
        (fun F kv fp a' w' hs=>hn F kv fp a' w' ?_)
       simpa[jU] using hs
      ·cases hr
     ·cases hr
    ·cases hr
   ·cases hr
  ·cases hr
 ·
  rename_i g fst SM ho
  rw[gT] at hr
  split at hr
  ·rename_i amn
   split at hr
   ·rename_i l hl
    cases hr
    have Cl:Oper.looks o=(fst++SM).toList:=by simp[Oper.looks,ho,Op.operands]
    obtain⟨g1,g2⟩:=pG h Cl hg
    exact cv.wp (akJ ho amn hl (by simpa using g1) (by simpa using g2)) h hd hn
   ·cases hr
  ·cases hr
 ·
  rename_i t args argTypes p xs' ho
  have Cl:Oper.looks o=.tmp t::args.toList:=by simp[Oper.looks,ho]
  obtain⟨g1,g2⟩:=pG h Cl hg
  have XS:mh E w F p (a.eval (.tmp t)):=g2 0 (.fn p) (.tmp t) rfl rfl
  obtain⟨g,n0,hv,hf,ab3⟩:=XS
  unfold Bq at hr
  split at hr
  ·rename_i ps ds D7
   have main:∀(v:Value)(Ga:List Prop),(∀q∈ps++[p ds=some v],q)->r=⟨some (tD v),[],[],[],Ga⟩->o.wp E.P a w next Q:=by
    intro v Ga hq hr
    have hda:=als (K:=(xs'.flatMap SV.keys).filter fun k=>(σ.bH k).isSome) (vs:=args.toList.map a.eval) h D7 (fun q hq'=>hq q (by simp[hq'])) (by simpa using g1) (fun i x u hx hu=>by
     rw[lZ] at hu
     cases hq:args.toList[i]? with
     |none=>rw[hq] at hu;cases hu
     |some q=>rw[hq] at hu;cases hu;exact g2 (i+1) x q (by simpa using hx) (by simpa using hq)) (fun x hx k hk hs=>BW.2 ⟨nl.2 ⟨x,hx,hk⟩,hs⟩)
    have fX:∀b,FK F fp ((xs'.flatMap SV.keys).filter fun k=>(σ.bH k).isSome) b->b<w.heap.size:=by
     rintro b (hb|⟨k,hk,hb⟩)
     ·exact h.rI b hb
     ·obtain⟨e,he⟩:=lJ.1 (BW.1 hk).2
      exact(h.ff k e b he hb).2.2
    have hc:=ab3 ds v (hq _ (by simp)) w _ (fun b hb=>⟨.inl hb,rfl⟩) fX _ hda
    show o.upon E.P a next Q ((execOp a.eval o).run E.P w)
    rw[ajY ho rfl hv hf,Oper.upon_enter]
    refine hc.mono ?_
    rintro e w' ⟨rfl,Xt,ob⟩
    show next (a.put o.dst v) w'
    refine hn F kv fp _ w' ?_
    rw[hr]
    exact h.ajn ob o _ _ v hd (fun x hx=>by cases hx;exact lG Xt)
   split at hr
   ·have CK:=(UP hr).symm
    exact main _ _ (by rw[CK] at hp;exact hp) CK
   ·have CK:=(UP hr).symm
    exact main _ _ (by rw[CK] at hp;exact hp) CK
   ·cases hr
  ·cases hr
 ·
  rename_i f args argTypes ho
  split at hr
  ·rename_i k amq
   obtain⟨hf,hs⟩:=hE.QV amq
   have Cl:Oper.looks o=args.toList:=by simp[Oper.looks,ho]
   obtain⟨g1,g2⟩:=pG h Cl hg
   exact alF hE.K3 h hd ho rfl hf hs g1 (Wt hg) g2 hr hp ng hn
  ·cases hr
 ·
  rename_i t q x ho
  rw[gT] at hr
  split at hr
  ·rename_i hc
   simp only[eE] at hc
   cases hr
   obtain⟨d,jU⟩:=Sg (by simpa[kindOk,ho] using hk)
   have uo:¬Names σ (d,0):=ng _ (by simp[du,jU])
   refine alK h jU (hd d jU) ho (rq h (by simp[Oper.looks,ho,Op.operands]) hg) (fun y hy k hk=>Wt hg (.v x) (by simp) k (SV.mem_keys.2 ⟨y,hy,hk⟩)) hc.1 uo (fun F kv fp a' w' hs=>hn F kv fp a' w' ?_)
   simpa[jU] using hs
  ·cases hr
 ·
  rename_i q x ho
  have hx:=rq (q:=q) h (by simp[Oper.looks,ho,Op.operands]) hg
  split at hr
  ·rename_i cs vr
   cases hr
   obtain⟨b,o',h1,_⟩:=cn (kt hx vr) rfl
   exact cv.wp (Wl ho hx h1) h hd hn
  ·rename_i k off vr
   cases hr
   obtain⟨b,_,h1⟩:=cn (kt hx vr) rfl
   exact cv.wp (Wl ho hx h1) h hd hn
  ·rename_i k p i wd off vr
   rw[gT] at hr
   split at hr
   ·rename_i gU
    cases hr
    obtain⟨b,o',n,c,_,h1⟩:=cn (kt hx vr) (abf (x:=.kM k p i wd off) gU)
    exact cv.wp (Wl ho hx h1) h hd hn
   ·cases hr
  ·cases hr
 ·
  rename_i s d q x ho
  have hx:=rq (q:=q) h (by simp[Oper.looks,ho,Op.operands]) hg
  split at hr
  ·rename_i k HB
   split at hr
   ·rename_i k0 k' n tS hl
    cases hr
    exact cv.wp (akH ho hx hl HB tS) h hd hn
   ·cases hr
  ·rename_i HB
   split at hr
   ·rename_i e tS
    split at hr
    ·rename_i hue vr
     cases hr
     obtain⟨ad,h1⟩:=cn (kt hx vr) rfl
     refine cv.wp (sv:=tD (.string ByteArray.empty)) ⟨.string ByteArray.empty,?_,lG ⟨rfl,by decide⟩⟩ h hd hn
     unfold execOp;simp only[ho,h1]
     exact ic (abd tS hue HB ad 0)
    ·rename_i y hue vr
     split at hr
     ·rename_i ps b ha
      split at hr
      ·rename_i ys hys
       cases hr
       have:=dC hys
       subst this
       exact cv.wp (akI ho (vQ h ha (fun p j_=>hp p j_) (kt hx vr)) tS hue HB) h hd hn
      ·cases hr
     ·cases hr
    ·cases hr
   ·cases hr
  ·cases hr
 ·cases hr
theorem ajI(hE:E.Good)(h:cG E pm F kv fp σ a w){b:Bool}{o:Oper}{r:ch U}{ks:List Key}(hs:step E b σ o=some (r,ks))(hp:∀p∈r.pre,p)(ng:∀k∈du o r,¬Names σ k)
  {next:Act->World->Prop} {Q:Exit->Act->World->Prop} (hn:∀F kv fp a' w',cG E pm F kv fp (AM.apply o r σ) a' w'->next a' w'):o.wp E.P a w next Q:=by
 unfold step at hs
 rw[gT] at hs
 split at hs
 ·rename_i hc
  simp only[eE] at hc
  have hd:∀d,o.dst=some d->d<σ.n:=by
   intro d hd
   have:=hc.1
   unfold oR at this
   rw[hd] at this
   exact Nat.blt_eq▸this
  split at hs
  ·rename_i c x y ho
   split at hs
   ·rename_i t ht
    have ky:∃sc,H4 σ c=some sc/\iC sc=some (.bool t):=by
     unfold wU Cx at ht
     split at ht
     ·rename_i sc hsc;exact⟨sc,hsc,ht⟩
     ·cases ht
    obtain⟨sc,h1,h2⟩:=ky
    cases t with
    |true=>
     simp only[cond_true] at hs
     split at hs
     ·rename_i sv A_
      cases hs
      exact cv.wp (aaT ho (AK h h1) h2 (by simpa using AK h A_)) h hd hn
     ·cases hs
    |false=>
     simp only[cond_false] at hs
     split at hs
     ·rename_i sv A_
      cases hs
      exact cv.wp (aaT ho (AK h h1) h2 (by simpa using AK h A_)) h hd hn
     ·cases hs
   ·cases hs
  ·split at hs
   ·rename_i xs hg
    split at hs
    ·rename_i r' hr
     cases hs
     exact ala hE h hd hc.2 hg hr hp ng hn
    ·cases hs
   ·cases hs
 ·cases hs
end AM
