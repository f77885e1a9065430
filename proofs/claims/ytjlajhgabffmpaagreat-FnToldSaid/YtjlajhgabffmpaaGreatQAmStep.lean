/- THE ABSTRACT MACHINE: one operation. -/
import Derived.Test.YtjlajhgabffmpaaGreatQAmOps9
import Derived.Test.YtjlajhgabffmpaaGreatQAmPart2
import Derived.Test.YtjlajhgabffmpaaGreatQAmOps10
namespace AM
set_option linter.unusedVariables false
open Go
variable{U:lu}{E:Env U}{pm:Pm}
variable{F F':Nat->Prop}{kv:Key->Value}{fp:Key->List Nat}{σ:ai U}{a:Act}{w w':World}{bad:Key->Bool}
theorem cK.wp{o:Oper}{sv:SV U}{ps:List Prop}(hm:cK E F kv fp (bR σ) a w o sv)(h:cQ E pm F kv fp σ a w)(hd:∀d,o.dst=some d->d<σ.n){next:Act->World->Prop}{Q:Exit->Act->World->Prop}
  (hn:∀F kv fp a' w',cQ E pm F kv fp (AM.apply o ⟨some sv,[],[],[],ps⟩ σ) a' w'->next a' w'):o.wp E.P a w next Q:=by
 obtain⟨v,hr,hv⟩:=hm
 exact sH hr (hn _ _ _ _ _ (h.val o (some sv) ps v hd (by rintro x ⟨⟩;exact hv)))
theorem Pr{o:Oper}{xs:List (SV U)}(h:rl σ o=some xs):xs.length=(Oper.looks o).length/\∀(i:Nat)(x:SV U)(q:Operand),xs[i]? =some x->(Oper.looks o)[i]? =some q->MW σ q=some x:=by
 obtain⟨h1,h2⟩:=aco h
 refine⟨h1,fun i x q hx hq=> ?_⟩
 obtain⟨y,hy,ho⟩:=h2 i q hq
 rw[hx] at hy;cases hy;exact ho
theorem akk{q:Operand}{x:SV U}(h:MW σ q=some x):∀k∈x.keys,Names σ k:=by
 cases q with
 |tmp t=>exact fun k hk=> .inl ⟨t,x,h,hk⟩
 |global g=>cases h
 |func f=>cases h;intro k hk;simp[SV.keys,SV.B7] at hk
 |const v=>
  intro k hk
  exfalso
  have hc:∀{v:Value}{y:AC U},po v=some y->y.keys=[]:=by
   intro v y hy
   unfold po at hy
   split at hy
   ·cases hy;rfl
   ·cases hy;rfl
   ·rw[iu] at hy;split at hy<;>cases hy;rfl
   ·cases hy;rfl
   ·rw[iu] at hy;split at hy<;>cases hy;rfl
   ·cases hy
  have vz:∀{vs:List Value}{ys:List (AC U)},jW vs=some ys->∀y∈ys,y.keys=[]:=by
   intro vs
   induction vs with
   |nil=>intro ys hy y hy';cases hy;cases hy'
   |cons v vs ih=>
    intro ys hy y hy'
    simp only[jW] at hy
    split at hy
    ·rename_i y1 ys1 h1 h2
     cases hy
     rcases kf.1 hy' with rfl|hy'
     ·exact hc h1
     ·exact ih h2 y hy'
    ·cases hy
  simp only[MW] at h
  unfold Ir at h
  split at h
  ·unfold rT at h
   split at h
   ·rename_i l hl
    cases h
    obtain⟨y,hy,z0⟩:=SV.mem_keys.1 hk
    rw[vz hl y hy] at z0;cases z0
   ·cases h
  ·split at h
   ·rename_i y hy
    cases h
    obtain⟨z,hz,z0⟩:=SV.mem_keys.1 hk
    simp only[one,SV.B7,mF] at hz
    subst hz
    rw[hc hy] at z0;cases z0
   ·cases h
theorem NL{b:Option Operand}{bs bs':List (SV U)}{l:Option Int}(h:cQ E pm F kv fp σ a w)(hb:Hl b bs=some (l,bs')){L L':List Operand}(hL:L=b.toList++L')
  (hv:bs.length=L.length/\∀(i:Nat)(x:SV U)(q:Operand),bs[i]? =some x->L[i]? =some q->MW σ q=some x):
  WE l (b.map a.eval)/\bs'.length=L'.length/\∀(i:Nat)(x:SV U)(q:Operand),bs'[i]? =some x->L'[i]? =some q->MW σ q=some x:=by
 rcases alU hb with⟨rfl,rfl,rfl⟩|⟨y,sy,k,n,rfl,rfl,h1,rfl⟩
 ·subst hL
  exact⟨.inl ⟨rfl,rfl⟩,by simpa using hv.1,fun i x q hx hq=>hv.2 i x q hx (by simpa using hq)⟩
 ·subst hL
  have hy:=hv.2 0 sy y rfl rfl
  have:=qd (D8 h hy) h1
  exact⟨.inr ⟨k,n,rfl,by simp[this]⟩,by simpa using hv.1,fun i x q hx hq=>hv.2 (i+1) x q (by simpa using hx) (by simpa using hq)⟩
section
variable(E)
structure Env.Good:Prop where
 ok:E.Ok
 Qu:∀f k,E.Qu f=some k->zp E.P f/\fh E f k
 Qt:∀f k,E.Qt f=some k->zp E.P f/\fh E f k
theorem Env.Good.Wn{E:Env U}(h:E.Good){b:Bool}{f:FuncId}{k:kz U}(hk:E.Wn b f=some k):zp E.P f/\fh E f k:=by
 cases b with
 |false=>exact h.Qu f k hk
 |true=>exact h.Qt f k hk
end
theorem tN(h:cQ E pm F kv fp σ a w){o:Oper}{q:Operand}{x:SV U}(hl:Oper.looks o=[q])(hg:rl σ o=some [x]):RS E w F kv fp (bR σ) x (a.eval q):=
 D8 h ((Pr hg).2 0 x q rfl (by rw[hl];rfl))
theorem Eo(h:cQ E pm F kv fp σ a w){o:Oper}{q q':Operand}{x y:SV U}(hl:Oper.looks o=[q,q'])(hg:rl σ o=some [x,y]):
  RS E w F kv fp (bR σ) x (a.eval q)/\RS E w F kv fp (bR σ) y (a.eval q'):=
 ⟨D8 h ((Pr hg).2 0 x q rfl (by rw[hl];rfl)),D8 h ((Pr hg).2 1 y q' rfl (by rw[hl];rfl))⟩
theorem rI(h:cQ E pm F kv fp σ a w){o:Oper}{l:List Operand}{xs:List (SV U)}(hl:Oper.looks o=l)(hg:rl σ o=some xs):
  xs.length=l.length/\(∀(i:Nat)(x:SV U)(q:Operand),xs[i]? =some x->l[i]? =some q->RS E w F kv fp (bR σ) x (a.eval q)):=by
 obtain⟨h1,h2⟩:=Pr hg
 rw[hl] at h1 h2
 exact⟨h1,fun i x q hx hq=>D8 h (h2 i x q hx hq)⟩
theorem ZT{o:Oper}{xs:List (SV U)}(hg:rl σ o=some xs):∀x∈xs,∀k∈x.keys,Names σ k:=by
 intro x hx k hk
 obtain⟨i,hi,rfl⟩:=sn hx
 obtain⟨h1,h2⟩:=Pr hg
 have gZ:i<(Oper.looks o).length:=by omega
 exact akk (h2 i xs[i] (Oper.looks o)[i] (fH hi) (fH gZ)) k hk
theorem cQ.ajw{F:Nat->Prop}{kv:Key->Value}{fp:Key->List Nat}{σ:ai U}{a:Act}{w w':World}(h:cQ E pm F kv fp σ a w)(hu:iC (fun _=>False) w w')(o:Oper)(sv:Option (SV U))(ps:List Prop)(v:Value)
  (hd:∀d,o.dst=some d->d<σ.n) (hv:∀x,sv=some x->RS E w' F kv fp (bR σ) x v):
  cQ E pm F kv fp (AM.apply o ⟨sv,[],[],[],ps⟩ σ) (a.put o.dst v) w':=by
 have hb:bR (AM.apply o ⟨sv,[],[],[],ps⟩ σ)=bR σ:=rfl
 refine h.apply (F':=F) (kv':=kv) (fp':=fp) (w':=w') o _ v hd ?_ (fun _ _=>rfl) (fun _ _ _=>rfl) ?_ (fun b hb=>⟨hb,hu.block b (h.uc b hb) (fun x=>x)⟩) (fun k e _ _ _ he b hb=>hu.block b (h.fV k e b he hb).2.2 (fun x=>x)) ?_ ?_ ?_
  (fun b hb=>zds (h.uc b hb) hu.size) h.ub (h.upto.trans (hu.mono (fun i hi=>hi.elim))) hu.size
 ·intro x hx;rw[hb];exact hv x hx
 ·intro k hk;simp[eo] at hk
 ·intro k e hk;simp at hk
 ·intro k e b _ _ _ he hbb;exact(h.fV k e b he hbb).1
 ·intro k k' b _ hk;simp[eo,jY] at hk
theorem aj7{P:Program}{w:World}{a:Act}{o:Oper}{cl:Call}{q:Operand}{f:FuncId}{pT:Array Value}(sj:o.op=.call cl)(iH:cl.callee=.value q)(hq:a.eval q=.func (.func f) #[] pT)(hf:zp P f):
  (execOp a.eval o).run P w=.ok (.enter f ((cl.args.toList.map a.eval).toArray++pT)) w:=by
 obtain⟨fn,h1,h2,h3⟩:=hf
 have e:execOp a.eval o=callFunc f (#[]++cl.args.map a.eval++pT):=by
  unfold execOp
  rw[sj]
  simp only[resolve,iH,hq]
  rfl
 rw[e]
 have e2:(#[]++cl.args.map a.eval++pT:Array Value)=(cl.args.toList.map a.eval).toArray++pT:=by
  apply Array.ext'
  simp
 rw[e2]
 have h4:fn.body≠none:=by cases hb:fn.body<;>simp[hb] at h2⊢
 have h5:fn.name≠ "runtime.NumGoroutine" :=by simpa using h3
 simp[callFunc,go_sem,h1,h4,h5]
theorem alC(h:cQ E pm F kv fp σ a w){rs:List Key}{K:List Key}:∀{xs:List (SV U)}{ws:List (List (Option U.Ty))}{vs:List Value}{ps:List Prop}{ds:List (DA U)},Bf (restrict σ.bM rs) σ.aN ws xs=some (ps,ds)->(∀p∈ps,p)->xs.length=vs.length->
  (∀(i:Nat)(x:SV U)(u:Value),xs[i]? =some x->vs[i]? =some u->RS E w F kv fp (bR σ) x u)->(∀x∈xs,∀k∈x.keys,(σ.bM k).isSome=true->k∈K)->ajj E w (FK F fp K) ds vs:=by
 intro xs
 induction xs with
 |nil=>
  intro ws vs ps ds hc hp hl hx hK
  simp only[Bf,gJ,pb] at hc
  obtain⟨rfl,rfl⟩:=hc
  exact⟨by simpa using hl,fun i d v hd=>by simp at hd⟩
 |cons x xs ih=>
  intro ws vs ps ds hc hp hl hx hK
  cases vs with
  |nil=>simp at hl
  |cons v vs=>
   simp only[Bf] at hc
   split at hc
   ·rename_i Un c Z8 ds2 h1 h2
    cases hc
    obtain⟨i1,i2⟩:=ih h2 (fun p kP=>hp p (by simp[kP])) (by simpa using hl) (fun i y u hy hu=>hx (i+1) y u (by simpa using hy) (by simpa using hu)) (fun y hy=>hK y (cI _ hy))
    obtain⟨g1,_⟩:ou E w (FK F fp K) .ro (.one c) v []:=Vi h h1 (fun p kP=>hp p (by simp[kP])) (hx 0 x v rfl rfl) (hK x gB)
    refine⟨by simp[i1],fun i d u hd hu=> ?_⟩
    cases i with
    |zero=>
     simp only[vh,gJ] at hd hu
     subst hd;subst hu
     exact⟨[v],rfl,fun i c' m_=>by
      cases i with
      |zero=>simp only[vh,gJ] at m_;subst m_;exact g1
      |succ i=>simp at m_,rfl⟩
    |succ i=>exact i2 i d u (by simpa using hd) (by simpa using hu)
   ·rename_i Un cs Z8 ds2 h1 h2
    cases hc
    obtain⟨i1,i2⟩:=ih h2 (fun p kP=>hp p (by simp[kP])) (by simpa using hl) (fun i y u hy hu=>hx (i+1) y u (by simpa using hy) (by simpa using hu)) (fun y hy=>hK y (cI _ hy))
    obtain⟨us,g1,g2,g3,_⟩:ou E w (FK F fp K) .ro (.agg cs) v []:=Vi h h1 (fun p kP=>hp p (by simp[kP])) (hx 0 x v rfl rfl) (hK x gB)
    refine⟨by simp[i1],fun i d u hd hu=> ?_⟩
    cases i with
    |zero=>
     simp only[vh,gJ] at hd hu
     subst hd;subst hu
     exact⟨us,g2,g3,g1⟩
    |succ i=>exact i2 i d u (by simpa using hd) (by simpa using hu)
   ·cases hc
theorem adk:∀{xs:List (SV U)}{l:List (AV U)},Bi xs=some l->xs=l.map SV.v
 |[],l,h=>by cases h;rfl
 | .v x::r,l,h=>by
  simp only[Bi] at h
  split at h
  ·rename_i l' hl;cases h;rw[adk hl];rfl
  ·cases h
 | .wm _::r,l,h=>by simp[Bi] at h
 | .fn _::r,l,h=>by simp[Bi] at h
 | .He _ _::r,l,h=>by simp[Bi] at h
theorem akS{bad:Key->Bool}{o:Oper}{g:FuncId}{fst Xm:Array Operand}{xs:List (SV U)}{l:List (AV U)}(ho:o.op=.makeFunc (.func g) fst Xm)(he:fst.isEmpty=true)(hl:Bi xs=some l)
  (h1:xs.length=(fst++Xm).toList.length) (h2:∀(i:Nat)(x:SV U)(q:Operand),xs[i]? =some x->(fst++Xm).toList[i]? =some q->RS E w F kv fp bad x (a.eval q)):cK E F kv fp bad a w o (.He g l):=by
 have hf:fst= #[]:=by simpa using he
 subst hf
 have hx:=adk hl
 subst hx
 refine⟨.func (.func g) #[] (Xm.map a.eval),?_,⟨(Xm.map a.eval).toList,by rw[Array.toArray_toList],by simpa using h1,fun i x u hx hu=> ?_⟩⟩
 ·unfold execOp;simp only[ho]
  have e:Array.map a.eval #[]= #[]:=by simp
  rw[e]
  exact iQ rfl
 ·rw[zeo,nO] at hu
  cases hq:Xm.toList[i]? with
  |none=>rw[hq] at hu;cases hu
  |some q=>
   rw[hq] at hu;cases hu
   exact h2 i (.v x) q (by rw[nO,hx];rfl) (by simpa using hq)
theorem alj(hE:E.Good)(h:cQ E pm F kv fp σ a w){o:Oper}(hd:∀d,o.dst=some d->d<σ.n)(hk:kindOk o=true){xs:List (SV U)}(hg:rl σ o=some xs){rs:List Key}{r:cm U}
  {b:Bool} (hr:Aj E b (restrict σ.bM rs) σ.aN o xs=some r) (hp:∀p∈r.pre,p) (od:∀k∈eo o r,¬Names σ k) {next:Act->World->Prop} {Q:Exit->Act->World->Prop}
  (hn:∀F kv fp a' w',cQ E pm F kv fp (AM.apply o r σ) a' w'->next a' w'):o.wp E.P a w next Q:=by
 have W1:∀{t:Option Nat},t.isSome=true->∃d,t=some d:=fun h=>m8.1 h
 unfold Aj at hr
 simp only at hr
 split at hr
 ·
  rename_i q x ho
  cases hr
  exact cK.wp (akD ho (tN h (by simp[Oper.looks,ho,Op.operands]) hg)) h hd hn
 ·
  rename_i q x ho
  cases hr
  exact cK.wp (akV ho (tN h (by simp[Oper.looks,ho,Op.operands]) hg)) h hd hn
 ·
  rename_i op t q x ho
  split at hr
  ·rename_i v hv
   cases hu:KQ op v with
   |none=>rw[hu] at hr;cases hr
   |some u=>
    rw[hu] at hr;cases hr
    exact cK.wp (akz ho (tN h (by simp[Oper.looks,ho,Op.operands]) hg) hv hu) h hd hn
  ·cases hr
 ·
  rename_i op t q q' t' x y ho
  split at hr
  ·rename_i u v hu hv
   cases hb:Et E t op u v with
   |none=>rw[hb] at hr;cases hr
   |some pv=>
    obtain⟨ps,v'⟩:=pv
    rw[hb] at hr;cases hr
    obtain⟨h1,h2⟩:=Eo (q:=q) (q':=q') h (by simp[Oper.looks,ho,Op.operands]) hg
    exact cK.wp (akU ho h1 hu h2 hv hb hp) h hd hn
  ·split at hr
   ·rename_i r' pK
    cases hr
    obtain⟨h1,h2⟩:=Eo (q:=q) (q':=q') h (by simp[Oper.looks,ho,Op.operands]) hg
    obtain⟨b,rfl,hm⟩:=akP ho h1 h2 pK
    exact cK.wp hm h hd hn
   unfold RY at hr
   split at hr
   ·rename_i n c b τ xs _ _
    split at hr
    ·rename_i e hu
     cases hr
     obtain⟨h1,h2⟩:=Eo (q:=q) (q':=.const (.slice none n c)) h (by simp[Oper.looks,ho,Op.operands]) hg
     exact cK.wp (akC ho h1 hu) h hd hn
    ·cases hr
   ·cases hr
 ·
  rename_i q i l ho
  cases hy:l[i]? with
  |none=>rw[hy] at hr;cases hr
  |some y=>
   rw[hy] at hr;cases hr
   exact cK.wp (akO ho (tN h (by simp[Oper.looks,ho,Op.operands]) hg) hy) h hd hn
 ·
  rename_i t ho
  split at hr
  ·rename_i z hz
   split at hr
   ·rename_i x hx
    cases hr
    obtain⟨d,kY⟩:=W1 (by simpa[kindOk,ho] using hk)
    unfold rT at hx
    split at hx
    ·rename_i l hl
     cases hx
     have w7:¬Names σ (d,0):=od _ (by simp[eo,kY])
     refine al8 h kY (hd d kY) ho hz hl w7 (fun F kv fp a' w' hs=>hn F kv fp a' w' ?_)
     simpa[kY] using hs
    ·cases hx
   ·cases hr
  ·cases hr
 ·
  rename_i t q x ho
  split at hr
  ·rename_i y n g hy wh VZ
   split at hr
   ·rename_i r' VO
    cases hr
    rw[iu] at VO
    split at VO
    ·obtain⟨sv,ps,rfl,hm⟩:=akB h ho (tN h (by simp[Oper.looks,ho,Op.operands]) hg) hy wh VZ VO hp
     exact cK.wp hm h hd hn
    ·cases VO
   split at hr
   ·rename_i r' F_
    cases hr
    obtain⟨sv,ps,rfl,hm⟩:=akE h ho (tN h (by simp[Oper.looks,ho,Op.operands]) hg) hy wh VZ F_ hp
    exact cK.wp hm h hd hn
   ·refine akw h hd ho (tN h (by simp[Oper.looks,ho,Op.operands]) hg) hy (fun k hk=>ZT hg x (by simp) k ?_) wh VZ hr hp od hn
    rw[L1 hy];simpa[one,SV.keys,SV.B7] using hk
  ·cases hr
 ·
  rename_i t q q' p x ho
  split at hr
  ·rename_i y n hy hs
   cases hb:Nat.beq n x.cs.length<;>simp only[hb,cond_true,cond_false] at hr
   ·cases hr
   ·obtain⟨h1,h2⟩:=Eo (q:=q) (q':=q') h (by simp[Oper.looks,ho,Op.operands]) hg
    have Om:o.dst=none:=by simpa[kindOk,ho] using hk
    split at hr
    ·rename_i r' F_
     cases hr
     exact ajM h Om ho h1 hy h2 hs (nc hb) F_ hp hn
    ·split at hr
     ·rename_i r' F_
      cases hr
      exact ajN h Om ho h1 hy h2 hs (nc hb) F_ hp hn
     ·exact ajO h Om ho h1 hy h2 hs (nc hb) hr hp hn
  ·cases hr
 ·
  rename_i t q f x ho
  split at hr
  ·rename_i y off ft hy hf
   split at hr
   ·rename_i n hs
    have hx:=tN (q:=q) h (by simp[Oper.looks,ho,Op.operands]) hg
    split at hr
    ·cases hr
     exact cK.wp (akK ho hx hy hf hs) h hd hn
    ·cases hr
     exact cK.wp (akM ho hx hy hf hs) h hd hn
    ·rename_i k p i wd oo
     cases hc:fW (restrict σ.bM rs) σ.aN k p<;>simp only[hc,cond_true,cond_false] at hr
     ·cases hr
     ·cases hr
      have hb:iX (bR σ) (AC.lK (U:=U) k p i wd oo)=false:=by
       simp only[iX]
       have m_:=hc
       unfold fW at m_
       cases hpe:p.isEmpty
       ·rw[hpe] at m_
        simp only[Gl,cO] at m_
        obtain⟨e,he⟩:=m8.1 m_.1
        have:=HJ hc he
        rwa[hpe] at this
       ·rfl
      exact cK.wp (akL ho hx hy hb hf hs) h hd hn
    ·cases hr
   ·cases hr
  ·cases hr
 ·
  rename_i t q f cs ho
  split at hr
  ·rename_i off ft hf
   split at hr
   ·rename_i n g hs VZ
    cases hb:(Nat.ble (off+n) cs.length&&(g||Nat.beq n 1))<;>simp only[hb,cond_true,cond_false] at hr
    ·cases hr
    ·cases hr
     exact cK.wp (akN ho (tN h (by simp[Oper.looks,ho,Op.operands]) hg) hf hs VZ hb) h hd hn
   ·cases hr
  ·cases hr
 ·
  rename_i t parts ho
  split at hr
  ·rename_i pl z A7 hz
   split at hr
   ·rename_i l hl
    split at hr
    ·rename_i cs hc
     cases hr
     obtain⟨h1,h2⟩:=rI h (l:=parts.toList.map (·.2)) (by simp[Oper.looks,ho]) hg
     refine cK.wp (akT ho (by simpa using h1) (fun i x q hx hq=>h2 i x q.2 hx (by rw[nO,hq];rfl)) A7 hz hl hc) h hd hn
    ·cases hr
   ·cases hr
  ·cases hr
 ·
  rename_i t len parts ho
  split at hr
  ·rename_i e he
   split at hr
   ·rename_i τ Mi
    rw[iu] at hr
    split at hr
    ·rename_i hc
     simp only[cO] at hc
     obtain⟨⟨Gf,Qd⟩,hc3⟩:=hc
     rw[iu] at hr
     split at hr
     ·rw[iu] at hr
      split at hr
      ·rename_i hkp
       cases hr
       obtain⟨d,kY⟩:=W1 (by simpa[kindOk,ho] using hk)
       obtain⟨h1,h2⟩:=rI h (l:=parts.toList.map (·.2)) (by simp[Oper.looks,ho]) hg
       have w7:¬Names σ (d,0):=od _ (by simp[eo,kY])
       refine ak5 hE.ok h kY (hd d kY) ho he Mi (by simpa using h1) (fun i x q hx hq=>h2 i x q.2 hx (by rw[nO,hq];rfl)) (nc Gf) Qd (JZ hc3) hkp w7
        (fun F kv fp a' w' hs=>hn F kv fp a' w' ?_)
       simpa[kY] using hs
      ·cases hr
     split at hr
     ·rename_i ps rows ks dp adI
      rw[iu] at hr
      split at hr
      ·rename_i sT
       cases hr
       obtain⟨d,kY⟩:=W1 (by simpa[kindOk,ho] using hk)
       obtain⟨h1,h2⟩:=rI h (l:=parts.toList.map (·.2)) (by simp[Oper.looks,ho]) hg
       have w7:¬Names σ (d,0):=od _ (by simp[eo,kY])
       refine alS hE.ok h kY (hd d kY) ho he Mi (by simpa using h1) (fun i x q hx hq=>h2 i x q.2 hx (by rw[nO,hq];rfl)) (nc Gf) Qd (JZ hc3) adI hp (uC.1 sT) w7
        (fun F kv fp a' w' hs=>hn F kv fp a' w' ?_)
       simpa[kY] using hs
      ·cases hr
     ·cases hr
    ·cases hr
   ·cases hr
  ·cases hr
 ·
  rename_i t q q' l c ho
  split at hr
  ·rename_i e n m he hl hc
   split at hr
   ·rename_i τ Mi
    cases hr
    obtain⟨d,kY⟩:=W1 (by simpa[kindOk,ho] using hk)
    obtain⟨h1,h2⟩:=Eo (q:=q) (q':=q') h (by simp[Oper.looks,ho,Op.operands]) hg
    have w7:¬Names σ (d,0):=od _ (by simp[eo,kY])
    refine akW hE.ok h kY (hd d kY) ho he Mi h1 hl h2 hc (hp _ (by simp)) (hp _ (by simp)) (hp _ (by simp)) (ps:=[0<=n,n=m,n<=4294967296]) w7 (fun F kv fp a' w' hs=>hn F kv fp a' w' ?_)
    simpa[kY] using hs
   ·cases hr
  ·cases hr
 ·
  rename_i t q q' x i ho
  split at hr
  ·rename_i kd n y m hi hy hm
   obtain⟨h1,h2⟩:=Eo (q:=q) (q':=q') h (by simp[Oper.looks,ho,Op.operands]) hg
   split at hr
   ·rename_i τ ys
    rw[iu] at hr
    split at hr
    ·rename_i hb
     cases hr
     exact cK.wp (akJ ho h1 hy h2 hi hm (nc hb) (hp _ (by simp[cm.cP])) (hp _ (by simp[cm.cP]))) h hd hn
    ·cases hr
   ·rename_i k p
    split at hr
    ·rename_i ps b ha
     rw[iu] at hr
     split at hr
     ·rename_i hb
      cases hr
      exact cK.wp (akH h ho h1 hy h2 hi hm ha (nc hb) (fun p kP=>hp p (by simp[cm.cP,kP])) (hp _ (by simp[cm.cP])) (hp _ (by simp[cm.cP]))) h hd hn
     ·cases hr
    ·split at hr
     ·rename_i b hpo _
      rw[iu] at hr
      split at hr
      ·rename_i hb
       cases hr
       exact cK.wp (akI h ho h1 hy h2 hi hm hpo (nc hb) (hp _ (by simp[cm.cP])) (hp _ (by simp[cm.cP]))) h hd hn
      ·cases hr
     ·cases hr
   ·cases hr
  ·cases hr
 ·
  rename_i t q q' x i ho
  split at hr
  ·rename_i s kd n hx hi hu
   cases hr
   obtain⟨h1,h2⟩:=Eo (q:=q) (q':=q') h (by simp[Oper.looks,ho,Op.operands]) hg
   exact cK.wp (akG ho h1 hx h2 hi hu (hp _ (by simp[cm.lit,cm.cP])) (hp _ (by simp[cm.lit,cm.cP]))) h hd hn
  ·cases hr
 ·
  rename_i t q lo hi mx x bs ho
  have hl:Oper.looks o=q::(lo.toList++(hi.toList++(mx.toList++[]))):=by simp[Oper.looks,ho,Op.operands]
  obtain⟨g1,g2⟩:=Pr hg
  rw[hl] at g1 g2
  have hx:RS E w F kv fp (bR σ) x (a.eval q):=D8 h (g2 0 x q rfl rfl)
  split at hr
  ·rename_i l bs1 tZ
   obtain⟨k1,k2⟩:=NL (a:=a) (w:=w) (L:=lo.toList++(hi.toList++(mx.toList++[]))) (L':=hi.toList++(mx.toList++[])) h tZ rfl ⟨by simpa using g1,fun i y u hy hu=>g2 (i+1) y u (by simpa using hy) (by simpa using hu)⟩
   split at hr
   ·rename_i hh bs2 tY
    obtain⟨k3,k4⟩:=NL (L':=mx.toList++[]) h tY rfl k2
    split at hr
    ·rename_i m hb3
     obtain⟨k5,k6⟩:=NL (L':=[]) h hb3 rfl k4
     obtain⟨sv,ps,rfl,hm⟩:=akA h ho hx k1 k3 k5 hr hp
     exact cK.wp hm h hd hn
    ·cases hr
   ·cases hr
  ·cases hr
 ·
  rename_i args argTypes x ho
  split at hr
  ·rename_i t BP
   have Gb:Oper.looks o=args.toList:=by simp[Oper.looks,ho]
   obtain⟨g1,g2⟩:=rI h Gb hg
   obtain⟨q,hq⟩:∃q,args.toList=[q]:=by
    match hm:args.toList,g1 with
    |[q],_=>exact⟨q,rfl⟩
   have hx:RS E w F kv fp (bR σ) x (a.eval q):=g2 0 x q rfl (by rw[hq];rfl)
   split at hr
   ·rename_i s hs
    split at hr
    ·rename_i hu
     cases hr
     exact cK.wp (akF ho rfl hq BP hx hs hu) h hd hn
    ·cases hr
   ·cases hr
   ·split at hr
    ·rename_i e yc uM
     cases hr
     obtain⟨ad,had⟩:=cw (li hx yc) rfl
     exact cK.wp (ZM (n:=0) ho rfl hq BP ⟨ad,0,had⟩ (D9 uM) (Nat.zero_le _)) h hd hn
    ·rename_i y e yc uM
     split at hr
     ·rename_i ps b ha
      cases hr
      have hrp:=Z2 h ha hp (li hx yc)
      obtain⟨ad,c,hs,_⟩:=hrp.slice
      exact cK.wp (ZM ho rfl hq BP ⟨ad,c,hs⟩ (D9 uM) hrp.len) h hd hn
     ·split at hr
      ·rename_i b hpo
       cases hr
       obtain⟨k,dead,_,_,oa⟩:=acF h hpo (li hx yc)
       obtain⟨ad,c,hs,hle⟩:=oa.slice
       exact cK.wp (ZM ho rfl hq BP ⟨ad,c,hs⟩ (D9 uM) hle) h hd hn
      ·cases hr
    ·cases hr
  ·cases hr
 ·
  rename_i args argTypes x ho
  split at hr
  rotate_left
  ·cases hr
  rename_i t BP
  split at hr
  rotate_left
  ·cases hr
  rename_i e k wd lo hi uM yc
  split at hr
  rotate_left
  ·cases hr
  rename_i τ a0 dead hc he
  rw[iu] at hr
  split at hr
  rotate_left
  ·cases hr
  rename_i vt
  split at hr
  rotate_left
  ·cases hr
  rename_i xs hx0
  cases hr
  have:=eE hx0
  subst this
  have vt:=nc vt
  subst vt
  have Gb:Oper.looks o=args.toList:=by simp[Oper.looks,ho]
  obtain⟨g1,g2⟩:=rI h Gb hg
  obtain⟨q,hq⟩:∃q,args.toList=[q]:=by
   match hm:args.toList,g1 with
   |[q],_=>exact⟨q,rfl⟩
  exact alJ hE.ok h hd ho rfl hq BP uM hc (g2 0 x q rfl (by rw[hq];rfl)) yc (kj he) (hp _ (by simp)) (hp _ (by simp)) hn
 ·
  rename_i args argTypes x y ho
  split at hr
  ·rename_i kd m n hx hy
   rw[iu] at hr
   split at hr
   ·rename_i EK
    have EK:=of_decide_eq_true EK
    subst EK
    cases hr
    have Gb:Oper.looks o=args.toList:=by simp[Oper.looks,ho]
    obtain⟨g1,g2⟩:=rI h Gb hg
    obtain⟨q,q',hq⟩:∃q q',args.toList=[q,q']:=by
     match hm:args.toList,g1 with
     |[q,q'],_=>exact⟨q,q',rfl⟩
    have:=acR (b:=true) ho (by rfl) hq (g2 0 x q rfl (by rw[hq];rfl)) hx (g2 1 y q' rfl (by rw[hq];rfl)) hy
    exact cK.wp (by simpa using this) h hd hn
   ·cases hr
  ·cases hr
 ·
  rename_i args argTypes x y ho
  split at hr
  ·rename_i kd m n hx hy
   rw[iu] at hr
   split at hr
   ·rename_i EK
    have EK:=of_decide_eq_true EK
    subst EK
    cases hr
    have Gb:Oper.looks o=args.toList:=by simp[Oper.looks,ho]
    obtain⟨g1,g2⟩:=rI h Gb hg
    obtain⟨q,q',hq⟩:∃q q',args.toList=[q,q']:=by
     match hm:args.toList,g1 with
     |[q,q'],_=>exact⟨q,q',rfl⟩
    have:=acR (b:=false) ho (by rfl) hq (g2 0 x q rfl (by rw[hq];rfl)) hx (g2 1 y q' rfl (by rw[hq];rfl)) hy
    exact cK.wp (by simpa using this) h hd hn
   ·cases hr
  ·cases hr
 ·
  rename_i args argTypes s x ho
  split at hr
  ·rename_i t u BP
   split at hr
   ·rename_i e e' ys yx uM amy hs hx
    rw[iu] at hr
    split at hr
    ·rename_i hc
     simp only[cO] at hc
     have htu:t=u:=nc hc.1
     subst htu
     split at hr
     ·rename_i τ Mi
      split at hr
      ·rename_i ps xs ks d1 qs zs ks' d2 h1 h2
       rw[iu] at hr
       split at hr
       ·rename_i sT
        cases hr
        obtain⟨d,kY⟩:=W1 (by simpa[kindOk,ho] using hk)
        have Gb:Oper.looks o=args.toList:=by simp[Oper.looks,ho]
        obtain⟨g1,g2⟩:=rI h Gb hg
        obtain⟨q,q',hq⟩:∃q q',args.toList=[q,q']:=by
         match hm:args.toList,g1 with
         |[q,q'],_=>exact⟨q,q',rfl⟩
        have w7:¬Names σ (d,0):=od _ (by simp[eo,kY])
        refine al6 (pall:=ps++qs++[xs.length+zs.length<=4294967296]) hE.ok h kY (hd d kY) ho rfl hq BP uM Mi (g2 0 s q rfl (by rw[hq];rfl)) hs (g2 1 x q' rfl (by rw[hq];rfl)) hx h1 h2 (fun p kP=>hp p (by simp[kP])) (uC.1 sT) (hp _ (by simp)) w7
         (fun F kv fp a' w' hs=>hn F kv fp a' w' ?_)
        simpa[kY] using hs
       ·cases hr
      ·rename_i ps xs ks h1 _
       split at hr
       ·rename_i zs ks' h2
        rw[iu] at hr
        split at hr
        ·rename_i sT
         cases hr
         obtain⟨d,kY⟩:=W1 (by simpa[kindOk,ho] using hk)
         have Gb:Oper.looks o=args.toList:=by simp[Oper.looks,ho]
         obtain⟨g1,g2⟩:=rI h Gb hg
         obtain⟨q,q',hq⟩:∃q q',args.toList=[q,q']:=by
          match hm:args.toList,g1 with
          |[q,q'],_=>exact⟨q,q',rfl⟩
         have w7:¬Names σ (d,0):=od _ (by simp[eo,kY])
         refine al7 (pall:=ps++[xs.length+zs.length<=4294967296]) hE.ok h kY (hd d kY) ho rfl hq BP uM Mi (g2 0 s q rfl (by rw[hq];rfl)) hs (g2 1 x q' rfl (by rw[hq];rfl)) hx h1 h2 (fun p kP=>hp p (by simp[kP])) (uC.1 sT) (hp _ (by simp)) w7
          (fun F kv fp a' w' hs=>hn F kv fp a' w' ?_)
         simpa[kY] using hs
        ·cases hr
       ·cases hr
      ·cases hr
     ·cases hr
    ·cases hr
   ·rename_i e ys str uM amy hs hx
    split at hr
    ·rename_i τ hu Mi
     split at hr
     ·rename_i ps xs ks d1 zs h1 h2
      rw[iu] at hr
      split at hr
      ·rename_i sT
       cases hr
       obtain⟨d,kY⟩:=W1 (by simpa[kindOk,ho] using hk)
       have Gb:Oper.looks o=args.toList:=by simp[Oper.looks,ho]
       obtain⟨g1,g2⟩:=rI h Gb hg
       obtain⟨q,q',hq⟩:∃q q',args.toList=[q,q']:=by
        match hm:args.toList,g1 with
        |[q,q'],_=>exact⟨q,q',rfl⟩
       have w7:¬Names σ (d,0):=od _ (by simp[eo,kY])
       have hlx:jj x=some (.string str):=by
        unfold u5 at hx
        split at hx
        ·cases hx;rfl
        ·cases hx
       refine al5 (pall:=ps++[xs.length+zs.length<=4294967296]) hE.ok h kY (hd d kY) ho rfl hq BP uM Mi (g2 0 s q rfl (by rw[hq];rfl)) hs (g2 1 x q' rfl (by rw[hq];rfl)) hlx hu h1 h2 (fun p kP=>hp p (by simp[kP])) (uC.1 sT) (hp _ (by simp)) w7
        (fun F kv fp a' w' hs=>hn F kv fp a' w' ?_)
       simpa[kY] using hs
      ·cases hr
     ·cases hr
    ·cases hr
   ·cases hr
  ·cases hr
 ·
  rename_i g fst Xm ho
  rw[iu] at hr
  split at hr
  ·rename_i amx
   split at hr
   ·rename_i l hl
    cases hr
    have Gb:Oper.looks o=(fst++Xm).toList:=by simp[Oper.looks,ho,Op.operands]
    obtain⟨g1,g2⟩:=rI h Gb hg
    exact cK.wp (akS ho amx hl (by simpa using g1) (by simpa using g2)) h hd hn
   ·cases hr
  ·cases hr
 ·
  rename_i t args argTypes p xs' ho
  have Gb:Oper.looks o=.tmp t::args.toList:=by simp[Oper.looks,ho]
  obtain⟨g1,g2⟩:=rI h Gb hg
  have hfn:nN E w F p (a.eval (.tmp t)):=g2 0 (.fn p) (.tmp t) rfl rfl
  obtain⟨g,pT,hv,hf,ad1⟩:=hfn
  unfold ET at hr
  split at hr
  ·rename_i ps ds Ie
   have main:∀(v:Value)(Kz:List Prop),(∀q∈ps++[p ds=some v],q)->r=⟨some (we v),[],[],[],Kz⟩->o.wp E.P a w next Q:=by
    intro v Kz hq hr
    have hda:=alC (K:=(xs'.flatMap SV.keys).filter fun k=>(σ.bM k).isSome) (vs:=args.toList.map a.eval) h Ie (fun q hq'=>hq q (by simp[hq'])) (by simpa using g1) (fun i x u hx hu=>by
     rw[nO] at hu
     cases hq:args.toList[i]? with
     |none=>rw[hq] at hu;cases hu
     |some q=>rw[hq] at hu;cases hu;exact g2 (i+1) x q (by simpa using hx) (by simpa using hq)) (fun x hx k hk hs=>zr.2 ⟨ow.2 ⟨x,hx,hk⟩,hs⟩)
    have gZ:∀b,FK F fp ((xs'.flatMap SV.keys).filter fun k=>(σ.bM k).isSome) b->b<w.heap.size:=by
     rintro b (hb|⟨k,hk,hb⟩)
     ·exact h.uc b hb
     ·obtain⟨e,he⟩:=m8.1 (zr.1 hk).2
      exact(h.fV k e b he hb).2.2
    have hc:=ad1 ds v (hq _ (by simp)) w _ (fun b hb=>⟨.inl hb,rfl⟩) gZ _ hda
    show o.upon E.P a next Q ((execOp a.eval o).run E.P w)
    rw[aj7 ho rfl hv hf,Oper.upon_enter]
    refine hc.mono ?_
    rintro e w' ⟨rfl,aaA,qz⟩
    show next (a.put o.dst v) w'
    refine hn F kv fp _ w' ?_
    rw[hr]
    exact h.ajw qz o _ _ v hd (fun x hx=>by cases hx;exact m6 aaA)
   split at hr
   ·have GP:=(YY hr).symm
    exact main _ _ (by rw[GP] at hp;exact hp) GP
   ·have GP:=(YY hr).symm
    exact main _ _ (by rw[GP] at hp;exact hp) GP
   ·cases hr
  ·cases hr
 ·
  rename_i f args argTypes ho
  split at hr
  ·rename_i k amA
   obtain⟨hf,hs⟩:=hE.Wn amA
   have Gb:Oper.looks o=args.toList:=by simp[Oper.looks,ho]
   obtain⟨g1,g2⟩:=rI h Gb hg
   exact alO hE.Qu h hd ho rfl hf hs g1 (ZT hg) g2 hr hp od hn
  ·cases hr
 ·
  rename_i t q x ho
  rw[iu] at hr
  split at hr
  ·rename_i hc
   simp only[cO] at hc
   cases hr
   obtain⟨d,kY⟩:=W1 (by simpa[kindOk,ho] using hk)
   have w7:¬Names σ (d,0):=od _ (by simp[eo,kY])
   refine alT h kY (hd d kY) ho (tN h (by simp[Oper.looks,ho,Op.operands]) hg) (fun y hy k hk=>ZT hg (.v x) (by simp) k (SV.mem_keys.2 ⟨y,hy,hk⟩)) hc.1 w7 (fun F kv fp a' w' hs=>hn F kv fp a' w' ?_)
   simpa[kY] using hs
  ·cases hr
 ·
  rename_i q x ho
  have hx:=tN (q:=q) h (by simp[Oper.looks,ho,Op.operands]) hg
  split at hr
  ·rename_i cs yc
   cases hr
   obtain⟨b,o',h1,_⟩:=cw (li hx yc) rfl
   exact cK.wp (ZL ho hx h1) h hd hn
  ·rename_i k off yc
   cases hr
   obtain⟨b,_,h1⟩:=cw (li hx yc) rfl
   exact cK.wp (ZL ho hx h1) h hd hn
  ·rename_i k p i wd off yc
   rw[iu] at hr
   split at hr
   ·rename_i iH
    cases hr
    obtain⟨b,o',n,c,_,h1⟩:=cw (li hx yc) (adf (x:=.lK k p i wd off) iH)
    exact cK.wp (ZL ho hx h1) h hd hn
   ·cases hr
  ·cases hr
 ·
  rename_i s d q x ho
  have hx:=tN (q:=q) h (by simp[Oper.looks,ho,Op.operands]) hg
  split at hr
  ·rename_i k Mj
   split at hr
   ·rename_i k0 k' n wC hl
    cases hr
    exact cK.wp (akQ ho hx hl Mj wC) h hd hn
   ·cases hr
  ·rename_i Mj
   split at hr
   ·rename_i e wC
    split at hr
    ·rename_i hue yc
     cases hr
     obtain⟨ad,h1⟩:=cw (li hx yc) rfl
     refine cK.wp (sv:=we (.string ByteArray.empty)) ⟨.string ByteArray.empty,?_,m6 ⟨rfl,by decide⟩⟩ h hd hn
     unfold execOp;simp only[ho,h1]
     exact iQ (adb wC hue Mj ad 0)
    ·rename_i y hue yc
     split at hr
     ·rename_i ps b ha
      split at hr
      ·rename_i ys hys
       cases hr
       have:=eE hys
       subst this
       exact cK.wp (akR ho (yN h ha (fun p kP=>hp p kP) (li hx yc)) wC hue Mj) h hd hn
      ·cases hr
     ·cases hr
    ·cases hr
   ·cases hr
  ·cases hr
 ·cases hr
theorem ajR(hE:E.Good)(h:cQ E pm F kv fp σ a w){b:Bool}{o:Oper}{r:cm U}{ks:List Key}(hs:step E b σ o=some (r,ks))(hp:∀p∈r.pre,p)(od:∀k∈eo o r,¬Names σ k)
  {next:Act->World->Prop} {Q:Exit->Act->World->Prop} (hn:∀F kv fp a' w',cQ E pm F kv fp (AM.apply o r σ) a' w'->next a' w'):o.wp E.P a w next Q:=by
 unfold step at hs
 rw[iu] at hs
 split at hs
 ·rename_i hc
  simp only[cO] at hc
  have hd:∀d,o.dst=some d->d<σ.n:=by
   intro d hd
   have:=hc.1
   unfold qH at this
   rw[hd] at this
   exact Nat.blt_eq▸this
  split at hs
  ·rename_i c x y ho
   split at hs
   ·rename_i t ht
    have Xf:∃sc,MW σ c=some sc/\jj sc=some (.bool t):=by
     unfold zK Gv at ht
     split at ht
     ·rename_i sc hsc;exact⟨sc,hsc,ht⟩
     ·cases ht
    obtain⟨sc,h1,h2⟩:=Xf
    cases t with
    |true=>
     simp only[cond_true] at hs
     split at hs
     ·rename_i sv Ey
      cases hs
      exact cK.wp (acQ ho (D8 h h1) h2 (by simpa using D8 h Ey)) h hd hn
     ·cases hs
    |false=>
     simp only[cond_false] at hs
     split at hs
     ·rename_i sv Ey
      cases hs
      exact cK.wp (acQ ho (D8 h h1) h2 (by simpa using D8 h Ey)) h hd hn
     ·cases hs
   ·cases hs
  ·split at hs
   ·rename_i xs hg
    split at hs
    ·rename_i r' hr
     cases hs
     exact alj hE h hd hc.2 hg hr hp od hn
    ·cases hs
   ·cases hs
 ·cases hs
end AM
