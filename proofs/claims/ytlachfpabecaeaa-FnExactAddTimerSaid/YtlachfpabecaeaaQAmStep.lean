/- THE ABSTRACT MACHINE: one operation. -/
import Derived.Test.YtlachfpabecaeaaQAmOps9
import Derived.Test.YtlachfpabecaeaaQAmPart2
import Derived.Test.YtlachfpabecaeaaQAmOps10
namespace AM
set_option linter.unusedVariables false
open Go
variable{U:dh}{E:Env U}{pm:Pm}
variable{F F':Nat->Prop}{kv:Key->Value}{fp:Key->List Nat}{σ:aa U}{a:Act}{w w':World}{bad:Key->Bool}
theorem aB.wp{o:Oper}{sv:SV U}{ps:List Prop}(hm:aB E F kv fp (av σ) a w o sv)(h:aC E pm F kv fp σ a w)(hd:∀d,o.dst=some d->d<σ.n){next:Act->World->Prop}{Q:Exit->Act->World->Prop}
  (hn:∀F kv fp a' w',aC E pm F kv fp (AM.apply o ⟨some sv,[],[],[],ps⟩ σ) a' w'->next a' w'):o.wp E.P a w next Q:=by
 obtain⟨v,hr,hv⟩:=hm
 exact gq hr (hn _ _ _ _ _ (h.val o (some sv) ps v hd (by rintro x ⟨⟩;exact hv)))
theorem sh{o:Oper}{xs:List (SV U)}(h:fQ σ o=some xs):xs.length=(Oper.looks o).length/\∀(i:Nat)(x:SV U)(q:Operand),xs[i]? =some x->(Oper.looks o)[i]? =some q->qF σ q=some x:=by
 obtain⟨h1,h2⟩:=C7 h
 refine⟨h1,fun i x q hx hq=> ?_⟩
 obtain⟨y,hy,ho⟩:=h2 i q hq
 rw[hx] at hy;cases hy;exact ho
theorem HZ{q:Operand}{x:SV U}(h:qF σ q=some x):∀k∈x.keys,Names σ k:=by
 cases q with
 |tmp t=>exact fun k hk=> .inl ⟨t,x,h,hk⟩
 |global g=>cases h
 |func f=>cases h;intro k hk;simp[SV.keys,SV.lM] at hk
 |const v=>
  intro k hk
  exfalso
  have hc:∀{v:Value}{y:AC U},eV v=some y->y.keys=[]:=by
   intro v y hy
   unfold eV at hy
   split at hy
   ·cases hy;rfl
   ·cases hy;rfl
   ·rw[bY] at hy;split at hy<;>cases hy;rfl
   ·cases hy;rfl
   ·rw[bY] at hy;split at hy<;>cases hy;rfl
   ·cases hy
  have gS:∀{vs:List Value}{ys:List (AC U)},cD vs=some ys->∀y∈ys,y.keys=[]:=by
   intro vs
   induction vs with
   |nil=>intro ys hy y Ek;cases hy;cases Ek
   |cons v vs ih=>
    intro ys hy y Ek
    simp only[cD] at hy
    split at hy
    ·rename_i y1 Q4 h1 h2
     cases hy
     rcases dQ.1 Ek with rfl|Ek
     ·exact hc h1
     ·exact ih h2 y Ek
    ·cases hy
  simp only[qF] at h
  unfold oz at h
  split at h
  ·unfold gf at h
   split at h
   ·rename_i l hl
    cases h
    obtain⟨y,hy,kF⟩:=SV.mem_keys.1 hk
    rw[gS hl y hy] at kF;cases kF
   ·cases h
  ·split at h
   ·rename_i y hy
    cases h
    obtain⟨z,hz,kF⟩:=SV.mem_keys.1 hk
    simp only[one,SV.lM,gj] at hz
    subst hz
    rw[hc hy] at kF;cases kF
   ·cases h
theorem re{b:Option Operand}{bs AI:List (SV U)}{l:Option Int}(h:aC E pm F kv fp σ a w)(hb:nI b bs=some (l,AI)){L L':List Operand}(hL:L=b.toList++L')
  (hv:bs.length=L.length/\∀(i:Nat)(x:SV U)(q:Operand),bs[i]? =some x->L[i]? =some q->qF σ q=some x):
  xg l (b.map a.eval)/\AI.length=L'.length/\∀(i:Nat)(x:SV U)(q:Operand),AI[i]? =some x->L'[i]? =some q->qF σ q=some x:=by
 rcases JA hb with⟨rfl,rfl,rfl⟩|⟨y,sy,k,n,rfl,rfl,h1,rfl⟩
 ·subst hL
  exact⟨.inl ⟨rfl,rfl⟩,by simpa using hv.1,fun i x q hx hq=>hv.2 i x q hx (by simpa using hq)⟩
 ·subst hL
  have hy:=hv.2 0 sy y rfl rfl
  have:=fq (lZ h hy) h1
  exact⟨.inr ⟨k,n,rfl,by simp[this]⟩,by simpa using hv.1,fun i x q hx hq=>hv.2 (i+1) x q (by simpa using hx) (by simpa using hq)⟩
section
variable(E)
structure Env.Good:Prop where
 ok:E.Ok
 s3:∀f k,E.s3 f=some k->j_ E.P f/\aZ E f k
 s0:∀f k,E.s0 f=some k->j_ E.P f/\aZ E f k
theorem Env.Good.xb{E:Env U}(h:E.Good){b:Bool}{f:FuncId}{k:bB U}(hk:E.xb b f=some k):j_ E.P f/\aZ E f k:=by
 cases b with
 |false=>exact h.s3 f k hk
 |true=>exact h.s0 f k hk
end
theorem gQ(h:aC E pm F kv fp σ a w){o:Oper}{q:Operand}{x:SV U}(hl:Oper.looks o=[q])(hg:fQ σ o=some [x]):RS E w F kv fp (av σ) x (a.eval q):=
 lZ h ((sh hg).2 0 x q rfl (by rw[hl];rfl))
theorem ma(h:aC E pm F kv fp σ a w){o:Oper}{q q':Operand}{x y:SV U}(hl:Oper.looks o=[q,q'])(hg:fQ σ o=some [x,y]):
  RS E w F kv fp (av σ) x (a.eval q)/\RS E w F kv fp (av σ) y (a.eval q'):=
 ⟨lZ h ((sh hg).2 0 x q rfl (by rw[hl];rfl)),lZ h ((sh hg).2 1 y q' rfl (by rw[hl];rfl))⟩
theorem f'(h:aC E pm F kv fp σ a w){o:Oper}{l:List Operand}{xs:List (SV U)}(hl:Oper.looks o=l)(hg:fQ σ o=some xs):
  xs.length=l.length/\(∀(i:Nat)(x:SV U)(q:Operand),xs[i]? =some x->l[i]? =some q->RS E w F kv fp (av σ) x (a.eval q)):=by
 obtain⟨h1,h2⟩:=sh hg
 rw[hl] at h1 h2
 exact⟨h1,fun i x q hx hq=>lZ h (h2 i x q hx hq)⟩
theorem yX{o:Oper}{xs:List (SV U)}(hg:fQ σ o=some xs):∀x∈xs,∀k∈x.keys,Names σ k:=by
 intro x hx k hk
 obtain⟨i,hi,rfl⟩:=pA hx
 obtain⟨h1,h2⟩:=sh hg
 have bZ:i<(Oper.looks o).length:=by omega
 exact HZ (h2 i xs[i] (Oper.looks o)[i] (cE hi) (cE bZ)) k hk
theorem aC.G6{F:Nat->Prop}{kv:Key->Value}{fp:Key->List Nat}{σ:aa U}{a:Act}{w w':World}(h:aC E pm F kv fp σ a w)(hu:bH (fun _=>False) w w')(o:Oper)(sv:Option (SV U))(ps:List Prop)(v:Value)
  (hd:∀d,o.dst=some d->d<σ.n) (hv:∀x,sv=some x->RS E w' F kv fp (av σ) x v):
  aC E pm F kv fp (AM.apply o ⟨sv,[],[],[],ps⟩ σ) (a.put o.dst v) w':=by
 have hb:av (AM.apply o ⟨sv,[],[],[],ps⟩ σ)=av σ:=rfl
 refine h.apply (F':=F) (kv':=kv) (fp':=fp) (w':=w') o _ v hd ?_ (fun _ _=>rfl) (fun _ _ _=>rfl) ?_ (fun b hb=>⟨hb,hu.block b (h.hJ b hb) (fun x=>x)⟩) (fun k e _ _ _ he b hb=>hu.block b (h.bC k e b he hb).2.2 (fun x=>x)) ?_ ?_ ?_
  (fun b hb=>BI (h.hJ b hb) hu.size) h.hH (h.upto.trans (hu.mono (fun i hi=>hi.elim))) hu.size
 ·intro x hx;rw[hb];exact hv x hx
 ·intro k hk;simp[aQ] at hk
 ·intro k e hk;simp at hk
 ·intro k e b _ _ _ he KU;exact(h.bC k e b he KU).1
 ·intro k k' b _ hk;simp[aQ,cF] at hk
theorem HL{P:Program}{w:World}{a:Act}{o:Oper}{cl:Call}{q:Operand}{f:FuncId}{gL:Array Value}(fV:o.op=.call cl)(cp:cl.callee=.value q)(hq:a.eval q=.func (.func f) #[] gL)(hf:j_ P f):
  (execOp a.eval o).run P w=.ok (.enter f ((cl.args.toList.map a.eval).toArray++gL)) w:=by
 obtain⟨fn,h1,h2,h3⟩:=hf
 have e:execOp a.eval o=callFunc f (#[]++cl.args.map a.eval++gL):=by
  unfold execOp
  rw[fV]
  simp only[resolve,cp,hq]
  rfl
 rw[e]
 have e2:(#[]++cl.args.map a.eval++gL:Array Value)=(cl.args.toList.map a.eval).toArray++gL:=by
  apply Array.ext'
  simp
 rw[e2]
 have h4:fn.body≠none:=by cases hb:fn.body<;>simp[hb] at h2⊢
 have h5:fn.name≠ "runtime.NumGoroutine" :=by simpa using h3
 simp[callFunc,go_sem,h1,h4,h5]
theorem Ji(h:aC E pm F kv fp σ a w){rs:List Key}{K:List Key}:∀{xs:List (SV U)}{ws:List (List (Option U.Ty))}{vs:List Value}{ps:List Prop}{ds:List (DA U)},kZ (restrict σ.aq rs) σ.ag ws xs=some (ps,ds)->(∀p∈ps,p)->xs.length=vs.length->
  (∀(i:Nat)(x:SV U)(u:Value),xs[i]? =some x->vs[i]? =some u->RS E w F kv fp (av σ) x u)->(∀x∈xs,∀k∈x.keys,(σ.aq k).isSome=true->k∈K)->FQ E w (FK F fp K) ds vs:=by
 intro xs
 induction xs with
 |nil=>
  intro ws vs ps ds hc hp hl hx hK
  simp only[kZ,bM,eX] at hc
  obtain⟨rfl,rfl⟩:=hc
  exact⟨by simpa using hl,fun i d v hd=>by simp at hd⟩
 |cons x xs ih=>
  intro ws vs ps ds hc hp hl hx hK
  cases vs with
  |nil=>simp at hl
  |cons v vs=>
   simp only[kZ] at hc
   split at hc
   ·rename_i vx c zf B_ h1 h2
    cases hc
    obtain⟨i1,i2⟩:=ih h2 (fun p cT=>hp p (by simp[cT])) (by simpa using hl) (fun i y u hy hu=>hx (i+1) y u (by simpa using hy) (by simpa using hu)) (fun y hy=>hK y (c9 _ hy))
    obtain⟨g1,_⟩:dV E w (FK F fp K) .ro (.one c) v []:=wu h h1 (fun p cT=>hp p (by simp[cT])) (hx 0 x v rfl rfl) (hK x e_)
    refine⟨by simp[i1],fun i d u hd hu=> ?_⟩
    cases i with
    |zero=>
     simp only[iB,bM] at hd hu
     subst hd;subst hu
     exact⟨[v],rfl,fun i c' dM=>by
      cases i with
      |zero=>simp only[iB,bM] at dM;subst dM;exact g1
      |succ i=>simp at dM,rfl⟩
    |succ i=>exact i2 i d u (by simpa using hd) (by simpa using hu)
   ·rename_i vx cs zf B_ h1 h2
    cases hc
    obtain⟨i1,i2⟩:=ih h2 (fun p cT=>hp p (by simp[cT])) (by simpa using hl) (fun i y u hy hu=>hx (i+1) y u (by simpa using hy) (by simpa using hu)) (fun y hy=>hK y (c9 _ hy))
    obtain⟨us,g1,g2,g3,_⟩:dV E w (FK F fp K) .ro (.agg cs) v []:=wu h h1 (fun p cT=>hp p (by simp[cT])) (hx 0 x v rfl rfl) (hK x e_)
    refine⟨by simp[i1],fun i d u hd hu=> ?_⟩
    cases i with
    |zero=>
     simp only[iB,bM] at hd hu
     subst hd;subst hu
     exact⟨us,g2,g3,g1⟩
    |succ i=>exact i2 i d u (by simpa using hd) (by simpa using hu)
   ·cases hc
theorem D0:∀{xs:List (SV U)}{l:List (AV U)},k9 xs=some l->xs=l.map SV.v
 |[],l,h=>by cases h;rfl
 | .v x::r,l,h=>by
  simp only[k9] at h
  split at h
  ·rename_i l' hl;cases h;rw[D0 hl];rfl
  ·cases h
 | .iV _::r,l,h=>by simp[k9] at h
 | .fn _::r,l,h=>by simp[k9] at h
 | .nH _ _::r,l,h=>by simp[k9] at h
theorem Iz{bad:Key->Bool}{o:Oper}{g:FuncId}{fst xZ:Array Operand}{xs:List (SV U)}{l:List (AV U)}(ho:o.op=.makeFunc (.func g) fst xZ)(he:fst.isEmpty=true)(hl:k9 xs=some l)
  (h1:xs.length=(fst++xZ).toList.length) (h2:∀(i:Nat)(x:SV U)(q:Operand),xs[i]? =some x->(fst++xZ).toList[i]? =some q->RS E w F kv fp bad x (a.eval q)):aB E F kv fp bad a w o (.nH g l):=by
 have hf:fst= #[]:=by simpa using he
 subst hf
 have hx:=D0 hl
 subst hx
 refine⟨.func (.func g) #[] (xZ.map a.eval),?_,⟨(xZ.map a.eval).toList,by rw[Array.toArray_toList],by simpa using h1,fun i x u hx hu=> ?_⟩⟩
 ·unfold execOp;simp only[ho]
  have e:Array.map a.eval #[]= #[]:=by simp
  rw[e]
  exact cd rfl
 ·rw[Cg,eC] at hu
  cases hq:xZ.toList[i]? with
  |none=>rw[hq] at hu;cases hu
  |some q=>
   rw[hq] at hu;cases hu
   exact h2 i (.v x) q (by rw[eC,hx];rfl) (by simpa using hq)
theorem I3(hE:E.Good)(h:aC E pm F kv fp σ a w){o:Oper}(hd:∀d,o.dst=some d->d<σ.n)(hk:kindOk o=true){xs:List (SV U)}(hg:fQ σ o=some xs){rs:List Key}{r:aw U}
  {b:Bool} (hr:kL E b (restrict σ.aq rs) σ.ag o xs=some r) (hp:∀p∈r.pre,p) (eK:∀k∈aQ o r,¬Names σ k) {next:Act->World->Prop} {Q:Exit->Act->World->Prop}
  (hn:∀F kv fp a' w',aC E pm F kv fp (AM.apply o r σ) a' w'->next a' w'):o.wp E.P a w next Q:=by
 have xG:∀{t:Option Nat},t.isSome=true->∃d,t=some d:=fun h=>ef.1 h
 unfold kL at hr
 simp only at hr
 split at hr
 ·
  rename_i q x ho
  cases hr
  exact aB.wp (Ii ho (gQ h (by simp[Oper.looks,ho,Op.operands]) hg)) h hd hn
 ·
  rename_i q x ho
  cases hr
  exact aB.wp (IC ho (gQ h (by simp[Oper.looks,ho,Op.operands]) hg)) h hd hn
 ·
  rename_i op t q x ho
  split at hr
  ·rename_i v hv
   cases hu:pS op v with
   |none=>rw[hu] at hr;cases hr
   |some u=>
    rw[hu] at hr;cases hr
    exact aB.wp (Ie ho (gQ h (by simp[Oper.looks,ho,Op.operands]) hg) hv hu) h hd hn
  ·cases hr
 ·
  rename_i op t q q' t' x y ho
  split at hr
  ·rename_i u v hu hv
   cases hb:me E t op u v with
   |none=>rw[hb] at hr;cases hr
   |some pv=>
    obtain⟨ps,v'⟩:=pv
    rw[hb] at hr;cases hr
    obtain⟨h1,h2⟩:=ma (q:=q) (q':=q') h (by simp[Oper.looks,ho,Op.operands]) hg
    exact aB.wp (IB ho h1 hu h2 hv hb hp) h hd hn
  ·split at hr
   ·rename_i r' ff
    cases hr
    obtain⟨h1,h2⟩:=ma (q:=q) (q':=q') h (by simp[Oper.looks,ho,Op.operands]) hg
    obtain⟨b,rfl,hm⟩:=Iw ho h1 h2 ff
    exact aB.wp hm h hd hn
   unfold tU at hr
   split at hr
   ·rename_i n c b τ xs _ _
    split at hr
    ·rename_i e hu
     cases hr
     obtain⟨h1,h2⟩:=ma (q:=q) (q':=.const (.slice none n c)) h (by simp[Oper.looks,ho,Op.operands]) hg
     exact aB.wp (Ih ho h1 hu) h hd hn
    ·cases hr
   ·cases hr
 ·
  rename_i q i l ho
  cases hy:l[i]? with
  |none=>rw[hy] at hr;cases hr
  |some y=>
   rw[hy] at hr;cases hr
   exact aB.wp (Iv ho (gQ h (by simp[Oper.looks,ho,Op.operands]) hg) hy) h hd hn
 ·
  rename_i t ho
  split at hr
  ·rename_i z hz
   split at hr
   ·rename_i x hx
    cases hr
    obtain⟨d,dq⟩:=xG (by simpa[kindOk,ho] using hk)
    unfold gf at hx
    split at hx
    ·rename_i l hl
     cases hx
     have jp:¬Names σ (d,0):=eK _ (by simp[aQ,dq])
     refine JO h dq (hd d dq) ho hz hl jp (fun F kv fp a' w' hs=>hn F kv fp a' w' ?_)
     simpa[dq] using hs
    ·cases hx
   ·cases hr
  ·cases hr
 ·
  rename_i t q x ho
  split at hr
  ·rename_i y n g hy iT wS
   split at hr
   ·rename_i r' wK
    cases hr
    rw[bY] at wK
    split at wK
    ·obtain⟨sv,ps,rfl,hm⟩:=Ig h ho (gQ h (by simp[Oper.looks,ho,Op.operands]) hg) hy iT wS wK hp
     exact aB.wp hm h hd hn
    ·cases wK
   split at hr
   ·rename_i r' m8
    cases hr
    obtain⟨sv,ps,rfl,hm⟩:=Ij h ho (gQ h (by simp[Oper.looks,ho,Op.operands]) hg) hy iT wS m8 hp
    exact aB.wp hm h hd hn
   ·refine Ia h hd ho (gQ h (by simp[Oper.looks,ho,Op.operands]) hg) hy (fun k hk=>yX hg x (by simp) k ?_) iT wS hr hp eK hn
    rw[qg hy];simpa[one,SV.keys,SV.lM] using hk
  ·cases hr
 ·
  rename_i t q q' p x ho
  split at hr
  ·rename_i y n hy hs
   cases hb:Nat.beq n x.cs.length<;>simp only[hb,cond_true,cond_false] at hr
   ·cases hr
   ·obtain⟨h1,h2⟩:=ma (q:=q) (q':=q') h (by simp[Oper.looks,ho,Op.operands]) hg
    have rJ:o.dst=none:=by simpa[kindOk,ho] using hk
    split at hr
    ·rename_i r' m8
     cases hr
     exact Ho h rJ ho h1 hy h2 hs (en hb) m8 hp hn
    ·split at hr
     ·rename_i r' m8
      cases hr
      exact Hp h rJ ho h1 hy h2 hs (en hb) m8 hp hn
     ·exact Hq h rJ ho h1 hy h2 hs (en hb) hr hp hn
  ·cases hr
 ·
  rename_i t q f x ho
  split at hr
  ·rename_i y off ft hy hf
   split at hr
   ·rename_i n hs
    have hx:=gQ (q:=q) h (by simp[Oper.looks,ho,Op.operands]) hg
    split at hr
    ·cases hr
     exact aB.wp (Iq ho hx hy hf hs) h hd hn
    ·cases hr
     exact aB.wp (Is ho hx hy hf hs) h hd hn
    ·rename_i k p i wd oo
     cases hc:bE (restrict σ.aq rs) σ.ag k p<;>simp only[hc,cond_true,cond_false] at hr
     ·cases hr
     ·cases hr
      have hb:ck (av σ) (AC.dt (U:=U) k p i wd oo)=false:=by
       simp only[ck]
       have dM:=hc
       unfold bE at dM
       cases OB:p.isEmpty
       ·rw[OB] at dM
        simp only[rh,dR] at dM
        obtain⟨e,he⟩:=ef.1 dM.1
        have:=nV hc he
        rwa[OB] at this
       ·rfl
      exact aB.wp (Ir ho hx hy hb hf hs) h hd hn
    ·cases hr
   ·cases hr
  ·cases hr
 ·
  rename_i t q f cs ho
  split at hr
  ·rename_i off ft hf
   split at hr
   ·rename_i n g hs wS
    cases hb:(Nat.ble (off+n) cs.length&&(g||Nat.beq n 1))<;>simp only[hb,cond_true,cond_false] at hr
    ·cases hr
    ·cases hr
     exact aB.wp (Iu ho (gQ h (by simp[Oper.looks,ho,Op.operands]) hg) hf hs wS hb) h hd hn
   ·cases hr
  ·cases hr
 ·
  rename_i t parts ho
  split at hr
  ·rename_i pl z oe hz
   split at hr
   ·rename_i l hl
    split at hr
    ·rename_i cs hc
     cases hr
     obtain⟨h1,h2⟩:=f' h (l:=parts.toList.map (·.2)) (by simp[Oper.looks,ho]) hg
     refine aB.wp (IA ho (by simpa using h1) (fun i x q hx hq=>h2 i x q.2 hx (by rw[eC,hq];rfl)) oe hz hl hc) h hd hn
    ·cases hr
   ·cases hr
  ·cases hr
 ·
  rename_i t len parts ho
  split at hr
  ·rename_i e he
   split at hr
   ·rename_i τ qh
    rw[bY] at hr
    split at hr
    ·rename_i hc
     simp only[dR] at hc
     obtain⟨⟨mO,rK⟩,E4⟩:=hc
     rw[bY] at hr
     split at hr
     ·rw[bY] at hr
      split at hr
      ·rename_i Kv
       cases hr
       obtain⟨d,dq⟩:=xG (by simpa[kindOk,ho] using hk)
       obtain⟨h1,h2⟩:=f' h (l:=parts.toList.map (·.2)) (by simp[Oper.looks,ho]) hg
       have jp:¬Names σ (d,0):=eK _ (by simp[aQ,dq])
       refine IM hE.ok h dq (hd d dq) ho he qh (by simpa using h1) (fun i x q hx hq=>h2 i x q.2 hx (by rw[eC,hq];rfl)) (en mO) rK (pz E4) Kv jp
        (fun F kv fp a' w' hs=>hn F kv fp a' w' ?_)
       simpa[dq] using hs
      ·cases hr
     split at hr
     ·rename_i ps rows ks dp Ez
      rw[bY] at hr
      split at hr
      ·rename_i gD
       cases hr
       obtain⟨d,dq⟩:=xG (by simpa[kindOk,ho] using hk)
       obtain⟨h1,h2⟩:=f' h (l:=parts.toList.map (·.2)) (by simp[Oper.looks,ho]) hg
       have jp:¬Names σ (d,0):=eK _ (by simp[aQ,dq])
       refine Jy hE.ok h dq (hd d dq) ho he qh (by simpa using h1) (fun i x q hx hq=>h2 i x q.2 hx (by rw[eC,hq];rfl)) (en mO) rK (pz E4) Ez hp (ic.1 gD) jp
        (fun F kv fp a' w' hs=>hn F kv fp a' w' ?_)
       simpa[dq] using hs
      ·cases hr
     ·cases hr
    ·cases hr
   ·cases hr
  ·cases hr
 ·
  rename_i t q q' l c ho
  split at hr
  ·rename_i e n m he hl hc
   split at hr
   ·rename_i τ qh
    cases hr
    obtain⟨d,dq⟩:=xG (by simpa[kindOk,ho] using hk)
    obtain⟨h1,h2⟩:=ma (q:=q) (q':=q') h (by simp[Oper.looks,ho,Op.operands]) hg
    have jp:¬Names σ (d,0):=eK _ (by simp[aQ,dq])
    refine ID hE.ok h dq (hd d dq) ho he qh h1 hl h2 hc (hp _ (by simp)) (hp _ (by simp)) (hp _ (by simp)) (ps:=[0<=n,n=m,n<=4294967296]) jp (fun F kv fp a' w' hs=>hn F kv fp a' w' ?_)
    simpa[dq] using hs
   ·cases hr
  ·cases hr
 ·
  rename_i t q q' x i ho
  split at hr
  ·rename_i kd n y m hi hy hm
   obtain⟨h1,h2⟩:=ma (q:=q) (q':=q') h (by simp[Oper.looks,ho,Op.operands]) hg
   split at hr
   ·rename_i τ ys
    rw[bY] at hr
    split at hr
    ·rename_i hb
     cases hr
     exact aB.wp (Ip ho h1 hy h2 hi hm (en hb) (hp _ (by simp[aw.aD])) (hp _ (by simp[aw.aD]))) h hd hn
    ·cases hr
   ·rename_i k p
    split at hr
    ·rename_i ps b ha
     rw[bY] at hr
     split at hr
     ·rename_i hb
      cases hr
      exact aB.wp (Im h ho h1 hy h2 hi hm ha (en hb) (fun p cT=>hp p (by simp[aw.aD,cT])) (hp _ (by simp[aw.aD])) (hp _ (by simp[aw.aD]))) h hd hn
     ·cases hr
    ·split at hr
     ·rename_i b Ka _
      rw[bY] at hr
      split at hr
      ·rename_i hb
       cases hr
       exact aB.wp (Io h ho h1 hy h2 hi hm Ka (en hb) (hp _ (by simp[aw.aD])) (hp _ (by simp[aw.aD]))) h hd hn
      ·cases hr
     ·cases hr
   ·cases hr
  ·cases hr
 ·
  rename_i t q q' x i ho
  split at hr
  ·rename_i s kd n hx hi hu
   cases hr
   obtain⟨h1,h2⟩:=ma (q:=q) (q':=q') h (by simp[Oper.looks,ho,Op.operands]) hg
   exact aB.wp (Il ho h1 hx h2 hi hu (hp _ (by simp[aw.lit,aw.aD])) (hp _ (by simp[aw.lit,aw.aD]))) h hd hn
  ·cases hr
 ·
  rename_i t q lo hi mx x bs ho
  have hl:Oper.looks o=q::(lo.toList++(hi.toList++(mx.toList++[]))):=by simp[Oper.looks,ho,Op.operands]
  obtain⟨g1,g2⟩:=sh hg
  rw[hl] at g1 g2
  have hx:RS E w F kv fp (av σ) x (a.eval q):=lZ h (g2 0 x q rfl rfl)
  split at hr
  ·rename_i l OZ gE
   obtain⟨k1,k2⟩:=re (a:=a) (w:=w) (L:=lo.toList++(hi.toList++(mx.toList++[]))) (L':=hi.toList++(mx.toList++[])) h gE rfl ⟨by simpa using g1,fun i y u hy hu=>g2 (i+1) y u (by simpa using hy) (by simpa using hu)⟩
   split at hr
   ·rename_i hh OY gT
    obtain⟨k3,k4⟩:=re (L':=mx.toList++[]) h gT rfl k2
    split at hr
    ·rename_i m KW
     obtain⟨k5,k6⟩:=re (L':=[]) h KW rfl k4
     obtain⟨sv,ps,rfl,hm⟩:=If h ho hx k1 k3 k5 hr hp
     exact aB.wp hm h hd hn
    ·cases hr
   ·cases hr
  ·cases hr
 ·
  rename_i args argTypes x ho
  split at hr
  ·rename_i t ly
   have m_:Oper.looks o=args.toList:=by simp[Oper.looks,ho]
   obtain⟨g1,g2⟩:=f' h m_ hg
   obtain⟨q,hq⟩:∃q,args.toList=[q]:=by
    match hm:args.toList,g1 with
    |[q],_=>exact⟨q,rfl⟩
   have hx:RS E w F kv fp (av σ) x (a.eval q):=g2 0 x q rfl (by rw[hq];rfl)
   split at hr
   ·rename_i s hs
    split at hr
    ·rename_i hu
     cases hr
     exact aB.wp (Ik ho rfl hq ly hx hs hu) h hd hn
    ·cases hr
   ·cases hr
   ·split at hr
    ·rename_i e jT iq
     cases hr
     obtain⟨ad,P9⟩:=ax (de hx jT) rfl
     exact aB.wp (yP (n:=0) ho rfl hq ly ⟨ad,0,P9⟩ (l5 iq) (Nat.zero_le _)) h hd hn
    ·rename_i y e jT iq
     split at hr
     ·rename_i ps b ha
      cases hr
      have zG:=y9 h ha hp (de hx jT)
      obtain⟨ad,c,hs,_⟩:=zG.slice
      exact aB.wp (yP ho rfl hq ly ⟨ad,c,hs⟩ (l5 iq) zG.len) h hd hn
     ·split at hr
      ·rename_i b Ka
       cases hr
       obtain⟨k,dead,_,_,ei⟩:=Dk h Ka (de hx jT)
       obtain⟨ad,c,hs,hle⟩:=ei.slice
       exact aB.wp (yP ho rfl hq ly ⟨ad,c,hs⟩ (l5 iq) hle) h hd hn
      ·cases hr
    ·cases hr
  ·cases hr
 ·
  rename_i args argTypes x ho
  split at hr
  rotate_left
  ·cases hr
  rename_i t ly
  split at hr
  rotate_left
  ·cases hr
  rename_i e k wd lo hi iq jT
  split at hr
  rotate_left
  ·cases hr
  rename_i τ a0 dead hc he
  rw[bY] at hr
  split at hr
  rotate_left
  ·cases hr
  rename_i iF
  split at hr
  rotate_left
  ·cases hr
  rename_i xs El
  cases hr
  have:=aT El
  subst this
  have iF:=en iF
  subst iF
  have m_:Oper.looks o=args.toList:=by simp[Oper.looks,ho]
  obtain⟨g1,g2⟩:=f' h m_ hg
  obtain⟨q,hq⟩:∃q,args.toList=[q]:=by
   match hm:args.toList,g1 with
   |[q],_=>exact⟨q,rfl⟩
  exact Jp hE.ok h hd ho rfl hq ly iq hc (g2 0 x q rfl (by rw[hq];rfl)) jT (cJ he) (hp _ (by simp)) (hp _ (by simp)) hn
 ·
  rename_i args argTypes x y ho
  split at hr
  ·rename_i kd m n hx hy
   rw[bY] at hr
   split at hr
   ·rename_i i_
    have i_:=of_decide_eq_true i_
    subst i_
    cases hr
    have m_:Oper.looks o=args.toList:=by simp[Oper.looks,ho]
    obtain⟨g1,g2⟩:=f' h m_ hg
    obtain⟨q,q',hq⟩:∃q q',args.toList=[q,q']:=by
     match hm:args.toList,g1 with
     |[q,q'],_=>exact⟨q,q',rfl⟩
    have:=Dw (b:=true) ho (by rfl) hq (g2 0 x q rfl (by rw[hq];rfl)) hx (g2 1 y q' rfl (by rw[hq];rfl)) hy
    exact aB.wp (by simpa using this) h hd hn
   ·cases hr
  ·cases hr
 ·
  rename_i args argTypes x y ho
  split at hr
  ·rename_i kd m n hx hy
   rw[bY] at hr
   split at hr
   ·rename_i i_
    have i_:=of_decide_eq_true i_
    subst i_
    cases hr
    have m_:Oper.looks o=args.toList:=by simp[Oper.looks,ho]
    obtain⟨g1,g2⟩:=f' h m_ hg
    obtain⟨q,q',hq⟩:∃q q',args.toList=[q,q']:=by
     match hm:args.toList,g1 with
     |[q,q'],_=>exact⟨q,q',rfl⟩
    have:=Dw (b:=false) ho (by rfl) hq (g2 0 x q rfl (by rw[hq];rfl)) hx (g2 1 y q' rfl (by rw[hq];rfl)) hy
    exact aB.wp (by simpa using this) h hd hn
   ·cases hr
  ·cases hr
 ·
  rename_i args argTypes s x ho
  split at hr
  ·rename_i t u ly
   split at hr
   ·rename_i e e' ys yx iq KF hs hx
    rw[bY] at hr
    split at hr
    ·rename_i hc
     simp only[dR] at hc
     have Ps:t=u:=en hc.1
     subst Ps
     split at hr
     ·rename_i τ qh
      split at hr
      ·rename_i ps xs ks d1 qs zs ks' d2 h1 h2
       rw[bY] at hr
       split at hr
       ·rename_i gD
        cases hr
        obtain⟨d,dq⟩:=xG (by simpa[kindOk,ho] using hk)
        have m_:Oper.looks o=args.toList:=by simp[Oper.looks,ho]
        obtain⟨g1,g2⟩:=f' h m_ hg
        obtain⟨q,q',hq⟩:∃q q',args.toList=[q,q']:=by
         match hm:args.toList,g1 with
         |[q,q'],_=>exact⟨q,q',rfl⟩
        have jp:¬Names σ (d,0):=eK _ (by simp[aQ,dq])
        refine JM (pall:=ps++qs++[xs.length+zs.length<=4294967296]) hE.ok h dq (hd d dq) ho rfl hq ly iq qh (g2 0 s q rfl (by rw[hq];rfl)) hs (g2 1 x q' rfl (by rw[hq];rfl)) hx h1 h2 (fun p cT=>hp p (by simp[cT])) (ic.1 gD) (hp _ (by simp)) jp
         (fun F kv fp a' w' hs=>hn F kv fp a' w' ?_)
        simpa[dq] using hs
       ·cases hr
      ·rename_i ps xs ks h1 _
       split at hr
       ·rename_i zs ks' h2
        rw[bY] at hr
        split at hr
        ·rename_i gD
         cases hr
         obtain⟨d,dq⟩:=xG (by simpa[kindOk,ho] using hk)
         have m_:Oper.looks o=args.toList:=by simp[Oper.looks,ho]
         obtain⟨g1,g2⟩:=f' h m_ hg
         obtain⟨q,q',hq⟩:∃q q',args.toList=[q,q']:=by
          match hm:args.toList,g1 with
          |[q,q'],_=>exact⟨q,q',rfl⟩
         have jp:¬Names σ (d,0):=eK _ (by simp[aQ,dq])
         refine JN (pall:=ps++[xs.length+zs.length<=4294967296]) hE.ok h dq (hd d dq) ho rfl hq ly iq qh (g2 0 s q rfl (by rw[hq];rfl)) hs (g2 1 x q' rfl (by rw[hq];rfl)) hx h1 h2 (fun p cT=>hp p (by simp[cT])) (ic.1 gD) (hp _ (by simp)) jp
          (fun F kv fp a' w' hs=>hn F kv fp a' w' ?_)
         simpa[dq] using hs
        ·cases hr
       ·cases hr
      ·cases hr
     ·cases hr
    ·cases hr
   ·rename_i e ys str iq KF hs hx
    split at hr
    ·rename_i τ hu qh
     split at hr
     ·rename_i ps xs ks d1 zs h1 h2
      rw[bY] at hr
      split at hr
      ·rename_i gD
       cases hr
       obtain⟨d,dq⟩:=xG (by simpa[kindOk,ho] using hk)
       have m_:Oper.looks o=args.toList:=by simp[Oper.looks,ho]
       obtain⟨g1,g2⟩:=f' h m_ hg
       obtain⟨q,q',hq⟩:∃q q',args.toList=[q,q']:=by
        match hm:args.toList,g1 with
        |[q,q'],_=>exact⟨q,q',rfl⟩
       have jp:¬Names σ (d,0):=eK _ (by simp[aQ,dq])
       have Kk:cr x=some (.string str):=by
        unfold iA at hx
        split at hx
        ·cases hx;rfl
        ·cases hx
       refine JL (pall:=ps++[xs.length+zs.length<=4294967296]) hE.ok h dq (hd d dq) ho rfl hq ly iq qh (g2 0 s q rfl (by rw[hq];rfl)) hs (g2 1 x q' rfl (by rw[hq];rfl)) Kk hu h1 h2 (fun p cT=>hp p (by simp[cT])) (ic.1 gD) (hp _ (by simp)) jp
        (fun F kv fp a' w' hs=>hn F kv fp a' w' ?_)
       simpa[dq] using hs
      ·cases hr
     ·cases hr
    ·cases hr
   ·cases hr
  ·cases hr
 ·
  rename_i g fst xZ ho
  rw[bY] at hr
  split at hr
  ·rename_i KE
   split at hr
   ·rename_i l hl
    cases hr
    have m_:Oper.looks o=(fst++xZ).toList:=by simp[Oper.looks,ho,Op.operands]
    obtain⟨g1,g2⟩:=f' h m_ hg
    exact aB.wp (Iz ho KE hl (by simpa using g1) (by simpa using g2)) h hd hn
   ·cases hr
  ·cases hr
 ·
  rename_i t args argTypes p xs' ho
  have m_:Oper.looks o=.tmp t::args.toList:=by simp[Oper.looks,ho]
  obtain⟨g1,g2⟩:=f' h m_ hg
  have ET:ey E w F p (a.eval (.tmp t)):=g2 0 (.fn p) (.tmp t) rfl rfl
  obtain⟨g,gL,hv,hf,E3⟩:=ET
  unfold mr at hr
  split at hr
  ·rename_i ps ds oq
   have main:∀(v:Value)(pP:List Prop),(∀q∈ps++[p ds=some v],q)->r=⟨some (iR v),[],[],[],pP⟩->o.wp E.P a w next Q:=by
    intro v pP hq hr
    have E0:=Ji (K:=(xs'.flatMap SV.keys).filter fun k=>(σ.aq k).isSome) (vs:=args.toList.map a.eval) h oq (fun q PA=>hq q (by simp[PA])) (by simpa using g1) (fun i x u hx hu=>by
     rw[eC] at hu
     cases hq:args.toList[i]? with
     |none=>rw[hq] at hu;cases hu
     |some q=>rw[hq] at hu;cases hu;exact g2 (i+1) x q (by simpa using hx) (by simpa using hq)) (fun x hx k hk hs=>po.2 ⟨eY.2 ⟨x,hx,hk⟩,hs⟩)
    have bZ:∀b,FK F fp ((xs'.flatMap SV.keys).filter fun k=>(σ.aq k).isSome) b->b<w.heap.size:=by
     rintro b (hb|⟨k,hk,hb⟩)
     ·exact h.hJ b hb
     ·obtain⟨e,he⟩:=ef.1 (po.1 hk).2
      exact(h.bC k e b he hb).2.2
    have hc:=E3 ds v (hq _ (by simp)) w _ (fun b hb=>⟨.inl hb,rfl⟩) bZ _ E0
    show o.upon E.P a next Q ((execOp a.eval o).run E.P w)
    rw[HL ho rfl hv hf,Oper.upon_enter]
    refine hc.mono ?_
    rintro e w' ⟨rfl,zV,eJ⟩
    show next (a.put o.dst v) w'
    refine hn F kv fp _ w' ?_
    rw[hr]
    exact h.G6 eJ o _ _ v hd (fun x hx=>by cases hx;exact ee zV)
   split at hr
   ·have nw:=(yf hr).symm
    exact main _ _ (by rw[nw] at hp;exact hp) nw
   ·have nw:=(yf hr).symm
    exact main _ _ (by rw[nw] at hp;exact hp) nw
   ·cases hr
  ·cases hr
 ·
  rename_i f args argTypes ho
  split at hr
  ·rename_i k KN
   obtain⟨hf,hs⟩:=hE.xb KN
   have m_:Oper.looks o=args.toList:=by simp[Oper.looks,ho]
   obtain⟨g1,g2⟩:=f' h m_ hg
   exact Ju hE.s3 h hd ho rfl hf hs g1 (yX hg) g2 hr hp eK hn
  ·cases hr
 ·
  rename_i t q x ho
  rw[bY] at hr
  split at hr
  ·rename_i hc
   simp only[dR] at hc
   cases hr
   obtain⟨d,dq⟩:=xG (by simpa[kindOk,ho] using hk)
   have jp:¬Names σ (d,0):=eK _ (by simp[aQ,dq])
   refine Jz h dq (hd d dq) ho (gQ h (by simp[Oper.looks,ho,Op.operands]) hg) (fun y hy k hk=>yX hg (.v x) (by simp) k (SV.mem_keys.2 ⟨y,hy,hk⟩)) hc.1 jp (fun F kv fp a' w' hs=>hn F kv fp a' w' ?_)
   simpa[dq] using hs
  ·cases hr
 ·
  rename_i q x ho
  have hx:=gQ (q:=q) h (by simp[Oper.looks,ho,Op.operands]) hg
  split at hr
  ·rename_i cs jT
   cases hr
   obtain⟨b,o',h1,_⟩:=ax (de hx jT) rfl
   exact aB.wp (yO ho hx h1) h hd hn
  ·rename_i k off jT
   cases hr
   obtain⟨b,_,h1⟩:=ax (de hx jT) rfl
   exact aB.wp (yO ho hx h1) h hd hn
  ·rename_i k p i wd off jT
   rw[bY] at hr
   split at hr
   ·rename_i cp
    cases hr
    obtain⟨b,o',n,c,_,h1⟩:=ax (de hx jT) (DU (x:=.dt k p i wd off) cp)
    exact aB.wp (yO ho hx h1) h hd hn
   ·cases hr
  ·cases hr
 ·
  rename_i s d q x ho
  have hx:=gQ (q:=q) h (by simp[Oper.looks,ho,Op.operands]) hg
  split at hr
  ·rename_i k qk
   split at hr
   ·rename_i k0 k' n fv hl
    cases hr
    exact aB.wp (Ix ho hx hl qk fv) h hd hn
   ·cases hr
  ·rename_i qk
   split at hr
   ·rename_i e fv
    split at hr
    ·rename_i J3 jT
     cases hr
     obtain⟨ad,h1⟩:=ax (de hx jT) rfl
     refine aB.wp (sv:=iR (.string ByteArray.empty)) ⟨.string ByteArray.empty,?_,ee ⟨rfl,by decide⟩⟩ h hd hn
     unfold execOp;simp only[ho,h1]
     exact cd (DS fv J3 qk ad 0)
    ·rename_i y J3 jT
     split at hr
     ·rename_i ps b ha
      split at hr
      ·rename_i ys JT
       cases hr
       have:=aT JT
       subst this
       exact aB.wp (Iy ho (j9 h ha (fun p cT=>hp p cT) (de hx jT)) fv J3 qk) h hd hn
      ·cases hr
     ·cases hr
    ·cases hr
   ·cases hr
  ·cases hr
 ·cases hr
theorem Ht(hE:E.Good)(h:aC E pm F kv fp σ a w){b:Bool}{o:Oper}{r:aw U}{ks:List Key}(hs:step E b σ o=some (r,ks))(hp:∀p∈r.pre,p)(eK:∀k∈aQ o r,¬Names σ k)
  {next:Act->World->Prop} {Q:Exit->Act->World->Prop} (hn:∀F kv fp a' w',aC E pm F kv fp (AM.apply o r σ) a' w'->next a' w'):o.wp E.P a w next Q:=by
 unfold step at hs
 rw[bY] at hs
 split at hs
 ·rename_i hc
  simp only[dR] at hc
  have hd:∀d,o.dst=some d->d<σ.n:=by
   intro d hd
   have:=hc.1
   unfold fF at this
   rw[hd] at this
   exact Nat.blt_eq▸this
  split at hs
  ·rename_i c x y ho
   split at hs
   ·rename_i t ht
    have wU:∃sc,qF σ c=some sc/\cr sc=some (.bool t):=by
     unfold kw ns at ht
     split at ht
     ·rename_i sc J8;exact⟨sc,J8,ht⟩
     ·cases ht
    obtain⟨sc,h1,h2⟩:=wU
    cases t with
    |true=>
     simp only[cond_true] at hs
     split at hs
     ·rename_i sv mg
      cases hs
      exact aB.wp (Dv ho (lZ h h1) h2 (by simpa using lZ h mg)) h hd hn
     ·cases hs
    |false=>
     simp only[cond_false] at hs
     split at hs
     ·rename_i sv mg
      cases hs
      exact aB.wp (Dv ho (lZ h h1) h2 (by simpa using lZ h mg)) h hd hn
     ·cases hs
   ·cases hs
  ·split at hs
   ·rename_i xs hg
    split at hs
    ·rename_i r' hr
     cases hs
     exact I3 hE h hd hc.2 hg hr hp eK hn
    ·cases hs
   ·cases hs
 ·cases hs
end AM
