/- THE ABSTRACT MACHINE: one operation. -/
import Derived.Test.YtlachfpabecaeaaQAmOps9
import Derived.Test.YtlachfpabecaeaaQAmPart2
import Derived.Test.YtlachfpabecaeaaQAmOps10
namespace AM
set_option linter.unusedVariables false
open Go
variable{U:dw}{E:Env U}{pm:Pm}
variable{F F':Nat->Prop}{kv:Key->Value}{fp:Key->List Nat}{σ:aa U}{a:Act}{w w':World}{bad:Key->Bool}
theorem aB.wp{o:Oper}{sv:SV U}{ps:List Prop}(hm:aB E F kv fp (ay σ) a w o sv)(h:aE E pm F kv fp σ a w)(hd:∀d,o.dst=some d->d<σ.n){next:Act->World->Prop}{Q:Exit->Act->World->Prop}
  (hn:∀F kv fp a' w',aE E pm F kv fp (AM.apply o ⟨some sv,[],[],[],ps⟩ σ) a' w'->next a' w'):o.wp E.P a w next Q:=by
 obtain⟨v,hr,hv⟩:=hm
 exact gW hr (hn _ _ _ _ _ (h.val o (some sv) ps v hd (by rintro x ⟨⟩;exact hv)))
theorem tw{o:Oper}{xs:List (SV U)}(h:gv σ o=some xs):xs.length=(Oper.looks o).length/\∀(i:Nat)(x:SV U)(q:Operand),xs[i]? =some x->(Oper.looks o)[i]? =some q->rV σ q=some x:=by
 obtain⟨h1,h2⟩:=Dl h
 refine⟨h1,fun i x q hx hq=> ?_⟩
 obtain⟨y,hy,ho⟩:=h2 i q hq
 rw[hx] at hy;cases hy;exact ho
theorem Ip{q:Operand}{x:SV U}(h:rV σ q=some x):∀k∈x.keys,Names σ k:=by
 cases q with
 |tmp t=>exact fun k hk=> .inl ⟨t,x,h,hk⟩
 |global g=>cases h
 |func f=>cases h;intro k hk;simp[SV.keys,SV.mE] at hk
 |const v=>
  intro k hk
  exfalso
  have hc:∀{v:Value}{y:AC U},fz v=some y->y.keys=[]:=by
   intro v y hy
   unfold fz at hy
   split at hy
   ·cases hy;rfl
   ·cases hy;rfl
   ·rw[bV] at hy;split at hy<;>cases hy;rfl
   ·cases hy;rfl
   ·rw[bV] at hy;split at hy<;>cases hy;rfl
   ·cases hy
  have ik:∀{vs:List Value}{ys:List (AC U)},cJ vs=some ys->∀y∈ys,y.keys=[]:=by
   intro vs
   induction vs with
   |nil=>intro ys hy y EC;cases hy;cases EC
   |cons v vs ih=>
    intro ys hy y EC
    simp only[cJ] at hy
    split at hy
    ·rename_i y1 PI h1 h2
     cases hy
     rcases dJ.1 EC with rfl|EC
     ·exact hc h1
     ·exact ih h2 y EC
    ·cases hy
  simp only[rV] at h
  unfold pA at h
  split at h
  ·unfold gI at h
   split at h
   ·rename_i l hl
    cases h
    obtain⟨y,hy,ll⟩:=SV.mem_keys.1 hk
    rw[ik hl y hy] at ll;cases ll
   ·cases h
  ·split at h
   ·rename_i y hy
    cases h
    obtain⟨z,hz,ll⟩:=SV.mem_keys.1 hk
    simp only[one,SV.mE,gn] at hz
    subst hz
    rw[hc hy] at ll;cases ll
   ·cases h
theorem sw{b:Option Operand}{bs BQ:List (SV U)}{l:Option Int}(h:aE E pm F kv fp σ a w)(hb:oz b bs=some (l,BQ)){L L':List Operand}(hL:L=b.toList++L')
  (hv:bs.length=L.length/\∀(i:Nat)(x:SV U)(q:Operand),bs[i]? =some x->L[i]? =some q->rV σ q=some x):
  yp l (b.map a.eval)/\BQ.length=L'.length/\∀(i:Nat)(x:SV U)(q:Operand),BQ[i]? =some x->L'[i]? =some q->rV σ q=some x:=by
 rcases JZ hb with⟨rfl,rfl,rfl⟩|⟨y,sy,k,n,rfl,rfl,h1,rfl⟩
 ·subst hL
  exact⟨.inl ⟨rfl,rfl⟩,by simpa using hv.1,fun i x q hx hq=>hv.2 i x q hx (by simpa using hq)⟩
 ·subst hL
  have hy:=hv.2 0 sy y rfl rfl
  have:=fR (mM h hy) h1
  exact⟨.inr ⟨k,n,rfl,by simp[this]⟩,by simpa using hv.1,fun i x q hx hq=>hv.2 (i+1) x q (by simpa using hx) (by simpa using hq)⟩
section
variable(E)
structure Env.Good:Prop where
 ok:E.Ok
 ul:∀f k,E.ul f=some k->kM E.P f/\aV E f k
 uk:∀f k,E.uk f=some k->kM E.P f/\aV E f k
theorem Env.Good.yk{E:Env U}(h:E.Good){b:Bool}{f:FuncId}{k:eg U}(hk:E.yk b f=some k):kM E.P f/\aV E f k:=by
 cases b with
 |false=>exact h.ul f k hk
 |true=>exact h.uk f k hk
end
theorem ii(h:aE E pm F kv fp σ a w){o:Oper}{q:Operand}{x:SV U}(hl:Oper.looks o=[q])(hg:gv σ o=some [x]):RS E w F kv fp (ay σ) x (a.eval q):=
 mM h ((tw hg).2 0 x q rfl (by rw[hl];rfl))
theorem mS(h:aE E pm F kv fp σ a w){o:Oper}{q q':Operand}{x y:SV U}(hl:Oper.looks o=[q,q'])(hg:gv σ o=some [x,y]):
  RS E w F kv fp (ay σ) x (a.eval q)/\RS E w F kv fp (ay σ) y (a.eval q'):=
 ⟨mM h ((tw hg).2 0 x q rfl (by rw[hl];rfl)),mM h ((tw hg).2 1 y q' rfl (by rw[hl];rfl))⟩
theorem gE(h:aE E pm F kv fp σ a w){o:Oper}{l:List Operand}{xs:List (SV U)}(hl:Oper.looks o=l)(hg:gv σ o=some xs):
  xs.length=l.length/\(∀(i:Nat)(x:SV U)(q:Operand),xs[i]? =some x->l[i]? =some q->RS E w F kv fp (ay σ) x (a.eval q)):=by
 obtain⟨h1,h2⟩:=tw hg
 rw[hl] at h1 h2
 exact⟨h1,fun i x q hx hq=>mM h (h2 i x q hx hq)⟩
theorem Ac{o:Oper}{xs:List (SV U)}(hg:gv σ o=some xs):∀x∈xs,∀k∈x.keys,Names σ k:=by
 intro x hx k hk
 obtain⟨i,hi,rfl⟩:=nJ hx
 obtain⟨h1,h2⟩:=tw hg
 have bU:i<(Oper.looks o).length:=by omega
 exact Ip (h2 i xs[i] (Oper.looks o)[i] (cF hi) (cF bU)) k hk
theorem aE.Hu{F:Nat->Prop}{kv:Key->Value}{fp:Key->List Nat}{σ:aa U}{a:Act}{w w':World}(h:aE E pm F kv fp σ a w)(hu:bB (fun _=>False) w w')(o:Oper)(sv:Option (SV U))(ps:List Prop)(v:Value)
  (hd:∀d,o.dst=some d->d<σ.n) (hv:∀x,sv=some x->RS E w' F kv fp (ay σ) x v):
  aE E pm F kv fp (AM.apply o ⟨sv,[],[],[],ps⟩ σ) (a.put o.dst v) w':=by
 have hb:ay (AM.apply o ⟨sv,[],[],[],ps⟩ σ)=ay σ:=rfl
 refine h.apply (F':=F) (kv':=kv) (fp':=fp) (w':=w') o _ v hd ?_ (fun _ _=>rfl) (fun _ _ _=>rfl) ?_ (fun b hb=>⟨hb,hu.block b (h.iz b hb) (fun x=>x)⟩) (fun k e _ _ _ he b hb=>hu.block b (h.bt k e b he hb).2.2 (fun x=>x)) ?_ ?_ ?_
  (fun b hb=>BZ (h.iz b hb) hu.size) h.iy (h.upto.trans (hu.mono (fun i hi=>hi.elim))) hu.size
 ·intro x hx;rw[hb];exact hv x hx
 ·intro k hk;simp[aM] at hk
 ·intro k e hk;simp at hk
 ·intro k e b _ _ _ he Lk;exact(h.bt k e b he Lk).1
 ·intro k k' b _ hk;simp[aM,cK] at hk
theorem H_{P:Program}{w:World}{a:Act}{o:Oper}{cl:Call}{q:Operand}{f:FuncId}{h_:Array Value}(gy:o.op=.call cl)(ck:cl.callee=.value q)(hq:a.eval q=.func (.func f) #[] h_)(hf:kM P f):
  (execOp a.eval o).run P w=.ok (.enter f ((cl.args.toList.map a.eval).toArray++h_)) w:=by
 obtain⟨fn,h1,h2,h3⟩:=hf
 have e:execOp a.eval o=callFunc f (#[]++cl.args.map a.eval++h_):=by
  unfold execOp
  rw[gy]
  simp only[resolve,ck,hq]
  rfl
 rw[e]
 have e2:(#[]++cl.args.map a.eval++h_:Array Value)=(cl.args.toList.map a.eval).toArray++h_:=by
  apply Array.ext'
  simp
 rw[e2]
 have h4:fn.body≠none:=by cases hb:fn.body<;>simp[hb] at h2⊢
 have h5:fn.name≠ "runtime.NumGoroutine" :=by simpa using h3
 simp[callFunc,go_sem,h1,h4,h5]
theorem JH(h:aE E pm F kv fp σ a w){rs:List Key}{K:List Key}:∀{xs:List (SV U)}{ws:List (List (Option U.Ty))}{vs:List Value}{ps:List Prop}{ds:List (DA U)},l4 (restrict σ.aw rs) σ.ah ws xs=some (ps,ds)->(∀p∈ps,p)->xs.length=vs.length->
  (∀(i:Nat)(x:SV U)(u:Value),xs[i]? =some x->vs[i]? =some u->RS E w F kv fp (ay σ) x u)->(∀x∈xs,∀k∈x.keys,(σ.aw k).isSome=true->k∈K)->Gr E w (FK F fp K) ds vs:=by
 intro xs
 induction xs with
 |nil=>
  intro ws vs ps ds hc hp hl hx hK
  simp only[l4,bH,fB] at hc
  obtain⟨rfl,rfl⟩:=hc
  exact⟨by simpa using hl,fun i d v hd=>by simp at hd⟩
 |cons x xs ih=>
  intro ws vs ps ds hc hp hl hx hK
  cases vs with
  |nil=>simp at hl
  |cons v vs=>
   simp only[l4] at hc
   split at hc
   ·rename_i wF c Ar Cq h1 h2
    cases hc
    obtain⟨i1,i2⟩:=ih h2 (fun p dj=>hp p (by simp[dj])) (by simpa using hl) (fun i y u hy hu=>hx (i+1) y u (by simpa using hy) (by simpa using hu)) (fun y hy=>hK y (d_ _ hy))
    obtain⟨g1,_⟩:eo E w (FK F fp K) .ro (.one c) v []:=xx h h1 (fun p dj=>hp p (by simp[dj])) (hx 0 x v rfl rfl) (hK x gp)
    refine⟨by simp[i1],fun i d u hd hu=> ?_⟩
    cases i with
    |zero=>
     simp only[ja,bH] at hd hu
     subst hd;subst hu
     exact⟨[v],rfl,fun i c' ec=>by
      cases i with
      |zero=>simp only[ja,bH] at ec;subst ec;exact g1
      |succ i=>simp at ec,rfl⟩
    |succ i=>exact i2 i d u (by simpa using hd) (by simpa using hu)
   ·rename_i wF cs Ar Cq h1 h2
    cases hc
    obtain⟨i1,i2⟩:=ih h2 (fun p dj=>hp p (by simp[dj])) (by simpa using hl) (fun i y u hy hu=>hx (i+1) y u (by simpa using hy) (by simpa using hu)) (fun y hy=>hK y (d_ _ hy))
    obtain⟨us,g1,g2,g3,_⟩:eo E w (FK F fp K) .ro (.agg cs) v []:=xx h h1 (fun p dj=>hp p (by simp[dj])) (hx 0 x v rfl rfl) (hK x gp)
    refine⟨by simp[i1],fun i d u hd hu=> ?_⟩
    cases i with
    |zero=>
     simp only[ja,bH] at hd hu
     subst hd;subst hu
     exact⟨us,g2,g3,g1⟩
    |succ i=>exact i2 i d u (by simpa using hd) (by simpa using hu)
   ·cases hc
theorem Ef:∀{xs:List (SV U)}{l:List (AV U)},l5 xs=some l->xs=l.map SV.v
 |[],l,h=>by cases h;rfl
 | .v x::r,l,h=>by
  simp only[l5] at h
  split at h
  ·rename_i l' hl;cases h;rw[Ef hl];rfl
  ·cases h
 | .jx _::r,l,h=>by simp[l5] at h
 | .fn _::r,l,h=>by simp[l5] at h
 | .ox _ _::r,l,h=>by simp[l5] at h
theorem IZ{bad:Key->Bool}{o:Oper}{g:FuncId}{fst zi:Array Operand}{xs:List (SV U)}{l:List (AV U)}(ho:o.op=.makeFunc (.func g) fst zi)(he:fst.isEmpty=true)(hl:l5 xs=some l)
  (h1:xs.length=(fst++zi).toList.length) (h2:∀(i:Nat)(x:SV U)(q:Operand),xs[i]? =some x->(fst++zi).toList[i]? =some q->RS E w F kv fp bad x (a.eval q)):aB E F kv fp bad a w o (.ox g l):=by
 have hf:fst= #[]:=by simpa using he
 subst hf
 have hx:=Ef hl
 subst hx
 refine⟨.func (.func g) #[] (zi.map a.eval),?_,⟨(zi.map a.eval).toList,by rw[Array.toArray_toList],by simpa using h1,fun i x u hx hu=> ?_⟩⟩
 ·unfold execOp;simp only[ho]
  have e:Array.map a.eval #[]= #[]:=by simp
  rw[e]
  exact b8 rfl
 ·rw[Cv,eW] at hu
  cases hq:zi.toList[i]? with
  |none=>rw[hq] at hu;cases hu
  |some q=>
   rw[hq] at hu;cases hu
   exact h2 i (.v x) q (by rw[eW,hx];rfl) (by simpa using hq)
theorem Jq(hE:E.Good)(h:aE E pm F kv fp σ a w){o:Oper}(hd:∀d,o.dst=some d->d<σ.n)(hk:kindOk o=true){xs:List (SV U)}(hg:gv σ o=some xs){rs:List Key}{r:az U}
  {b:Bool} (hr:lu E b (restrict σ.aw rs) σ.ah o xs=some r) (hp:∀p∈r.pre,p) (fj:∀k∈aM o r,¬Names σ k) {next:Act->World->Prop} {Q:Exit->Act->World->Prop}
  (hn:∀F kv fp a' w',aE E pm F kv fp (AM.apply o r σ) a' w'->next a' w'):o.wp E.P a w next Q:=by
 have yV:∀{t:Option Nat},t.isSome=true->∃d,t=some d:=fun h=>eD.1 h
 unfold lu at hr
 simp only at hr
 split at hr
 ·
  rename_i q x ho
  cases hr
  exact aB.wp (IJ ho (ii h (by simp[Oper.looks,ho,Op.operands]) hg)) h hd hn
 ·
  rename_i q x ho
  cases hr
  exact aB.wp (I2 ho (ii h (by simp[Oper.looks,ho,Op.operands]) hg)) h hd hn
 ·
  rename_i op t q x ho
  split at hr
  ·rename_i v hv
   cases hu:qN op v with
   |none=>rw[hu] at hr;cases hr
   |some u=>
    rw[hu] at hr;cases hr
    exact aB.wp (IF ho (ii h (by simp[Oper.looks,ho,Op.operands]) hg) hv hu) h hd hn
  ·cases hr
 ·
  rename_i op t q q' t' x y ho
  split at hr
  ·rename_i u v hu hv
   cases hb:mV E t op u v with
   |none=>rw[hb] at hr;cases hr
   |some pv=>
    obtain⟨ps,v'⟩:=pv
    rw[hb] at hr;cases hr
    obtain⟨h1,h2⟩:=mS (q:=q) (q':=q') h (by simp[Oper.looks,ho,Op.operands]) hg
    exact aB.wp (I1 ho h1 hu h2 hv hb hp) h hd hn
  ·split at hr
   ·rename_i r' fI
    cases hr
    obtain⟨h1,h2⟩:=mS (q:=q) (q':=q') h (by simp[Oper.looks,ho,Op.operands]) hg
    obtain⟨b,rfl,hm⟩:=IW ho h1 h2 fI
    exact aB.wp hm h hd hn
   unfold vd at hr
   split at hr
   ·rename_i n c b τ xs _ _
    split at hr
    ·rename_i e hu
     cases hr
     obtain⟨h1,h2⟩:=mS (q:=q) (q':=.const (.slice none n c)) h (by simp[Oper.looks,ho,Op.operands]) hg
     exact aB.wp (II ho h1 hu) h hd hn
    ·cases hr
   ·cases hr
 ·
  rename_i q i l ho
  cases hy:l[i]? with
  |none=>rw[hy] at hr;cases hr
  |some y=>
   rw[hy] at hr;cases hr
   exact aB.wp (IV ho (ii h (by simp[Oper.looks,ho,Op.operands]) hg) hy) h hd hn
 ·
  rename_i t ho
  split at hr
  ·rename_i z hz
   split at hr
   ·rename_i x hx
    cases hr
    obtain⟨d,dD⟩:=yV (by simpa[kindOk,ho] using hk)
    unfold gI at hx
    split at hx
    ·rename_i l hl
     cases hx
     have jS:¬Names σ (d,0):=fj _ (by simp[aM,dD])
     refine Kb h dD (hd d dD) ho hz hl jS (fun F kv fp a' w' hs=>hn F kv fp a' w' ?_)
     simpa[dD] using hs
    ·cases hx
   ·cases hr
  ·cases hr
 ·
  rename_i t q x ho
  split at hr
  ·rename_i y n g hy ju xX
   split at hr
   ·rename_i r' xQ
    cases hr
    rw[bV] at xQ
    split at xQ
    ·obtain⟨sv,ps,rfl,hm⟩:=IH h ho (ii h (by simp[Oper.looks,ho,Op.operands]) hg) hy ju xX xQ hp
     exact aB.wp hm h hd hn
    ·cases xQ
   split at hr
   ·rename_i r' nP
    cases hr
    obtain⟨sv,ps,rfl,hm⟩:=IK h ho (ii h (by simp[Oper.looks,ho,Op.operands]) hg) hy ju xX nP hp
    exact aB.wp hm h hd hn
   ·refine IC h hd ho (ii h (by simp[Oper.looks,ho,Op.operands]) hg) hy (fun k hk=>Ac hg x (by simp) k ?_) ju xX hr hp fj hn
    rw[rB hy];simpa[one,SV.keys,SV.mE] using hk
  ·cases hr
 ·
  rename_i t q q' p x ho
  split at hr
  ·rename_i y n hy hs
   cases hb:Nat.beq n x.cs.length<;>simp only[hb,cond_true,cond_false] at hr
   ·cases hr
   ·obtain⟨h1,h2⟩:=mS (q:=q) (q':=q') h (by simp[Oper.looks,ho,Op.operands]) hg
    have sU:o.dst=none:=by simpa[kindOk,ho] using hk
    split at hr
    ·rename_i r' nP
     cases hr
     exact HP h sU ho h1 hy h2 hs (eI hb) nP hp hn
    ·split at hr
     ·rename_i r' nP
      cases hr
      exact HQ h sU ho h1 hy h2 hs (eI hb) nP hp hn
     ·exact HR h sU ho h1 hy h2 hs (eI hb) hr hp hn
  ·cases hr
 ·
  rename_i t q f x ho
  split at hr
  ·rename_i y off ft hy hf
   split at hr
   ·rename_i n hs
    have hx:=ii (q:=q) h (by simp[Oper.looks,ho,Op.operands]) hg
    split at hr
    ·cases hr
     exact aB.wp (IR ho hx hy hf hs) h hd hn
    ·cases hr
     exact aB.wp (IT ho hx hy hf hs) h hd hn
    ·rename_i k p i wd oo
     cases hc:bw (restrict σ.aw rs) σ.ah k p<;>simp only[hc,cond_true,cond_false] at hr
     ·cases hr
     ·cases hr
      have hb:cd (ay σ) (AC.dG (U:=U) k p i wd oo)=false:=by
       simp only[cd]
       have ec:=hc
       unfold bw at ec
       cases No:p.isEmpty
       ·rw[No] at ec
        simp only[sA,c9] at ec
        obtain⟨e,he⟩:=eD.1 ec.1
        have:=oW hc he
        rwa[No] at this
       ·rfl
      exact aB.wp (IS ho hx hy hb hf hs) h hd hn
    ·cases hr
   ·cases hr
  ·cases hr
 ·
  rename_i t q f cs ho
  split at hr
  ·rename_i off ft hf
   split at hr
   ·rename_i n g hs xX
    cases hb:(Nat.ble (off+n) cs.length&&(g||Nat.beq n 1))<;>simp only[hb,cond_true,cond_false] at hr
    ·cases hr
    ·cases hr
     exact aB.wp (IU ho (ii h (by simp[Oper.looks,ho,Op.operands]) hg) hf hs xX hb) h hd hn
   ·cases hr
  ·cases hr
 ·
  rename_i t parts ho
  split at hr
  ·rename_i pl z pf hz
   split at hr
   ·rename_i l hl
    split at hr
    ·rename_i cs hc
     cases hr
     obtain⟨h1,h2⟩:=gE h (l:=parts.toList.map (·.2)) (by simp[Oper.looks,ho]) hg
     refine aB.wp (I0 ho (by simpa using h1) (fun i x q hx hq=>h2 i x q.2 hx (by rw[eW,hq];rfl)) pf hz hl hc) h hd hn
    ·cases hr
   ·cases hr
  ·cases hr
 ·
  rename_i t len parts ho
  split at hr
  ·rename_i e he
   split at hr
   ·rename_i τ rC
    rw[bV] at hr
    split at hr
    ·rename_i hc
     simp only[c9] at hc
     obtain⟨⟨nV,ud⟩,GY⟩:=hc
     rw[bV] at hr
     split at hr
     ·rw[bV] at hr
      split at hr
      ·rename_i KS
       cases hr
       obtain⟨d,dD⟩:=yV (by simpa[kindOk,ho] using hk)
       obtain⟨h1,h2⟩:=gE h (l:=parts.toList.map (·.2)) (by simp[Oper.looks,ho]) hg
       have jS:¬Names σ (d,0):=fj _ (by simp[aM,dD])
       refine Ja hE.ok h dD (hd d dD) ho he rC (by simpa using h1) (fun i x q hx hq=>h2 i x q.2 hx (by rw[eW,hq];rfl)) (eI nV) ud (qj GY) KS jS
        (fun F kv fp a' w' hs=>hn F kv fp a' w' ?_)
       simpa[dD] using hs
      ·cases hr
     split at hr
     ·rename_i ps rows ks dp ES
      rw[bV] at hr
      split at hr
      ·rename_i hJ
       cases hr
       obtain⟨d,dD⟩:=yV (by simpa[kindOk,ho] using hk)
       obtain⟨h1,h2⟩:=gE h (l:=parts.toList.map (·.2)) (by simp[Oper.looks,ho]) hg
       have jS:¬Names σ (d,0):=fj _ (by simp[aM,dD])
       refine JX hE.ok h dD (hd d dD) ho he rC (by simpa using h1) (fun i x q hx hq=>h2 i x q.2 hx (by rw[eW,hq];rfl)) (eI nV) ud (qj GY) ES hp (iL.1 hJ) jS
        (fun F kv fp a' w' hs=>hn F kv fp a' w' ?_)
       simpa[dD] using hs
      ·cases hr
     ·cases hr
    ·cases hr
   ·cases hr
  ·cases hr
 ·
  rename_i t q q' l c ho
  split at hr
  ·rename_i e n m he hl hc
   split at hr
   ·rename_i τ rC
    cases hr
    obtain⟨d,dD⟩:=yV (by simpa[kindOk,ho] using hk)
    obtain⟨h1,h2⟩:=mS (q:=q) (q':=q') h (by simp[Oper.looks,ho,Op.operands]) hg
    have jS:¬Names σ (d,0):=fj _ (by simp[aM,dD])
    refine I3 hE.ok h dD (hd d dD) ho he rC h1 hl h2 hc (hp _ (by simp)) (hp _ (by simp)) (hp _ (by simp)) (ps:=[0<=n,n=m,n<=4294967296]) jS (fun F kv fp a' w' hs=>hn F kv fp a' w' ?_)
    simpa[dD] using hs
   ·cases hr
  ·cases hr
 ·
  rename_i t q q' x i ho
  split at hr
  ·rename_i kd n y m hi hy hm
   obtain⟨h1,h2⟩:=mS (q:=q) (q':=q') h (by simp[Oper.looks,ho,Op.operands]) hg
   split at hr
   ·rename_i τ ys
    rw[bV] at hr
    split at hr
    ·rename_i hb
     cases hr
     exact aB.wp (IQ ho h1 hy h2 hi hm (eI hb) (hp _ (by simp[az.aF])) (hp _ (by simp[az.aF]))) h hd hn
    ·cases hr
   ·rename_i k p
    split at hr
    ·rename_i ps b ha
     rw[bV] at hr
     split at hr
     ·rename_i hb
      cases hr
      exact aB.wp (IN h ho h1 hy h2 hi hm ha (eI hb) (fun p dj=>hp p (by simp[az.aF,dj])) (hp _ (by simp[az.aF])) (hp _ (by simp[az.aF]))) h hd hn
     ·cases hr
    ·split at hr
     ·rename_i b Kz _
      rw[bV] at hr
      split at hr
      ·rename_i hb
       cases hr
       exact aB.wp (IP h ho h1 hy h2 hi hm Kz (eI hb) (hp _ (by simp[az.aF])) (hp _ (by simp[az.aF]))) h hd hn
      ·cases hr
     ·cases hr
   ·cases hr
  ·cases hr
 ·
  rename_i t q q' x i ho
  split at hr
  ·rename_i s kd n hx hi hu
   cases hr
   obtain⟨h1,h2⟩:=mS (q:=q) (q':=q') h (by simp[Oper.looks,ho,Op.operands]) hg
   exact aB.wp (IM ho h1 hx h2 hi hu (hp _ (by simp[az.lit,az.aF])) (hp _ (by simp[az.lit,az.aF]))) h hd hn
  ·cases hr
 ·
  rename_i t q lo hi mx x bs ho
  have hl:Oper.looks o=q::(lo.toList++(hi.toList++(mx.toList++[]))):=by simp[Oper.looks,ho,Op.operands]
  obtain⟨g1,g2⟩:=tw hg
  rw[hl] at g1 g2
  have hx:RS E w F kv fp (ay σ) x (a.eval q):=mM h (g2 0 x q rfl rfl)
  split at hr
  ·rename_i l NK hM
   obtain⟨k1,k2⟩:=sw (a:=a) (w:=w) (L:=lo.toList++(hi.toList++(mx.toList++[]))) (L':=hi.toList++(mx.toList++[])) h hM rfl ⟨by simpa using g1,fun i y u hy hu=>g2 (i+1) y u (by simpa using hy) (by simpa using hu)⟩
   split at hr
   ·rename_i hh NJ il
    obtain⟨k3,k4⟩:=sw (L':=mx.toList++[]) h il rfl k2
    split at hr
    ·rename_i m Lm
     obtain⟨k5,k6⟩:=sw (L':=[]) h Lm rfl k4
     obtain⟨sv,ps,rfl,hm⟩:=IG h ho hx k1 k3 k5 hr hp
     exact aB.wp hm h hd hn
    ·cases hr
   ·cases hr
  ·cases hr
 ·
  rename_i args argTypes x ho
  split at hr
  ·rename_i t mq
   have nR:Oper.looks o=args.toList:=by simp[Oper.looks,ho]
   obtain⟨g1,g2⟩:=gE h nR hg
   obtain⟨q,hq⟩:∃q,args.toList=[q]:=by
    match hm:args.toList,g1 with
    |[q],_=>exact⟨q,rfl⟩
   have hx:RS E w F kv fp (ay σ) x (a.eval q):=g2 0 x q rfl (by rw[hq];rfl)
   split at hr
   ·rename_i s hs
    split at hr
    ·rename_i hu
     cases hr
     exact aB.wp (IL ho rfl hq mq hx hs hu) h hd hn
    ·cases hr
   ·cases hr
   ·split at hr
    ·rename_i e kz iT
     cases hr
     obtain⟨ad,OY⟩:=aA (du hx kz) rfl
     exact aB.wp (zX (n:=0) ho rfl hq mq ⟨ad,0,OY⟩ (mO iT) (Nat.zero_le _)) h hd hn
    ·rename_i y e kz iT
     split at hr
     ·rename_i ps b ha
      cases hr
      have AS:=Al h ha hp (du hx kz)
      obtain⟨ad,c,hs,_⟩:=AS.slice
      exact aB.wp (zX ho rfl hq mq ⟨ad,c,hs⟩ (mO iT) AS.len) h hd hn
     ·split at hr
      ·rename_i b Kz
       cases hr
       obtain⟨k,dead,_,_,eG⟩:=DC h Kz (du hx kz)
       obtain⟨ad,c,hs,hle⟩:=eG.slice
       exact aB.wp (zX ho rfl hq mq ⟨ad,c,hs⟩ (mO iT) hle) h hd hn
      ·cases hr
    ·cases hr
  ·cases hr
 ·
  rename_i args argTypes x ho
  split at hr
  rotate_left
  ·cases hr
  rename_i t mq
  split at hr
  rotate_left
  ·cases hr
  rename_i e k wd lo hi iT kz
  split at hr
  rotate_left
  ·cases hr
  rename_i τ a0 dead hc he
  rw[bV] at hr
  split at hr
  rotate_left
  ·cases hr
  rename_i je
  split at hr
  rotate_left
  ·cases hr
  rename_i xs ED
  cases hr
  have:=aP ED
  subst this
  have je:=eI je
  subst je
  have nR:Oper.looks o=args.toList:=by simp[Oper.looks,ho]
  obtain⟨g1,g2⟩:=gE h nR hg
  obtain⟨q,hq⟩:∃q,args.toList=[q]:=by
   match hm:args.toList,g1 with
   |[q],_=>exact⟨q,rfl⟩
  exact JO hE.ok h hd ho rfl hq mq iT hc (g2 0 x q rfl (by rw[hq];rfl)) kz (cQ he) (hp _ (by simp)) (hp _ (by simp)) hn
 ·
  rename_i args argTypes x y ho
  split at hr
  ·rename_i kd m n hx hy
   rw[bV] at hr
   split at hr
   ·rename_i lV
    have lV:=of_decide_eq_true lV
    subst lV
    cases hr
    have nR:Oper.looks o=args.toList:=by simp[Oper.looks,ho]
    obtain⟨g1,g2⟩:=gE h nR hg
    obtain⟨q,q',hq⟩:∃q q',args.toList=[q,q']:=by
     match hm:args.toList,g1 with
     |[q,q'],_=>exact⟨q,q',rfl⟩
    have:=DN (b:=true) ho (by rfl) hq (g2 0 x q rfl (by rw[hq];rfl)) hx (g2 1 y q' rfl (by rw[hq];rfl)) hy
    exact aB.wp (by simpa using this) h hd hn
   ·cases hr
  ·cases hr
 ·
  rename_i args argTypes x y ho
  split at hr
  ·rename_i kd m n hx hy
   rw[bV] at hr
   split at hr
   ·rename_i lV
    have lV:=of_decide_eq_true lV
    subst lV
    cases hr
    have nR:Oper.looks o=args.toList:=by simp[Oper.looks,ho]
    obtain⟨g1,g2⟩:=gE h nR hg
    obtain⟨q,q',hq⟩:∃q q',args.toList=[q,q']:=by
     match hm:args.toList,g1 with
     |[q,q'],_=>exact⟨q,q',rfl⟩
    have:=DN (b:=false) ho (by rfl) hq (g2 0 x q rfl (by rw[hq];rfl)) hx (g2 1 y q' rfl (by rw[hq];rfl)) hy
    exact aB.wp (by simpa using this) h hd hn
   ·cases hr
  ·cases hr
 ·
  rename_i args argTypes s x ho
  split at hr
  ·rename_i t u mq
   split at hr
   ·rename_i e e' ys yx iT K3 hs hx
    rw[bV] at hr
    split at hr
    ·rename_i hc
     simp only[c9] at hc
     have Oc:t=u:=eI hc.1
     subst Oc
     split at hr
     ·rename_i τ rC
      split at hr
      ·rename_i ps xs ks d1 qs zs ks' d2 h1 h2
       rw[bV] at hr
       split at hr
       ·rename_i hJ
        cases hr
        obtain⟨d,dD⟩:=yV (by simpa[kindOk,ho] using hk)
        have nR:Oper.looks o=args.toList:=by simp[Oper.looks,ho]
        obtain⟨g1,g2⟩:=gE h nR hg
        obtain⟨q,q',hq⟩:∃q q',args.toList=[q,q']:=by
         match hm:args.toList,g1 with
         |[q,q'],_=>exact⟨q,q',rfl⟩
        have jS:¬Names σ (d,0):=fj _ (by simp[aM,dD])
        refine J_ (pall:=ps++qs++[xs.length+zs.length<=4294967296]) hE.ok h dD (hd d dD) ho rfl hq mq iT rC (g2 0 s q rfl (by rw[hq];rfl)) hs (g2 1 x q' rfl (by rw[hq];rfl)) hx h1 h2 (fun p dj=>hp p (by simp[dj])) (iL.1 hJ) (hp _ (by simp)) jS
         (fun F kv fp a' w' hs=>hn F kv fp a' w' ?_)
        simpa[dD] using hs
       ·cases hr
      ·rename_i ps xs ks h1 _
       split at hr
       ·rename_i zs ks' h2
        rw[bV] at hr
        split at hr
        ·rename_i hJ
         cases hr
         obtain⟨d,dD⟩:=yV (by simpa[kindOk,ho] using hk)
         have nR:Oper.looks o=args.toList:=by simp[Oper.looks,ho]
         obtain⟨g1,g2⟩:=gE h nR hg
         obtain⟨q,q',hq⟩:∃q q',args.toList=[q,q']:=by
          match hm:args.toList,g1 with
          |[q,q'],_=>exact⟨q,q',rfl⟩
         have jS:¬Names σ (d,0):=fj _ (by simp[aM,dD])
         refine Ka (pall:=ps++[xs.length+zs.length<=4294967296]) hE.ok h dD (hd d dD) ho rfl hq mq iT rC (g2 0 s q rfl (by rw[hq];rfl)) hs (g2 1 x q' rfl (by rw[hq];rfl)) hx h1 h2 (fun p dj=>hp p (by simp[dj])) (iL.1 hJ) (hp _ (by simp)) jS
          (fun F kv fp a' w' hs=>hn F kv fp a' w' ?_)
         simpa[dD] using hs
        ·cases hr
       ·cases hr
      ·cases hr
     ·cases hr
    ·cases hr
   ·rename_i e ys str iT K3 hs hx
    split at hr
    ·rename_i τ hu rC
     split at hr
     ·rename_i ps xs ks d1 zs h1 h2
      rw[bV] at hr
      split at hr
      ·rename_i hJ
       cases hr
       obtain⟨d,dD⟩:=yV (by simpa[kindOk,ho] using hk)
       have nR:Oper.looks o=args.toList:=by simp[Oper.looks,ho]
       obtain⟨g1,g2⟩:=gE h nR hg
       obtain⟨q,q',hq⟩:∃q q',args.toList=[q,q']:=by
        match hm:args.toList,g1 with
        |[q,q'],_=>exact⟨q,q',rfl⟩
       have jS:¬Names σ (d,0):=fj _ (by simp[aM,dD])
       have KI:cq x=some (.string str):=by
        unfold i_ at hx
        split at hx
        ·cases hx;rfl
        ·cases hx
       refine J' (pall:=ps++[xs.length+zs.length<=4294967296]) hE.ok h dD (hd d dD) ho rfl hq mq iT rC (g2 0 s q rfl (by rw[hq];rfl)) hs (g2 1 x q' rfl (by rw[hq];rfl)) KI hu h1 h2 (fun p dj=>hp p (by simp[dj])) (iL.1 hJ) (hp _ (by simp)) jS
        (fun F kv fp a' w' hs=>hn F kv fp a' w' ?_)
       simpa[dD] using hs
      ·cases hr
     ·cases hr
    ·cases hr
   ·cases hr
  ·cases hr
 ·
  rename_i g fst zi ho
  rw[bV] at hr
  split at hr
  ·rename_i K2
   split at hr
   ·rename_i l hl
    cases hr
    have nR:Oper.looks o=(fst++zi).toList:=by simp[Oper.looks,ho,Op.operands]
    obtain⟨g1,g2⟩:=gE h nR hg
    exact aB.wp (IZ ho K2 hl (by simpa using g1) (by simpa using g2)) h hd hn
   ·cases hr
  ·cases hr
 ·
  rename_i t args argTypes p xs' ho
  have nR:Oper.looks o=.tmp t::args.toList:=by simp[Oper.looks,ho]
  obtain⟨g1,g2⟩:=gE h nR hg
  have E_:eU E w F p (a.eval (.tmp t)):=g2 0 (.fn p) (.tmp t) rfl rfl
  obtain⟨g,h_,hv,hf,Fl⟩:=E_
  unfold nd at hr
  split at hr
  ·rename_i ps ds po
   have main:∀(v:Value)(qG:List Prop),(∀q∈ps++[p ds=some v],q)->r=⟨some (js v),[],[],[],qG⟩->o.wp E.P a w next Q:=by
    intro v qG hq hr
    have Fi:=JH (K:=(xs'.flatMap SV.keys).filter fun k=>(σ.aw k).isSome) (vs:=args.toList.map a.eval) h po (fun q Ol=>hq q (by simp[Ol])) (by simpa using g1) (fun i x u hx hu=>by
     rw[eW] at hu
     cases hq:args.toList[i]? with
     |none=>rw[hq] at hu;cases hu
     |some q=>rw[hq] at hu;cases hu;exact g2 (i+1) x q (by simpa using hx) (by simpa using hq)) (fun x hx k hk hs=>qa.2 ⟨fC.2 ⟨x,hx,hk⟩,hs⟩)
    have bU:∀b,FK F fp ((xs'.flatMap SV.keys).filter fun k=>(σ.aw k).isSome) b->b<w.heap.size:=by
     rintro b (hb|⟨k,hk,hb⟩)
     ·exact h.iz b hb
     ·obtain⟨e,he⟩:=eD.1 (qa.1 hk).2
      exact(h.bt k e b he hb).2.2
    have hc:=Fl ds v (hq _ (by simp)) w _ (fun b hb=>⟨.inl hb,rfl⟩) bU _ Fi
    show o.upon E.P a next Q ((execOp a.eval o).run E.P w)
    rw[H_ ho rfl hv hf,Oper.upon_enter]
    refine hc.mono ?_
    rintro e w' ⟨rfl,A9,fi⟩
    show next (a.put o.dst v) w'
    refine hn F kv fp _ w' ?_
    rw[hr]
    exact h.Hu fi o _ _ v hd (fun x hx=>by cases hx;exact ez A9)
   split at hr
   ·have od:=(zp hr).symm
    exact main _ _ (by rw[od] at hp;exact hp) od
   ·have od:=(zp hr).symm
    exact main _ _ (by rw[od] at hp;exact hp) od
   ·cases hr
  ·cases hr
 ·
  rename_i f args argTypes ho
  split at hr
  ·rename_i k K_
   obtain⟨hf,hs⟩:=hE.yk K_
   have nR:Oper.looks o=args.toList:=by simp[Oper.looks,ho]
   obtain⟨g1,g2⟩:=gE h nR hg
   exact JT hE.ul h hd ho rfl hf hs g1 (Ac hg) g2 hr hp fj hn
  ·cases hr
 ·
  rename_i t q x ho
  rw[bV] at hr
  split at hr
  ·rename_i hc
   simp only[c9] at hc
   cases hr
   obtain⟨d,dD⟩:=yV (by simpa[kindOk,ho] using hk)
   have jS:¬Names σ (d,0):=fj _ (by simp[aM,dD])
   refine JY h dD (hd d dD) ho (ii h (by simp[Oper.looks,ho,Op.operands]) hg) (fun y hy k hk=>Ac hg (.v x) (by simp) k (SV.mem_keys.2 ⟨y,hy,hk⟩)) hc.1 jS (fun F kv fp a' w' hs=>hn F kv fp a' w' ?_)
   simpa[dD] using hs
  ·cases hr
 ·
  rename_i q x ho
  have hx:=ii (q:=q) h (by simp[Oper.looks,ho,Op.operands]) hg
  split at hr
  ·rename_i cs kz
   cases hr
   obtain⟨b,o',h1,_⟩:=aA (du hx kz) rfl
   exact aB.wp (zW ho hx h1) h hd hn
  ·rename_i k off kz
   cases hr
   obtain⟨b,_,h1⟩:=aA (du hx kz) rfl
   exact aB.wp (zW ho hx h1) h hd hn
  ·rename_i k p i wd off kz
   rw[bV] at hr
   split at hr
   ·rename_i ck
    cases hr
    obtain⟨b,o',n,c,_,h1⟩:=aA (du hx kz) (Ea (x:=.dG k p i wd off) ck)
    exact aB.wp (zW ho hx h1) h hd hn
   ·cases hr
  ·cases hr
 ·
  rename_i s d q x ho
  have hx:=ii (q:=q) h (by simp[Oper.looks,ho,Op.operands]) hg
  split at hr
  ·rename_i k rF
   split at hr
   ·rename_i k0 k' n fS hl
    cases hr
    exact aB.wp (IX ho hx hl rF fS) h hd hn
   ·cases hr
  ·rename_i rF
   split at hr
   ·rename_i e fS
    split at hr
    ·rename_i Kq kz
     cases hr
     obtain⟨ad,h1⟩:=aA (du hx kz) rfl
     refine aB.wp (sv:=js (.string ByteArray.empty)) ⟨.string ByteArray.empty,?_,ez ⟨rfl,by decide⟩⟩ h hd hn
     unfold execOp;simp only[ho,h1]
     exact b8 (D9 fS Kq rF ad 0)
    ·rename_i y Kq kz
     split at hr
     ·rename_i ps b ha
      split at hr
      ·rename_i ys Kg
       cases hr
       have:=aP Kg
       subst this
       exact aB.wp (IY ho (kL h ha (fun p dj=>hp p dj) (du hx kz)) fS Kq rF) h hd hn
      ·cases hr
     ·cases hr
    ·cases hr
   ·cases hr
  ·cases hr
 ·cases hr
theorem HU(hE:E.Good)(h:aE E pm F kv fp σ a w){b:Bool}{o:Oper}{r:az U}{ks:List Key}(hs:step E b σ o=some (r,ks))(hp:∀p∈r.pre,p)(fj:∀k∈aM o r,¬Names σ k)
  {next:Act->World->Prop} {Q:Exit->Act->World->Prop} (hn:∀F kv fp a' w',aE E pm F kv fp (AM.apply o r σ) a' w'->next a' w'):o.wp E.P a w next Q:=by
 unfold step at hs
 rw[bV] at hs
 split at hs
 ·rename_i hc
  simp only[c9] at hc
  have hd:∀d,o.dst=some d->d<σ.n:=by
   intro d hd
   have:=hc.1
   unfold gh at this
   rw[hd] at this
   exact Nat.blt_eq▸this
  split at hs
  ·rename_i c x y ho
   split at hs
   ·rename_i t ht
    have OT:∃sc,rV σ c=some sc/\cq sc=some (.bool t):=by
     unfold lc n9 at ht
     split at ht
     ·rename_i sc Kv;exact⟨sc,Kv,ht⟩
     ·cases ht
    obtain⟨sc,h1,h2⟩:=OT
    cases t with
    |true=>
     simp only[cond_true] at hs
     split at hs
     ·rename_i sv mX
      cases hs
      exact aB.wp (DM ho (mM h h1) h2 (by simpa using mM h mX)) h hd hn
     ·cases hs
    |false=>
     simp only[cond_false] at hs
     split at hs
     ·rename_i sv mX
      cases hs
      exact aB.wp (DM ho (mM h h1) h2 (by simpa using mM h mX)) h hd hn
     ·cases hs
   ·cases hs
  ·split at hs
   ·rename_i xs hg
    split at hs
    ·rename_i r' hr
     cases hs
     exact Jq hE h hd hc.2 hg hr hp fj hn
    ·cases hs
   ·cases hs
 ·cases hs
end AM
