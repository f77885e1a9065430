import Derived.Test.YtknfcngfhlpaeaaGreatDoorQAmOps9
import Derived.Test.YtknfcngfhlpaeaaGreatDoorQAmPart2
import Derived.Test.YtknfcngfhlpaeaaGreatDoorQAmOps10
namespace AM
set_option linter.unusedVariables false
open Go
variable{U:kz}{E:Env U}{pm:Pm}
variable{F F':Nat->Prop}{kv:Key->Value}{fp:Key->List Nat}{σ:ak U}{a:Act}{w w':World}{bad:Key->Bool}
theorem cy.wp{o:Oper}{sv:SV U}{ps:List Prop}(hm:cy E F kv fp (bR σ) a w o sv)(h:cG E pm F kv fp σ a w)(hd:∀d,o.dst=some d->d<σ.n){next:Act->World->Prop}{Q:Exit->Act->World->Prop}
  (hn:∀F kv fp a' w',cG E pm F kv fp (AM.apply o ⟨some sv,[],[],[],ps⟩ σ) a' w'->next a' w'):o.wp E.P a w next Q:=by
 obtain⟨v,hr,hv⟩:=hm
 exact qZ hr (hn _ _ _ _ _ (h.val o (some sv) ps v hd (by rintro x ⟨⟩;exact hv)))
theorem Mg{o:Oper}{xs:List (SV U)}(h:pX σ o=some xs):xs.length=(Oper.looks o).length/\∀(i:Nat)(x:SV U)(q:Operand),xs[i]? =some x->(Oper.looks o)[i]? =some q->J8 σ q=some x:=by
 obtain⟨h1,h2⟩:=aat h
 refine⟨h1,fun i x q hx hq=> ?_⟩
 obtain⟨y,hy,ho⟩:=h2 i q hq
 rw[hx] at hy;cases hy;exact ho
theorem ah6{q:Operand}{x:SV U}(h:J8 σ q=some x):∀k∈x.keys,Names σ k:=by
 cases q with
 |tmp t=>exact fun k hk=> .inl ⟨t,x,h,hk⟩
 |global g=>cases h
 |func f=>cases h;intro k hk;simp[SV.keys,SV.Ax] at hk
 |const v=>
  intro k hk
  exfalso
  have hc:∀{v:Value}{y:AC U},n8 v=some y->y.keys=[]:=by
   intro v y hy
   unfold n8 at hy
   split at hy
   ·cases hy;rfl
   ·cases hy;rfl
   ·rw[gI] at hy;split at hy<;>cases hy;rfl
   ·cases hy;rfl
   ·rw[gI] at hy;split at hy<;>cases hy;rfl
   ·cases hy
  have tY:∀{vs:List Value}{ys:List (AC U)},jf vs=some ys->∀y∈ys,y.keys=[]:=by
   intro vs
   induction vs with
   |nil=>intro ys hy y hy';cases hy;cases hy'
   |cons v vs ih=>
    intro ys hy y hy'
    simp only[jf] at hy
    split at hy
    ·rename_i y1 ys1 h1 h2
     cases hy
     rcases jF.1 hy' with rfl|hy'
     ·exact hc h1
     ·exact ih h2 y hy'
    ·cases hy
  simp only[J8] at h
  unfold Gy at h
  split at h
  ·unfold qp at h
   split at h
   ·rename_i l hl
    cases h
    obtain⟨y,hy,yH⟩:=SV.mem_keys.1 hk
    rw[tY hl y hy] at yH;cases yH
   ·cases h
  ·split at h
   ·rename_i y hy
    cases h
    obtain⟨z,hz,yH⟩:=SV.mem_keys.1 hk
    simp only[one,SV.Ax,mb] at hz
    subst hz
    rw[hc hy] at yH;cases yH
   ·cases h
theorem KI{b:Option Operand}{bs YN:List (SV U)}{l:Option Int}(h:cG E pm F kv fp σ a w)(hb:Fj b bs=some (l,YN)){L L':List Operand}(hL:L=b.toList++L')
  (hv:bs.length=L.length/\∀(i:Nat)(x:SV U)(q:Operand),bs[i]? =some x->L[i]? =some q->J8 σ q=some x):
  Tn l (b.map a.eval)/\YN.length=L'.length/\∀(i:Nat)(x:SV U)(q:Operand),YN[i]? =some x->L'[i]? =some q->J8 σ q=some x:=by
 rcases ajD hb with⟨rfl,rfl,rfl⟩|⟨y,sy,k,n,rfl,rfl,h1,rfl⟩
 ·subst hL
  exact⟨.inl ⟨rfl,rfl⟩,by simpa using hv.1,fun i x q hx hq=>hv.2 i x q hx (by simpa using hq)⟩
 ·subst hL
  have hy:=hv.2 0 sy y rfl rfl
  have:=o6 (CG h hy) h1
  exact⟨.inr ⟨k,n,rfl,by simp[this]⟩,by simpa using hv.1,fun i x q hx hq=>hv.2 (i+1) x q (by simpa using hx) (by simpa using hq)⟩
section
variable(E)
structure Env.Good:Prop where
 ok:E.Ok
 Na:∀f k,E.Na f=some k->xY E.P f/\dR E f k
 M_:∀f k,E.M_ f=some k->xY E.P f/\dR E f k
theorem Env.Good.SY{E:Env U}(h:E.Good){b:Bool}{f:FuncId}{k:jw U}(hk:E.SY b f=some k):xY E.P f/\dR E f k:=by
 cases b with
 |false=>exact h.Na f k hk
 |true=>exact h.M_ f k hk
end
theorem sr(h:cG E pm F kv fp σ a w){o:Oper}{q:Operand}{x:SV U}(hl:Oper.looks o=[q])(hg:pX σ o=some [x]):RS E w F kv fp (bR σ) x (a.eval q):=
 CG h ((Mg hg).2 0 x q rfl (by rw[hl];rfl))
theorem CX(h:cG E pm F kv fp σ a w){o:Oper}{q q':Operand}{x y:SV U}(hl:Oper.looks o=[q,q'])(hg:pX σ o=some [x,y]):
  RS E w F kv fp (bR σ) x (a.eval q)/\RS E w F kv fp (bR σ) y (a.eval q'):=
 ⟨CG h ((Mg hg).2 0 x q rfl (by rw[hl];rfl)),CG h ((Mg hg).2 1 y q' rfl (by rw[hl];rfl))⟩
theorem qg(h:cG E pm F kv fp σ a w){o:Oper}{l:List Operand}{xs:List (SV U)}(hl:Oper.looks o=l)(hg:pX σ o=some xs):
  xs.length=l.length/\(∀(i:Nat)(x:SV U)(q:Operand),xs[i]? =some x->l[i]? =some q->RS E w F kv fp (bR σ) x (a.eval q)):=by
 obtain⟨h1,h2⟩:=Mg hg
 rw[hl] at h1 h2
 exact⟨h1,fun i x q hx hq=>CG h (h2 i x q hx hq)⟩
theorem WT{o:Oper}{xs:List (SV U)}(hg:pX σ o=some xs):∀x∈xs,∀k∈x.keys,Names σ k:=by
 intro x hx k hk
 obtain⟨i,hi,rfl⟩:=qD hx
 obtain⟨h1,h2⟩:=Mg hg
 have fU:i<(Oper.looks o).length:=by omega
 exact ah6 (h2 i xs[i] (Oper.looks o)[i] (eW hi) (eW fU)) k hk
theorem cG.ahh{F:Nat->Prop}{kv:Key->Value}{fp:Key->List Nat}{σ:ak U}{a:Act}{w w':World}(h:cG E pm F kv fp σ a w)(hu:gq (fun _=>False) w w')(o:Oper)(sv:Option (SV U))(ps:List Prop)(v:Value)
  (hd:∀d,o.dst=some d->d<σ.n) (hv:∀x,sv=some x->RS E w' F kv fp (bR σ) x v):
  cG E pm F kv fp (AM.apply o ⟨sv,[],[],[],ps⟩ σ) (a.put o.dst v) w':=by
 have hb:bR (AM.apply o ⟨sv,[],[],[],ps⟩ σ)=bR σ:=rfl
 refine h.apply (F':=F) (kv':=kv) (fp':=fp) (w':=w') o _ v hd ?_ (fun _ _=>rfl) (fun _ _ _=>rfl) ?_ (fun b hb=>⟨hb,hu.block b (h.sO b hb) (fun x=>x)⟩) (fun k e _ _ _ he b hb=>hu.block b (h.fj k e b he hb).2.2 (fun x=>x)) ?_ ?_ ?_
  (fun b hb=>Y8 (h.sO b hb) hu.size) h.sN (h.upto.trans (hu.mono (fun i hi=>hi.elim))) hu.size
 ·intro x hx;rw[hb];exact hv x hx
 ·intro k hk;simp[dk] at hk
 ·intro k e hk;simp at hk
 ·intro k e b _ _ _ he hbb;exact(h.fj k e b he hbb).1
 ·intro k k' b _ hk;simp[dk,jh] at hk
theorem ahR{P:Program}{w:World}{a:Act}{o:Oper}{cl:Call}{q:Operand}{f:FuncId}{oG:Array Value}(qB:o.op=.call cl)(gB:cl.callee=.value q)(hq:a.eval q=.func (.func f) #[] oG)(hf:xY P f):
  (execOp a.eval o).run P w=.ok (.enter f ((cl.args.toList.map a.eval).toArray++oG)) w:=by
 obtain⟨fn,h1,h2,h3⟩:=hf
 have e:execOp a.eval o=callFunc f (#[]++cl.args.map a.eval++oG):=by
  unfold execOp
  rw[qB]
  simp only[resolve,gB,hq]
  rfl
 rw[e]
 have e2:(#[]++cl.args.map a.eval++oG:Array Value)=(cl.args.toList.map a.eval).toArray++oG:=by
  apply Array.ext'
  simp
 rw[e2]
 have h4:fn.body≠none:=by cases hb:fn.body<;>simp[hb] at h2⊢
 have h5:fn.name≠ "runtime.NumGoroutine" :=by simpa using h3
 simp[callFunc,go_sem,h1,h4,h5]
theorem ajl(h:cG E pm F kv fp σ a w){rs:List Key}{K:List Key}:∀{xs:List (SV U)}{ws:List (List (Option U.Ty))}{vs:List Value}{ps:List Prop}{ds:List (DA U)},zC (restrict σ.bH rs) σ.aR ws xs=some (ps,ds)->(∀p∈ps,p)->xs.length=vs.length->
  (∀(i:Nat)(x:SV U)(u:Value),xs[i]? =some x->vs[i]? =some u->RS E w F kv fp (bR σ) x u)->(∀x∈xs,∀k∈x.keys,(σ.bH k).isSome=true->k∈K)->ag7 E w (FK F fp K) ds vs:=by
 intro xs
 induction xs with
 |nil=>
  intro ws vs ps ds hc hp hl hx hK
  simp only[zC,fM,nT] at hc
  obtain⟨rfl,rfl⟩:=hc
  exact⟨by simpa using hl,fun i d v hd=>by simp at hd⟩
 |cons x xs ih=>
  intro ws vs ps ds hc hp hl hx hK
  cases vs with
  |nil=>simp at hl
  |cons v vs=>
   simp only[zC] at hc
   split at hc
   ·rename_i QR c W9 ZA h1 h2
    cases hc
    obtain⟨i1,i2⟩:=ih h2 (fun p j6=>hp p (by simp[j6])) (by simpa using hl) (fun i y u hy hu=>hx (i+1) y u (by simpa using hy) (by simpa using hu)) (fun y hy=>hK y (e8 _ hy))
    obtain⟨g1,_⟩:nC E w (FK F fp K) .ro (.one c) v []:=RP h h1 (fun p j6=>hp p (by simp[j6])) (hx 0 x v rfl rfl) (hK x gS)
    refine⟨by simp[i1],fun i d u hd hu=> ?_⟩
    cases i with
    |zero=>
     simp only[tJ,fM] at hd hu
     subst hd;subst hu
     exact⟨[v],rfl,fun i c' l_=>by
      cases i with
      |zero=>simp only[tJ,fM] at l_;subst l_;exact g1
      |succ i=>simp at l_,rfl⟩
    |succ i=>exact i2 i d u (by simpa using hd) (by simpa using hu)
   ·rename_i QR cs W9 ZA h1 h2
    cases hc
    obtain⟨i1,i2⟩:=ih h2 (fun p j6=>hp p (by simp[j6])) (by simpa using hl) (fun i y u hy hu=>hx (i+1) y u (by simpa using hy) (by simpa using hu)) (fun y hy=>hK y (e8 _ hy))
    obtain⟨us,g1,g2,g3,_⟩:nC E w (FK F fp K) .ro (.agg cs) v []:=RP h h1 (fun p j6=>hp p (by simp[j6])) (hx 0 x v rfl rfl) (hK x gS)
    refine⟨by simp[i1],fun i d u hd hu=> ?_⟩
    cases i with
    |zero=>
     simp only[tJ,fM] at hd hu
     subst hd;subst hu
     exact⟨us,g2,g3,g1⟩
    |succ i=>exact i2 i d u (by simpa using hd) (by simpa using hu)
   ·cases hc
theorem abh:∀{xs:List (SV U)}{l:List (AV U)},zF xs=some l->xs=l.map SV.v
 |[],l,h=>by cases h;rfl
 | .v x::r,l,h=>by
  simp only[zF] at h
  split at h
  ·rename_i l' hl;cases h;rw[abh hl];rfl
  ·cases h
 | .uZ _::r,l,h=>by simp[zF] at h
 | .fn _::r,l,h=>by simp[zF] at h
 | .Ff _ _::r,l,h=>by simp[zF] at h
theorem aiD{bad:Key->Bool}{o:Oper}{g:FuncId}{fst Uj:Array Operand}{xs:List (SV U)}{l:List (AV U)}(ho:o.op=.makeFunc (.func g) fst Uj)(he:fst.isEmpty=true)(hl:zF xs=some l)
  (h1:xs.length=(fst++Uj).toList.length) (h2:∀(i:Nat)(x:SV U)(q:Operand),xs[i]? =some x->(fst++Uj).toList[i]? =some q->RS E w F kv fp bad x (a.eval q)):cy E F kv fp bad a w o (.Ff g l):=by
 have hf:fst= #[]:=by simpa using he
 subst hf
 have hx:=abh hl
 subst hx
 refine⟨.func (.func g) #[] (Uj.map a.eval),?_,⟨(Uj.map a.eval).toList,by rw[Array.toArray_toList],by simpa using h1,fun i x u hx hu=> ?_⟩⟩
 ·unfold execOp;simp only[ho]
  have e:Array.map a.eval #[]= #[]:=by simp
  rw[e]
  exact gY rfl
 ·rw[ZD,mw] at hu
  cases hq:Uj.toList[i]? with
  |none=>rw[hq] at hu;cases hu
  |some q=>
   rw[hq] at hu;cases hu
   exact h2 i (.v x) q (by rw[mw,hx];rfl) (by simpa using hq)
theorem ai6(hE:E.Good)(h:cG E pm F kv fp σ a w){o:Oper}(hd:∀d,o.dst=some d->d<σ.n)(hk:kindOk o=true){xs:List (SV U)}(hg:pX σ o=some xs){rs:List Key}{r:bX U}
  {b:Bool} (hr:yU E b (restrict σ.bH rs) σ.aR o xs=some r) (hp:∀p∈r.pre,p) (nu:∀k∈dk o r,¬Names σ k) {next:Act->World->Prop} {Q:Exit->Act->World->Prop}
  (hn:∀F kv fp a' w',cG E pm F kv fp (AM.apply o r σ) a' w'->next a' w'):o.wp E.P a w next Q:=by
 have TN:∀{t:Option Nat},t.isSome=true->∃d,t=some d:=fun h=>l6.1 h
 unfold yU at hr
 simp only at hr
 split at hr
 ·
  rename_i q x ho
  cases hr
  exact cy.wp (aio ho (sr h (by simp[Oper.looks,ho,Op.operands]) hg)) h hd hn
 ·
  rename_i q x ho
  cases hr
  exact cy.wp (aiG ho (sr h (by simp[Oper.looks,ho,Op.operands]) hg)) h hd hn
 ·
  rename_i op t q x ho
  split at hr
  ·rename_i v hv
   cases hu:Ir op v with
   |none=>rw[hu] at hr;cases hr
   |some u=>
    rw[hu] at hr;cases hr
    exact cy.wp (aik ho (sr h (by simp[Oper.looks,ho,Op.operands]) hg) hv hu) h hd hn
  ·cases hr
 ·
  rename_i op t q q' t' x y ho
  split at hr
  ·rename_i u v hu hv
   cases hb:C0 E t op u v with
   |none=>rw[hb] at hr;cases hr
   |some pv=>
    obtain⟨ps,v'⟩:=pv
    rw[hb] at hr;cases hr
    obtain⟨h1,h2⟩:=CX (q:=q) (q':=q') h (by simp[Oper.looks,ho,Op.operands]) hg
    exact cy.wp (aiF ho h1 hu h2 hv hb hp) h hd hn
  ·split at hr
   ·rename_i r' oq
    cases hr
    obtain⟨h1,h2⟩:=CX (q:=q) (q':=q') h (by simp[Oper.looks,ho,Op.operands]) hg
    obtain⟨b,rfl,hm⟩:=aiA ho h1 h2 oq
    exact cy.wp hm h hd hn
   unfold OC at hr
   split at hr
   ·rename_i n c b τ xs _ _
    split at hr
    ·rename_i e hu
     cases hr
     obtain⟨h1,h2⟩:=CX (q:=q) (q':=.const (.slice none n c)) h (by simp[Oper.looks,ho,Op.operands]) hg
     exact cy.wp (ain ho h1 hu) h hd hn
    ·cases hr
   ·cases hr
 ·
  rename_i q i l ho
  cases hy:l[i]? with
  |none=>rw[hy] at hr;cases hr
  |some y=>
   rw[hy] at hr;cases hr
   exact cy.wp (aiz ho (sr h (by simp[Oper.looks,ho,Op.operands]) hg) hy) h hd hn
 ·
  rename_i t ho
  split at hr
  ·rename_i z hz
   split at hr
   ·rename_i x hx
    cases hr
    obtain⟨d,jR⟩:=TN (by simpa[kindOk,ho] using hk)
    unfold qp at hx
    split at hx
    ·rename_i l hl
     cases hx
     have vD:¬Names σ (d,0):=nu _ (by simp[dk,jR])
     refine ajR h jR (hd d jR) ho hz hl vD (fun F kv fp a' w' hs=>hn F kv fp a' w' ?_)
     simpa[jR] using hs
    ·cases hx
   ·cases hr
  ·cases hr
 ·
  rename_i t q x ho
  split at hr
  ·rename_i y n g hy uS Sx
   split at hr
   ·rename_i r' Sh
    cases hr
    rw[gI] at Sh
    split at Sh
    ·obtain⟨sv,ps,rfl,hm⟩:=aim h ho (sr h (by simp[Oper.looks,ho,Op.operands]) hg) hy uS Sx Sh hp
     exact cy.wp hm h hd hn
    ·cases Sh
   split at hr
   ·rename_i r' Ed
    cases hr
    obtain⟨sv,ps,rfl,hm⟩:=aip h ho (sr h (by simp[Oper.looks,ho,Op.operands]) hg) hy uS Sx Ed hp
    exact cy.wp hm h hd hn
   ·refine aih h hd ho (sr h (by simp[Oper.looks,ho,Op.operands]) hg) hy (fun k hk=>WT hg x (by simp) k ?_) uS Sx hr hp nu hn
    rw[Jj hy];simpa[one,SV.keys,SV.Ax] using hk
  ·cases hr
 ·
  rename_i t q q' p x ho
  split at hr
  ·rename_i y n hy hs
   cases hb:Nat.beq n x.cs.length<;>simp only[hb,cond_true,cond_false] at hr
   ·cases hr
   ·obtain⟨h1,h2⟩:=CX (q:=q) (q':=q') h (by simp[Oper.looks,ho,Op.operands]) hg
    have Lu:o.dst=none:=by simpa[kindOk,ho] using hk
    split at hr
    ·rename_i r' Ed
     cases hr
     exact ahw h Lu ho h1 hy h2 hs (mc hb) Ed hp hn
    ·split at hr
     ·rename_i r' Ed
      cases hr
      exact ahx h Lu ho h1 hy h2 hs (mc hb) Ed hp hn
     ·exact ahy h Lu ho h1 hy h2 hs (mc hb) hr hp hn
  ·cases hr
 ·
  rename_i t q f x ho
  split at hr
  ·rename_i y off ft hy hf
   split at hr
   ·rename_i n hs
    have hx:=sr (q:=q) h (by simp[Oper.looks,ho,Op.operands]) hg
    split at hr
    ·cases hr
     exact cy.wp (aiv ho hx hy hf hs) h hd hn
    ·cases hr
     exact cy.wp (aix ho hx hy hf hs) h hd hn
    ·rename_i k p i wd oo
     cases hc:fm (restrict σ.bH rs) σ.aR k p<;>simp only[hc,cond_true,cond_false] at hr
     ·cases hr
     ·cases hr
      have hb:hJ (bR σ) (AC.kI (U:=U) k p i wd oo)=false:=by
       simp only[hJ]
       have l_:=hc
       unfold fm at l_
       cases hpe:p.isEmpty
       ·rw[hpe] at l_
        simp only[Fw,cH] at l_
        obtain⟨e,he⟩:=l6.1 l_.1
        have:=FM hc he
        rwa[hpe] at this
       ·rfl
      exact cy.wp (aiw ho hx hy hb hf hs) h hd hn
    ·cases hr
   ·cases hr
  ·cases hr
 ·
  rename_i t q f cs ho
  split at hr
  ·rename_i off ft hf
   split at hr
   ·rename_i n g hs Sx
    cases hb:(Nat.ble (off+n) cs.length&&(g||Nat.beq n 1))<;>simp only[hb,cond_true,cond_false] at hr
    ·cases hr
    ·cases hr
     exact cy.wp (aiy ho (sr h (by simp[Oper.looks,ho,Op.operands]) hg) hf hs Sx hb) h hd hn
   ·cases hr
  ·cases hr
 ·
  rename_i t parts ho
  split at hr
  ·rename_i pl z zU hz
   split at hr
   ·rename_i l hl
    split at hr
    ·rename_i cs hc
     cases hr
     obtain⟨h1,h2⟩:=qg h (l:=parts.toList.map (·.2)) (by simp[Oper.looks,ho]) hg
     refine cy.wp (aiE ho (by simpa using h1) (fun i x q hx hq=>h2 i x q.2 hx (by rw[mw,hq];rfl)) zU hz hl hc) h hd hn
    ·cases hr
   ·cases hr
  ·cases hr
 ·
  rename_i t len parts ho
  split at hr
  ·rename_i e he
   split at hr
   ·rename_i τ Jw
    rw[gI] at hr
    split at hr
    ·rename_i hc
     simp only[cH] at hc
     obtain⟨⟨Eg,MY⟩,hc3⟩:=hc
     rw[gI] at hr
     split at hr
     ·rw[gI] at hr
      split at hr
      ·rename_i hkp
       cases hr
       obtain⟨d,jR⟩:=TN (by simpa[kindOk,ho] using hk)
       obtain⟨h1,h2⟩:=qg h (l:=parts.toList.map (·.2)) (by simp[Oper.looks,ho]) hg
       have vD:¬Names σ (d,0):=nu _ (by simp[dk,jR])
       refine aiQ hE.ok h jR (hd d jR) ho he Jw (by simpa using h1) (fun i x q hx hq=>h2 i x q.2 hx (by rw[mw,hq];rfl)) (mc Eg) MY (HG hc3) hkp vD
        (fun F kv fp a' w' hs=>hn F kv fp a' w' ?_)
       simpa[jR] using hs
      ·cases hr
     split at hr
     ·rename_i ps rows ks dp abG
      rw[gI] at hr
      split at hr
      ·rename_i rq
       cases hr
       obtain⟨d,jR⟩:=TN (by simpa[kindOk,ho] using hk)
       obtain⟨h1,h2⟩:=qg h (l:=parts.toList.map (·.2)) (by simp[Oper.looks,ho]) hg
       have vD:¬Names σ (d,0):=nu _ (by simp[dk,jR])
       refine ajB hE.ok h jR (hd d jR) ho he Jw (by simpa using h1) (fun i x q hx hq=>h2 i x q.2 hx (by rw[mw,hq];rfl)) (mc Eg) MY (HG hc3) abG hp (tf.1 rq) vD
        (fun F kv fp a' w' hs=>hn F kv fp a' w' ?_)
       simpa[jR] using hs
      ·cases hr
     ·cases hr
    ·cases hr
   ·cases hr
  ·cases hr
 ·
  rename_i t q q' l c ho
  split at hr
  ·rename_i e n m he hl hc
   split at hr
   ·rename_i τ Jw
    cases hr
    obtain⟨d,jR⟩:=TN (by simpa[kindOk,ho] using hk)
    obtain⟨h1,h2⟩:=CX (q:=q) (q':=q') h (by simp[Oper.looks,ho,Op.operands]) hg
    have vD:¬Names σ (d,0):=nu _ (by simp[dk,jR])
    refine aiH hE.ok h jR (hd d jR) ho he Jw h1 hl h2 hc (hp _ (by simp)) (hp _ (by simp)) (hp _ (by simp)) (ps:=[0<=n,n=m,n<=4294967296]) vD (fun F kv fp a' w' hs=>hn F kv fp a' w' ?_)
    simpa[jR] using hs
   ·cases hr
  ·cases hr
 ·
  rename_i t q q' x i ho
  split at hr
  ·rename_i kd n y m hi hy hm
   obtain⟨h1,h2⟩:=CX (q:=q) (q':=q') h (by simp[Oper.looks,ho,Op.operands]) hg
   split at hr
   ·rename_i τ ys
    rw[gI] at hr
    split at hr
    ·rename_i hb
     cases hr
     exact cy.wp (aiu ho h1 hy h2 hi hm (mc hb) (hp _ (by simp[bX.cE])) (hp _ (by simp[bX.cE]))) h hd hn
    ·cases hr
   ·rename_i k p
    split at hr
    ·rename_i ps b ha
     rw[gI] at hr
     split at hr
     ·rename_i hb
      cases hr
      exact cy.wp (ais h ho h1 hy h2 hi hm ha (mc hb) (fun p j6=>hp p (by simp[bX.cE,j6])) (hp _ (by simp[bX.cE])) (hp _ (by simp[bX.cE]))) h hd hn
     ·cases hr
    ·split at hr
     ·rename_i b hpo _
      rw[gI] at hr
      split at hr
      ·rename_i hb
       cases hr
       exact cy.wp (ait h ho h1 hy h2 hi hm hpo (mc hb) (hp _ (by simp[bX.cE])) (hp _ (by simp[bX.cE]))) h hd hn
      ·cases hr
     ·cases hr
   ·cases hr
  ·cases hr
 ·
  rename_i t q q' x i ho
  split at hr
  ·rename_i s kd n hx hi hu
   cases hr
   obtain⟨h1,h2⟩:=CX (q:=q) (q':=q') h (by simp[Oper.looks,ho,Op.operands]) hg
   exact cy.wp (air ho h1 hx h2 hi hu (hp _ (by simp[bX.lit,bX.cE])) (hp _ (by simp[bX.lit,bX.cE]))) h hd hn
  ·cases hr
 ·
  rename_i t q lo hi mx x bs ho
  have hl:Oper.looks o=q::(lo.toList++(hi.toList++(mx.toList++[]))):=by simp[Oper.looks,ho,Op.operands]
  obtain⟨g1,g2⟩:=Mg hg
  rw[hl] at g1 g2
  have hx:RS E w F kv fp (bR σ) x (a.eval q):=CG h (g2 0 x q rfl rfl)
  split at hr
  ·rename_i l bs1 sM
   obtain⟨k1,k2⟩:=KI (a:=a) (w:=w) (L:=lo.toList++(hi.toList++(mx.toList++[]))) (L':=hi.toList++(mx.toList++[])) h sM rfl ⟨by simpa using g1,fun i y u hy hu=>g2 (i+1) y u (by simpa using hy) (by simpa using hu)⟩
   split at hr
   ·rename_i hh bs2 sL
    obtain⟨k3,k4⟩:=KI (L':=mx.toList++[]) h sL rfl k2
    split at hr
    ·rename_i m hb3
     obtain⟨k5,k6⟩:=KI (L':=[]) h hb3 rfl k4
     obtain⟨sv,ps,rfl,hm⟩:=ail h ho hx k1 k3 k5 hr hp
     exact cy.wp hm h hd hn
    ·cases hr
   ·cases hr
  ·cases hr
 ·
  rename_i args argTypes x ho
  split at hr
  ·rename_i t Ai
   have D1:Oper.looks o=args.toList:=by simp[Oper.looks,ho]
   obtain⟨g1,g2⟩:=qg h D1 hg
   obtain⟨q,hq⟩:∃q,args.toList=[q]:=by
    match hm:args.toList,g1 with
    |[q],_=>exact⟨q,rfl⟩
   have hx:RS E w F kv fp (bR σ) x (a.eval q):=g2 0 x q rfl (by rw[hq];rfl)
   split at hr
   ·rename_i s hs
    split at hr
    ·rename_i hu
     cases hr
     exact cy.wp (aiq ho rfl hq Ai hx hs hu) h hd hn
    ·cases hr
   ·cases hr
   ·split at hr
    ·rename_i e w6 tt
     cases hr
     obtain⟨ad,had⟩:=ca (kr hx w6) rfl
     exact cy.wp (WL (n:=0) ho rfl hq Ai ⟨ad,0,had⟩ (CH tt) (Nat.zero_le _)) h hd hn
    ·rename_i y e w6 tt
     split at hr
     ·rename_i ps b ha
      cases hr
      have Xv:=W2 h ha hp (kr hx w6)
      obtain⟨ad,c,hs,_⟩:=Xv.slice
      exact cy.wp (WL ho rfl hq Ai ⟨ad,c,hs⟩ (CH tt) Xv.len) h hd hn
     ·split at hr
      ·rename_i b hpo
       cases hr
       obtain⟨k,dead,_,_,nq⟩:=aaG h hpo (kr hx w6)
       obtain⟨ad,c,hs,hle⟩:=nq.slice
       exact cy.wp (WL ho rfl hq Ai ⟨ad,c,hs⟩ (CH tt) hle) h hd hn
      ·cases hr
    ·cases hr
  ·cases hr
 ·
  rename_i args argTypes x ho
  split at hr
  rotate_left
  ·cases hr
  rename_i t Ai
  split at hr
  rotate_left
  ·cases hr
  rename_i e k wd lo hi tt w6
  split at hr
  rotate_left
  ·cases hr
  rename_i τ a0 dead hc he
  rw[gI] at hr
  split at hr
  rotate_left
  ·cases hr
  rename_i tT
  split at hr
  rotate_left
  ·cases hr
  rename_i xs hx0
  cases hr
  have:=dr hx0
  subst this
  have tT:=mc tT
  subst tT
  have D1:Oper.looks o=args.toList:=by simp[Oper.looks,ho]
  obtain⟨g1,g2⟩:=qg h D1 hg
  obtain⟨q,hq⟩:∃q,args.toList=[q]:=by
   match hm:args.toList,g1 with
   |[q],_=>exact⟨q,rfl⟩
  exact ajs hE.ok h hd ho rfl hq Ai tt hc (g2 0 x q rfl (by rw[hq];rfl)) w6 (jx he) (hp _ (by simp)) (hp _ (by simp)) hn
 ·
  rename_i args argTypes x y ho
  split at hr
  ·rename_i kd m n hx hy
   rw[gI] at hr
   split at hr
   ·rename_i C8
    have C8:=of_decide_eq_true C8
    subst C8
    cases hr
    have D1:Oper.looks o=args.toList:=by simp[Oper.looks,ho]
    obtain⟨g1,g2⟩:=qg h D1 hg
    obtain⟨q,q',hq⟩:∃q q',args.toList=[q,q']:=by
     match hm:args.toList,g1 with
     |[q,q'],_=>exact⟨q,q',rfl⟩
    have:=aaR (b:=true) ho (by rfl) hq (g2 0 x q rfl (by rw[hq];rfl)) hx (g2 1 y q' rfl (by rw[hq];rfl)) hy
    exact cy.wp (by simpa using this) h hd hn
   ·cases hr
  ·cases hr
 ·
  rename_i args argTypes x y ho
  split at hr
  ·rename_i kd m n hx hy
   rw[gI] at hr
   split at hr
   ·rename_i C8
    have C8:=of_decide_eq_true C8
    subst C8
    cases hr
    have D1:Oper.looks o=args.toList:=by simp[Oper.looks,ho]
    obtain⟨g1,g2⟩:=qg h D1 hg
    obtain⟨q,q',hq⟩:∃q q',args.toList=[q,q']:=by
     match hm:args.toList,g1 with
     |[q,q'],_=>exact⟨q,q',rfl⟩
    have:=aaR (b:=false) ho (by rfl) hq (g2 0 x q rfl (by rw[hq];rfl)) hx (g2 1 y q' rfl (by rw[hq];rfl)) hy
    exact cy.wp (by simpa using this) h hd hn
   ·cases hr
  ·cases hr
 ·
  rename_i args argTypes s x ho
  split at hr
  ·rename_i t u Ai
   split at hr
   ·rename_i e e' ys yx tt akj hs hx
    rw[gI] at hr
    split at hr
    ·rename_i hc
     simp only[cH] at hc
     have htu:t=u:=mc hc.1
     subst htu
     split at hr
     ·rename_i τ Jw
      split at hr
      ·rename_i ps xs ks d1 qs zs ks' d2 h1 h2
       rw[gI] at hr
       split at hr
       ·rename_i rq
        cases hr
        obtain⟨d,jR⟩:=TN (by simpa[kindOk,ho] using hk)
        have D1:Oper.looks o=args.toList:=by simp[Oper.looks,ho]
        obtain⟨g1,g2⟩:=qg h D1 hg
        obtain⟨q,q',hq⟩:∃q q',args.toList=[q,q']:=by
         match hm:args.toList,g1 with
         |[q,q'],_=>exact⟨q,q',rfl⟩
        have vD:¬Names σ (d,0):=nu _ (by simp[dk,jR])
        refine ajP (pall:=ps++qs++[xs.length+zs.length<=4294967296]) hE.ok h jR (hd d jR) ho rfl hq Ai tt Jw (g2 0 s q rfl (by rw[hq];rfl)) hs (g2 1 x q' rfl (by rw[hq];rfl)) hx h1 h2 (fun p j6=>hp p (by simp[j6])) (tf.1 rq) (hp _ (by simp)) vD
         (fun F kv fp a' w' hs=>hn F kv fp a' w' ?_)
        simpa[jR] using hs
       ·cases hr
      ·rename_i ps xs ks h1 _
       split at hr
       ·rename_i zs ks' h2
        rw[gI] at hr
        split at hr
        ·rename_i rq
         cases hr
         obtain⟨d,jR⟩:=TN (by simpa[kindOk,ho] using hk)
         have D1:Oper.looks o=args.toList:=by simp[Oper.looks,ho]
         obtain⟨g1,g2⟩:=qg h D1 hg
         obtain⟨q,q',hq⟩:∃q q',args.toList=[q,q']:=by
          match hm:args.toList,g1 with
          |[q,q'],_=>exact⟨q,q',rfl⟩
         have vD:¬Names σ (d,0):=nu _ (by simp[dk,jR])
         refine ajQ (pall:=ps++[xs.length+zs.length<=4294967296]) hE.ok h jR (hd d jR) ho rfl hq Ai tt Jw (g2 0 s q rfl (by rw[hq];rfl)) hs (g2 1 x q' rfl (by rw[hq];rfl)) hx h1 h2 (fun p j6=>hp p (by simp[j6])) (tf.1 rq) (hp _ (by simp)) vD
          (fun F kv fp a' w' hs=>hn F kv fp a' w' ?_)
         simpa[jR] using hs
        ·cases hr
       ·cases hr
      ·cases hr
     ·cases hr
    ·cases hr
   ·rename_i e ys str tt akj hs hx
    split at hr
    ·rename_i τ hu Jw
     split at hr
     ·rename_i ps xs ks d1 zs h1 h2
      rw[gI] at hr
      split at hr
      ·rename_i rq
       cases hr
       obtain⟨d,jR⟩:=TN (by simpa[kindOk,ho] using hk)
       have D1:Oper.looks o=args.toList:=by simp[Oper.looks,ho]
       obtain⟨g1,g2⟩:=qg h D1 hg
       obtain⟨q,q',hq⟩:∃q q',args.toList=[q,q']:=by
        match hm:args.toList,g1 with
        |[q,q'],_=>exact⟨q,q',rfl⟩
       have vD:¬Names σ (d,0):=nu _ (by simp[dk,jR])
       have hlx:ix x=some (.string str):=by
        unfold tG at hx
        split at hx
        ·cases hx;rfl
        ·cases hx
       refine ajO (pall:=ps++[xs.length+zs.length<=4294967296]) hE.ok h jR (hd d jR) ho rfl hq Ai tt Jw (g2 0 s q rfl (by rw[hq];rfl)) hs (g2 1 x q' rfl (by rw[hq];rfl)) hlx hu h1 h2 (fun p j6=>hp p (by simp[j6])) (tf.1 rq) (hp _ (by simp)) vD
        (fun F kv fp a' w' hs=>hn F kv fp a' w' ?_)
       simpa[jR] using hs
      ·cases hr
     ·cases hr
    ·cases hr
   ·cases hr
  ·cases hr
 ·
  rename_i g fst Uj ho
  rw[gI] at hr
  split at hr
  ·rename_i aki
   split at hr
   ·rename_i l hl
    cases hr
    have D1:Oper.looks o=(fst++Uj).toList:=by simp[Oper.looks,ho,Op.operands]
    obtain⟨g1,g2⟩:=qg h D1 hg
    exact cy.wp (aiD ho aki hl (by simpa using g1) (by simpa using g2)) h hd hn
   ·cases hr
  ·cases hr
 ·
  rename_i t args argTypes p xs' ho
  have D1:Oper.looks o=.tmp t::args.toList:=by simp[Oper.looks,ho]
  obtain⟨g1,g2⟩:=qg h D1 hg
  have Yi:mP E w F p (a.eval (.tmp t)):=g2 0 (.fn p) (.tmp t) rfl rfl
  obtain⟨g,oG,hv,hf,ab4⟩:=Yi
  unfold Dd at hr
  split at hr
  ·rename_i ps ds Gj
   have main:∀(v:Value)(H_:List Prop),(∀q∈ps++[p ds=some v],q)->r=⟨some (uQ v),[],[],[],H_⟩->o.wp E.P a w next Q:=by
    intro v H_ hq hr
    have hda:=ajl (K:=(xs'.flatMap SV.keys).filter fun k=>(σ.bH k).isSome) (vs:=args.toList.map a.eval) h Gj (fun q hq'=>hq q (by simp[hq'])) (by simpa using g1) (fun i x u hx hu=>by
     rw[mw] at hu
     cases hq:args.toList[i]? with
     |none=>rw[hq] at hu;cases hu
     |some q=>rw[hq] at hu;cases hu;exact g2 (i+1) x q (by simpa using hx) (by simpa using hq)) (fun x hx k hk hs=>wc.2 ⟨nF.2 ⟨x,hx,hk⟩,hs⟩)
    have fU:∀b,FK F fp ((xs'.flatMap SV.keys).filter fun k=>(σ.bH k).isSome) b->b<w.heap.size:=by
     rintro b (hb|⟨k,hk,hb⟩)
     ·exact h.sO b hb
     ·obtain⟨e,he⟩:=l6.1 (wc.1 hk).2
      exact(h.fj k e b he hb).2.2
    have hc:=ab4 ds v (hq _ (by simp)) w _ (fun b hb=>⟨.inl hb,rfl⟩) fU _ hda
    show o.upon E.P a next Q ((execOp a.eval o).run E.P w)
    rw[ahR ho rfl hv hf,Oper.upon_enter]
    refine hc.mono ?_
    rintro e w' ⟨rfl,XK,oV⟩
    show next (a.put o.dst v) w'
    refine hn F kv fp _ w' ?_
    rw[hr]
    exact h.ahh oV o _ _ v hd (fun x hx=>by cases hx;exact l4 XK)
   split at hr
   ·have EN:=(VU hr).symm
    exact main _ _ (by rw[EN] at hp;exact hp) EN
   ·have EN:=(VU hr).symm
    exact main _ _ (by rw[EN] at hp;exact hp) EN
   ·cases hr
  ·cases hr
 ·
  rename_i f args argTypes ho
  split at hr
  ·rename_i k akl
   obtain⟨hf,hs⟩:=hE.SY akl
   have D1:Oper.looks o=args.toList:=by simp[Oper.looks,ho]
   obtain⟨g1,g2⟩:=qg h D1 hg
   exact ajx hE.Na h hd ho rfl hf hs g1 (WT hg) g2 hr hp nu hn
  ·cases hr
 ·
  rename_i t q x ho
  rw[gI] at hr
  split at hr
  ·rename_i hc
   simp only[cH] at hc
   cases hr
   obtain⟨d,jR⟩:=TN (by simpa[kindOk,ho] using hk)
   have vD:¬Names σ (d,0):=nu _ (by simp[dk,jR])
   refine ajC h jR (hd d jR) ho (sr h (by simp[Oper.looks,ho,Op.operands]) hg) (fun y hy k hk=>WT hg (.v x) (by simp) k (SV.mem_keys.2 ⟨y,hy,hk⟩)) hc.1 vD (fun F kv fp a' w' hs=>hn F kv fp a' w' ?_)
   simpa[jR] using hs
  ·cases hr
 ·
  rename_i q x ho
  have hx:=sr (q:=q) h (by simp[Oper.looks,ho,Op.operands]) hg
  split at hr
  ·rename_i cs w6
   cases hr
   obtain⟨b,o',h1,_⟩:=ca (kr hx w6) rfl
   exact cy.wp (WK ho hx h1) h hd hn
  ·rename_i k off w6
   cases hr
   obtain⟨b,_,h1⟩:=ca (kr hx w6) rfl
   exact cy.wp (WK ho hx h1) h hd hn
  ·rename_i k p i wd off w6
   rw[gI] at hr
   split at hr
   ·rename_i gB
    cases hr
    obtain⟨b,o',n,c,_,h1⟩:=ca (kr hx w6) (abc (x:=.kI k p i wd off) gB)
    exact cy.wp (WK ho hx h1) h hd hn
   ·cases hr
  ·cases hr
 ·
  rename_i s d q x ho
  have hx:=sr (q:=q) h (by simp[Oper.looks,ho,Op.operands]) hg
  split at hr
  ·rename_i k Jx
   split at hr
   ·rename_i k0 k' n ve hl
    cases hr
    exact cy.wp (aiB ho hx hl Jx ve) h hd hn
   ·cases hr
  ·rename_i Jx
   split at hr
   ·rename_i e ve
    split at hr
    ·rename_i hue w6
     cases hr
     obtain⟨ad,h1⟩:=ca (kr hx w6) rfl
     refine cy.wp (sv:=uQ (.string ByteArray.empty)) ⟨.string ByteArray.empty,?_,l4 ⟨rfl,by decide⟩⟩ h hd hn
     unfold execOp;simp only[ho,h1]
     exact gY (aba ve hue Jx ad 0)
    ·rename_i y hue w6
     split at hr
     ·rename_i ps b ha
      split at hr
      ·rename_i ys hys
       cases hr
       have:=dr hys
       subst this
       exact cy.wp (aiC ho (xr h ha (fun p j6=>hp p j6) (kr hx w6)) ve hue Jx) h hd hn
      ·cases hr
     ·cases hr
    ·cases hr
   ·cases hr
  ·cases hr
 ·cases hr
theorem ahB(hE:E.Good)(h:cG E pm F kv fp σ a w){b:Bool}{o:Oper}{r:bX U}{ks:List Key}(hs:step E b σ o=some (r,ks))(hp:∀p∈r.pre,p)(nu:∀k∈dk o r,¬Names σ k)
  {next:Act->World->Prop} {Q:Exit->Act->World->Prop} (hn:∀F kv fp a' w',cG E pm F kv fp (AM.apply o r σ) a' w'->next a' w'):o.wp E.P a w next Q:=by
 unfold step at hs
 rw[gI] at hs
 split at hs
 ·rename_i hc
  simp only[cH] at hc
  have hd:∀d,o.dst=some d->d<σ.n:=by
   intro d hd
   have:=hc.1
   unfold pB at this
   rw[hd] at this
   exact Nat.blt_eq▸this
  split at hs
  ·rename_i c x y ho
   split at hs
   ·rename_i t ht
    have Kn:∃sc,J8 σ c=some sc/\ix sc=some (.bool t):=by
     unfold yo Er at ht
     split at ht
     ·rename_i sc hsc;exact⟨sc,hsc,ht⟩
     ·cases ht
    obtain⟨sc,h1,h2⟩:=Kn
    cases t with
    |true=>
     simp only[cond_true] at hs
     split at hs
     ·rename_i sv C4
      cases hs
      exact cy.wp (aaQ ho (CG h h1) h2 (by simpa using CG h C4)) h hd hn
     ·cases hs
    |false=>
     simp only[cond_false] at hs
     split at hs
     ·rename_i sv C4
      cases hs
      exact cy.wp (aaQ ho (CG h h1) h2 (by simpa using CG h C4)) h hd hn
     ·cases hs
   ·cases hs
  ·split at hs
   ·rename_i xs hg
    split at hs
    ·rename_i r' hr
     cases hs
     exact ai6 hE h hd hc.2 hg hr hp nu hn
    ·cases hs
   ·cases hs
 ·cases hs
end AM
