/- THE ABSTRACT MACHINE: one operation. -/
import Derived.Test.YtmlhlndkkidhoaaGreatQAmOps9
import Derived.Test.YtmlhlndkkidhoaaGreatQAmPart2
import Derived.Test.YtmlhlndkkidhoaaGreatQAmOps10
namespace AM
set_option linter.unusedVariables false
open Go
variable{U:kZ}{E:Env U}{pm:Pm}
variable{F F':Nat->Prop}{kv:Key->Value}{fp:Key->List Nat}{σ:ah U}{a:Act}{w w':World}{bad:Key->Bool}
theorem cB.wp{o:Oper}{sv:SV U}{ps:List Prop}(hm:cB E F kv fp (bW σ) a w o sv)(h:cE E pm F kv fp σ a w)(hd:∀d,o.dst=some d->d<σ.n){next:Act->World->Prop}{Q:Exit->Act->World->Prop}
  (hn:∀F kv fp a' w',cE E pm F kv fp (AM.apply o ⟨some sv,[],[],[],ps⟩ σ) a' w'->next a' w'):o.wp E.P a w next Q:=by
 obtain⟨v,hr,hv⟩:=hm
 exact rD hr (hn _ _ _ _ _ (h.val o (some sv) ps v hd (by rintro x ⟨⟩;exact hv)))
theorem MY{o:Oper}{xs:List (SV U)}(h:qw σ o=some xs):xs.length=(Oper.looks o).length/\∀(i:Nat)(x:SV U)(q:Operand),xs[i]? =some x->(Oper.looks o)[i]? =some q->KL σ q=some x:=by
 obtain⟨h1,h2⟩:=ab3 h
 refine⟨h1,fun i x q hx hq=> ?_⟩
 obtain⟨y,hy,ho⟩:=h2 i q hq
 rw[hx] at hy;cases hy;exact ho
theorem al8{q:Operand}{x:SV U}(h:KL σ q=some x):∀k∈x.keys,Names σ k:=by
 cases q with
 |tmp t=>exact fun k hk=> .inl ⟨t,x,h,hk⟩
 |global g=>cases h
 |func f=>cases h;intro k hk;simp[SV.keys,SV.AQ] at hk
 |const v=>
  intro k hk
  exfalso
  have hc:∀{v:Value}{y:AC U},oM v=some y->y.keys=[]:=by
   intro v y hy
   unfold oM at hy
   split at hy
   ·cases hy;rfl
   ·cases hy;rfl
   ·rw[h_] at hy;split at hy<;>cases hy;rfl
   ·cases hy;rfl
   ·rw[h_] at hy;split at hy<;>cases hy;rfl
   ·cases hy
  have ur:∀{vs:List Value}{ys:List (AC U)},jC vs=some ys->∀y∈ys,y.keys=[]:=by
   intro vs
   induction vs with
   |nil=>intro ys hy y hy';cases hy;cases hy'
   |cons v vs ih=>
    intro ys hy y hy'
    simp only[jC] at hy
    split at hy
    ·rename_i y1 ys1 h1 h2
     cases hy
     rcases jQ.1 hy' with rfl|hy'
     ·exact hc h1
     ·exact ih h2 y hy'
    ·cases hy
  simp only[KL] at h
  unfold GZ at h
  split at h
  ·unfold qU at h
   split at h
   ·rename_i l hl
    cases h
    obtain⟨y,hy,yV⟩:=SV.mem_keys.1 hk
    rw[ur hl y hy] at yV;cases yV
   ·cases h
  ·split at h
   ·rename_i y hy
    cases h
    obtain⟨z,hz,yV⟩:=SV.mem_keys.1 hk
    simp only[one,SV.AQ,ma] at hz
    subst hz
    rw[hc hy] at yV;cases yV
   ·cases h
theorem Lv{b:Option Operand}{bs ZA:List (SV U)}{l:Option Int}(h:cE E pm F kv fp σ a w)(hb:FL b bs=some (l,ZA)){L L':List Operand}(hL:L=b.toList++L')
  (hv:bs.length=L.length/\∀(i:Nat)(x:SV U)(q:Operand),bs[i]? =some x->L[i]? =some q->KL σ q=some x):
  VG l (b.map a.eval)/\ZA.length=L'.length/\∀(i:Nat)(x:SV U)(q:Operand),ZA[i]? =some x->L'[i]? =some q->KL σ q=some x:=by
 rcases anI hb with⟨rfl,rfl,rfl⟩|⟨y,sy,k,n,rfl,rfl,h1,rfl⟩
 ·subst hL
  exact⟨.inl ⟨rfl,rfl⟩,by simpa using hv.1,fun i x q hx hq=>hv.2 i x q hx (by simpa using hq)⟩
 ·subst hL
  have hy:=hv.2 0 sy y rfl rfl
  have:=pH (CA h hy) h1
  exact⟨.inr ⟨k,n,rfl,by simp[this]⟩,by simpa using hv.1,fun i x q hx hq=>hv.2 (i+1) x q (by simpa using hx) (by simpa using hq)⟩
section
variable(E)
structure Env.Good:Prop where
 ok:E.Ok
 NY:∀f k,E.NY f=some k->yf E.P f/\eu E f k
 NX:∀f k,E.NX f=some k->yf E.P f/\eu E f k
theorem Env.Good.Ve{E:Env U}(h:E.Good){b:Bool}{f:FuncId}{k:bp U}(hk:E.Ve b f=some k):yf E.P f/\eu E f k:=by
 cases b with
 |false=>exact h.NY f k hk
 |true=>exact h.NX f k hk
end
theorem sH(h:cE E pm F kv fp σ a w){o:Oper}{q:Operand}{x:SV U}(hl:Oper.looks o=[q])(hg:qw σ o=some [x]):RS E w F kv fp (bW σ) x (a.eval q):=
 CA h ((MY hg).2 0 x q rfl (by rw[hl];rfl))
theorem CT(h:cE E pm F kv fp σ a w){o:Oper}{q q':Operand}{x y:SV U}(hl:Oper.looks o=[q,q'])(hg:qw σ o=some [x,y]):
  RS E w F kv fp (bW σ) x (a.eval q)/\RS E w F kv fp (bW σ) y (a.eval q'):=
 ⟨CA h ((MY hg).2 0 x q rfl (by rw[hl];rfl)),CA h ((MY hg).2 1 y q' rfl (by rw[hl];rfl))⟩
theorem qJ(h:cE E pm F kv fp σ a w){o:Oper}{l:List Operand}{xs:List (SV U)}(hl:Oper.looks o=l)(hg:qw σ o=some xs):
  xs.length=l.length/\(∀(i:Nat)(x:SV U)(q:Operand),xs[i]? =some x->l[i]? =some q->RS E w F kv fp (bW σ) x (a.eval q)):=by
 obtain⟨h1,h2⟩:=MY hg
 rw[hl] at h1 h2
 exact⟨h1,fun i x q hx hq=>CA h (h2 i x q hx hq)⟩
theorem XV{o:Oper}{xs:List (SV U)}(hg:qw σ o=some xs):∀x∈xs,∀k∈x.keys,Names σ k:=by
 intro x hx k hk
 obtain⟨i,hi,rfl⟩:=ri hx
 obtain⟨h1,h2⟩:=MY hg
 have gF:i<(Oper.looks o).length:=by omega
 exact al8 (h2 i xs[i] (Oper.looks o)[i] (fo hi) (fo gF)) k hk
theorem cE.alf{F:Nat->Prop}{kv:Key->Value}{fp:Key->List Nat}{σ:ah U}{a:Act}{w w':World}(h:cE E pm F kv fp σ a w)(hu:gN (fun _=>False) w w')(o:Oper)(sv:Option (SV U))(ps:List Prop)(v:Value)
  (hd:∀d,o.dst=some d->d<σ.n) (hv:∀x,sv=some x->RS E w' F kv fp (bW σ) x v):
  cE E pm F kv fp (AM.apply o ⟨sv,[],[],[],ps⟩ σ) (a.put o.dst v) w':=by
 have hb:bW (AM.apply o ⟨sv,[],[],[],ps⟩ σ)=bW σ:=rfl
 refine h.apply (F':=F) (kv':=kv) (fp':=fp) (w':=w') o _ v hd ?_ (fun _ _=>rfl) (fun _ _ _=>rfl) ?_ (fun b hb=>⟨hb,hu.block b (h.sZ b hb) (fun x=>x)⟩) (fun k e _ _ _ he b hb=>hu.block b (h.fK k e b he hb).2.2 (fun x=>x)) ?_ ?_ ?_
  (fun b hb=>zds (h.sZ b hb) hu.size) h.sY (h.upto.trans (hu.mono (fun i hi=>hi.elim))) hu.size
 ·intro x hx;rw[hb];exact hv x hx
 ·intro k hk;simp[dG] at hk
 ·intro k e hk;simp at hk
 ·intro k e b _ _ _ he hbb;exact(h.fK k e b he hbb).1
 ·intro k k' b _ hk;simp[dG,jE] at hk
theorem alU{P:Program}{w:World}{a:Act}{o:Oper}{cl:Call}{q:Operand}{f:FuncId}{pq:Array Value}(rf:o.op=.call cl)(iq:cl.callee=.value q)(hq:a.eval q=.func (.func f) #[] pq)(hf:yf P f):
  (execOp a.eval o).run P w=.ok (.enter f ((cl.args.toList.map a.eval).toArray++pq)) w:=by
 obtain⟨fn,h1,h2,h3⟩:=hf
 have e:execOp a.eval o=callFunc f (#[]++cl.args.map a.eval++pq):=by
  unfold execOp
  rw[rf]
  simp only[resolve,iq,hq]
  rfl
 rw[e]
 have e2:(#[]++cl.args.map a.eval++pq:Array Value)=(cl.args.toList.map a.eval).toArray++pq:=by
  apply Array.ext'
  simp
 rw[e2]
 have h4:fn.body≠none:=by cases hb:fn.body<;>simp[hb] at h2⊢
 have h5:fn.name≠ "runtime.NumGoroutine" :=by simpa using h3
 simp[callFunc,go_sem,h1,h4,h5]
theorem ano(h:cE E pm F kv fp σ a w){rs:List Key}{K:List Key}:∀{xs:List (SV U)}{ws:List (List (Option U.Ty))}{vs:List Value}{ps:List Prop}{ds:List (DA U)},z9 (restrict σ.bJ rs) σ.aK ws xs=some (ps,ds)->(∀p∈ps,p)->xs.length=vs.length->
  (∀(i:Nat)(x:SV U)(u:Value),xs[i]? =some x->vs[i]? =some u->RS E w F kv fp (bW σ) x u)->(∀x∈xs,∀k∈x.keys,(σ.bJ k).isSome=true->k∈K)->akY E w (FK F fp K) ds vs:=by
 intro xs
 induction xs with
 |nil=>
  intro ws vs ps ds hc hp hl hx hK
  simp only[z9,gx,ox] at hc
  obtain⟨rfl,rfl⟩:=hc
  exact⟨by simpa using hl,fun i d v hd=>by simp at hd⟩
 |cons x xs ih=>
  intro ws vs ps ds hc hp hl hx hK
  cases vs with
  |nil=>simp at hl
  |cons v vs=>
   simp only[z9] at hc
   split at hc
   ·rename_i S_ c X' ds2 h1 h2
    cases hc
    obtain⟨i1,i2⟩:=ih h2 (fun p kq=>hp p (by simp[kq])) (by simpa using hl) (fun i y u hy hu=>hx (i+1) y u (by simpa using hy) (by simpa using hu)) (fun y hy=>hK y (cA _ hy))
    obtain⟨g1,_⟩:l_ E w (FK F fp K) .ro (.one c) v []:=Uj h h1 (fun p kq=>hp p (by simp[kq])) (hx 0 x v rfl rfl) (hK x gj)
    refine⟨by simp[i1],fun i d u hd hu=> ?_⟩
    cases i with
    |zero=>
     simp only[t_,gx] at hd hu
     subst hd;subst hu
     exact⟨[v],rfl,fun i c' l4=>by
      cases i with
      |zero=>simp only[t_,gx] at l4;subst l4;exact g1
      |succ i=>simp at l4,rfl⟩
    |succ i=>exact i2 i d u (by simpa using hd) (by simpa using hu)
   ·rename_i S_ cs X' ds2 h1 h2
    cases hc
    obtain⟨i1,i2⟩:=ih h2 (fun p kq=>hp p (by simp[kq])) (by simpa using hl) (fun i y u hy hu=>hx (i+1) y u (by simpa using hy) (by simpa using hu)) (fun y hy=>hK y (cA _ hy))
    obtain⟨us,g1,g2,g3,_⟩:l_ E w (FK F fp K) .ro (.agg cs) v []:=Uj h h1 (fun p kq=>hp p (by simp[kq])) (hx 0 x v rfl rfl) (hK x gj)
    refine⟨by simp[i1],fun i d u hd hu=> ?_⟩
    cases i with
    |zero=>
     simp only[t_,gx] at hd hu
     subst hd;subst hu
     exact⟨us,g2,g3,g1⟩
    |succ i=>exact i2 i d u (by simpa using hd) (by simpa using hu)
   ·cases hc
theorem ac1:∀{xs:List (SV U)}{l:List (AV U)},Aa xs=some l->xs=l.map SV.v
 |[],l,h=>by cases h;rfl
 | .v x::r,l,h=>by
  simp only[Aa] at h
  split at h
  ·rename_i l' hl;cases h;rw[ac1 hl];rfl
  ·cases h
 | .vf _::r,l,h=>by simp[Aa] at h
 | .fn _::r,l,h=>by simp[Aa] at h
 | .FE _ _::r,l,h=>by simp[Aa] at h
theorem amE{bad:Key->Bool}{o:Oper}{g:FuncId}{fst Wr:Array Operand}{xs:List (SV U)}{l:List (AV U)}(ho:o.op=.makeFunc (.func g) fst Wr)(he:fst.isEmpty=true)(hl:Aa xs=some l)
  (h1:xs.length=(fst++Wr).toList.length) (h2:∀(i:Nat)(x:SV U)(q:Operand),xs[i]? =some x->(fst++Wr).toList[i]? =some q->RS E w F kv fp bad x (a.eval q)):cB E F kv fp bad a w o (.FE g l):=by
 have hf:fst= #[]:=by simpa using he
 subst hf
 have hx:=ac1 hl
 subst hx
 refine⟨.func (.func g) #[] (Wr.map a.eval),?_,⟨(Wr.map a.eval).toList,by rw[Array.toArray_toList],by simpa using h1,fun i x u hx hu=> ?_⟩⟩
 ·unfold execOp;simp only[ho]
  have e:Array.map a.eval #[]= #[]:=by simp
  rw[e]
  exact iA rfl
 ·rw[zeo,nk] at hu
  cases hq:Wr.toList[i]? with
  |none=>rw[hq] at hu;cases hu
  |some q=>
   rw[hq] at hu;cases hu
   exact h2 i (.v x) q (by rw[nk,hx];rfl) (by simpa using hq)
theorem am7(hE:E.Good)(h:cE E pm F kv fp σ a w){o:Oper}(hd:∀d,o.dst=some d->d<σ.n)(hk:kindOk o=true){xs:List (SV U)}(hg:qw σ o=some xs){rs:List Key}{r:cd U}
  {b:Bool} (hr:y_ E b (restrict σ.bJ rs) σ.aK o xs=some r) (hp:∀p∈r.pre,p) (nM:∀k∈dG o r,¬Names σ k) {next:Act->World->Prop} {Q:Exit->Act->World->Prop}
  (hn:∀F kv fp a' w',cE E pm F kv fp (AM.apply o r σ) a' w'->next a' w'):o.wp E.P a w next Q:=by
 have V3:∀{t:Option Nat},t.isSome=true->∃d,t=some d:=fun h=>mI.1 h
 unfold y_ at hr
 simp only at hr
 split at hr
 ·
  rename_i q x ho
  cases hr
  exact cB.wp (amp ho (sH h (by simp[Oper.looks,ho,Op.operands]) hg)) h hd hn
 ·
  rename_i q x ho
  cases hr
  exact cB.wp (amH ho (sH h (by simp[Oper.looks,ho,Op.operands]) hg)) h hd hn
 ·
  rename_i op t q x ho
  split at hr
  ·rename_i v hv
   cases hu:I0 op v with
   |none=>rw[hu] at hr;cases hr
   |some u=>
    rw[hu] at hr;cases hr
    exact cB.wp (aml ho (sH h (by simp[Oper.looks,ho,Op.operands]) hg) hv hu) h hd hn
  ·cases hr
 ·
  rename_i op t q q' t' x y ho
  split at hr
  ·rename_i u v hu hv
   cases hb:CX E t op u v with
   |none=>rw[hb] at hr;cases hr
   |some pv=>
    obtain⟨ps,v'⟩:=pv
    rw[hb] at hr;cases hr
    obtain⟨h1,h2⟩:=CT (q:=q) (q':=q') h (by simp[Oper.looks,ho,Op.operands]) hg
    exact cB.wp (amG ho h1 hu h2 hv hb hp) h hd hn
  ·split at hr
   ·rename_i r' pe
    cases hr
    obtain⟨h1,h2⟩:=CT (q:=q) (q':=q') h (by simp[Oper.looks,ho,Op.operands]) hg
    obtain⟨b,rfl,hm⟩:=amB ho h1 h2 pe
    exact cB.wp hm h hd hn
   unfold Po at hr
   split at hr
   ·rename_i n c b τ xs _ _
    split at hr
    ·rename_i e hu
     cases hr
     obtain⟨h1,h2⟩:=CT (q:=q) (q':=.const (.slice none n c)) h (by simp[Oper.looks,ho,Op.operands]) hg
     exact cB.wp (amo ho h1 hu) h hd hn
    ·cases hr
   ·cases hr
 ·
  rename_i q i l ho
  cases hy:l[i]? with
  |none=>rw[hy] at hr;cases hr
  |some y=>
   rw[hy] at hr;cases hr
   exact cB.wp (amA ho (sH h (by simp[Oper.looks,ho,Op.operands]) hg) hy) h hd hn
 ·
  rename_i t ho
  split at hr
  ·rename_i z hz
   split at hr
   ·rename_i x hx
    cases hr
    obtain⟨d,kG⟩:=V3 (by simpa[kindOk,ho] using hk)
    unfold qU at hx
    split at hx
    ·rename_i l hl
     cases hx
     have vX:¬Names σ (d,0):=nM _ (by simp[dG,kG])
     refine anX h kG (hd d kG) ho hz hl vX (fun F kv fp a' w' hs=>hn F kv fp a' w' ?_)
     simpa[kG] using hs
    ·cases hx
   ·cases hr
  ·cases hr
 ·
  rename_i t q x ho
  split at hr
  ·rename_i y n g hy u7 UX
   split at hr
   ·rename_i r' UN
    cases hr
    rw[h_] at UN
    split at UN
    ·obtain⟨sv,ps,rfl,hm⟩:=amn h ho (sH h (by simp[Oper.looks,ho,Op.operands]) hg) hy u7 UX UN hp
     exact cB.wp hm h hd hn
    ·cases UN
   split at hr
   ·rename_i r' Ey
    cases hr
    obtain⟨sv,ps,rfl,hm⟩:=amq h ho (sH h (by simp[Oper.looks,ho,Op.operands]) hg) hy u7 UX Ey hp
    exact cB.wp hm h hd hn
   ·refine ami h hd ho (sH h (by simp[Oper.looks,ho,Op.operands]) hg) hy (fun k hk=>XV hg x (by simp) k ?_) u7 UX hr hp nM hn
    rw[J0 hy];simpa[one,SV.keys,SV.AQ] using hk
  ·cases hr
 ·
  rename_i t q q' p x ho
  split at hr
  ·rename_i y n hy hs
   cases hb:Nat.beq n x.cs.length<;>simp only[hb,cond_true,cond_false] at hr
   ·cases hr
   ·obtain⟨h1,h2⟩:=CT (q:=q) (q':=q') h (by simp[Oper.looks,ho,Op.operands]) hg
    have L9:o.dst=none:=by simpa[kindOk,ho] using hk
    split at hr
    ·rename_i r' Ey
     cases hr
     exact alz h L9 ho h1 hy h2 hs (mM hb) Ey hp hn
    ·split at hr
     ·rename_i r' Ey
      cases hr
      exact alA h L9 ho h1 hy h2 hs (mM hb) Ey hp hn
     ·exact alB h L9 ho h1 hy h2 hs (mM hb) hr hp hn
  ·cases hr
 ·
  rename_i t q f x ho
  split at hr
  ·rename_i y off ft hy hf
   split at hr
   ·rename_i n hs
    have hx:=sH (q:=q) h (by simp[Oper.looks,ho,Op.operands]) hg
    split at hr
    ·cases hr
     exact cB.wp (amw ho hx hy hf hs) h hd hn
    ·cases hr
     exact cB.wp (amy ho hx hy hf hs) h hd hn
    ·rename_i k p i wd oo
     cases hc:fL (restrict σ.bJ rs) σ.aK k p<;>simp only[hc,cond_true,cond_false] at hr
     ·cases hr
     ·cases hr
      have hb:iG (bW σ) (AC.lg (U:=U) k p i wd oo)=false:=by
       simp only[iG]
       have l4:=hc
       unfold fL at l4
       cases hpe:p.isEmpty
       ·rw[hpe] at l4
        simp only[FT,cK] at l4
        obtain⟨e,he⟩:=mI.1 l4.1
        have:=Gd hc he
        rwa[hpe] at this
       ·rfl
      exact cB.wp (amx ho hx hy hb hf hs) h hd hn
    ·cases hr
   ·cases hr
  ·cases hr
 ·
  rename_i t q f cs ho
  split at hr
  ·rename_i off ft hf
   split at hr
   ·rename_i n g hs UX
    cases hb:(Nat.ble (off+n) cs.length&&(g||Nat.beq n 1))<;>simp only[hb,cond_true,cond_false] at hr
    ·cases hr
    ·cases hr
     exact cB.wp (amz ho (sH h (by simp[Oper.looks,ho,Op.operands]) hg) hf hs UX hb) h hd hn
   ·cases hr
  ·cases hr
 ·
  rename_i t parts ho
  split at hr
  ·rename_i pl z AA hz
   split at hr
   ·rename_i l hl
    split at hr
    ·rename_i cs hc
     cases hr
     obtain⟨h1,h2⟩:=qJ h (l:=parts.toList.map (·.2)) (by simp[Oper.looks,ho]) hg
     refine cB.wp (amF ho (by simpa using h1) (fun i x q hx hq=>h2 i x q.2 hx (by rw[nk,hq];rfl)) AA hz hl hc) h hd hn
    ·cases hr
   ·cases hr
  ·cases hr
 ·
  rename_i t len parts ho
  split at hr
  ·rename_i e he
   split at hr
   ·rename_i τ J'
    rw[h_] at hr
    split at hr
    ·rename_i hc
     simp only[cK] at hc
     obtain⟨⟨EF,NG⟩,hc3⟩:=hc
     rw[h_] at hr
     split at hr
     ·rw[h_] at hr
      split at hr
      ·rename_i hkp
       cases hr
       obtain⟨d,kG⟩:=V3 (by simpa[kindOk,ho] using hk)
       obtain⟨h1,h2⟩:=qJ h (l:=parts.toList.map (·.2)) (by simp[Oper.looks,ho]) hg
       have vX:¬Names σ (d,0):=nM _ (by simp[dG,kG])
       refine amR hE.ok h kG (hd d kG) ho he J' (by simpa using h1) (fun i x q hx hq=>h2 i x q.2 hx (by rw[nk,hq];rfl)) (mM EF) NG (H5 hc3) hkp vX
        (fun F kv fp a' w' hs=>hn F kv fp a' w' ?_)
       simpa[kG] using hs
      ·cases hr
     split at hr
     ·rename_i ps rows ks dp adp
      rw[h_] at hr
      split at hr
      ·rename_i rO
       cases hr
       obtain⟨d,kG⟩:=V3 (by simpa[kindOk,ho] using hk)
       obtain⟨h1,h2⟩:=qJ h (l:=parts.toList.map (·.2)) (by simp[Oper.looks,ho]) hg
       have vX:¬Names σ (d,0):=nM _ (by simp[dG,kG])
       refine anG hE.ok h kG (hd d kG) ho he J' (by simpa using h1) (fun i x q hx hq=>h2 i x q.2 hx (by rw[nk,hq];rfl)) (mM EF) NG (H5 hc3) adp hp (tu.1 rO) vX
        (fun F kv fp a' w' hs=>hn F kv fp a' w' ?_)
       simpa[kG] using hs
      ·cases hr
     ·cases hr
    ·cases hr
   ·cases hr
  ·cases hr
 ·
  rename_i t q q' l c ho
  split at hr
  ·rename_i e n m he hl hc
   split at hr
   ·rename_i τ J'
    cases hr
    obtain⟨d,kG⟩:=V3 (by simpa[kindOk,ho] using hk)
    obtain⟨h1,h2⟩:=CT (q:=q) (q':=q') h (by simp[Oper.looks,ho,Op.operands]) hg
    have vX:¬Names σ (d,0):=nM _ (by simp[dG,kG])
    refine amI hE.ok h kG (hd d kG) ho he J' h1 hl h2 hc (hp _ (by simp)) (hp _ (by simp)) (hp _ (by simp)) (ps:=[0<=n,n=m,n<=4294967296]) vX (fun F kv fp a' w' hs=>hn F kv fp a' w' ?_)
    simpa[kG] using hs
   ·cases hr
  ·cases hr
 ·
  rename_i t q q' x i ho
  split at hr
  ·rename_i kd n y m hi hy hm
   obtain⟨h1,h2⟩:=CT (q:=q) (q':=q') h (by simp[Oper.looks,ho,Op.operands]) hg
   split at hr
   ·rename_i τ ys
    rw[h_] at hr
    split at hr
    ·rename_i hb
     cases hr
     exact cB.wp (amv ho h1 hy h2 hi hm (mM hb) (hp _ (by simp[cd.cG])) (hp _ (by simp[cd.cG]))) h hd hn
    ·cases hr
   ·rename_i k p
    split at hr
    ·rename_i ps b ha
     rw[h_] at hr
     split at hr
     ·rename_i hb
      cases hr
      exact cB.wp (amt h ho h1 hy h2 hi hm ha (mM hb) (fun p kq=>hp p (by simp[cd.cG,kq])) (hp _ (by simp[cd.cG])) (hp _ (by simp[cd.cG]))) h hd hn
     ·cases hr
    ·split at hr
     ·rename_i b hpo _
      rw[h_] at hr
      split at hr
      ·rename_i hb
       cases hr
       exact cB.wp (amu h ho h1 hy h2 hi hm hpo (mM hb) (hp _ (by simp[cd.cG])) (hp _ (by simp[cd.cG]))) h hd hn
      ·cases hr
     ·cases hr
   ·cases hr
  ·cases hr
 ·
  rename_i t q q' x i ho
  split at hr
  ·rename_i s kd n hx hi hu
   cases hr
   obtain⟨h1,h2⟩:=CT (q:=q) (q':=q') h (by simp[Oper.looks,ho,Op.operands]) hg
   exact cB.wp (ams ho h1 hx h2 hi hu (hp _ (by simp[cd.lit,cd.cG])) (hp _ (by simp[cd.lit,cd.cG]))) h hd hn
  ·cases hr
 ·
  rename_i t q lo hi mx x bs ho
  have hl:Oper.looks o=q::(lo.toList++(hi.toList++(mx.toList++[]))):=by simp[Oper.looks,ho,Op.operands]
  obtain⟨g1,g2⟩:=MY hg
  rw[hl] at g1 g2
  have hx:RS E w F kv fp (bW σ) x (a.eval q):=CA h (g2 0 x q rfl rfl)
  split at hr
  ·rename_i l bs1 sU
   obtain⟨k1,k2⟩:=Lv (a:=a) (w:=w) (L:=lo.toList++(hi.toList++(mx.toList++[]))) (L':=hi.toList++(mx.toList++[])) h sU rfl ⟨by simpa using g1,fun i y u hy hu=>g2 (i+1) y u (by simpa using hy) (by simpa using hu)⟩
   split at hr
   ·rename_i hh bs2 sT
    obtain⟨k3,k4⟩:=Lv (L':=mx.toList++[]) h sT rfl k2
    split at hr
    ·rename_i m hb3
     obtain⟨k5,k6⟩:=Lv (L':=[]) h hb3 rfl k4
     obtain⟨sv,ps,rfl,hm⟩:=amm h ho hx k1 k3 k5 hr hp
     exact cB.wp hm h hd hn
    ·cases hr
   ·cases hr
  ·cases hr
 ·
  rename_i args argTypes x ho
  split at hr
  ·rename_i t Ay
   have EA:Oper.looks o=args.toList:=by simp[Oper.looks,ho]
   obtain⟨g1,g2⟩:=qJ h EA hg
   obtain⟨q,hq⟩:∃q,args.toList=[q]:=by
    match hm:args.toList,g1 with
    |[q],_=>exact⟨q,rfl⟩
   have hx:RS E w F kv fp (bW σ) x (a.eval q):=g2 0 x q rfl (by rw[hq];rfl)
   split at hr
   ·rename_i s hs
    split at hr
    ·rename_i hu
     cases hr
     exact cB.wp (amr ho rfl hq Ay hx hs hu) h hd hn
    ·cases hr
   ·cases hr
   ·split at hr
    ·rename_i e xc tF
     cases hr
     obtain⟨ad,had⟩:=cf (kP hx xc) rfl
     exact cB.wp (XO (n:=0) ho rfl hq Ay ⟨ad,0,had⟩ (CD tF) (Nat.zero_le _)) h hd hn
    ·rename_i y e xc tF
     split at hr
     ·rename_i ps b ha
      cases hr
      have YC:=X4 h ha hp (kP hx xc)
      obtain⟨ad,c,hs,_⟩:=YC.slice
      exact cB.wp (XO ho rfl hq Ay ⟨ad,c,hs⟩ (CD tF) YC.len) h hd hn
     ·split at hr
      ·rename_i b hpo
       cases hr
       obtain⟨k,dead,_,_,nI⟩:=ach h hpo (kP hx xc)
       obtain⟨ad,c,hs,hle⟩:=nI.slice
       exact cB.wp (XO ho rfl hq Ay ⟨ad,c,hs⟩ (CD tF) hle) h hd hn
      ·cases hr
    ·cases hr
  ·cases hr
 ·
  rename_i args argTypes x ho
  split at hr
  rotate_left
  ·cases hr
  rename_i t Ay
  split at hr
  rotate_left
  ·cases hr
  rename_i e k wd lo hi tF xc
  split at hr
  rotate_left
  ·cases hr
  rename_i τ a0 dead hc he
  rw[h_] at hr
  split at hr
  rotate_left
  ·cases hr
  rename_i ui
  split at hr
  rotate_left
  ·cases hr
  rename_i xs hx0
  cases hr
  have:=dQ hx0
  subst this
  have ui:=mM ui
  subst ui
  have EA:Oper.looks o=args.toList:=by simp[Oper.looks,ho]
  obtain⟨g1,g2⟩:=qJ h EA hg
  obtain⟨q,hq⟩:∃q,args.toList=[q]:=by
   match hm:args.toList,g1 with
   |[q],_=>exact⟨q,rfl⟩
  exact anv hE.ok h hd ho rfl hq Ay tF hc (g2 0 x q rfl (by rw[hq];rfl)) xc (jS he) (hp _ (by simp)) (hp _ (by simp)) hn
 ·
  rename_i args argTypes x y ho
  split at hr
  ·rename_i kd m n hx hy
   rw[h_] at hr
   split at hr
   ·rename_i C_
    have C_:=of_decide_eq_true C_
    subst C_
    cases hr
    have EA:Oper.looks o=args.toList:=by simp[Oper.looks,ho]
    obtain⟨g1,g2⟩:=qJ h EA hg
    obtain⟨q,q',hq⟩:∃q q',args.toList=[q,q']:=by
     match hm:args.toList,g1 with
     |[q,q'],_=>exact⟨q,q',rfl⟩
    have:=acv (b:=true) ho (by rfl) hq (g2 0 x q rfl (by rw[hq];rfl)) hx (g2 1 y q' rfl (by rw[hq];rfl)) hy
    exact cB.wp (by simpa using this) h hd hn
   ·cases hr
  ·cases hr
 ·
  rename_i args argTypes x y ho
  split at hr
  ·rename_i kd m n hx hy
   rw[h_] at hr
   split at hr
   ·rename_i C_
    have C_:=of_decide_eq_true C_
    subst C_
    cases hr
    have EA:Oper.looks o=args.toList:=by simp[Oper.looks,ho]
    obtain⟨g1,g2⟩:=qJ h EA hg
    obtain⟨q,q',hq⟩:∃q q',args.toList=[q,q']:=by
     match hm:args.toList,g1 with
     |[q,q'],_=>exact⟨q,q',rfl⟩
    have:=acv (b:=false) ho (by rfl) hq (g2 0 x q rfl (by rw[hq];rfl)) hx (g2 1 y q' rfl (by rw[hq];rfl)) hy
    exact cB.wp (by simpa using this) h hd hn
   ·cases hr
  ·cases hr
 ·
  rename_i args argTypes s x ho
  split at hr
  ·rename_i t u Ay
   split at hr
   ·rename_i e e' ys yx tF aon hs hx
    rw[h_] at hr
    split at hr
    ·rename_i hc
     simp only[cK] at hc
     have htu:t=u:=mM hc.1
     subst htu
     split at hr
     ·rename_i τ J'
      split at hr
      ·rename_i ps xs ks d1 qs zs ks' d2 h1 h2
       rw[h_] at hr
       split at hr
       ·rename_i rO
        cases hr
        obtain⟨d,kG⟩:=V3 (by simpa[kindOk,ho] using hk)
        have EA:Oper.looks o=args.toList:=by simp[Oper.looks,ho]
        obtain⟨g1,g2⟩:=qJ h EA hg
        obtain⟨q,q',hq⟩:∃q q',args.toList=[q,q']:=by
         match hm:args.toList,g1 with
         |[q,q'],_=>exact⟨q,q',rfl⟩
        have vX:¬Names σ (d,0):=nM _ (by simp[dG,kG])
        refine anV (pall:=ps++qs++[xs.length+zs.length<=4294967296]) hE.ok h kG (hd d kG) ho rfl hq Ay tF J' (g2 0 s q rfl (by rw[hq];rfl)) hs (g2 1 x q' rfl (by rw[hq];rfl)) hx h1 h2 (fun p kq=>hp p (by simp[kq])) (tu.1 rO) (hp _ (by simp)) vX
         (fun F kv fp a' w' hs=>hn F kv fp a' w' ?_)
        simpa[kG] using hs
       ·cases hr
      ·rename_i ps xs ks h1 _
       split at hr
       ·rename_i zs ks' h2
        rw[h_] at hr
        split at hr
        ·rename_i rO
         cases hr
         obtain⟨d,kG⟩:=V3 (by simpa[kindOk,ho] using hk)
         have EA:Oper.looks o=args.toList:=by simp[Oper.looks,ho]
         obtain⟨g1,g2⟩:=qJ h EA hg
         obtain⟨q,q',hq⟩:∃q q',args.toList=[q,q']:=by
          match hm:args.toList,g1 with
          |[q,q'],_=>exact⟨q,q',rfl⟩
         have vX:¬Names σ (d,0):=nM _ (by simp[dG,kG])
         refine anW (pall:=ps++[xs.length+zs.length<=4294967296]) hE.ok h kG (hd d kG) ho rfl hq Ay tF J' (g2 0 s q rfl (by rw[hq];rfl)) hs (g2 1 x q' rfl (by rw[hq];rfl)) hx h1 h2 (fun p kq=>hp p (by simp[kq])) (tu.1 rO) (hp _ (by simp)) vX
          (fun F kv fp a' w' hs=>hn F kv fp a' w' ?_)
         simpa[kG] using hs
        ·cases hr
       ·cases hr
      ·cases hr
     ·cases hr
    ·cases hr
   ·rename_i e ys str tF aon hs hx
    split at hr
    ·rename_i τ hu J'
     split at hr
     ·rename_i ps xs ks d1 zs h1 h2
      rw[h_] at hr
      split at hr
      ·rename_i rO
       cases hr
       obtain⟨d,kG⟩:=V3 (by simpa[kindOk,ho] using hk)
       have EA:Oper.looks o=args.toList:=by simp[Oper.looks,ho]
       obtain⟨g1,g2⟩:=qJ h EA hg
       obtain⟨q,q',hq⟩:∃q q',args.toList=[q,q']:=by
        match hm:args.toList,g1 with
        |[q,q'],_=>exact⟨q,q',rfl⟩
       have vX:¬Names σ (d,0):=nM _ (by simp[dG,kG])
       have hlx:iR x=some (.string str):=by
        unfold tT at hx
        split at hx
        ·cases hx;rfl
        ·cases hx
       refine anU (pall:=ps++[xs.length+zs.length<=4294967296]) hE.ok h kG (hd d kG) ho rfl hq Ay tF J' (g2 0 s q rfl (by rw[hq];rfl)) hs (g2 1 x q' rfl (by rw[hq];rfl)) hlx hu h1 h2 (fun p kq=>hp p (by simp[kq])) (tu.1 rO) (hp _ (by simp)) vX
        (fun F kv fp a' w' hs=>hn F kv fp a' w' ?_)
       simpa[kG] using hs
      ·cases hr
     ·cases hr
    ·cases hr
   ·cases hr
  ·cases hr
 ·
  rename_i g fst Wr ho
  rw[h_] at hr
  split at hr
  ·rename_i aom
   split at hr
   ·rename_i l hl
    cases hr
    have EA:Oper.looks o=(fst++Wr).toList:=by simp[Oper.looks,ho,Op.operands]
    obtain⟨g1,g2⟩:=qJ h EA hg
    exact cB.wp (amE ho aom hl (by simpa using g1) (by simpa using g2)) h hd hn
   ·cases hr
  ·cases hr
 ·
  rename_i t args argTypes p xs' ho
  have EA:Oper.looks o=.tmp t::args.toList:=by simp[Oper.looks,ho]
  obtain⟨g1,g2⟩:=qJ h EA hg
  have hfn:nj E w F p (a.eval (.tmp t)):=g2 0 (.fn p) (.tmp t) rfl rfl
  obtain⟨g,pq,hv,hf,adK⟩:=hfn
  unfold Dj at hr
  split at hr
  ·rename_i ps ds GL
   have main:∀(v:Value)(IF:List Prop),(∀q∈ps++[p ds=some v],q)->r=⟨some (u4 v),[],[],[],IF⟩->o.wp E.P a w next Q:=by
    intro v IF hq hr
    have hda:=ano (K:=(xs'.flatMap SV.keys).filter fun k=>(σ.bJ k).isSome) (vs:=args.toList.map a.eval) h GL (fun q hq'=>hq q (by simp[hq'])) (by simpa using g1) (fun i x u hx hu=>by
     rw[nk] at hu
     cases hq:args.toList[i]? with
     |none=>rw[hq] at hu;cases hu
     |some q=>rw[hq] at hu;cases hu;exact g2 (i+1) x q (by simpa using hx) (by simpa using hq)) (fun x hx k hk hs=>wA.2 ⟨nT.2 ⟨x,hx,hk⟩,hs⟩)
    have gF:∀b,FK F fp ((xs'.flatMap SV.keys).filter fun k=>(σ.bJ k).isSome) b->b<w.heap.size:=by
     rintro b (hb|⟨k,hk,hb⟩)
     ·exact h.sZ b hb
     ·obtain⟨e,he⟩:=mI.1 (wA.1 hk).2
      exact(h.fK k e b he hb).2.2
    have hc:=adK ds v (hq _ (by simp)) w _ (fun b hb=>⟨.inl hb,rfl⟩) gF _ hda
    show o.upon E.P a next Q ((execOp a.eval o).run E.P w)
    rw[alU ho rfl hv hf,Oper.upon_enter]
    refine hc.mono ?_
    rintro e w' ⟨rfl,YS,pE⟩
    show next (a.put o.dst v) w'
    refine hn F kv fp _ w' ?_
    rw[hr]
    exact h.alf pE o _ _ v hd (fun x hx=>by cases hx;exact mH YS)
   split at hr
   ·have Fe:=(W3 hr).symm
    exact main _ _ (by rw[Fe] at hp;exact hp) Fe
   ·have Fe:=(W3 hr).symm
    exact main _ _ (by rw[Fe] at hp;exact hp) Fe
   ·cases hr
  ·cases hr
 ·
  rename_i f args argTypes ho
  split at hr
  ·rename_i k aop
   obtain⟨hf,hs⟩:=hE.Ve aop
   have EA:Oper.looks o=args.toList:=by simp[Oper.looks,ho]
   obtain⟨g1,g2⟩:=qJ h EA hg
   exact anB hE.NY h hd ho rfl hf hs g1 (XV hg) g2 hr hp nM hn
  ·cases hr
 ·
  rename_i t q x ho
  rw[h_] at hr
  split at hr
  ·rename_i hc
   simp only[cK] at hc
   cases hr
   obtain⟨d,kG⟩:=V3 (by simpa[kindOk,ho] using hk)
   have vX:¬Names σ (d,0):=nM _ (by simp[dG,kG])
   refine anH h kG (hd d kG) ho (sH h (by simp[Oper.looks,ho,Op.operands]) hg) (fun y hy k hk=>XV hg (.v x) (by simp) k (SV.mem_keys.2 ⟨y,hy,hk⟩)) hc.1 vX (fun F kv fp a' w' hs=>hn F kv fp a' w' ?_)
   simpa[kG] using hs
  ·cases hr
 ·
  rename_i q x ho
  have hx:=sH (q:=q) h (by simp[Oper.looks,ho,Op.operands]) hg
  split at hr
  ·rename_i cs xc
   cases hr
   obtain⟨b,o',h1,_⟩:=cf (kP hx xc) rfl
   exact cB.wp (XN ho hx h1) h hd hn
  ·rename_i k off xc
   cases hr
   obtain⟨b,_,h1⟩:=cf (kP hx xc) rfl
   exact cB.wp (XN ho hx h1) h hd hn
  ·rename_i k p i wd off xc
   rw[h_] at hr
   split at hr
   ·rename_i iq
    cases hr
    obtain⟨b,o',n,c,_,h1⟩:=cf (kP hx xc) (acV (x:=.lg k p i wd off) iq)
    exact cB.wp (XN ho hx h1) h hd hn
   ·cases hr
  ·cases hr
 ·
  rename_i s d q x ho
  have hx:=sH (q:=q) h (by simp[Oper.looks,ho,Op.operands]) hg
  split at hr
  ·rename_i k J_
   split at hr
   ·rename_i k0 k' n vr hl
    cases hr
    exact cB.wp (amC ho hx hl J_ vr) h hd hn
   ·cases hr
  ·rename_i J_
   split at hr
   ·rename_i e vr
    split at hr
    ·rename_i hue xc
     cases hr
     obtain⟨ad,h1⟩:=cf (kP hx xc) rfl
     refine cB.wp (sv:=u4 (.string ByteArray.empty)) ⟨.string ByteArray.empty,?_,mH ⟨rfl,by decide⟩⟩ h hd hn
     unfold execOp;simp only[ho,h1]
     exact iA (acT vr hue J_ ad 0)
    ·rename_i y hue xc
     split at hr
     ·rename_i ps b ha
      split at hr
      ·rename_i ys hys
       cases hr
       have:=dQ hys
       subst this
       exact cB.wp (amD ho (xG h ha (fun p kq=>hp p kq) (kP hx xc)) vr hue J_) h hd hn
      ·cases hr
     ·cases hr
    ·cases hr
   ·cases hr
  ·cases hr
 ·cases hr
theorem alE(hE:E.Good)(h:cE E pm F kv fp σ a w){b:Bool}{o:Oper}{r:cd U}{ks:List Key}(hs:step E b σ o=some (r,ks))(hp:∀p∈r.pre,p)(nM:∀k∈dG o r,¬Names σ k)
  {next:Act->World->Prop} {Q:Exit->Act->World->Prop} (hn:∀F kv fp a' w',cE E pm F kv fp (AM.apply o r σ) a' w'->next a' w'):o.wp E.P a w next Q:=by
 unfold step at hs
 rw[h_] at hs
 split at hs
 ·rename_i hc
  simp only[cK] at hc
  have hd:∀d,o.dst=some d->d<σ.n:=by
   intro d hd
   have:=hc.1
   unfold qb at this
   rw[hd] at this
   exact Nat.blt_eq▸this
  split at hs
  ·rename_i c x y ho
   split at hs
   ·rename_i t ht
    have Wi:∃sc,KL σ c=some sc/\iR sc=some (.bool t):=by
     unfold yE EU at ht
     split at ht
     ·rename_i sc hsc;exact⟨sc,hsc,ht⟩
     ·cases ht
    obtain⟨sc,h1,h2⟩:=Wi
    cases t with
    |true=>
     simp only[cond_true] at hs
     split at hs
     ·rename_i sv C1
      cases hs
      exact cB.wp (acu ho (CA h h1) h2 (by simpa using CA h C1)) h hd hn
     ·cases hs
    |false=>
     simp only[cond_false] at hs
     split at hs
     ·rename_i sv C1
      cases hs
      exact cB.wp (acu ho (CA h h1) h2 (by simpa using CA h C1)) h hd hn
     ·cases hs
   ·cases hs
  ·split at hs
   ·rename_i xs hg
    split at hs
    ·rename_i r' hr
     cases hs
     exact am7 hE h hd hc.2 hg hr hp nM hn
    ·cases hs
   ·cases hs
 ·cases hs
end AM
