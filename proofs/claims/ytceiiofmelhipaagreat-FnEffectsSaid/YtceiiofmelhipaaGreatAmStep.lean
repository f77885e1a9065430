/- THE ABSTRACT MACHINE: one operation. -/
import Derived.Test.YtceiiofmelhipaaGreatAmOps9
import Derived.Test.YtceiiofmelhipaaGreatAmPart2
import Derived.Test.YtceiiofmelhipaaGreatAmOps10
namespace AM
set_option linter.unusedVariables false
open Go
variable{U:Uni}{E:Env U}{pm:Pm}
variable{F F':Nat→Prop}{kv:Key→Value}{fp:Key→List Nat}{σ:AState U}{a:Act}{w w':World}{bad:Key→Bool}
theorem Makes.wp{o:Oper}{sv:SV U}{ps:List Prop}(hm:Makes E F kv fp (badK σ) a w o sv)(h:Sim E pm F kv fp σ a w)(hd:∀d,o.dst=some d→d<σ.n){next:Act→World→Prop}{Q:Exit→Act→World→Prop}
  (hn:∀F kv fp a' w',Sim E pm F kv fp (AM.apply o ⟨some sv,[],[],[],ps⟩ σ) a' w'→next a' w'):o.wp E.P a w next Q:=by
 obtain⟨v,hr,hv⟩:=hm
 exact qanv hr (hn _ _ _ _ _ (h.val o (some sv) ps v hd (by rintro x ⟨⟩;exact hv)))
theorem qafl{o:Oper}{xs:List (SV U)}(h:gather σ o=some xs):xs.length=(Oper.looks o).length∧∀(i:Nat)(x:SV U)(q:Operand),xs[i]? =some x→(Oper.looks o)[i]? =some q→opd σ q=some x:=by
 obtain⟨h1,h2⟩:=qalr h
 refine⟨h1,fun i x q hx hq=> ?_⟩
 obtain⟨y,hy,ho⟩:=h2 i q hq
 rw[hx] at hy;cases hy;exact ho
theorem qajn{q:Operand}{x:SV U}(h:opd σ q=some x):∀k∈x.keys,Names σ k:=by
 cases q with
 |tmp t=>exact fun k hk=> .inl ⟨t,x,h,hk⟩
 |global g=>cases h
 |func f=>cases h;intro k hk;simp[SV.keys,SV.acs] at hk
 |const v=>
  intro k hk
  exfalso
  have hc:∀{v:Value}{y:AC U},constCell v=some y→y.keys=[]:=by
   intro v y hy
   unfold constCell at hy
   split at hy
   ·cases hy;rfl
   ·cases hy;rfl
   ·rw[zah] at hy;split at hy<;>cases hy;rfl
   ·cases hy;rfl
   ·rw[zah] at hy;split at hy<;>cases hy;rfl
   ·cases hy
  have hcs:∀{vs:List Value}{ys:List (AC U)},constCells vs=some ys→∀y∈ys,y.keys=[]:=by
   intro vs
   induction vs with
   |nil=>intro ys hy y hy';cases hy;cases hy'
   |cons v vs ih=>
    intro ys hy y hy'
    simp only[constCells] at hy
    split at hy
    ·rename_i y1 ys1 h1 h2
     cases hy
     rcases zak.1 hy' with rfl|hy'
     ·exact hc h1
     ·exact ih h2 y hy'
    ·cases hy
  simp only[opd] at h
  unfold constV at h
  split at h
  ·unfold constAgg at h
   split at h
   ·rename_i l hl
    cases h
    obtain⟨y,hy,hk1⟩:=SV.mem_keys.1 hk
    rw[hcs hl y hy] at hk1;cases hk1
   ·cases h
  ·split at h
   ·rename_i y hy
    cases h
    obtain⟨z,hz,hk1⟩:=SV.mem_keys.1 hk
    simp only[one,SV.acs,zau] at hz
    subst hz
    rw[hc hy] at hk1;cases hk1
   ·cases h
theorem Bnd_of{b:Option Operand}{bs bs':List (SV U)}{l:Option Int}(h:Sim E pm F kv fp σ a w)(hb:bound b bs=some (l,bs')){L L':List Operand}(hL:L=b.toList++L')
  (hv:bs.length=L.length∧∀(i:Nat)(x:SV U)(q:Operand),bs[i]? =some x→L[i]? =some q→opd σ q=some x):
  Bnd l (b.map a.eval)∧bs'.length=L'.length∧∀(i:Nat)(x:SV U)(q:Operand),bs'[i]? =some x→L'[i]? =some q→opd σ q=some x:=by
 rcases qaby hb with⟨rfl,rfl,rfl⟩|⟨y,sy,k,n,rfl,rfl,h1,rfl⟩
 ·subst hL
  exact⟨.inl ⟨rfl,rfl⟩,by simpa using hv.1,fun i x q hx hq=>hv.2 i x q hx (by simpa using hq)⟩
 ·subst hL
  have hy:=hv.2 0 sy y rfl rfl
  have:=qaah (qajo h hy) h1
  exact⟨.inr ⟨k,n,rfl,by simp[this]⟩,by simpa using hv.1,fun i x q hx hq=>hv.2 (i+1) x q (by simpa using hx) (by simpa using hq)⟩
section
variable(E)
structure Env.Good:Prop where
 ok:E.Ok
 con:∀f k,E.con f=some k→FnOk E.P f∧SoundCon E f k
end
theorem look1(h:Sim E pm F kv fp σ a w){o:Oper}{q:Operand}{x:SV U}(hl:Oper.looks o=[q])(hg:gather σ o=some [x]):RS E w F kv fp (badK σ) x (a.eval q):=
 qajo h ((qafl hg).2 0 x q rfl (by rw[hl];rfl))
theorem look2(h:Sim E pm F kv fp σ a w){o:Oper}{q q':Operand}{x y:SV U}(hl:Oper.looks o=[q,q'])(hg:gather σ o=some [x,y]):
  RS E w F kv fp (badK σ) x (a.eval q)∧RS E w F kv fp (badK σ) y (a.eval q'):=
 ⟨qajo h ((qafl hg).2 0 x q rfl (by rw[hl];rfl)),qajo h ((qafl hg).2 1 y q' rfl (by rw[hl];rfl))⟩
theorem lookN(h:Sim E pm F kv fp σ a w){o:Oper}{l:List Operand}{xs:List (SV U)}(hl:Oper.looks o=l)(hg:gather σ o=some xs):
  xs.length=l.length∧(∀(i:Nat)(x:SV U)(q:Operand),xs[i]? =some x→l[i]? =some q→RS E w F kv fp (badK σ) x (a.eval q)):=by
 obtain⟨h1,h2⟩:=qafl hg
 rw[hl] at h1 h2
 exact⟨h1,fun i x q hx hq=>qajo h (h2 i x q hx hq)⟩
theorem qafm{o:Oper}{xs:List (SV U)}(hg:gather σ o=some xs):∀x∈xs,∀k∈x.keys,Names σ k:=by
 intro x hx k hk
 obtain⟨i,hi,rfl⟩:=zbk hx
 obtain⟨h1,h2⟩:=qafl hg
 have hlt:i<(Oper.looks o).length:=by omega
 exact qajn (h2 i xs[i] (Oper.looks o)[i] (zad hi) (zad hlt)) k hk
theorem Sim.valW{F:Nat→Prop}{kv:Key→Value}{fp:Key→List Nat}{σ:AState U}{a:Act}{w w':World}(h:Sim E pm F kv fp σ a w)(hu:Upto (fun _=>False) w w')(o:Oper)(sv:Option (SV U))(ps:List Prop)(v:Value)
  (hd:∀d,o.dst=some d→d<σ.n) (hv:∀x,sv=some x→RS E w' F kv fp (badK σ) x v):
  Sim E pm F kv fp (AM.apply o ⟨sv,[],[],[],ps⟩ σ) (a.put o.dst v) w':=by
 have hb:badK (AM.apply o ⟨sv,[],[],[],ps⟩ σ)=badK σ:=rfl
 refine h.apply (F':=F) (kv':=kv) (fp':=fp) (w':=w') o _ v hd ?_ (fun _ _=>rfl) (fun _ _ _=>rfl) ?_ (fun b hb=>⟨hb,hu.block b (h.Flt b hb) (fun x=>x)⟩) (fun k e _ _ _ he b hb=>hu.block b (h.mine k e b he hb).2.2 (fun x=>x)) ?_ ?_ ?_
  (fun b hb=>zds (h.Flt b hb) hu.size) h.Fsub (h.upto.trans (hu.mono (fun i hi=>hi.elim))) hu.size
 ·intro x hx;rw[hb];exact hv x hx
 ·intro k hk;simp[adds] at hk
 ·intro k e hk;simp at hk
 ·intro k e b _ _ _ he hbb;exact(h.mine k e b he hbb).1
 ·intro k k' b _ hk;simp[adds,upds] at hk
theorem qalo{P:Program}{w:World}{a:Act}{o:Oper}{cl:Call}{q:Operand}{f:FuncId}{caps:Array Value}(hop:o.op=.call cl)(hcl:cl.callee=.value q)(hq:a.eval q=.func (.func f) #[] caps)(hf:FnOk P f):
  (execOp a.eval o).run P w=.ok (.enter f ((cl.args.toList.map a.eval).toArray++caps)) w:=by
 obtain⟨fn,h1,h2,h3⟩:=hf
 have e:execOp a.eval o=callFunc f (#[]++cl.args.map a.eval++caps):=by
  unfold execOp
  rw[hop]
  simp only[resolve,hcl,hq]
  rfl
 rw[e]
 have e2:(#[]++cl.args.map a.eval++caps:Array Value)=(cl.args.toList.map a.eval).toArray++caps:=by
  apply Array.ext'
  simp
 rw[e2]
 have h4:fn.body≠none:=by cases hb:fn.body<;>simp[hb] at h2⊢
 have h5:fn.name≠ "runtime.NumGoroutine" :=by simpa using h3
 simp[callFunc,go_sem,h1,h4,h5]
theorem qacz(h:Sim E pm F kv fp σ a w){rs:List Key}{K:List Key}:∀{xs:List (SV U)}{ws:List (List (Option U.Ty))}{vs:List Value}{ps:List Prop}{ds:List (DA U)},dasOf (restrict σ.ent rs) σ.dirty ws xs=some (ps,ds)→(∀p∈ps,p)→xs.length=vs.length→
  (∀(i:Nat)(x:SV U)(u:Value),xs[i]? =some x→vs[i]? =some u→RS E w F kv fp (badK σ) x u)→(∀x∈xs,∀k∈x.keys,(σ.ent k).isSome=true→k∈K)→RDAs E w (FK F fp K) ds vs:=by
 intro xs
 induction xs with
 |nil=>
  intro ws vs ps ds hc hp hl hx hK
  simp only[dasOf,zae,zax] at hc
  obtain⟨rfl,rfl⟩:=hc
  exact⟨by simpa using hl,fun i d v hd=>by simp at hd⟩
 |cons x xs ih=>
  intro ws vs ps ds hc hp hl hx hK
  cases vs with
  |nil=>simp at hl
  |cons v vs=>
   simp only[dasOf] at hc
   split at hc
   ·rename_i ps1 c ps2 ds2 h1 h2
    cases hc
    obtain⟨i1,i2⟩:=ih h2 (fun p hp'=>hp p (by simp[hp'])) (by simpa using hl) (fun i y u hy hu=>hx (i+1) y u (by simpa using hy) (by simpa using hu)) (fun y hy=>hK y (zaa _ hy))
    obtain⟨g1,_⟩:RArg E w (FK F fp K) .ro (.one c) v []:=qabh h h1 (fun p hp'=>hp p (by simp[hp'])) (hx 0 x v rfl rfl) (hK x zab)
    refine⟨by simp[i1],fun i d u hd hu=> ?_⟩
    cases i with
    |zero=>
     simp only[zam,zae] at hd hu
     subst hd;subst hu
     exact⟨[v],rfl,fun i c' hc'=>by
      cases i with
      |zero=>simp only[zam,zae] at hc';subst hc';exact g1
      |succ i=>simp at hc',rfl⟩
    |succ i=>exact i2 i d u (by simpa using hd) (by simpa using hu)
   ·rename_i ps1 cs ps2 ds2 h1 h2
    cases hc
    obtain⟨i1,i2⟩:=ih h2 (fun p hp'=>hp p (by simp[hp'])) (by simpa using hl) (fun i y u hy hu=>hx (i+1) y u (by simpa using hy) (by simpa using hu)) (fun y hy=>hK y (zaa _ hy))
    obtain⟨us,g1,g2,g3,_⟩:RArg E w (FK F fp K) .ro (.agg cs) v []:=qabh h h1 (fun p hp'=>hp p (by simp[hp'])) (hx 0 x v rfl rfl) (hK x zab)
    refine⟨by simp[i1],fun i d u hd hu=> ?_⟩
    cases i with
    |zero=>
     simp only[zam,zae] at hd hu
     subst hd;subst hu
     exact⟨us,g2,g3,g1⟩
    |succ i=>exact i2 i d u (by simpa using hd) (by simpa using hu)
   ·cases hc
theorem qabr:∀{xs:List (SV U)}{l:List (AV U)},avsOf xs=some l→xs=l.map SV.v
 |[],l,h=>by cases h;rfl
 | .v x::r,l,h=>by
  simp only[avsOf] at h
  split at h
  ·rename_i l' hl;cases h;rw[qabr hl];rfl
  ·cases h
 | .tup _::r,l,h=>by simp[avsOf] at h
 | .fn _::r,l,h=>by simp[avsOf] at h
 | .clo _ _::r,l,h=>by simp[avsOf] at h
theorem qahm{bad:Key→Bool}{o:Oper}{g:FuncId}{fst cps:Array Operand}{xs:List (SV U)}{l:List (AV U)}(ho:o.op=.makeFunc (.func g) fst cps)(he:fst.isEmpty=true)(hl:avsOf xs=some l)
  (h1:xs.length=(fst++cps).toList.length) (h2:∀(i:Nat)(x:SV U)(q:Operand),xs[i]? =some x→(fst++cps).toList[i]? =some q→RS E w F kv fp bad x (a.eval q)):Makes E F kv fp bad a w o (.clo g l):=by
 have hf:fst= #[]:=by simpa using he
 subst hf
 have hx:=qabr hl
 subst hx
 refine⟨.func (.func g) #[] (cps.map a.eval),?_,⟨(cps.map a.eval).toList,by rw[Array.toArray_toList],by simpa using h1,fun i x u hx hu=> ?_⟩⟩
 ·unfold execOp;simp only[ho]
  have e:Array.map a.eval #[]= #[]:=by simp
  rw[e]
  exact run_v rfl
 ·rw[zeo,zal] at hu
  cases hq:cps.toList[i]? with
  |none=>rw[hq] at hu;cases hu
  |some q=>
   rw[hq] at hu;cases hu
   exact h2 i (.v x) q (by rw[zal,hx];rfl) (by simpa using hq)
theorem qaef(hE:E.Good)(h:Sim E pm F kv fp σ a w){o:Oper}(hd:∀d,o.dst=some d→d<σ.n)(hk:kindOk o=true){xs:List (SV U)}(hg:gather σ o=some xs){rs:List Key}{r:Rslt U}
  (hr:evalOp E (restrict σ.ent rs) σ.dirty o xs=some r) (hp:∀p∈r.pre,p) (hfr:∀k∈adds o r,¬Names σ k) {next:Act→World→Prop} {Q:Exit→Act→World→Prop}
  (hn:∀F kv fp a' w',Sim E pm F kv fp (AM.apply o r σ) a' w'→next a' w'):o.wp E.P a w next Q:=by
 have hso:∀{t:Option Nat},t.isSome=true→∃d,t=some d:=fun h=>zag.1 h
 unfold evalOp at hr
 simp only at hr
 split at hr
 ·
  rename_i q x ho
  cases hr
  exact Makes.wp (qaid ho (look1 h (by simp[Oper.looks,ho,Op.operands]) hg)) h hd hn
 ·
  rename_i q x ho
  cases hr
  exact Makes.wp (qahj ho (look1 h (by simp[Oper.looks,ho,Op.operands]) hg)) h hd hn
 ·
  rename_i op t q x ho
  split at hr
  ·rename_i v hv
   cases hu:litUn op v with
   |none=>rw[hu] at hr;cases hr
   |some u=>
    rw[hu] at hr;cases hr
    exact Makes.wp (qaii ho (look1 h (by simp[Oper.looks,ho,Op.operands]) hg) hv hu) h hd hn
  ·cases hr
 ·
  rename_i op t q q' t' x y ho
  split at hr
  ·rename_i u v hu hv
   cases hb:litBin E t op u v with
   |none=>rw[hb] at hr;cases hr
   |some pv=>
    obtain⟨ps,v'⟩:=pv
    rw[hb] at hr;cases hr
    obtain⟨h1,h2⟩:=look2 (q:=q) (q':=q') h (by simp[Oper.looks,ho,Op.operands]) hg
    exact Makes.wp (qahk ho h1 hu h2 hv hb hp) h hd hn
  ·split at hr
   ·rename_i r' heq
    cases hr
    obtain⟨h1,h2⟩:=look2 (q:=q) (q':=q') h (by simp[Oper.looks,ho,Op.operands]) hg
    obtain⟨b,rfl,hm⟩:=qahp ho h1 h2 heq
    exact Makes.wp hm h hd hn
   unfold nilCmp at hr
   split at hr
   ·rename_i n c b τ xs _ _
    split at hr
    ·rename_i e hu
     cases hr
     obtain⟨h1,h2⟩:=look2 (q:=q) (q':=.const (.slice none n c)) h (by simp[Oper.looks,ho,Op.operands]) hg
     exact Makes.wp (qaie ho h1 hu) h hd hn
    ·cases hr
   ·cases hr
 ·
  rename_i q i l ho
  cases hy:l[i]? with
  |none=>rw[hy] at hr;cases hr
  |some y=>
   rw[hy] at hr;cases hr
   exact Makes.wp (qahq ho (look1 h (by simp[Oper.looks,ho,Op.operands]) hg) hy) h hd hn
 ·
  rename_i t ho
  split at hr
  ·rename_i z hz
   split at hr
   ·rename_i x hx
    cases hr
    obtain⟨d,hdd⟩:=hso (by simpa[kindOk,ho] using hk)
    unfold constAgg at hx
    split at hx
    ·rename_i l hl
     cases hx
     have hfr':¬Names σ (d,0):=hfr _ (by simp[adds,hdd])
     refine qaas h hdd (hd d hdd) ho hz hl hfr' (fun F kv fp a' w' hs=>hn F kv fp a' w' ?_)
     simpa[hdd] using hs
    ·cases hx
   ·cases hr
  ·cases hr
 ·
  rename_i t q x ho
  split at hr
  ·rename_i y n g hy hn' hg'
   split at hr
   ·rename_i r' hr1
    cases hr
    obtain⟨sv,ps,rfl,hm⟩:=qaib h ho (look1 h (by simp[Oper.looks,ho,Op.operands]) hg) hy hn' hg' hr1 hp
    exact Makes.wp hm h hd hn
   ·refine qaiq h hd ho (look1 h (by simp[Oper.looks,ho,Op.operands]) hg) hy (fun k hk=>qafm hg x (by simp) k ?_) hn' hg' hr hp hfr hn
    rw[ac?_some hy];simpa[one,SV.keys,SV.acs] using hk
  ·cases hr
 ·
  rename_i t q q' p x ho
  split at hr
  ·rename_i y n hy hs
   cases hb:Nat.beq n x.cs.length<;>simp only[hb,cond_true,cond_false] at hr
   ·cases hr
   ·obtain⟨h1,h2⟩:=look2 (q:=q) (q':=q') h (by simp[Oper.looks,ho,Op.operands]) hg
    have hdn:o.dst=none:=by simpa[kindOk,ho] using hk
    split at hr
    ·rename_i r' hr1
     cases hr
     exact qamy h hdn ho h1 hy h2 hs (zai hb) hr1 hp hn
    ·split at hr
     ·rename_i r' hr1
      cases hr
      exact qamx h hdn ho h1 hy h2 hs (zai hb) hr1 hp hn
     ·exact qamw h hdn ho h1 hy h2 hs (zai hb) hr hp hn
  ·cases hr
 ·
  rename_i t q f x ho
  split at hr
  ·rename_i y off ft hy hf
   split at hr
   ·rename_i n hs
    have hx:=look1 (q:=q) h (by simp[Oper.looks,ho,Op.operands]) hg
    split at hr
    ·cases hr
     exact Makes.wp (qahu ho hx hy hf hs) h hd hn
    ·cases hr
     exact Makes.wp (qahs ho hx hy hf hs) h hd hn
    ·rename_i k p i wd oo
     cases hc:clearP (restrict σ.ent rs) σ.dirty k p<;>simp only[hc,cond_true,cond_false] at hr
     ·cases hr
     ·cases hr
      have hb:badAC (badK σ) (AC.eptr (U:=U) k p i wd oo)=false:=by
       simp only[badAC]
       have hc':=hc
       unfold clearP at hc'
       cases hpe:p.isEmpty
       ·rw[hpe] at hc'
        simp only[zcw,zaf] at hc'
        obtain⟨e,he⟩:=zag.1 hc'.1
        have:=qaco hc he
        rwa[hpe] at this
       ·rfl
      exact Makes.wp (qaht ho hx hy hb hf hs) h hd hn
    ·cases hr
   ·cases hr
  ·cases hr
 ·
  rename_i t q f cs ho
  split at hr
  ·rename_i off ft hf
   split at hr
   ·rename_i n g hs hg'
    cases hb:(Nat.ble (off+n) cs.length&&(g||Nat.beq n 1))<;>simp only[hb,cond_true,cond_false] at hr
    ·cases hr
    ·cases hr
     exact Makes.wp (qahr ho (look1 h (by simp[Oper.looks,ho,Op.operands]) hg) hf hs hg' hb) h hd hn
   ·cases hr
  ·cases hr
 ·
  rename_i t parts ho
  split at hr
  ·rename_i pl z hpl hz
   split at hr
   ·rename_i l hl
    split at hr
    ·rename_i cs hc
     cases hr
     obtain⟨h1,h2⟩:=lookN h (l:=parts.toList.map (·.2)) (by simp[Oper.looks,ho]) hg
     refine Makes.wp (qahl ho (by simpa using h1) (fun i x q hx hq=>h2 i x q.2 hx (by rw[zal,hq];rfl)) hpl hz hl hc) h hd hn
    ·cases hr
   ·cases hr
  ·cases hr
 ·
  rename_i t len parts ho
  split at hr
  ·rename_i e he
   split at hr
   ·rename_i τ hτ
    rw[zah] at hr
    split at hr
    ·rename_i hc
     simp only[zaf] at hc
     obtain⟨⟨hc1,hc2⟩,hc3⟩:=hc
     rw[zah] at hr
     split at hr
     ·rw[zah] at hr
      split at hr
      ·rename_i hkp
       cases hr
       obtain⟨d,hdd⟩:=hso (by simpa[kindOk,ho] using hk)
       obtain⟨h1,h2⟩:=lookN h (l:=parts.toList.map (·.2)) (by simp[Oper.looks,ho]) hg
       have hfr':¬Names σ (d,0):=hfr _ (by simp[adds,hdd])
       refine qagf hE.ok h hdd (hd d hdd) ho he hτ (by simpa using h1) (fun i x q hx hq=>h2 i x q.2 hx (by rw[zal,hq];rfl)) (zai hc1) hc2 (zbu hc3) hkp hfr'
        (fun F kv fp a' w' hs=>hn F kv fp a' w' ?_)
       simpa[hdd] using hs
      ·cases hr
     split at hr
     ·rename_i ps rows ks dp hrows
      rw[zah] at hr
      split at hr
      ·rename_i hdis
       cases hr
       obtain⟨d,hdd⟩:=hso (by simpa[kindOk,ho] using hk)
       obtain⟨h1,h2⟩:=lookN h (l:=parts.toList.map (·.2)) (by simp[Oper.looks,ho]) hg
       have hfr':¬Names σ (d,0):=hfr _ (by simp[adds,hdd])
       refine qaca hE.ok h hdd (hd d hdd) ho he hτ (by simpa using h1) (fun i x q hx hq=>h2 i x q.2 hx (by rw[zal,hq];rfl)) (zai hc1) hc2 (zbu hc3) hrows hp (qade.1 hdis) hfr'
        (fun F kv fp a' w' hs=>hn F kv fp a' w' ?_)
       simpa[hdd] using hs
      ·cases hr
     ·cases hr
    ·cases hr
   ·cases hr
  ·cases hr
 ·
  rename_i t q q' l c ho
  split at hr
  ·rename_i e n m he hl hc
   split at hr
   ·rename_i τ hτ
    cases hr
    obtain⟨d,hdd⟩:=hso (by simpa[kindOk,ho] using hk)
    obtain⟨h1,h2⟩:=look2 (q:=q) (q':=q') h (by simp[Oper.looks,ho,Op.operands]) hg
    have hfr':¬Names σ (d,0):=hfr _ (by simp[adds,hdd])
    refine qahi hE.ok h hdd (hd d hdd) ho he hτ h1 hl h2 hc (hp _ (by simp)) (hp _ (by simp)) (hp _ (by simp)) (ps:=[0≤n,n=m,n≤4294967296]) hfr' (fun F kv fp a' w' hs=>hn F kv fp a' w' ?_)
    simpa[hdd] using hs
   ·cases hr
  ·cases hr
 ·
  rename_i t q q' x i ho
  split at hr
  ·rename_i kd n y m hi hy hm
   obtain⟨h1,h2⟩:=look2 (q:=q) (q':=q') h (by simp[Oper.looks,ho,Op.operands]) hg
   split at hr
   ·rename_i τ ys
    rw[zah] at hr
    split at hr
    ·rename_i hb
     cases hr
     exact Makes.wp (qahv ho h1 hy h2 hi hm (zai hb) (hp _ (by simp[Rslt.ofVal])) (hp _ (by simp[Rslt.ofVal]))) h hd hn
    ·cases hr
   ·rename_i k p
    split at hr
    ·rename_i ps b ha
     rw[zah] at hr
     split at hr
     ·rename_i hb
      cases hr
      exact Makes.wp (qahx h ho h1 hy h2 hi hm ha (zai hb) (fun p hp'=>hp p (by simp[Rslt.ofVal,hp'])) (hp _ (by simp[Rslt.ofVal])) (hp _ (by simp[Rslt.ofVal]))) h hd hn
     ·cases hr
    ·split at hr
     ·rename_i b hpo _
      rw[zah] at hr
      split at hr
      ·rename_i hb
       cases hr
       exact Makes.wp (qahw h ho h1 hy h2 hi hm hpo (zai hb) (hp _ (by simp[Rslt.ofVal])) (hp _ (by simp[Rslt.ofVal]))) h hd hn
      ·cases hr
     ·cases hr
   ·cases hr
  ·cases hr
 ·
  rename_i t q q' x i ho
  split at hr
  ·rename_i s kd n hx hi hu
   cases hr
   obtain⟨h1,h2⟩:=look2 (q:=q) (q':=q') h (by simp[Oper.looks,ho,Op.operands]) hg
   exact Makes.wp (qahy ho h1 hx h2 hi hu (hp _ (by simp[Rslt.lit,Rslt.ofVal])) (hp _ (by simp[Rslt.lit,Rslt.ofVal]))) h hd hn
  ·cases hr
 ·
  rename_i t q lo hi mx x bs ho
  have hl:Oper.looks o=q::(lo.toList++(hi.toList++(mx.toList++[]))):=by simp[Oper.looks,ho,Op.operands]
  obtain⟨g1,g2⟩:=qafl hg
  rw[hl] at g1 g2
  have hx:RS E w F kv fp (badK σ) x (a.eval q):=qajo h (g2 0 x q rfl rfl)
  split at hr
  ·rename_i l bs1 hb1
   obtain⟨k1,k2⟩:=Bnd_of (a:=a) (w:=w) (L:=lo.toList++(hi.toList++(mx.toList++[]))) (L':=hi.toList++(mx.toList++[])) h hb1 rfl ⟨by simpa using g1,fun i y u hy hu=>g2 (i+1) y u (by simpa using hy) (by simpa using hu)⟩
   split at hr
   ·rename_i hh bs2 hb2
    obtain⟨k3,k4⟩:=Bnd_of (L':=mx.toList++[]) h hb2 rfl k2
    split at hr
    ·rename_i m hb3
     obtain⟨k5,k6⟩:=Bnd_of (L':=[]) h hb3 rfl k4
     obtain⟨sv,ps,rfl,hm⟩:=qaih h ho hx k1 k3 k5 hr hp
     exact Makes.wp hm h hd hn
    ·cases hr
   ·cases hr
  ·cases hr
 ·
  rename_i args argTypes x ho
  split at hr
  ·rename_i t hty
   have hll:Oper.looks o=args.toList:=by simp[Oper.looks,ho]
   obtain⟨g1,g2⟩:=lookN h hll hg
   obtain⟨q,hq⟩:∃q,args.toList=[q]:=by
    match hm:args.toList,g1 with
    |[q],_=>exact⟨q,rfl⟩
   have hx:RS E w F kv fp (badK σ) x (a.eval q):=g2 0 x q rfl (by rw[hq];rfl)
   split at hr
   ·rename_i s hs
    split at hr
    ·rename_i hu
     cases hr
     exact Makes.wp (qaia ho rfl hq hty hx hs hu) h hd hn
    ·cases hr
   ·cases hr
   ·split at hr
    ·rename_i e hac hel
     cases hr
     obtain⟨ad,had⟩:=RA_of (qaaf hx hac) rfl
     exact Makes.wp (qahz (n:=0) ho rfl hq hty ⟨ad,0,had⟩ (qadk hel) (Nat.zero_le _)) h hd hn
    ·rename_i y e hac hel
     split at hr
     ·rename_i ps b ha
      cases hr
      have hrp:=qabp h ha hp (qaaf hx hac)
      obtain⟨ad,c,hs,_⟩:=hrp.slice
      exact Makes.wp (qahz ho rfl hq hty ⟨ad,c,hs⟩ (qadk hel) hrp.len) h hd hn
     ·split at hr
      ·rename_i b hpo
       cases hr
       obtain⟨k,dead,_,_,hown⟩:=qajv h hpo (qaaf hx hac)
       obtain⟨ad,c,hs,hle⟩:=hown.slice
       exact Makes.wp (qahz ho rfl hq hty ⟨ad,c,hs⟩ (qadk hel) hle) h hd hn
      ·cases hr
    ·cases hr
  ·cases hr
 ·
  rename_i args argTypes x ho
  split at hr
  rotate_left
  ·cases hr
  rename_i t hty
  split at hr
  rotate_left
  ·cases hr
  rename_i e k wd lo hi hel hac
  split at hr
  rotate_left
  ·cases hr
  rename_i τ a0 dead hc he
  rw[zah] at hr
  split at hr
  rotate_left
  ·cases hr
  rename_i hwd
  split at hr
  rotate_left
  ·cases hr
  rename_i xs hx0
  cases hr
  have:=castArr_some hx0
  subst this
  have hwd:=zai hwd
  subst hwd
  have hll:Oper.looks o=args.toList:=by simp[Oper.looks,ho]
  obtain⟨g1,g2⟩:=lookN h hll hg
  obtain⟨q,hq⟩:∃q,args.toList=[q]:=by
   match hm:args.toList,g1 with
   |[q],_=>exact⟨q,rfl⟩
  exact qacp hE.ok h hd ho rfl hq hty hel hc (g2 0 x q rfl (by rw[hq];rfl)) hac (qald he) (hp _ (by simp)) (hp _ (by simp)) hn
 ·
  rename_i args argTypes x y ho
  split at hr
  ·rename_i kd m n hx hy
   rw[zah] at hr
   split at hr
   ·rename_i hkk
    have hkk:=of_decide_eq_true hkk
    subst hkk
    cases hr
    have hll:Oper.looks o=args.toList:=by simp[Oper.looks,ho]
    obtain⟨g1,g2⟩:=lookN h hll hg
    obtain⟨q,q',hq⟩:∃q q',args.toList=[q,q']:=by
     match hm:args.toList,g1 with
     |[q,q'],_=>exact⟨q,q',rfl⟩
    have:=qaic (b:=true) ho (by rfl) hq (g2 0 x q rfl (by rw[hq];rfl)) hx (g2 1 y q' rfl (by rw[hq];rfl)) hy
    exact Makes.wp (by simpa using this) h hd hn
   ·cases hr
  ·cases hr
 ·
  rename_i args argTypes x y ho
  split at hr
  ·rename_i kd m n hx hy
   rw[zah] at hr
   split at hr
   ·rename_i hkk
    have hkk:=of_decide_eq_true hkk
    subst hkk
    cases hr
    have hll:Oper.looks o=args.toList:=by simp[Oper.looks,ho]
    obtain⟨g1,g2⟩:=lookN h hll hg
    obtain⟨q,q',hq⟩:∃q q',args.toList=[q,q']:=by
     match hm:args.toList,g1 with
     |[q,q'],_=>exact⟨q,q',rfl⟩
    have:=qaic (b:=false) ho (by rfl) hq (g2 0 x q rfl (by rw[hq];rfl)) hx (g2 1 y q' rfl (by rw[hq];rfl)) hy
    exact Makes.wp (by simpa using this) h hd hn
   ·cases hr
  ·cases hr
 ·
  rename_i args argTypes s x ho
  split at hr
  ·rename_i t u hty
   split at hr
   ·rename_i e e' ys yx hel hel' hs hx
    rw[zah] at hr
    split at hr
    ·rename_i hc
     simp only[zaf] at hc
     have htu:t=u:=zai hc.1
     subst htu
     split at hr
     ·rename_i τ hτ
      split at hr
      ·rename_i ps xs ks d1 qs zs ks' d2 h1 h2
       rw[zah] at hr
       split at hr
       ·rename_i hdis
        cases hr
        obtain⟨d,hdd⟩:=hso (by simpa[kindOk,ho] using hk)
        have hll:Oper.looks o=args.toList:=by simp[Oper.looks,ho]
        obtain⟨g1,g2⟩:=lookN h hll hg
        obtain⟨q,q',hq⟩:∃q q',args.toList=[q,q']:=by
         match hm:args.toList,g1 with
         |[q,q'],_=>exact⟨q,q',rfl⟩
        have hfr':¬Names σ (d,0):=hfr _ (by simp[adds,hdd])
        refine qaba (pall:=ps++qs++[xs.length+zs.length≤4294967296]) hE.ok h hdd (hd d hdd) ho rfl hq hty hel hτ (g2 0 s q rfl (by rw[hq];rfl)) hs (g2 1 x q' rfl (by rw[hq];rfl)) hx h1 h2 (fun p hp'=>hp p (by simp[hp'])) (qade.1 hdis) (hp _ (by simp)) hfr'
         (fun F kv fp a' w' hs=>hn F kv fp a' w' ?_)
        simpa[hdd] using hs
       ·cases hr
      ·rename_i ps xs ks h1 _
       split at hr
       ·rename_i zs ks' h2
        rw[zah] at hr
        split at hr
        ·rename_i hdis
         cases hr
         obtain⟨d,hdd⟩:=hso (by simpa[kindOk,ho] using hk)
         have hll:Oper.looks o=args.toList:=by simp[Oper.looks,ho]
         obtain⟨g1,g2⟩:=lookN h hll hg
         obtain⟨q,q',hq⟩:∃q q',args.toList=[q,q']:=by
          match hm:args.toList,g1 with
          |[q,q'],_=>exact⟨q,q',rfl⟩
         have hfr':¬Names σ (d,0):=hfr _ (by simp[adds,hdd])
         refine qaaz (pall:=ps++[xs.length+zs.length≤4294967296]) hE.ok h hdd (hd d hdd) ho rfl hq hty hel hτ (g2 0 s q rfl (by rw[hq];rfl)) hs (g2 1 x q' rfl (by rw[hq];rfl)) hx h1 h2 (fun p hp'=>hp p (by simp[hp'])) (qade.1 hdis) (hp _ (by simp)) hfr'
          (fun F kv fp a' w' hs=>hn F kv fp a' w' ?_)
         simpa[hdd] using hs
        ·cases hr
       ·cases hr
      ·cases hr
     ·cases hr
    ·cases hr
   ·rename_i e ys str hel hel' hs hx
    split at hr
    ·rename_i τ hu hτ
     split at hr
     ·rename_i ps xs ks d1 zs h1 h2
      rw[zah] at hr
      split at hr
      ·rename_i hdis
       cases hr
       obtain⟨d,hdd⟩:=hso (by simpa[kindOk,ho] using hk)
       have hll:Oper.looks o=args.toList:=by simp[Oper.looks,ho]
       obtain⟨g1,g2⟩:=lookN h hll hg
       obtain⟨q,q',hq⟩:∃q q',args.toList=[q,q']:=by
        match hm:args.toList,g1 with
        |[q,q'],_=>exact⟨q,q',rfl⟩
       have hfr':¬Names σ (d,0):=hfr _ (by simp[adds,hdd])
       have hlx:lit? x=some (.string str):=by
        unfold ac? at hx
        split at hx
        ·cases hx;rfl
        ·cases hx
       refine qabb (pall:=ps++[xs.length+zs.length≤4294967296]) hE.ok h hdd (hd d hdd) ho rfl hq hty hel hτ (g2 0 s q rfl (by rw[hq];rfl)) hs (g2 1 x q' rfl (by rw[hq];rfl)) hlx hu h1 h2 (fun p hp'=>hp p (by simp[hp'])) (qade.1 hdis) (hp _ (by simp)) hfr'
        (fun F kv fp a' w' hs=>hn F kv fp a' w' ?_)
       simpa[hdd] using hs
      ·cases hr
     ·cases hr
    ·cases hr
   ·cases hr
  ·cases hr
 ·
  rename_i g fst cps ho
  rw[zah] at hr
  split at hr
  ·rename_i hemp
   split at hr
   ·rename_i l hl
    cases hr
    have hll:Oper.looks o=(fst++cps).toList:=by simp[Oper.looks,ho,Op.operands]
    obtain⟨g1,g2⟩:=lookN h hll hg
    exact Makes.wp (qahm ho hemp hl (by simpa using g1) (by simpa using g2)) h hd hn
   ·cases hr
  ·cases hr
 ·
  rename_i t args argTypes p xs' ho
  have hll:Oper.looks o=.tmp t::args.toList:=by simp[Oper.looks,ho]
  obtain⟨g1,g2⟩:=lookN h hll hg
  have hfn:FnSpec E w F p (a.eval (.tmp t)):=g2 0 (.fn p) (.tmp t) rfl rfl
  obtain⟨g,caps,hv,hf,hcall⟩:=hfn
  unfold fnCall at hr
  split at hr
  ·rename_i ps ds hds
   have main:∀(v:Value)(ps':List Prop),(∀q∈ps++[p ds=some v],q)→r=⟨some (litV v),[],[],[],ps'⟩→o.wp E.P a w next Q:=by
    intro v ps' hq hr
    have hda:=qacz (K:=(xs'.flatMap SV.keys).filter fun k=>(σ.ent k).isSome) (vs:=args.toList.map a.eval) h hds (fun q hq'=>hq q (by simp[hq'])) (by simpa using g1) (fun i x u hx hu=>by
     rw[zal] at hu
     cases hq:args.toList[i]? with
     |none=>rw[hq] at hu;cases hu
     |some q=>rw[hq] at hu;cases hu;exact g2 (i+1) x q (by simpa using hx) (by simpa using hq)) (fun x hx k hk hs=>zcg.2 ⟨zat.2 ⟨x,hx,hk⟩,hs⟩)
    have hlt:∀b,FK F fp ((xs'.flatMap SV.keys).filter fun k=>(σ.ent k).isSome) b→b<w.heap.size:=by
     rintro b (hb|⟨k,hk,hb⟩)
     ·exact h.Flt b hb
     ·obtain⟨e,he⟩:=zag.1 (zcg.1 hk).2
      exact(h.mine k e b he hb).2.2
    have hc:=hcall ds v (hq _ (by simp)) w _ (fun b hb=>⟨.inl hb,rfl⟩) hlt _ hda
    show o.upon E.P a next Q ((execOp a.eval o).run E.P w)
    rw[qalo ho rfl hv hf,Oper.upon_enter]
    refine hc.mono ?_
    rintro e w' ⟨rfl,hlit,hup⟩
    show next (a.put o.dst v) w'
    refine hn F kv fp _ w' ?_
    rw[hr]
    exact h.valW hup o _ _ v hd (fun x hx=>by cases hx;exact RS_lit hlit)
   split at hr
   ·have hr':=(zdx hr).symm
    exact main _ _ (by rw[hr'] at hp;exact hp) hr'
   ·have hr':=(zdx hr).symm
    exact main _ _ (by rw[hr'] at hp;exact hp) hr'
   ·cases hr
  ·cases hr
 ·
  rename_i f args argTypes ho
  split at hr
  ·rename_i k hcon
   obtain⟨hf,hs⟩:=hE.con f k hcon
   have hll:Oper.looks o=args.toList:=by simp[Oper.looks,ho]
   obtain⟨g1,g2⟩:=lookN h hll hg
   exact qace hE.con h hd ho rfl hf hs g1 (qafm hg) g2 hr hp hfr hn
  ·cases hr
 ·
  rename_i t q x ho
  rw[zah] at hr
  split at hr
  ·rename_i hc
   simp only[zaf] at hc
   cases hr
   obtain⟨d,hdd⟩:=hso (by simpa[kindOk,ho] using hk)
   have hfr':¬Names σ (d,0):=hfr _ (by simp[adds,hdd])
   refine qabz h hdd (hd d hdd) ho (look1 h (by simp[Oper.looks,ho,Op.operands]) hg) (fun y hy k hk=>qafm hg (.v x) (by simp) k (SV.mem_keys.2 ⟨y,hy,hk⟩)) hc.1 hfr' (fun F kv fp a' w' hs=>hn F kv fp a' w' ?_)
   simpa[hdd] using hs
  ·cases hr
 ·
  rename_i q x ho
  have hx:=look1 (q:=q) h (by simp[Oper.looks,ho,Op.operands]) hg
  split at hr
  ·rename_i cs hac
   cases hr
   obtain⟨b,o',h1,_⟩:=RA_of (qaaf hx hac) rfl
   exact Makes.wp (qaif ho hx h1) h hd hn
  ·rename_i k off hac
   cases hr
   obtain⟨b,_,h1⟩:=RA_of (qaaf hx hac) rfl
   exact Makes.wp (qaif ho hx h1) h hd hn
  ·rename_i k p i wd off hac
   rw[zah] at hr
   split at hr
   ·rename_i hcl
    cases hr
    obtain⟨b,o',n,c,_,h1⟩:=RA_of (qaaf hx hac) (qacn (x:=.eptr k p i wd off) hcl)
    exact Makes.wp (qaif ho hx h1) h hd hn
   ·cases hr
  ·cases hr
 ·
  rename_i s d q x ho
  have hx:=look1 (q:=q) h (by simp[Oper.looks,ho,Op.operands]) hg
  split at hr
  ·rename_i k hud
   split at hr
   ·rename_i k0 k' n hus hl
    cases hr
    exact Makes.wp (qaho ho hx hl hud hus) h hd hn
   ·cases hr
  ·rename_i hud
   split at hr
   ·rename_i e hus
    split at hr
    ·rename_i hue hac
     cases hr
     obtain⟨ad,h1⟩:=RA_of (qaaf hx hac) rfl
     refine Makes.wp (sv:=litV (.string ByteArray.empty)) ⟨.string ByteArray.empty,?_,RS_lit ⟨rfl,by decide⟩⟩ h hd hn
     unfold execOp;simp only[ho,h1]
     exact run_v (qacv hus hue hud ad 0)
    ·rename_i y hue hac
     split at hr
     ·rename_i ps b ha
      split at hr
      ·rename_i ys hys
       cases hr
       have:=castArr_some hys
       subst this
       exact Makes.wp (qahn ho (arrOf_sound' h ha (fun p hp'=>hp p hp') (qaaf hx hac)) hus hue hud) h hd hn
      ·cases hr
     ·cases hr
    ·cases hr
   ·cases hr
  ·cases hr
 ·cases hr
theorem qamr(hE:E.Good)(h:Sim E pm F kv fp σ a w){o:Oper}{r:Rslt U}{ks:List Key}(hs:step E σ o=some (r,ks))(hp:∀p∈r.pre,p)(hfr:∀k∈adds o r,¬Names σ k)
  {next:Act→World→Prop} {Q:Exit→Act→World→Prop} (hn:∀F kv fp a' w',Sim E pm F kv fp (AM.apply o r σ) a' w'→next a' w'):o.wp E.P a w next Q:=by
 unfold step at hs
 rw[zah] at hs
 split at hs
 ·rename_i hc
  simp only[zaf] at hc
  have hd:∀d,o.dst=some d→d<σ.n:=by
   intro d hd
   have:=hc.1
   unfold dstOk at this
   rw[hd] at this
   exact Nat.blt_eq▸this
  split at hs
  ·rename_i c x y ho
   split at hs
   ·rename_i t ht
    have hct:∃sc,opd σ c=some sc∧lit? sc=some (.bool t):=by
     unfold opdLit svLit at ht
     split at ht
     ·rename_i sc hsc;exact⟨sc,hsc,ht⟩
     ·cases ht
    obtain⟨sc,h1,h2⟩:=hct
    cases t with
    |true=>
     simp only[cond_true] at hs
     split at hs
     ·rename_i sv hsv
      cases hs
      exact Makes.wp (qaig ho (qajo h h1) h2 (by simpa using qajo h hsv)) h hd hn
     ·cases hs
    |false=>
     simp only[cond_false] at hs
     split at hs
     ·rename_i sv hsv
      cases hs
      exact Makes.wp (qaig ho (qajo h h1) h2 (by simpa using qajo h hsv)) h hd hn
     ·cases hs
   ·cases hs
  ·split at hs
   ·rename_i xs hg
    split at hs
    ·rename_i r' hr
     cases hs
     exact qaef hE h hd hc.2 hg hr hp hfr hn
    ·cases hs
   ·cases hs
 ·cases hs
end AM
