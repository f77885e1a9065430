/- THE ABSTRACT MACHINE: rows of which some elements are gone: they are made, grow, are filled again. -/
import Derived.Test.YtceiiofmelhipaaGreatAmMove
namespace AM
set_option linter.unusedVariables false
open Go
variable{U:Uni}{E:Env U}{pm:Pm}
variable{F F':Nat→Prop}{kv:Key→Value}{fp:Key→List Nat}{σ:AState U}{a:Act}{w w':World}{bad:Key→Bool}
variable(E) in
def RRowP(w:World)(F:Nat→Prop)(dead:Nat→Bool)(τ:U.Ty)(xs:List (U.T τ))(vs:List Value)(fl:List (List Nat)):Prop:=
 vs.length=xs.length*U.wd τ∧fl.length=xs.length*U.wd τ∧(∀v∈vs,LitOk v)∧
 (∀(i:Nat)(x:U.T τ)(j:Nat)(c:U.C),dead i=false→xs[i]? =some x→(U.enc τ x)[j]? =some c→Rp E w F true c (vs.getD (i*U.wd τ+j) undef) (fl.getD (i*U.wd τ+j) []))∧
 ∀i j,dead i=true→j<U.wd τ→fl.getD (i*U.wd τ+j) []=[]
theorem qaep{fl:List (List Nat)}{n:Nat}(h:fl.length=n):fl.flatten=(List.range n).flatMap fun m=>fl.getD m []:=by
 rw[zct]
 congr 1
 refine zcx fun m=> ?_
 rw[zal]
 by_cases hn:m<n
 ·rw[zcl hn,zcd,zac,zad (by rw[h];exact hn)]
  rfl
 ·rw[zaj (by rw[h];omega),zaj (by simp;omega)]
  rfl
theorem ROwnP.of_rows{dead:Nat→Bool}{τ:U.Ty}{xs:List (U.T τ)}{b cap:Nat}{cur:Array Value}{vs:List Value}{fl:List (List Nat)}(h2:w.heap[b]? =some (.cells cur (E.tid τ) (0,0)))(h3:xs.length≤cap)(h4:cap≤maxLen)
  (h5:cur.size=cap*U.wd τ) (h6:cur.toList.take (xs.length*U.wd τ)=vs) (h7:RRowP E w F dead τ xs vs fl):ROwnP E w F dead ⟨τ,xs⟩ (.slice (some ⟨b,0,none⟩) xs.length cap) (b::fl.flatten):=by
 have hle:xs.length*U.wd τ≤cap*U.wd τ:=zbc _ h3
 refine .inr ⟨b,cap,cur,fun n=>vs.getD n undef,fun n=>fl.getD n [],rfl,h2,h3,h4,h5,fun i hi=> ?_,h7.2.2.2.1,h7.2.2.2.2,by rw[qaep h7.2.1]⟩
 have hi':i<xs.length*U.wd τ:=hi
 have hvi:vs[i]? =some (vs.getD i undef):=getD_of_lt (by rw[h7.1];exact hi')
 refine⟨?_,h7.2.2.1 _ (zbl hvi)⟩
 show cur[i]? =some (vs.getD i undef)
 rw[←hvi,←h6,zan,if_pos hi',zbx]
theorem ROwnP.rows{dead:Nat→Bool}{x:Arr U}{v:Value}{l:List Nat}(h:ROwnP E w F dead x v l):
  (x.xs=[]∧(∃ad,v=.slice ad 0 0)∧l=[])∨
  ∃(b cap:Nat)(cur:Array Value)(vs:List Value)(fl:List (List Nat)),v=.slice (some ⟨b,0,none⟩) x.xs.length cap∧w.heap[b]? =some (.cells cur (E.tid x.τ) (0,0))∧x.xs.length≤cap∧cap≤maxLen∧
   cur.size=cap*U.wd x.τ∧cur.toList.take (x.xs.length*U.wd x.τ)=vs∧RRowP E w F dead x.τ x.xs vs fl∧l=b::fl.flatten:=by
 rcases h with h|⟨b,cap,cur,vs,fps,h1,h2,h3,h4,h5,h6,h7,h8,h9⟩
 ·exact .inl h
 have hle:x.xs.length*U.wd x.τ≤cap*U.wd x.τ:=zbc _ h3
 have hget:∀n,n<x.xs.length*U.wd x.τ→(cur.toList.take (x.xs.length*U.wd x.τ))[n]? =some (vs n):=fun n hn=>by
  rw[zan,if_pos hn,zbx];exact(h6 n hn).1
 refine .inr ⟨b,cap,cur,_,(List.range (x.xs.length*U.wd x.τ)).map fps,h1,h2,h3,h4,h5,rfl,⟨by simp;omega,by simp,fun u hu=> ?_,fun i y j c hi hx hj=> ?_,fun i j hi hj=> ?_⟩,by rw[h9,zct]⟩
 ·obtain⟨n,hn,rfl⟩:=zbk hu
  have hn':n<x.xs.length*U.wd x.τ:=by simp at hn;omega
  have h10:=hget n hn'
  rw[zad hn] at h10
  rw[zdx h10]
  exact(h6 n hn').2
 ·have hlt:=row_lt hx hj
  have:=h7 i y j c hi hx hj
  rw[zac,hget _ hlt,zac,zal,zcl hlt]
  exact this
 ·rw[zac,zal]
  by_cases hlt:i*U.wd x.τ+j<x.xs.length*U.wd x.τ
  ·rw[zcl hlt];exact h8 i j hi hj
  ·rw[zaj (by simp;omega)];rfl
theorem RRow.litOk{deep:Bool}{τ:U.Ty}{xs:List (U.T τ)}{vs:List Value}{fl:List (List Nat)}(h:RRow E w F deep τ xs vs fl):∀v∈vs,LitOk v:=by
 intro v hv
 obtain⟨n,hn,rfl⟩:=zbk hv
 obtain⟨i,x,j,c,rfl,_,_,hx,hj⟩:=qalh (xs:=xs) (by rw[←h.1];exact hn)
 have:=h.2.2 i x j c hx hj
 rw[zac,zad hn] at this
 exact this.oneCell
theorem RRow.dead{τ:U.Ty}{xs zs:List (U.T τ)}{vs us:List Value}{fl:List (List Nat)}(h:RRow E w F true τ xs vs fl)(hl:us.length=zs.length*U.wd τ)(ho:∀u∈us,LitOk u):
  RRowP E w F (fun i=>Nat.ble xs.length i) τ (xs++zs) (vs++us) (fl++List.replicate (zs.length*U.wd τ) []):=by
 refine⟨by simp[h.1,hl,zci],by simp[h.2.1,zci],fun v hv=> ?_,fun i x j c hi hx hj=> ?_,fun i j hi hj=> ?_⟩
 ·rcases zao.1 hv with hv|hv
  ·exact h.litOk v hv
  ·exact ho v hv
 ·have hi':i<xs.length:=by
   rcases zba i xs.length with g|g
   ·exact g
   ·exact absurd ((Nat.ble_eq_true_of_le g).symm.trans hi) (by decide)
  rw[zaq hi'] at hx
  have:=row_lt hx hj
  rw[qafn (by rw[h.1];exact this),qafn (by rw[h.2.1];exact this)]
  exact h.2.2 i x j c hx hj
 ·have hi':=zbu hi
  have:xs.length*U.wd τ≤i*U.wd τ:=zbc _ hi'
  rw[qaft (by rw[h.2.1];omega),qafs]
theorem qagg:∀{xs:List (SV U)}{us:List Value}{wd:Nat},keptOk wd xs=true→xs.length=us.length→(∀(i:Nat)(x:SV U)(u:Value),xs[i]? =some x→us[i]? =some u→RS E w F kv fp bad x u)→
  (∀u∈us,u.cells.size=wd)∧∀v∈us.flatMap (fun u=>u.cells.toList),LitOk v
 |[],[],_,_,_,_=>⟨by simp,by simp⟩
 |[],_::_,_,_,hl,_=>by simp at hl
 |_::_,[],_,_,hl,_=>by simp at hl
 |x::xs,u::us,wd,hk,hl,hx=>by
  cases x with
  |tup l=>cases hk
  |fn p=>cases hk
  |clo g l=>cases hk
  |v x=>
   simp only[keptOk,zaf] at hk
   obtain⟨r1,r2⟩:=qaaj (hx 0 (.v x) u rfl rfl)
   obtain⟨i1,i2⟩:=qagg hk.2 (by simpa using hl) (fun i z v hz hv=>hx (i+1) z v (by simpa using hz) (by simpa using hv))
   refine⟨fun v hv=> ?_,fun v hv=> ?_⟩
   ·rcases zak.1 hv with rfl|hv
    ·rw[r2];exact zai hk.1
    ·exact i1 v hv
   ·rw[zbm,zao] at hv
    rcases hv with hv|hv
    ·obtain⟨n,hn,rfl⟩:=zbk hv
     have hn':n<x.cs.length:=by rw[r1.1];exact hn
     exact(r1.2 n x.cs[n] _ (zad hn') (zad hn)).1
    ·exact i2 v hv
theorem qagf(hE:E.Ok)(h:Sim E pm F kv fp σ a w){o:Oper}{d:Nat}(ho:o.dst=some d)(hd:d<σ.n){t e:TypeId}{len:Nat}{parts:Array (Nat×Operand)}(hop:o.op=.buildSlice t len parts)
  {τ:U.Ty} (hel:E.elem t=some e) (hc:E.code e=some τ) {xs:List (SV U)} (hx:xs.length=parts.toList.length)
  (hv:∀(i:Nat)(x:SV U)(q:Nat×Operand),xs[i]? =some x→parts.toList[i]? =some q→RS E w F kv fp (badK σ) x (a.eval q.2))
  (hlen:(parts.toList.map (·.1)).length=len) (hidx:((parts.toList.map (·.1)).zipIdx).all (fun(a,b)=>Nat.beq a b)=true) (hsm:len*U.wd τ≤1000000)
  (hkp:keptOk (U.wd τ) xs=true)
  (hfr:¬Names σ (d,0)) {next:Act→World→Prop} {Q:Exit→Act→World→Prop}
  (hn:∀F kv fp a' w',Sim E pm F kv fp (AM.apply o ⟨some (one (.ref (d,0) [])),[(0,.part ⟨τ,List.replicate len (U.dflt τ)⟩ (fun _=>true))],[],[],[]⟩ σ) a' w'→next a' w'):o.wp E.P a w next Q:=by
 obtain⟨htid,i,z,hi,hz,hsize,hzs,hby,_⟩:=hE.code e τ hc
 have hu:=qadk hel
 have hw:=U.wd_pos τ
 obtain⟨r2,r3⟩:=qagg (us:=parts.toList.map fun q=>a.eval q.2) hkp (by simp[hx]) (fun i x u hx' hu'=>by
  rw[zal] at hu'
  cases hq:parts.toList[i]? with
  |none=>rw[hq] at hu';cases hu'
  |some q=>rw[hq] at hu';cases hu';exact hv i x q hx' hq)
 have hpl:parts.toList.length=len:=by rw[←hlen];simp
 have hparts:(parts.map fun(i,x)=>(i,a.eval x)).toList=((parts.toList.map fun q=>a.eval q.2).zipIdx 0).map fun x=>(x.2,x.1):=by
  rw[zeo]
  refine zcx fun n=> ?_
  rw[zal,zal,zej,zal]
  cases hq:parts.toList[n]? with
  |none=>rfl
  |some q=>
   simp only[zcd,zae,zax,zbw,and_true]
   have h1:((parts.toList.map (·.1)).zipIdx)[n]? =some (q.1,n):=by
    rw[zej,zal,hq];simp
   have:=(zcb.1 hidx) (q.1,n) (zbl h1)
   exact zai this
 have hsm':¬len*i.size>2^24:=by rw[hsize];omega
 have hmax:len≤maxLen:=by
  have:len≤len*U.wd τ:=Nat.le_mul_of_pos_right _ hw
  simp only[maxLen];omega
 have hfl:∀(l:List Value),(∀u∈l,u.cells.size=U.wd τ)→(l.flatMap fun u=>u.cells.toList).length=l.length*U.wd τ:=by
  intro l
  induction l with
  |nil=>intro _;simp
  |cons u l ih=>
   intro hl
   rw[zbm,zce,ih (fun v hv=>hl v (zaa _ hv)),zbn,hl u zab,zbq,zci,zdw,zew]
 have fin:∀cells:Array Value,cells.toList=(parts.toList.map fun q=>a.eval q.2).flatMap (fun u=>u.cells.toList)→
   (Instr.buildSlice t len (parts.map fun(i,x)=>(i,a.eval x))).run E.P w=.ok (.slice (some ⟨w.heap.size,0,none⟩) len len) (w.alloc (.cells cells e))→o.wp E.P a w next Q:=by
  intro cells hcells hrun
  have hcl:cells.toList.length=len*U.wd τ:=by rw[hcells,hfl _ r2];simp[hpl]
  have hcs:cells.size=len*U.wd τ:=by simpa using hcl
  have hrow:RRowP E (w.alloc (.cells cells e)) F (fun _=>true) τ (List.replicate len (U.dflt τ)) cells.toList (List.replicate (len*U.wd τ) []):=by
   refine⟨by rw[hcl];simp,by simp,fun v hv=>r3 v (by rw[←hcells];exact hv),fun i x j c hi=>Bool.noConfusion hi,fun i j _ _=>qafs⟩
  have hsim:=h.add1 (w':=w.alloc (.cells cells e)) (F':=F) ho hd (.part ⟨τ,List.replicate len (U.dflt τ)⟩ (fun _=>true)) (one (.ref (d,0) [])) [] [] (.slice (some ⟨w.heap.size,0,none⟩) len len) (.slice (some ⟨w.heap.size,0,none⟩) len len) [w.heap.size] hfr
   (fun bad=>RS_one ⟨⟨rfl,trivial⟩,.inr (by simp only[RA,qalw];rfl)⟩)
   (fun bad=>by
    have:=ROwnP.of_rows (F:=F) (b:=w.heap.size) (cap:=len) (by rw[htid];exact heap_alloc_new w _) (by simp) hmax hcs (by rw[zcy (by rw[hcl];simp)]) hrow
    rw[zee,qaer] at this
    exact this)
   (fun b hb=>⟨hb,qaga w _ (h.Flt b hb)⟩) (fun b hb=> .inl hb) (fun k e _ he b hb=>qaga w _ (qafk h he hb)) (by simp)
   (fun b hb=>by
    rw[zau.1 hb]
    exact⟨fun hF=>by have:=h.Flt _ hF;omega,.inr ⟨zca _,by simp⟩⟩) (Upto.alloc _ _ _)
  refine qanv (v:=.slice (some ⟨w.heap.size,0,none⟩) len len) (w':=w.alloc (.cells cells e)) ?_ (hn F _ _ _ _ hsim)
  unfold execOp;simp only[hop];exact run_v hrun
 by_cases h0:len=0
 ·have hnil:parts.toList=[]:=zbh (by omega)
  have hnil':parts= #[]:=qabq hnil
  subst h0
  refine fin #[] (by simp[hnil]) ?_
  simp[Instr.buildSlice,run_underlying hu,Go.sizeOf,typeInfo,hi,hnil',Instr.fill,newRow,Array.range_zero']
 ·have hpos:¬len*i.size=0:=by
   rw[hsize]
   have:=Nat.mul_pos (Nat.pos_of_ne_zero h0) hw
   omega
  have hfill:=Great.fill_whole (s:=i.size) (by rw[hsize];exact hw) (parts.toList.map fun q=>a.eval q.2) ((Array.range (len*i.size)).map (z.cells[·%z.cells.size]!)) (fun v hv=>by rw[hsize];exact r2 v hv) (by simp[hpl])
  refine fin ((parts.toList.map fun q=>a.eval q.2).flatMap fun v=>v.cells.toList).toArray rfl (run_buildSlice w t e len _ _ i z hu hi hz hsm' hpos ?_)
  rw[hparts]
  exact hfill
theorem qaaz(hE:E.Ok)(h:Sim E pm F kv fp σ a w){o:Oper}{d:Nat}(ho:o.dst=some d)(hd:d<σ.n){cl:Call}{t e:TypeId}{s x:Operand}(hop:o.op=.call cl)(hcl:cl.callee=.builtin .append)
  (hargs:cl.args.toList=[s,x]) (hty:cl.argTypes.toList=[t,t]) {τ:U.Ty} (hel:E.elem t=some e) (hc:E.code e=some τ) {ss sx:SV U} {ys yx:AC U}
  (hs:RS E w F kv fp (badK σ) ss (a.eval s)) (hss:ac? ss=some ys) (hx:RS E w F kv fp (badK σ) sx (a.eval x)) (hsx:ac? sx=some yx)
  {rs:List Key} {ps:List Prop} {xs zs:List (U.T τ)} {ks ks':List Key} {pall:List Prop}
  (ho1:oldsOf τ (restrict σ.ent rs) ys=some (ps,xs,ks,true)) (ho2:partNew τ (restrict σ.ent rs) yx=some (zs,ks')) (hp:∀p∈ps,p) (hks:(ks++ks').Nodup) (hle:xs.length+zs.length≤4294967296)
  (hfr:¬Names σ (d,0)) {next:Act→World→Prop} {Q:Exit→Act→World→Prop}
  (hn:∀F kv fp a' w',Sim E pm F kv fp (AM.apply o ⟨some (one (.ref (d,0) [])),[(0,.part ⟨τ,xs++zs⟩ (fun i=>Nat.ble xs.length i))],ks++ks',[],pall⟩ σ) a' w'→next a' w'):o.wp E.P a w next Q:=by
 obtain⟨htid,i,z,hi,hz,hsize,hzs,hby,_⟩:=hE.code e τ hc
 have hu:=qadk hel
 have hw:=U.wd_pos τ
 obtain⟨hk1,hk2,l,hl1,hl2,hl3⟩:=qajk h ho1 hp (qaaf hs hss)
 obtain⟨hk2',us,hus,hus0,hsrc⟩:(∀k∈ks',(σ.ent k).isSome=true)∧∃us,us.length=zs.length*U.wd τ∧(∀u∈us,LitOk u)∧Src E.P w t (a.eval x) (U.wd τ) zs.length us:=by
  unfold partNew at ho2
  split at ho2
  ·rename_i k
   split at ho2
   ·rename_i y dead he
    split at ho2
    ·rename_i zs' hz'
     cases ho2
     have:=castArr_some hz'
     subst this
     have he':=qald he
     have h1:a.eval x=kv k:=RA_of (qaaf hx hsx) rfl
     have h2:ROwnP E w F dead ⟨τ,zs⟩ (kv k) (fp k):=h.ents k _ he'
     rw[←h1] at h2
     refine⟨by simp[he'],?_⟩
     rcases h2.rows with⟨h3,⟨ad,h4⟩,h5⟩|⟨b,cap,cur,vs,fl,h3,h4,h5,h6,h7,h8,h9,h10⟩
     ·simp only at h3;subst h3
      exact⟨[],by simp,by simp,by rw[h4];exact Src.slice hu (by simp) (fun hh=>by simp at hh)⟩
     ·simp only at h3 h4 h5 h7 h8 h9
      refine⟨vs,h9.1,h9.2.2.1,?_⟩
      rw[h3]
      refine Src.slice hu (h9.1) (fun _=>⟨b,0,rfl,fun i u hu'=> ?_⟩)
      rw[←h8,zan] at hu'
      split at hu'
      ·rw[cell_of_row w b _ cur _ (0,0) h4];simpa using hu'
      ·cases hu'
    ·cases ho2
   ·cases ho2
  ·cases ho2
 rw[←hsize] at hsrc
 have hlive:∀k∈ks++ks',(σ.ent k).isSome=true:=fun k hk=>(zao.1 hk).elim (hk2 k) (hk2' k)
 have exec:∀{v w1},(Builtin.append_ #[t,t] o.type #[a.eval s,a.eval x]).run E.P w=.ok v w1→(execOp a.eval o).run E.P w=.ok (.value v) w1:=by
  intro v w1 hr
  have ha:cl.args= #[s,x]:=qabq hargs
  have ht:cl.argTypes= #[t,t]:=qabq hty
  unfold execOp;simp only[hop]
  simp[resolve,hcl,ha,ht,invoke,builtin,hr]
 have hmax:∀{n:Nat},n≤4294967296→n≤maxLen:=fun hh=>by simp only[maxLen];omega
 have hnF:∀k∈ks++ks',∀b∈fp k,¬F b:=fun k hk b hb=>by
  obtain⟨e,he⟩:=zag.1 (hlive k hk)
  exact(h.mine k e b he hb).1
 have hWb:∀k∈ks++ks',∀b∈fp k,(pm.W b∨pm.w0.heap.size≤b)∧b<w.heap.size:=fun k hk b hb=>by
  obtain⟨e,he⟩:=zag.1 (hlive k hk)
  exact(h.mine k e b he hb).2
 have hrep:∀(fl:List (List Nat)),(fl++List.replicate (zs.length*U.wd τ) ([]:List Nat)).flatten=fl.flatten:=fun fl=>by rw[zcc,qaer,zch]
 have grow:∀(vs:List Value)(fl:List (List Nat)),RRow E w F true τ xs vs fl→fl.flatten.Nodup→(∀b∈fl.flatten,∃k∈ks,b∈fp k)→
   ∀{cap:Nat}{cur:Array Value}{w1:World},(∀b,b<w.heap.size→w1.heap[b]? =w.heap[b]?)→Upto (fun b=>pm.W b∨pm.w0.heap.size≤b) w w1→w.heap.size<w1.heap.size→
   w1.heap[w.heap.size]? =some (.cells cur (E.tid τ) (0,0))→(xs++zs).length≤cap→cap≤maxLen→cur.size=cap*U.wd τ→cur.toList.take ((xs++zs).length*U.wd τ)=vs++us→
   next (a.put o.dst (.slice (some ⟨w.heap.size,0,none⟩) (xs++zs).length cap)) w1:=by
  intro vs fl h1 h2 h3 cap cur w1 hw1 hup hsz hb hc' hm hcs htk
  have hlt:∀b∈fl.flatten,b<w.heap.size:=fun b hb=>by obtain⟨k,hk,hb⟩:=h3 b hb;exact(hWb k (by simp[hk]) b hb).2
  have hsim:=h.add1 ho hd (.part ⟨τ,xs++zs⟩ (fun i=>Nat.ble xs.length i)) (one (.ref (d,0) [])) (ks++ks') pall (.slice (some ⟨w.heap.size,0,none⟩) (xs++zs).length cap) (.slice (some ⟨w.heap.size,0,none⟩) (xs++zs).length cap) (w.heap.size::fl.flatten) (w':=w1) (F':=F) hfr
   (fun bad=>RS_one ⟨⟨rfl,trivial⟩,.inr (by simp only[RA,qalw];rfl)⟩)
   (fun bad=>by
    have:=ROwnP.of_rows hb hc' hm hcs htk ((h1.keep (fun b' hb'=>⟨hb',hw1 b' (h.Flt b' hb')⟩) (fun b' hb'=>hw1 b' (hlt b' hb'))).dead hus hus0)
    rw[hrep] at this
    exact this)
   (fun b' hb'=>⟨hb',hw1 b' (h.Flt b' hb')⟩) (fun b' hb'=> .inl hb') (fun k e _ he b' hb'=>hw1 b' (qafk h he hb'))
   (zbe.2 ⟨fun hb'=>by have:=hlt _ hb';omega,h2⟩)
   (fun b' hb'=>by
    rcases zak.1 hb' with rfl|hb'
    ·exact⟨fun hF=>by have:=h.Flt _ hF;omega,.inr ⟨zca _,hsz⟩⟩
    ·obtain⟨k,hk,hbk⟩:=h3 b' hb'
     exact⟨hnF k (by simp[hk]) b' hbk,.inl ⟨k,by simp[hk],hk2 k hk,hbk⟩⟩) hup
  exact hn _ _ _ _ _ hsim
 have inplace:∀{b cap:Nat}{cur':Array Value}{vs:List Value}{fl:List (List Nat)}{w1:World},RRow E w F true τ xs vs fl→l=b::fl.flatten→(∀b',b'≠b→w1.heap[b']? =w.heap[b']?)→w1.heap.size=w.heap.size→
   w1.os=w.os→w1.tape=w.tape→w1.output=w.output→w1.heap[b]? =some (.cells cur' (E.tid τ) (0,0))→(xs++zs).length≤cap→cap≤maxLen→cur'.size=cap*U.wd τ→cur'.toList.take ((xs++zs).length*U.wd τ)=vs++us→
   next (a.put o.dst (.slice (some ⟨b,0,none⟩) (xs++zs).length cap)) w1:=by
  intro b cap cur' vs fl w1 hrow hl hw1 hsz hos htp hout hb hc' hm hcs htk
  subst hl
  have hbk:∃k∈ks,b∈fp k:=hl3 b (by simp)
  obtain⟨kb,hkb,hbkb⟩:=hbk
  have hbF:¬F b:=hnF kb (by simp[hkb]) b hbkb
  have hup:Upto (fun b=>pm.W b∨pm.w0.heap.size≤b) w w1:=⟨hos,htp,hout,by omega,fun k hk hnw=>hw1 k (fun e=>hnw (e▸(hWb kb (by simp[hkb]) b hbkb).1))⟩
  have hlive':∀k e,k∉ks++ks'→σ.ent k=some e→∀b'∈fp k,w1.heap[b']? =w.heap[b']? :=fun k e hk he b' hb'=>hw1 b' (fun e'=>by
   subst e'
   obtain⟨eb,heb⟩:=zag.1 (hk2 kb hkb)
   exact h.apart kb k eb e b' (fun e'=>hk (by subst e';simp[hkb])) heb he hbkb hb')
  have hbn:=(zbe.1 hl2).1
  have hsim:=h.add1 ho hd (.part ⟨τ,xs++zs⟩ (fun i=>Nat.ble xs.length i)) (one (.ref (d,0) [])) (ks++ks') pall _ (.slice (some ⟨b,0,none⟩) (xs++zs).length cap) (b::fl.flatten) (w':=w1) (F':=F) hfr
   (fun bad=>RS_one ⟨⟨rfl,trivial⟩,.inr (by simp only[RA,qalw];rfl)⟩)
   (fun bad=>by
    have:=ROwnP.of_rows hb hc' hm hcs htk ((hrow.keep (fun b' hb'=>⟨hb',hw1 b' (fun e=>hbF (e▸hb'))⟩) (fun b' hb'=>hw1 b' (fun e=>hbn (e▸hb')))).dead hus hus0)
    rw[hrep] at this
    exact this)
   (fun b' hb'=>⟨hb',hw1 b' (fun e=>hbF (e▸hb'))⟩) (fun b' hb'=> .inl hb') hlive' hl2
   (fun b' hb'=>by obtain⟨k,hk,hb'⟩:=hl3 b' hb';exact⟨hnF k (by simp[hk]) b' hb',.inl ⟨k,by simp[hk],hk2 k hk,hb'⟩⟩) hup
  exact hn _ _ _ _ _ hsim
 have hus1:∀u∈us,u.oneCell'=true:=fun u hu=>(hus0 u hu).1
 have hfits:(xs.length+zs.length)*i.bytes≤140737488355328:=by
  have:=Nat.mul_le_mul hle hby
  omega
 by_cases hz0:zs.length=0
 ·have hznil:zs=[]:=zbh hz0
  subst hznil
  have husnil:us=[]:=zbh (by simpa using hus)
  rcases hl1.rows with⟨h3,⟨ad',h4⟩,h5⟩|⟨b,cap,cur,vs,fl,h3,h4,h5,h6,h7,h8,h9,h10⟩
  ·simp only at h3;subst h3
   have hr:=exec (v:=.slice ad' 0 0) (w1:=w) (by rw[h4];exact qalm w hu hi _ _ _ (by rw[husnil] at hsrc;exact hsrc) (zca _))
   refine qanv hr ?_
   have hsim:=h.add1 ho hd (.part ⟨τ,[]⟩ (fun i=>Nat.ble ([]:List (U.T τ)).length i)) (one (.ref (d,0) [])) (ks++ks') pall (.slice ad' 0 0) (.slice ad' 0 0) [] (w':=w) (F':=F) hfr
    (fun bad=>RS_one ⟨⟨rfl,trivial⟩,.inr (by simp only[RA,qalw];rfl)⟩) (fun bad=> .inl ⟨rfl,⟨ad',rfl⟩,rfl⟩) (fun b hb=>⟨hb,rfl⟩) (fun b hb=> .inl hb) (fun _ _ _ _ _ _=>rfl) (by simp) (by simp) (Upto.refl _ _)
   exact hn _ _ _ _ _ hsim
  ·simp only at h3 h4 h5 h7 h8 h9
   have hr:=exec (v:=.slice (some ⟨b,0,none⟩) xs.length cap) (w1:=w) (by rw[h3];exact qalm w hu hi _ _ _ (by rw[husnil] at hsrc;exact hsrc) h5)
   refine qanv hr ?_
   have:=inplace (b:=b) (cap:=cap) (cur':=cur) (vs:=vs) (fl:=fl) (w1:=w) h9 h10 (fun _ _=>rfl) rfl rfl rfl rfl h4 (by simpa using h5) h6 h7 (by rw[husnil,zch,zch];exact h8)
   simpa using this
 ·have hlus:us.length=zs.length*i.size:=by rw[hsize];exact hus
  have grown:∀(vs:List Value)(fl:List (List Nat)),vs.length=xs.length*U.wd τ→RRow E w F true τ xs vs fl→fl.flatten.Nodup→(∀b∈fl.flatten,∃k∈ks,b∈fp k)→
    ∀old:Nat,old<xs.length+zs.length→(Builtin.append_ #[t,t] o.type #[a.eval s,a.eval x]).run E.P w=
     .ok (.slice (some ⟨w.heap.size,0,none⟩) (xs.length+zs.length) (grownCap w (xs.length+zs.length) old e)) (w.drew.alloc (.cells (vs.toArray++us.toArray++Builtin.zeroCells z.cells (grownCap w (xs.length+zs.length) old e-(xs.length+zs.length))) e))→
    o.wp E.P a w next Q:=by
   intro vs fl hvl h1 h2 h3 old hold hrun
   refine qanv (exec hrun) ?_
   have hge:=grownCap_ge w (xs.length+zs.length) old e
   have:=grow vs fl h1 h2 h3 (cap:=grownCap w (xs.length+zs.length) old e) (cur:=vs.toArray++us.toArray++Builtin.zeroCells z.cells (grownCap w (xs.length+zs.length) old e-(xs.length+zs.length)))
    (w1:=w.drew.alloc (.cells (vs.toArray++us.toArray++Builtin.zeroCells z.cells (grownCap w (xs.length+zs.length) old e-(xs.length+zs.length))) e))
    (fun b hb=>qaga w.drew _ hb) ((Upto.drew _ _).trans (Upto.alloc _ _ _)) (by simp) (by rw[htid];exact heap_alloc_new w.drew _) (by simpa using hge) (grownCap_le_maxLen w _ old e (hmax hle))
    (by
     simp only[Array.size_append,zdj,size_zeroCells,hzs,hvl,hus,←zci]
     congr 1;omega)
    (by
     have hl2:((xs++zs).length*U.wd τ)=(vs++us).length:=by simp[hvl,hus,zci]
     simp only[Array.toList_append,zbr]
     rw[←zbr,hl2]
     exact List.take_left)
   simpa using this
  rcases hl1.rows with⟨h3,⟨ad',h4⟩,h5⟩|⟨b,cap,cur,vs,fl,h3,h4,h5,h6,h7,h8,h9,h10⟩
  ·simp only at h3;subst h3
   refine grown [] [] (by simp) RRow.nil (by simp) (by simp) 0 (by omega) ?_
   rw[h4]
   simp only[zbo,zbw] at hfits hle⊢
   cases ad' with
   |none=>
    have hr:=qalk (ty:=o.type) w hu hi hz hsrc (by omega) (by omega) (by omega)
    simpa using hr
   |some a'=>
    have hr:=qalj (ty:=o.type) w hu hi hz a' 0 0 [] (by simp) (by simp) hsrc (by omega) (by omega) (growslice_fits (by omega) (by simpa using hfits))
    simpa using hr
  ·simp only at h3 h4 h5 h7 h8 h9
   have hvl:vs.length=xs.length*U.wd τ:=h9.1
   by_cases hroom:xs.length+zs.length≤cap
   ·have hfit:xs.length*i.size+us.length≤cur.size:=by rw[hlus,hsize,h7,←zci];exact zbc _ hroom
    have hr:=qall (ty:=o.type) w hu hi b xs.length cap cur (by rw[←htid];exact h4) hsrc hus1 hroom hfit
    rw[←h3] at hr
    refine qanv (exec hr) ?_
    have:=inplace (b:=b) (cap:=cap) (cur':=(cur.toList.take (xs.length*i.size)++us++cur.toList.drop (xs.length*i.size+us.length)).toArray) (vs:=vs) (fl:=fl)
     (w1:=w.setRow b (cur.toList.take (xs.length*i.size)++us++cur.toList.drop (xs.length*i.size+us.length)).toArray) h9 h10 (fun b' hb'=>setRow_other w b b' _ hb') (by simp) rfl rfl rfl (setRow_heap w b cur _ _ _ h4) (by simpa using hroom) h6
     (by
      simp only[zdj,zce,zaw,zcs,zbn]
      omega)
     (by
      have hl2:((xs++zs).length*U.wd τ)=(vs++us).length:=by simp[hvl,hus,zci]
      rw[hsize,h8,hl2]
      exact List.take_left)
    simpa using this
   ·refine grown vs fl hvl h9 (by rw[h10] at hl2;exact(zbe.1 hl2).2) (fun b' hb'=>hl3 b' (by rw[h10];simp[hb'])) cap (by omega) ?_
    rw[h3]
    refine qalj (ty:=o.type) w hu hi hz ⟨b,0,none⟩ xs.length cap vs (by rw[hsize];exact hvl) (fun j u hu=> ?_) hsrc (by omega) (by omega) (growslice_fits (by omega) hfits)
    rw[Addr.add_mid,zbw,cell_of_row w b _ cur _ (0,0) h4]
    rw[←h8,zan] at hu
    split at hu
    ·simpa using hu
    ·cases hu
theorem qamx(h:Sim E pm F kv fp σ a w){o:Oper}(ho:o.dst=none){t:TypeId}{x y:Operand}(hop:o.op=.store t x y){sx:SV U}{yx:AC U}{z:AV U}{n:Nat}{rs:List Key}{r:Rslt U}
  (hx:RS E w F kv fp (badK σ) sx (a.eval x)) (hac:ac? sx=some yx) (hy:RS E w F kv fp (badK σ) (.v z) (a.eval y)) (hs:E.size t=some n) (hn:n=z.cs.length)
  (hr:storePart (restrict σ.ent rs) z yx=some r) (hp:∀p∈r.pre,p) {next:Act→World→Prop} {Q:Exit→Act→World→Prop}
  (hnx:∀F kv fp a' w',Sim E pm F kv fp (AM.apply o r σ) a' w'→next a' w'):o.wp E.P a w next Q:=by
 have hrd:=qaaf hx hac
 obtain⟨hz1,hz2⟩:=qaaj hy
 unfold storePart at hr
 split at hr
 rotate_left
 ·cases hr
 rename_i k i wd
 split at hr
 rotate_left
 ·cases hr
 rename_i x0 dead he
 have he':=qald he
 rw[zah] at hr
 split at hr
 rotate_left
 ·cases hr
 rename_i hcond
 simp only[zaf] at hcond
 have hwd:=zai hcond.1
 have hzl:=zai hcond.2
 subst hwd
 split at hr
 rotate_left
 ·cases hr
 rename_i qs ds ks htk
 split at hr
 rotate_left
 ·cases hr
 rename_i yv hdec
 rw[zah] at hr
 split at hr
 rotate_left
 ·cases hr
 rename_i hdis
 cases hr
 have hkn:=zbe.1 (qade.1 hdis)
 have hi:i<x0.xs.length:=hp _ (by simp)
 obtain⟨t1,t2,t3,_⟩:=qang h htk (fun q hq=>hp q (by simp[hq])) hz1 hkn.2
 obtain⟨fl,f1,f2,f3,f4⟩:=t3 rfl
 have henc:=U.enc_dec x0.τ ds yv hdec
 have hdl:ds.length=U.wd x0.τ:=by rw[←henc,U.enc_len]
 have hown:ROwnP E w F dead x0 (kv k) (fp k):=h.ents k _ he'
 have hnd:=h.nodup k _ he'
 rcases hown with⟨h0,_⟩|⟨b,cap,cur,vs,fps,h1,hb,hc,hm,hcs,hv,hrr,hdd,hfp⟩
 ·rw[h0] at hi;simp at hi
 obtain⟨bb,oo,nn,cc,hnav,hpv⟩:=RA_of hrd (by simp[badAC])
 simp only[navS] at hnav
 rw[h1] at hnav
 simp only[Value.slice.injEq,zae,Addr.mk.injEq,and_true] at hnav
 obtain⟨⟨e1,e2⟩,_,_⟩:=hnav
 rw[e1,e2,zbw,zcv] at hpv
 have hN:i*U.wd x0.τ+U.wd x0.τ≤x0.xs.length*U.wd x0.τ:=by
  have:(i+1)*U.wd x0.τ≤x0.xs.length*U.wd x0.τ:=zbc _ hi
  rw[zci,zdw] at this
  exact this
 have hNc:x0.xs.length*U.wd x0.τ≤cap*U.wd x0.τ:=zbc _ hc
 have hnw:n=U.wd x0.τ:=by rw[hn,hzl]
 have hcz:(a.eval y).cells.toList.length=U.wd x0.τ:=by rw[zbn,hz2,hzl]
 have hrun:=qamv (P:=E.P) (n:=n) (off:=i*U.wd x0.τ) (v:=a.eval y) hs (by rw[hz2];exact hn.symm) hz1.oneCell hb (by rw[hcs,hnw];omega)
 rw[←hpv] at hrun
 have exec:(execOp a.eval o).run E.P w=.ok .skip (w.setRow b (cur.toList.take (i*U.wd x0.τ)++(a.eval y).cells.toList++cur.toList.drop (i*U.wd x0.τ+n)).toArray):=by
  unfold execOp;simp only[hop]
  rw[Sem.run_bind,hrun];rfl
 have hbk:b∈fp k:=by rw[hfp];simp
 have hmk:=h.mine k _ b he' hbk
 rw[hfp] at hnd
 obtain⟨hbn,hnf⟩:=zbe.1 hnd
 have hput:∀m,(cur.toList.take (i*U.wd x0.τ)++(a.eval y).cells.toList++cur.toList.drop (i*U.wd x0.τ+n)).toArray[m]? =
   if i*U.wd x0.τ≤m∧m<i*U.wd x0.τ+U.wd x0.τ then(a.eval y).cells.toList[m-i*U.wd x0.τ]? else cur[m]? :=by
  intro m
  have hlt:(cur.toList.take (i*U.wd x0.τ)).length=i*U.wd x0.τ:=by rw[zaw,zbn,hcs];omega
  rw[zed,zbr]
  by_cases h2:m<i*U.wd x0.τ
  ·rw[zaq (by omega),zan,if_pos h2,if_neg (by omega),zbx]
  ·rw[zap (by omega),hlt]
   by_cases h3:m<i*U.wd x0.τ+U.wd x0.τ
   ·rw[if_pos ⟨by omega,h3⟩,zaq (by omega)]
   ·rw[if_neg (by omega),zap (by omega),zbv,hcz,hnw,zbx]
    congr 1;omega
 have hyget:∀j,j<U.wd x0.τ→(a.eval y).cells.toList[j]? =some ((a.eval y).cells.toList.getD j undef):=fun j hj=>getD_of_lt (by rw[hcz];exact hj)
 have hylit:∀j,j<U.wd x0.τ→LitOk ((a.eval y).cells.toList.getD j undef):=fun j hj=>by
  obtain⟨c,hcj⟩:∃c,ds[j]? =some c:=⟨ds[j]'(by rw[hdl];exact hj),zad _⟩
  exact(f2 j c hcj).oneCell
 let vs':Nat→Value:=fun m=>if i*U.wd x0.τ≤m∧m<i*U.wd x0.τ+U.wd x0.τ then(a.eval y).cells.toList.getD (m-i*U.wd x0.τ) undef else vs m
 let fps':Nat→List Nat:=fun m=>if i*U.wd x0.τ≤m∧m<i*U.wd x0.τ+U.wd x0.τ then fl.getD (m-i*U.wd x0.τ) [] else fps m
 have hvin:∀j,j<U.wd x0.τ→vs' (i*U.wd x0.τ+j)=(a.eval y).cells.toList.getD j undef∧fps' (i*U.wd x0.τ+j)=fl.getD j []:=fun j hj=>by
  simp only[vs',fps']
  rw[if_pos ⟨by omega,by omega⟩,if_pos ⟨by omega,by omega⟩,show i*U.wd x0.τ+j-i*U.wd x0.τ=j by omega]
  exact⟨rfl,rfl⟩
 have hvout:∀m,¬(i*U.wd x0.τ≤m∧m<i*U.wd x0.τ+U.wd x0.τ)→vs' m=vs m∧fps' m=fps m:=fun m hm=>⟨if_neg hm,if_neg hm⟩
 have hout:∀{q j},j<U.wd x0.τ→q≠i→¬(i*U.wd x0.τ≤q*U.wd x0.τ+j∧q*U.wd x0.τ+j<i*U.wd x0.τ+U.wd x0.τ):=fun{q j} hj hq hin=>
  hq (qacj hj (show q*U.wd x0.τ+j-i*U.wd x0.τ<U.wd x0.τ by omega) (by omega)).1
 have hflm:∀j b',b'∈fl.getD j []→b'∈fl.flatten:=fun j b' hb'=>by
  rcases zba j fl.length with g|g
  ·rw[zac,zad g] at hb'
   exact zdq.2 ⟨_,zda g,hb'⟩
  ·rw[zac,zaj g] at hb';cases hb'
 have hflw:fl.length=U.wd x0.τ:=by rw[f1,hdl]
 have hkso:∀b',b'∈fl.flatten→b'∉fp k:=fun b' hb' hbk'=>by
  obtain⟨k',hk',hb''⟩:=f4 b' hb'
  obtain⟨e',hee'⟩:=zag.1 (t2 k' hk')
  exact h.apart k' k e' _ b' (fun e=>hkn.1 (e▸hk')) hee' he' hb'' hbk'
 have hfpm:∀m,m<x0.xs.length*U.wd x0.τ→∀b',b'∈fps m→b'∈fp k:=fun m hm b' hb'=>by
  rw[hfp];exact zaa _ (zat.2 ⟨m,zay.2 hm,hb'⟩)
 have hin:∀b'∈b::(List.range (x0.xs.length*U.wd x0.τ)).flatMap fps',b'∈fl.flatten∨b'∈fp k:=by
  intro b' hb'
  rcases zak.1 hb' with rfl|hb'
  ·exact .inr hbk
  ·obtain⟨m,hm',hb'⟩:=zat.1 hb'
   rw[zay] at hm'
   by_cases hin:i*U.wd x0.τ≤m∧m<i*U.wd x0.τ+U.wd x0.τ
   ·have:=(hvin (m-i*U.wd x0.τ) (by omega)).2
    rw[show i*U.wd x0.τ+(m-i*U.wd x0.τ)=m by omega] at this
    rw[this] at hb'
    exact .inl (hflm _ b' hb')
   ·rw[(hvout m hin).2] at hb'
    exact .inr (hfpm m hm' b' hb')
 have hnd':(b::(List.range (x0.xs.length*U.wd x0.τ)).flatMap fps').Nodup:=by
  refine zbe.2 ⟨fun hb'=> ?_,?_⟩
  ·obtain⟨m,hm',hb'⟩:=zat.1 hb'
   rw[zay] at hm'
   by_cases hin:i*U.wd x0.τ≤m∧m<i*U.wd x0.τ+U.wd x0.τ
   ·have:=(hvin (m-i*U.wd x0.τ) (by omega)).2
    rw[show i*U.wd x0.τ+(m-i*U.wd x0.τ)=m by omega] at this
    rw[this] at hb'
    exact hkso b (hflm _ b hb') hbk
   ·rw[(hvout m hin).2] at hb'
    exact hbn (zat.2 ⟨m,zay.2 hm',hb'⟩)
  ·rw[qaep hflw] at f3
   rw[zdg,List.pairwise_flatMap]
   refine⟨fun m hm'=> ?_,?_⟩
   ·rw[←zdg]
    rw[zay] at hm'
    by_cases hin:i*U.wd x0.τ≤m∧m<i*U.wd x0.τ+U.wd x0.τ
    ·have:=(hvin (m-i*U.wd x0.τ) (by omega)).2
     rw[show i*U.wd x0.τ+(m-i*U.wd x0.τ)=m by omega] at this
     rw[this]
     exact qaeo f3 (t:=m-i*U.wd x0.τ) (zay.2 (by omega))
    ·rw[(hvout m hin).2]
     exact qaeo hnf (zay.2 hm')
   ·refine List.Pairwise.imp_of_mem ?_ (List.nodup_range (n:=x0.xs.length*U.wd x0.τ))
    intro m m' hm1 hm2 hne b1 hb1 b2 hb2 he2
    subst he2
    rw[zay] at hm1 hm2
    by_cases hin:i*U.wd x0.τ≤m∧m<i*U.wd x0.τ+U.wd x0.τ
    ·have e1:=(hvin (m-i*U.wd x0.τ) (by omega)).2
     rw[show i*U.wd x0.τ+(m-i*U.wd x0.τ)=m by omega] at e1
     rw[e1] at hb1
     by_cases hin':i*U.wd x0.τ≤m'∧m'<i*U.wd x0.τ+U.wd x0.τ
     ·have e2:=(hvin (m'-i*U.wd x0.τ) (by omega)).2
      rw[show i*U.wd x0.τ+(m'-i*U.wd x0.τ)=m' by omega] at e2
      rw[e2] at hb2
      exact qaem f3 (t:=m-i*U.wd x0.τ) (t':=m'-i*U.wd x0.τ) (zay.2 (by omega)) (zay.2 (by omega)) (fun e=>hne (by omega)) hb1 hb2
     ·rw[(hvout m' hin').2] at hb2
      exact hkso b1 (hflm _ b1 hb1) (hfpm m' hm2 b1 hb2)
    ·rw[(hvout m hin).2] at hb1
     by_cases hin':i*U.wd x0.τ≤m'∧m'<i*U.wd x0.τ+U.wd x0.τ
     ·have e2:=(hvin (m'-i*U.wd x0.τ) (by omega)).2
      rw[show i*U.wd x0.τ+(m'-i*U.wd x0.τ)=m' by omega] at e2
      rw[e2] at hb2
      exact hkso b1 (hflm _ b1 hb2) (hfpm m hm1 b1 hb1)
     ·rw[(hvout m' hin').2] at hb2
      exact qaem hnf (zay.2 hm1) (zay.2 hm2) hne hb1 hb2
 have hF':∀b',F b'→F b'∧(w.setRow b (cur.toList.take (i*U.wd x0.τ)++(a.eval y).cells.toList++cur.toList.drop (i*U.wd x0.τ+n)).toArray).heap[b']? =w.heap[b']? :=fun b' hb'=>
  ⟨hb',setRow_other w b b' _ (fun e=>hmk.1 (e▸hb'))⟩
 have hoth:∀b',b'≠b→(w.setRow b (cur.toList.take (i*U.wd x0.τ)++(a.eval y).cells.toList++cur.toList.drop (i*U.wd x0.τ+n)).toArray).heap[b']? =w.heap[b']? :=fun b' hb'=>setRow_other w b b' _ hb'
 refine qant exec (hnx F kv (setKey fp k (b::(List.range (x0.xs.length*U.wd x0.τ)).flatMap fps')) _ _ (h.upd1 ho k _ _ he' ks _ _ hkn.1 ?_ hF' (fun b' hb'=> .inl hb') ?_ hnd' ?_ ?_))
 ·intro bad hst
  show ROwnP E _ F _ ⟨x0.τ,x0.xs.set i yv⟩ (kv k) _
  refine .inr ⟨b,cap,_,vs',fps',by rw[h1,zcu],setRow_heap w b cur _ _ _ hb,by rw[zcu];exact hc,hm,?_,fun m hm'=> ?_,fun q xq j c hq hxq hj=> ?_,fun q j hq hj=> ?_,by rw[zcu]⟩
  ·simp only[zdj,zce,zaw,zcs,zbn]
   have:=hcz
   rw[zbn] at this
   rw[this,hcs,hnw];omega
  ·simp only[zcu] at hm'
   rw[hput m]
   by_cases hin:i*U.wd x0.τ≤m∧m<i*U.wd x0.τ+U.wd x0.τ
   ·have e1:=(hvin (m-i*U.wd x0.τ) (by omega)).1
    rw[show i*U.wd x0.τ+(m-i*U.wd x0.τ)=m by omega] at e1
    rw[if_pos hin,e1]
    exact⟨hyget _ (by omega),hylit _ (by omega)⟩
   ·rw[if_neg hin,(hvout m hin).1]
    exact hv m hm'
  ·have hjw:j<U.wd x0.τ:=by
    rw[←U.enc_len x0.τ xq]
    rcases zba j (U.enc x0.τ xq).length with g|g
    ·exact g
    ·have hj':(U.enc x0.τ xq)[j]? =some c:=hj
     rw[zaj g] at hj';cases hj'
   by_cases hqi:q=i
   ·subst hqi
    have hxq':xq=yv:=by
     have hxq':(x0.xs.set q yv)[q]? =some xq:=hxq
     rw[zdh,if_pos rfl,if_pos hi] at hxq'
     exact(zdx hxq').symm
    have hj:(U.enc x0.τ xq)[j]? =some c:=hj
    rw[hxq'] at hj
    show Rp E _ F true c (vs' (q*U.wd x0.τ+j)) (fps' (q*U.wd x0.τ+j))
    rw[(hvin j hjw).1,(hvin j hjw).2]
    have hj':ds[j]? =some c:=by rw[←henc];exact hj
    refine(f2 j c hj').keep hF' (fun b' hb'=>hoth b' (fun e=> ?_))
    exact hkso b' (hflm j b' hb') (e▸hbk)
   ·show Rp E _ F true c (vs' (q*U.wd x0.τ+j)) (fps' (q*U.wd x0.τ+j))
    have hno:=hout hjw hqi
    rw[(hvout _ hno).1,(hvout _ hno).2]
    have hxq':x0.xs[q]? =some xq:=by
     have hxq':(x0.xs.set i yv)[q]? =some xq:=hxq
     rw[zdh,if_neg (fun e=>hqi e.symm)] at hxq'
     exact hxq'
    have hdq:dead q=false:=by
     have hq:(!(Nat.beq q i)&&dead q)=false:=hq
     have hb0:Nat.beq q i=false:=by rw[←zbj,zdn];exact hqi
     rw[hb0] at hq
     simpa using hq
    refine(hrr q xq j c hdq hxq' hj).keep hF' (fun b' hb'=>hoth b' (fun e=> ?_))
    subst e
    exact hbn (zat.2 ⟨_,zay.2 (row_lt hxq' hj),hb'⟩)
  ·have hq2:¬q=i∧dead q=true:=by
    have hq:(!(Nat.beq q i)&&dead q)=true:=hq
    rw[zaf,zbd,←zbj,zdn] at hq
    exact hq
   show fps' (q*U.wd x0.τ+j)=[]
   have hno:=hout hj hq2.1
   rw[(hvout _ hno).2]
   exact hdd q j hq2.2 hj
 ·intro k' e' hk' hk2 he2 b' hb'
  exact hoth b' (fun e=>h.apart k' k _ _ b' hk' he2 he' hb' (by rw[e];exact hbk))
 ·intro b' hb'
  rcases hin b' hb' with g|g
  ·obtain⟨k',hk',hb''⟩:=f4 b' g
   obtain⟨e',hee'⟩:=zag.1 (t2 k' hk')
   exact⟨(h.mine k' e' b' hee' hb'').1,k',by simp[hk'],t2 k' hk',hb''⟩
  ·exact⟨(h.mine k _ b' he' g).1,k,by simp,by simp[he'],g⟩
 ·exact⟨rfl,rfl,rfl,by simp,fun b' _ hnw=>hoth b' (fun e=>hnw (by rw[e];exact hmk.2.1))⟩
end AM
