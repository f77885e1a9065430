/- THE ABSTRACT MACHINE: append. -/
import Derived.Test.YtceiiofmelhipaaGreatAmOps6
namespace AM
set_option linter.unusedVariables false
open Go
variable{U:Uni}{E:Env U}{pm:Pm}
variable{F F':Nat→Prop}{kv:Key→Value}{fp:Key→List Nat}{σ:AState U}{a:Act}{w w':World}{bad:Key→Bool}
theorem castArr_some{τ:U.Ty}{x:Arr U}{ys:List (U.T τ)}(h:castArr τ x=some ys):x=⟨τ,ys⟩:=by
 obtain⟨τ',xs⟩:=x
 unfold castArr at h
 cases hd:U.deq τ' τ with
 |isFalse he=>simp only[hd] at h;cases h
 |isTrue he=>
  simp only[hd] at h
  subst he
  cases h
  rfl
theorem Rp.false_fp{w:World}{F:Nat→Prop}{c:U.C}{v:Value}{l:List Nat}(h:Rp E w F false c v l):l=[]:=by
 generalize hm:false=m at h
 cases h with
 |lit=>rfl
 |nil=>rfl
 |shr=>rfl
 |own=>cases hm
theorem RRow.false_fl{τ:U.Ty}{xs:List (U.T τ)}{vs:List Value}{fl:List (List Nat)}(h:RRow E w F false τ xs vs fl):fl.flatten=[]:=by
 refine List.flatten_eq_nil_iff.2 fun l hl=> ?_
 obtain⟨n,hn,rfl⟩:=zbk hl
 have hw:=U.wd_pos τ
 have hi:n/U.wd τ<xs.length:=(Nat.div_lt_iff_lt_mul hw).2 (by rw[←h.2.1];exact hn)
 have hj:n%U.wd τ<U.wd τ:=Nat.mod_lt _ hw
 have:=h.2.2 (n/U.wd τ) xs[n/U.wd τ] (n%U.wd τ) ((U.enc τ xs[n/U.wd τ])[n%U.wd τ]'(by rw[U.enc_len];exact hj)) (zad hi) (zad _)
 have he:n/U.wd τ*U.wd τ+n%U.wd τ=n:=by rw[zec];exact Nat.div_add_mod n _
 rw[he,zac (l:=fl),zad hn] at this
 exact this.false_fp
structure Src(P:Program)(w:World)(u:TypeId)(x:Value)(size n:Nat)(us:List Value):Prop where
 ut:(∃e,P.underlying u=some (.slice e))∨P.underlying u=some .string
 len:∀w',(Builtin.lenOf x).run P w'=.ok n w'
 first:(Builtin.firstCells size n x).run P w=.ok us.toArray w
 first':(Builtin.firstCells size n x).run P w.drew=.ok us.toArray w.drew
theorem qalm{P:Program}(w:World){t u ty e:TypeId}{i:TypeInfo}(ht:P.underlying t=some (.slice e))(hi:P.info? e=some i)(base:Option Addr)(n cap:Nat){x:Value}(h:Src P w u x i.size 0 [])(hc:n≤cap):
  (Builtin.append_ #[t,u] ty #[.slice base n cap,x]).run P w=.ok (.slice base n cap) w:=by
 have hut:=h.ut
 have h1:=h.len
 have h2:=h.first
 rcases hut with⟨e',hu⟩|hu<;>cases base<;>simp[Builtin.append_,run_underlying ht,run_underlying hu,Go.sizeOf,typeInfo,hi,h1,hc,h2,storeCells]
theorem qalk{P:Program}(w:World){t u ty e:TypeId}{i:TypeInfo}{z:Value}(ht:P.underlying t=some (.slice e))(hi:P.info? e=some i)(hz:i.zero=some z)
  {n:Nat} {us:List Value} {x:Value} (h:Src P w u x i.size n us)
  (h0:0<n) (h63:(n:Int)≤9223372036854775807) (h48:n*i.bytes≤281474976710656):
  (Builtin.append_ #[t,u] ty #[.slice none 0 0,x]).run P w=
   .ok (.slice (some ⟨w.heap.size,0,none⟩) n (grownCap w n 0 e)) (w.drew.alloc (.cells (us.toArray++Builtin.zeroCells z.cells (grownCap w n 0 e-n)) e)):=by
 have hut:=h.ut
 have h1:=h.len
 have h2:=h.first'
 have hn:n≠0:=by omega
 have h63':¬(9223372036854775807<(n:Int)):=by omega
 have h48':¬(281474976710656<Builtin.nextslicecap n 0*i.bytes):=by rw[nextslicecap_zero h0];omega
 rcases hut with⟨e',hu⟩|hu<;>simp[Builtin.append_,run_underlying ht,run_underlying hu,Go.sizeOf,typeInfo,zeroValue,hi,hz,h1,hn,h63',h48',Question.forced,run_firstCells_none,h2,newRow,grownCap]
theorem qalj{P:Program}(w:World){t u ty e:TypeId}{i:TypeInfo}{z:Value}(ht:P.underlying t=some (.slice e))(hi:P.info? e=some i)(hz:i.zero=some z)
  (b:Addr) (sLen sCap:Nat) (olds:List Value) (hlo:olds.length=sLen*i.size) (holds:∀j v,olds[j]? =some v→w.cell? (b.add j)=some v)
  {n:Nat} {us:List Value} {x:Value} (h:Src P w u x i.size n us)
  (hg:sCap<sLen+n) (h63:((sLen+n:Nat):Int)≤9223372036854775807) (hfit:Builtin.nextslicecap (sLen+n) sCap*i.bytes≤281474976710656):
  (Builtin.append_ #[t,u] ty #[.slice (some b) sLen sCap,x]).run P w=
   .ok (.slice (some ⟨w.heap.size,0,none⟩) (sLen+n) (grownCap w (sLen+n) sCap e))
    (w.drew.alloc (.cells (olds.toArray++us.toArray++Builtin.zeroCells z.cells (grownCap w (sLen+n) sCap e-(sLen+n))) e)):=by
 have hut:=h.ut
 have h1:=h.len
 have h2:=h.first'
 have hn:¬(sLen+n≤sCap):=by omega
 have h63':¬(9223372036854775807<((sLen:Int)+(n:Int))):=by omega
 have h48':¬(281474976710656<Builtin.nextslicecap (sLen+n) sCap*i.bytes):=by omega
 have hfo:=run_firstCells_some (P:=P) w.drew i.size sLen b sLen sCap olds hlo (by simpa using holds)
 rcases hut with⟨e',hu⟩|hu<;>
   (simp[Builtin.append_,run_underlying ht,run_underlying hu,Go.sizeOf,typeInfo,zeroValue,hi,hz,h1,hn,h63',h48',Question.forced,h2,hfo,newRow,grownCap]
    congr 2
    apply Array.ext'
    simp[zbr])
theorem qall{P:Program}(w:World){t u ty e:TypeId}{i:TypeInfo}(ht:P.underlying t=some (.slice e))(hi:P.info? e=some i)
  (g sLen sCap:Nat) (cur:Array Value) (hg:w.heap[g]? =some (.cells cur e (0,0)))
  {m:Nat} {us:List Value} {x:Value} (h:Src P w u x i.size m us) (h1:∀u∈us,u.oneCell'=true)
  (hroom:sLen+m≤sCap) (hfit:sLen*i.size+us.length≤cur.size):
  (Builtin.append_ #[t,u] ty #[.slice (some ⟨g,0,none⟩) sLen sCap,x]).run P w=
   .ok (.slice (some ⟨g,0,none⟩) (sLen+m) sCap) (w.setRow g (cur.toList.take (sLen*i.size)++us++cur.toList.drop (sLen*i.size+us.length)).toArray):=by
 have hut:=h.ut
 have h1':=h.len
 have hf:=h.first
 have hst:=run_storeCells_at P g (sLen*i.size) e us 0 cur w hg (by simpa using hfit) h1
 simp only[zcv] at hst
 rcases hut with⟨e',hu⟩|hu<;>simp[Builtin.append_,run_underlying ht,run_underlying hu,Go.sizeOf,typeInfo,hi,h1',hroom,hf,Addr.add_lit,hst]
theorem Src.slice{P:Program}{w:World}{t e:TypeId}(ht:P.underlying t=some (.slice e)){size n c:Nat}{ad:Option Addr}{us:List Value}(hl:us.length=n*size)
  (h:0<n→∃b off,ad=some ⟨b,off,none⟩∧∀i u,us[i]? =some u→w.cell? ⟨b,off+i,none⟩=some u):Src P w t (.slice ad n c) size n us:=by
 refine⟨.inl ⟨_,ht⟩,fun w'=>rfl,?_,?_⟩
 ·by_cases hn:0<n
  ·obtain⟨b,off,rfl,h2⟩:=h hn
   exact run_firstCells_some (P:=P) w size n ⟨b,off,none⟩ n c us hl (fun j u hu=>by rw[Addr.add_mid];exact h2 j u hu)
  ·have:n=0:=by omega
   subst this
   have:us=[]:=zbh (by simpa using hl)
   subst this
   cases ad<;>simp[Builtin.firstCells,loadCells,loadCellsFrom]
 ·by_cases hn:0<n
  ·obtain⟨b,off,rfl,h2⟩:=h hn
   exact run_firstCells_some (P:=P) w.drew size n ⟨b,off,none⟩ n c us hl (fun j u hu=>by rw[Addr.add_mid];exact h2 j u hu)
  ·have:n=0:=by omega
   subst this
   have:us=[]:=zbh (by simpa using hl)
   subst this
   cases ad<;>simp[Builtin.firstCells,loadCells,loadCellsFrom]
theorem Src.string{P:Program}{w:World}{u:TypeId}(hu:P.underlying u=some .string){size:Nat}(s:ByteArray):Src P w u (.string s) size s.size (s.data.toList.map fun b=>Value.int .u8 (b.toNat:Int)):=by
 have hx:(Array.map (fun b:UInt8=>Value.int IntKind.u8 (b.toNat:Int)) (s.extract 0 s.size).data)=(s.data.toList.map fun b=>Value.int .u8 (b.toNat:Int)).toArray:=by
  have:s.extract 0 s.size=s:=ByteArray.extract_zero_size
  rw[this]
  apply Array.ext'
  simp
 refine⟨.inr hu,fun w'=>rfl,?_,?_⟩
 ·simp only[Builtin.firstCells,hx];rfl
 ·simp only[Builtin.firstCells,hx];rfl
theorem qaiw(h:Sim E pm F kv fp σ a w){τ:U.Ty}{rs:List Key}{x:AC U}{v:Value}{ps:List Prop}{ys:List (U.T τ)}{ks:List Key}{d:Bool}
  (hn:newsOf0 τ (restrict σ.ent rs) x=some (ps,ys,ks,d)) (hx:RD E w F kv fp (badK σ) x v):
  ks.Nodup∧(∀k∈ks,(σ.ent k).isSome=true)∧∃ad c us,v=.slice ad ys.length c∧
   (d=true→∃fl,RRow E w F true τ ys us fl∧fl.flatten.Nodup∧∀b∈fl.flatten,∃k∈ks,b∈fp k)∧
   (∃fl,RRow E w (FK F fp ks) false τ ys us fl∧fl.flatten=[])∧
   (0<ys.length→∃b off,ad=some ⟨b,off,none⟩∧∀i u,us[i]? =some u→w.cell? ⟨b,off+i,none⟩=some u):=by
 unfold newsOf0 at hn
 split at hn
 ·cases hn
  obtain⟨ad,h1⟩:=RA_of hx rfl
  exact⟨by simp,by simp,ad,0,[],h1,fun _=>⟨[],RRow.nil,by simp,by simp⟩,⟨[],RRow.nil,rfl⟩,fun h=>by simp at h⟩
 ·rename_i k
  split at hn
  ·rename_i y d' he
   split at hn
   ·rename_i zs hz
    cases hn
    have:=castArr_some hz
    subst this
    have he':=qald he
    have h1:v=kv k:=RA_of hx rfl
    have h2:ROwn E w F d ⟨τ,ys⟩ (kv k) (fp k):=h.ents k _ he'
    rw[←h1] at h2
    have hnd:=h.nodup k _ he'
    rcases h2.rows with⟨h3,⟨ad,h4⟩,h5⟩|⟨b,cap,cur,vs,fl,h3,h4,h5,h6,h7,h8,h9,h10⟩
    ·simp only at h3;subst h3
     exact⟨by simp,by simp[he'],ad,0,[],h4,fun _=>⟨[],RRow.nil,by simp,by simp⟩,⟨[],RRow.nil,rfl⟩,fun h=>by simp at h⟩
    ·simp only at h3 h4 h5 h7 h8 h9
     rw[h10] at hnd
     refine⟨by simp,by simp[he'],some ⟨b,0,none⟩,cap,vs,h3,fun hd=> ?_,?_,fun _=>⟨b,0,rfl,fun i u hu=> ?_⟩⟩
     ·subst hd
      exact⟨fl,h9,(zbe.1 hnd).2,fun b' hb'=>⟨k,by simp,by rw[h10];simp[hb']⟩⟩
     ·exact⟨_,h9.share (F':=FK F fp [k]) (fun b hb=> .inl hb) (fun b' hb'=> .inr ⟨k,by simp,by rw[h10];simp[hb']⟩),qaer _⟩
     ·rw[←h8,zan] at hu
      split at hu
      ·rw[cell_of_row w b _ cur _ (0,0) h4];simpa using hu
      ·cases hu
   ·cases hn
  ·cases hn
 ·rename_i τ' ys'
  split at hn
  ·rename_i zs hz
   cases hn
   have:=castArr_some hz
   cases this
   have h1:Rp E w F false _ _ _:=RA_of hx rfl
   have lits:U.flat τ=true→∀{F:Nat→Prop}{m:Bool}{x:U.T τ}{j:Nat}{c:U.C}{u:Value}{l:List Nat},(U.enc τ x)[j]? =some c→Rp E w F m c u l→Rp E w F true c u []:=by
    intro hfl F m x j c u l hj hr
    obtain⟨v,rfl⟩:=U.flat_ok τ hfl x c (zbl hj)
    generalize hc:(Cell.lit v:U.C)=c at hr
    cases hr with
    |lit _ _ hv=>cases hc;exact .lit _ _ hv
    |nil=>cases hc
    |shr=>cases hc
    |own=>cases hc
   rcases h1.inv with⟨h0,ad,c,rfl⟩|⟨b,off,cap,vs,rfl,hF,hc,hv,hr⟩
   ·subst h0
    exact⟨by simp,by simp,ad,c,[],rfl,fun _=>⟨[],RRow.nil,by simp,by simp⟩,⟨[],RRow.nil,rfl⟩,fun h=>by simp at h⟩
   ·have hrow:∀(m:Bool)(F':Nat→Prop),(∀i x j c,ys[i]? =some x→(U.enc τ x)[j]? =some c→Rp E w F' m c (vs (i*U.wd τ+j)) [])→RRow E w F' m τ ys ((List.range (ys.length*U.wd τ)).map vs) (List.replicate (ys.length*U.wd τ) []):=by
     intro m F' hh
     refine⟨by simp,by simp,fun i x j c hx hj=> ?_⟩
     have hlt:=row_lt hx hj
     rw[qafs,zac,zal,zcl hlt]
     exact hh i x j c hx hj
    refine⟨by simp,by simp,some ⟨b,off,none⟩,cap,(List.range (ys.length*U.wd τ)).map vs,rfl,fun hd=> ?_,?_,fun _=>⟨b,off,rfl,fun i u hu=> ?_⟩⟩
    ·exact⟨_,hrow true F (fun i x j c hx hj=>lits hd hj (hr i x j c hx hj)),by rw[qaer];simp,by rw[qaer];simp⟩
    ·exact⟨_,hrow false _ (fun i x j c hx hj=>(hr i x j c hx hj).widen (fun b hb=> .inl hb)),qaer _⟩
    ·rw[zal] at hu
     by_cases hi:i<ys.length*U.wd τ
     ·rw[zcl hi] at hu
      cases hu
      exact hv i hi
     ·rw[zaj (by simp;omega)] at hu;cases hu
  ·cases hn
 ·cases hn
theorem qaad{x:AC U}{v:Value}{bad:Key→Bool}(h:RD E w F kv fp bad x v):RD E w F kv fp bad (unkn x) v:=by
 cases x with
 |kn b τ xs=>
  refine⟨h.1,?_⟩
  rcases h.2 with g|g
  ·simp[badAC] at g
  ·exact .inr g.1
 |c _=>exact h
 |e0=>exact h
 |ref _ _=>exact h
 |sub _ _ _ _=>exact h
 |eptr _ _ _ _ _=>exact h
 |bptr _ _=>exact h
 |ia _=>exact h
theorem qaix(h:Sim E pm F kv fp σ a w){τ:U.Ty}{rs:List Key}{x:AC U}{v:Value}{ps:List Prop}{ys:List (U.T τ)}{ks:List Key}{d:Bool}
  (hn:newsOf τ (restrict σ.ent rs) x=some (ps,ys,ks,d)) (hx:RD E w F kv fp (badK σ) x v):
  ks.Nodup∧(∀k∈ks,(σ.ent k).isSome=true)∧∃ad c us,v=.slice ad ys.length c∧
   (d=true→∃fl,RRow E w F true τ ys us fl∧fl.flatten.Nodup∧∀b∈fl.flatten,∃k∈ks,b∈fp k)∧
   (∃fl,RRow E w (FK F fp ks) false τ ys us fl∧fl.flatten=[])∧
   (0<ys.length→∃b off,ad=some ⟨b,off,none⟩∧∀i u,us[i]? =some u→w.cell? ⟨b,off+i,none⟩=some u):=
 qaiw h hn (qaad hx)
theorem qajk(h:Sim E pm F kv fp σ a w){τ:U.Ty}{rs:List Key}{x:AC U}{v:Value}{ps:List Prop}{xs:List (U.T τ)}{ks:List Key}{d:Bool}
  (hn:oldsOf τ (restrict σ.ent rs) x=some (ps,xs,ks,d)) (hp:∀p∈ps,p) (hx:RD E w F kv fp (badK σ) x v):
  ks.Nodup∧(∀k∈ks,(σ.ent k).isSome=true)∧∃l,ROwn E w F d ⟨τ,xs⟩ v l∧l.Nodup∧∀b∈l,∃k∈ks,b∈fp k:=by
 unfold oldsOf at hn
 split at hn
 ·cases hn
  obtain⟨ad,h1⟩:=RA_of hx rfl
  exact⟨by simp,by simp,[],.inl ⟨rfl,⟨ad,h1⟩,rfl⟩,by simp,by simp⟩
 ·rename_i k
  split at hn
  ·rename_i y d' he
   split at hn
   ·rename_i zs hz
    cases hn
    have:=castArr_some hz
    subst this
    have he':=qald he
    have h1:v=kv k:=RA_of hx rfl
    subst h1
    exact⟨by simp,by simp[he'],fp k,h.ents k _ he',h.nodup k _ he',fun b hb=>⟨k,by simp,hb⟩⟩
   ·cases hn
  ·cases hn
 ·rename_i k wd hi
  split at hn
  ·rename_i y d' he
   split at hn
   ·rename_i zs hz
    cases hn
    have:=castArr_some hz
    subst this
    have he':=qald he
    obtain⟨h1,_⟩:=RA_of hx rfl
    subst h1
    obtain⟨l,h3,h4⟩:=ROwn.take (wd:=wd) (hi:=hi) (h.ents k _ he':ROwn E w F d ⟨τ,zs⟩ (kv k) (fp k)) (hp _ (by simp))
    exact⟨by simp,by simp[he'],l,h3,h4.nodup (h.nodup k _ he'),fun b hb=>⟨k,by simp,h4.subset hb⟩⟩
   ·cases hn
  ·cases hn
 ·cases hn
theorem qaay(hE:E.Ok)(h:Sim E pm F kv fp σ a w){o:Oper}{d:Nat}(ho:o.dst=some d)(hd:d<σ.n){cl:Call}{t e:TypeId}{s x:Operand}(hop:o.op=.call cl)(hcl:cl.callee=.builtin .append)
  (hargs:cl.args.toList=[s,x]) {u:TypeId} (hty:cl.argTypes.toList=[t,u]) {τ:U.Ty} (hel:E.elem t=some e) (hc:E.code e=some τ) {ss:SV U} {ys:AC U}
  (hs:RS E w F kv fp (badK σ) ss (a.eval s)) (hss:ac? ss=some ys)
  {rs:List Key} {ps:List Prop} {xs zs:List (U.T τ)} {ks ks':List Key} {d1 d2:Bool} {pall:List Prop} {us:List Value}
  (ho1:oldsOf τ (restrict σ.ent rs) ys=some (ps,xs,ks,d1)) (hk2':∀k∈ks',(σ.ent k).isSome=true) (hsrc:Src E.P w u (a.eval x) (U.wd τ) zs.length us)
  (hn1:d2=true→∃fl,RRow E w F true τ zs us fl∧fl.flatten.Nodup∧∀b∈fl.flatten,∃k∈ks',b∈fp k) (hn2:∃fl,RRow E w (FK F fp ks') false τ zs us fl∧fl.flatten=[]) (hp:∀p∈ps,p) (hks:(ks++ks').Nodup) (hle:xs.length+zs.length≤4294967296)
  (hfr:¬Names σ (d,0)) {next:Act→World→Prop} {Q:Exit→Act→World→Prop}
  (hn:∀F kv fp a' w',Sim E pm F kv fp (AM.apply o ⟨some (one (.ref (d,0) [])),[(0,.arr ⟨τ,xs++zs⟩ (d1&&d2))],ks++ks',[],pall⟩ σ) a' w'→next a' w'):o.wp E.P a w next Q:=by
 obtain⟨htid,i,z,hi,hz,hsize,hzs,hby,_⟩:=hE.code e τ hc
 have hu:=qadk hel
 have hw:=U.wd_pos τ
 obtain⟨hk1,hk2,l,hl1,hl2,hl3⟩:=qajk h ho1 hp (qaaf hs hss)
 rw[←hsize] at hsrc
 have hlive:∀k∈ks++ks',(σ.ent k).isSome=true:=fun k hk=>(zao.1 hk).elim (hk2 k) (hk2' k)
 have hsplit:=hks
 rw[zav] at hsplit
 have exec:∀{v w1},(Builtin.append_ #[t,u] o.type #[a.eval s,a.eval x]).run E.P w=.ok v w1→(execOp a.eval o).run E.P w=.ok (.value v) w1:=by
  intro v w1 hr
  have ha:cl.args= #[s,x]:=qabq hargs
  have ht:cl.argTypes= #[t,u]:=qabq hty
  unfold execOp;simp only[hop]
  simp[resolve,hcl,ha,ht,invoke,builtin,hr]
 have hmax:∀{n:Nat},n≤4294967296→n≤maxLen:=fun hh=>by simp only[maxLen];omega
 have hbl:∀k∈ks++ks',∀b∈fp k,b<w.heap.size:=fun k hk b hb=>by
  obtain⟨e,he⟩:=zag.1 (hlive k hk)
  exact qafk h he hb
 have hnF:∀k∈ks++ks',∀b∈fp k,¬F b:=fun k hk b hb=>by
  obtain⟨e,he⟩:=zag.1 (hlive k hk)
  exact(h.mine k e b he hb).1
 have hWb:∀k∈ks++ks',∀b∈fp k,pm.W b∨pm.w0.heap.size≤b:=fun k hk b hb=>by
  obtain⟨e,he⟩:=zag.1 (hlive k hk)
  exact(h.mine k e b he hb).2.1
 have grow:∀(vs:List Value),(d1=true→∃fl,RRow E w F true τ xs vs fl∧fl.flatten.Nodup∧∀b∈fl.flatten,∃k∈ks,b∈fp k)→(∃fl,RRow E w (FK F fp ks) false τ xs vs fl∧fl.flatten=[])→
   ∀{cap:Nat}{cur:Array Value}{w1:World},(∀b,b<w.heap.size→w1.heap[b]? =w.heap[b]?)→Upto (fun b=>pm.W b∨pm.w0.heap.size≤b) w w1→w.heap.size<w1.heap.size→
   w1.heap[w.heap.size]? =some (.cells cur (E.tid τ) (0,0))→(xs++zs).length≤cap→cap≤maxLen→cur.size=cap*U.wd τ→cur.toList.take ((xs++zs).length*U.wd τ)=vs++us→
   next (a.put o.dst (.slice (some ⟨w.heap.size,0,none⟩) (xs++zs).length cap)) w1:=by
  intro vs h1 h2 cap cur w1 hw1 hup hsz hb hc' hm hcs htk
  obtain⟨F',kv',fp',hsim⟩:=qaiv h ho hd hfr (τ:=τ) (rows:=xs++zs) (ks:=ks++ks') (dp:=d1&&d2) (ps:=pall) (vs:=vs++us) hks hlive
   (fun hdd=>by
    simp only[zaf] at hdd
    obtain⟨fl,f1,f2,f3⟩:=h1 hdd.1
    obtain⟨gl,g1,g2,g3⟩:=hn1 hdd.2
    refine⟨fl++gl,f1.append g1,by rw[zcc];exact qaax h hks hk2 hk2' f3 g3 f2 g2,fun b hb=> ?_⟩
    rw[zcc,zao] at hb
    rcases hb with hb|hb
    ·obtain⟨k,hk,hb⟩:=f3 b hb;exact⟨k,by simp[hk],hb⟩
    ·obtain⟨k,hk,hb⟩:=g3 b hb;exact⟨k,by simp[hk],hb⟩)
   (by
    obtain⟨fl,f1,f2⟩:=h2
    obtain⟨gl,g1,g2⟩:=hn2
    exact⟨fl++gl,(f1.keep (fun b hb=>⟨qaab (fun k hk=>by simp[hk]) hb,rfl⟩) (by simp[f2])).append (g1.keep (fun b hb=>⟨qaab (fun k hk=>by simp[hk]) hb,rfl⟩) (by simp[g2])),by rw[zcc,f2,g2];rfl⟩)
   hw1 hup hsz hb hc' hm hcs htk
  exact hn F' kv' fp' _ _ hsim
 have inplace:∀{b cap:Nat}{cur':Array Value}{vs:List Value}{fl:List (List Nat)}{w1:World},RRow E w F d1 τ xs vs fl→l=b::fl.flatten→(∀b',b'≠b→w1.heap[b']? =w.heap[b']?)→w1.heap.size=w.heap.size→
   w1.os=w.os→w1.tape=w.tape→w1.output=w.output→w1.heap[b]? =some (.cells cur' (E.tid τ) (0,0))→(xs++zs).length≤cap→cap≤maxLen→cur'.size=cap*U.wd τ→cur'.toList.take ((xs++zs).length*U.wd τ)=vs++us→
   next (a.put o.dst (.slice (some ⟨b,0,none⟩) (xs++zs).length cap)) w1:=by
  intro b cap cur' vs fl w1 hrow hl hw1 hsz hos htp hout hb hc' hm hcs htk
  subst hl
  have hbk:∃k∈ks,b∈fp k:=hl3 b (by simp)
  obtain⟨kb,hkb,hbkb⟩:=hbk
  have hbF:¬F b:=hnF kb (by simp[hkb]) b hbkb
  have hup:Upto (fun b=>pm.W b∨pm.w0.heap.size≤b) w w1:=⟨hos,htp,hout,by omega,fun k hk hnw=>hw1 k (fun e=>hnw (e▸hWb kb (by simp[hkb]) b hbkb))⟩
  have hsv:∀(F':Nat→Prop)(nfp:List Nat) bad,RS E w1 F' (setKey kv (d,0) (.slice (some ⟨b,0,none⟩) (xs++zs).length cap)) (setKey fp (d,0) nfp) bad (one (.ref (d,0) [])) (.slice (some ⟨b,0,none⟩) (xs++zs).length cap):=
   fun F' nfp bad=>RS_one ⟨⟨rfl,trivial⟩,.inr (by simp only[RA,qalw];rfl)⟩
  have hlive':∀k e,k∉ks++ks'→σ.ent k=some e→∀b'∈fp k,w1.heap[b']? =w.heap[b']? :=fun k e hk he b' hb'=>hw1 b' (fun e'=>by
   subst e'
   obtain⟨eb,heb⟩:=zag.1 (hk2 kb hkb)
   exact h.apart kb k eb e b' (fun e'=>hk (by subst e';simp[hkb])) heb he hbkb hb')
  cases hdd:(d1&&d2) with
  |true=>
   simp only[zaf] at hdd
   obtain⟨rfl,hd2⟩:=hdd
   obtain⟨gl,g1,g2,g3⟩:=hn1 hd2
   have hnd:((b::fl.flatten)++gl.flatten).Nodup:=qaax h hks hk2 hk2' hl3 g3 hl2 g2
   have hnd':(b::(fl++gl).flatten).Nodup:=by rw[zcc];exact hnd
   have hbn:=(zbe.1 hnd').1
   have hin:∀b'∈(b::(fl++gl).flatten),∃k∈ks++ks',b'∈fp k:=fun b' hb'=>by
    rw[zcc,←zex,zao] at hb'
    rcases hb' with hb'|hb'
    ·obtain⟨k,hk,hb'⟩:=hl3 b' hb';exact⟨k,by simp[hk],hb'⟩
    ·obtain⟨k,hk,hb'⟩:=g3 b' hb';exact⟨k,by simp[hk],hb'⟩
   have hsim:=h.add1 ho hd (.arr ⟨τ,xs++zs⟩ true) (one (.ref (d,0) [])) (ks++ks') pall _ (.slice (some ⟨b,0,none⟩) (xs++zs).length cap) (b::(fl++gl).flatten) (w':=w1) (F':=F) hfr (hsv F _)
    (fun bad=>ROwn.of_rows hb hc' hm hcs htk ((hrow.append g1).keep (fun b' hb'=>⟨hb',hw1 b' (fun e=>hbF (e▸hb'))⟩) (fun b' hb'=>hw1 b' (fun e=>hbn (e▸hb')))))
    (fun b' hb'=>⟨hb',hw1 b' (fun e=>hbF (e▸hb'))⟩) (fun b' hb'=> .inl hb') hlive' hnd'
    (fun b' hb'=>by obtain⟨k,hk,hb'⟩:=hin b' hb';exact⟨hnF k hk b' hb',.inl ⟨k,hk,hlive k hk,hb'⟩⟩) hup
   exact hn _ _ _ _ _ (by rw[hd2];exact hsim)
  |false=>
   have hF':∀b',(F b'∨b'∈fl.flatten∨∃k∈ks',b'∈fp k)→b'≠b:=by
    rintro b' (hb'|hb'|⟨k,hk,hb'⟩) rfl
    ·exact hbF hb'
    ·exact(zbe.1 hl2).1 hb'
    ·obtain⟨e1,he1⟩:=zag.1 (hk2 kb hkb)
     obtain⟨e2,he2⟩:=zag.1 (hk2' k hk)
     exact h.apart kb k e1 e2 b' (hsplit.2.2 kb hkb k hk) he1 he2 hbkb hb'
   obtain⟨gl,g1,g2⟩:=hn2
   have hr1:=hrow.share (F':=fun b'=>F b'∨b'∈fl.flatten∨∃k∈ks',b'∈fp k) (fun b' hb'=> .inl hb') (fun b' hb'=> .inr (.inl hb'))
   have hr2:=g1.keep (w':=w) (F':=fun b'=>F b'∨b'∈fl.flatten∨∃k∈ks',b'∈fp k) (fun b' hb'=>⟨hb'.imp id .inr,rfl⟩) (by simp[g2])
   have hr3:=(hr1.append hr2).keep (w':=w1) (F':=fun b'=>F b'∨b'∈fl.flatten∨∃k∈ks',b'∈fp k) (fun b' hb'=>⟨hb',hw1 b' (hF' b' hb')⟩) (by simp[g2])
   have hown:=ROwn.of_rows hb hc' hm hcs htk hr3
   rw[zcc,g2,qaer] at hown
   have hsim:=h.add1 ho hd (.arr ⟨τ,xs++zs⟩ false) (one (.ref (d,0) [])) (ks++ks') pall _ (.slice (some ⟨b,0,none⟩) (xs++zs).length cap) [b] (w':=w1) (F':=fun b'=>F b'∨b'∈fl.flatten∨∃k∈ks',b'∈fp k) hfr (hsv _ _)
    (fun bad=>hown)
    (fun b' hb'=>⟨.inl hb',hw1 b' (fun e=>hbF (e▸hb'))⟩)
    (by
     rintro b' (hb'|hb'|⟨k,hk,hb'⟩)
     ·exact .inl hb'
     ·obtain⟨k,hk,hb'⟩:=hl3 b' (by simp[hb'])
      exact .inr (.inl ⟨k,by simp[hk],hk2 k hk,hb'⟩)
     ·exact .inr (.inl ⟨k,by simp[hk],hk2' k hk,hb'⟩))
    hlive' (by simp)
    (fun b' hb'=>by
     rw[zau.1 hb']
     exact⟨fun hf=>hF' b hf rfl,.inl ⟨kb,by simp[hkb],hk2 kb hkb,hbkb⟩⟩) hup
   exact hn _ _ _ _ _ (by rw[hdd];exact hsim)
 have hus:us.length=zs.length*U.wd τ:=by obtain⟨gl,g1,_⟩:=hn2;exact g1.1
 have hus1:∀u∈us,u.oneCell'=true:=by obtain⟨gl,g1,_⟩:=hn2;exact g1.oneCell
 have hfits:(xs.length+zs.length)*i.bytes≤140737488355328:=by
  have:=Nat.mul_le_mul hle hby
  omega
 by_cases hz0:zs.length=0
 ·have hznil:zs=[]:=zbh hz0
  subst hznil
  have husnil:us=[]:=zbh (by simpa using hus)
  rcases hl1.rows with⟨h3,⟨ad',h4⟩,h5⟩|⟨b,cap,cur,vs,fl,h3,h4,h5,h6,h7,h8,h9,h10⟩
  ·simp only at h3;subst h3
   have hr:=exec (v:=.slice ad' 0 0) (w1:=w) (by rw[h4];exact qalm w hu hi _ _ _ (by rw[husnil] at hsrc;exact hsrc) (zca _))
   refine qanv hr ?_
   have hsim:=h.add1 ho hd (.arr ⟨τ,[]⟩ (d1&&d2)) (one (.ref (d,0) [])) (ks++ks') pall (.slice ad' 0 0) (.slice ad' 0 0) [] (w':=w) (F':=F) hfr
    (fun bad=>RS_one ⟨⟨rfl,trivial⟩,.inr (by simp only[RA,qalw];rfl)⟩) (fun bad=> .inl ⟨rfl,⟨ad',rfl⟩,rfl⟩) (fun b hb=>⟨hb,rfl⟩) (fun b hb=> .inl hb) (fun _ _ _ _ _ _=>rfl) (by simp) (by simp) (Upto.refl _ _)
   exact hn _ _ _ _ _ hsim
  ·simp only at h3 h4 h5 h7 h8 h9
   have hr:=exec (v:=.slice (some ⟨b,0,none⟩) xs.length cap) (w1:=w) (by rw[h3];exact qalm w hu hi _ _ _ (by rw[husnil] at hsrc;exact hsrc) h5)
   refine qanv hr ?_
   have:=inplace (b:=b) (cap:=cap) (cur':=cur) (vs:=vs) (fl:=fl) (w1:=w) h9 h10 (fun _ _=>rfl) rfl rfl rfl rfl h4 (by simpa using h5) h6 h7 (by rw[husnil,zch,zch];exact h8)
   simpa using this
 ·have hlus:us.length=zs.length*i.size:=by rw[hsize];exact hus
  have grown:∀(vs:List Value),vs.length=xs.length*U.wd τ→(d1=true→∃fl,RRow E w F true τ xs vs fl∧fl.flatten.Nodup∧∀b∈fl.flatten,∃k∈ks,b∈fp k)→(∃fl,RRow E w (FK F fp ks) false τ xs vs fl∧fl.flatten=[])→
    ∀old:Nat,old<xs.length+zs.length→(Builtin.append_ #[t,u] o.type #[a.eval s,a.eval x]).run E.P w=
     .ok (.slice (some ⟨w.heap.size,0,none⟩) (xs.length+zs.length) (grownCap w (xs.length+zs.length) old e)) (w.drew.alloc (.cells (vs.toArray++us.toArray++Builtin.zeroCells z.cells (grownCap w (xs.length+zs.length) old e-(xs.length+zs.length))) e))→
    o.wp E.P a w next Q:=by
   intro vs hvl h1 h2 old hold hrun
   refine qanv (exec hrun) ?_
   have hge:=grownCap_ge w (xs.length+zs.length) old e
   have:=grow vs h1 h2 (cap:=grownCap w (xs.length+zs.length) old e) (cur:=vs.toArray++us.toArray++Builtin.zeroCells z.cells (grownCap w (xs.length+zs.length) old e-(xs.length+zs.length)))
    (w1:=w.drew.alloc (.cells (vs.toArray++us.toArray++Builtin.zeroCells z.cells (grownCap w (xs.length+zs.length) old e-(xs.length+zs.length))) e))
    (fun b hb=>qaga w.drew _ hb) ((Upto.drew _ _).trans (Upto.alloc _ _ _)) (by simp) (by rw[htid];exact heap_alloc_new w.drew _) (by simpa using hge) (grownCap_le_maxLen w _ old e (hmax hle))
    (by
     simp only[Array.size_append,zdj,size_zeroCells,hzs,hvl,hus,←zci]
     congr 1;omega)
    (by
     have hl2:((xs++zs).length*U.wd τ)=(vs++us).length:=by simp[hvl,hus,zci]
     simp only[Array.toList_append,zbr]
     rw[←zbr,hl2]
     exact List.take_left)
   simpa using this
  rcases hl1.rows with⟨h3,⟨ad',h4⟩,h5⟩|⟨b,cap,cur,vs,fl,h3,h4,h5,h6,h7,h8,h9,h10⟩
  ·simp only at h3;subst h3
   refine grown [] (by simp) (fun _=>⟨[],RRow.nil,by simp,by simp⟩) ⟨[],RRow.nil,rfl⟩ 0 (by omega) ?_
   rw[h4]
   simp only[zbo,zbw] at hfits hle⊢
   cases ad' with
   |none=>
    have hr:=qalk (ty:=o.type) w hu hi hz hsrc (by omega) (by omega) (by omega)
    simpa using hr
   |some a'=>
    have hr:=qalj (ty:=o.type) w hu hi hz a' 0 0 [] (by simp) (by simp) hsrc (by omega) (by omega) (growslice_fits (by omega) (by simpa using hfits))
    simpa using hr
  ·simp only at h3 h4 h5 h7 h8 h9
   have hvl:vs.length=xs.length*U.wd τ:=h9.1
   by_cases hroom:xs.length+zs.length≤cap
   ·have hfit:xs.length*i.size+us.length≤cur.size:=by rw[hlus,hsize,h7,←zci];exact zbc _ hroom
    have hr:=qall (ty:=o.type) w hu hi b xs.length cap cur (by rw[←htid];exact h4) hsrc hus1 hroom hfit
    rw[←h3] at hr
    refine qanv (exec hr) ?_
    have:=inplace (b:=b) (cap:=cap) (cur':=(cur.toList.take (xs.length*i.size)++us++cur.toList.drop (xs.length*i.size+us.length)).toArray) (vs:=vs) (fl:=fl)
     (w1:=w.setRow b (cur.toList.take (xs.length*i.size)++us++cur.toList.drop (xs.length*i.size+us.length)).toArray) h9 h10 (fun b' hb'=>setRow_other w b b' _ hb') (by simp) rfl rfl rfl (setRow_heap w b cur _ _ _ h4) (by simpa using hroom) h6
     (by
      simp only[zdj,zce,zaw,zcs,zbn]
      omega)
     (by
      have hl2:((xs++zs).length*U.wd τ)=(vs++us).length:=by simp[hvl,hus,zci]
      rw[hsize,h8,hl2]
      exact List.take_left)
    simpa using this
   ·refine grown vs hvl (fun hd1=> ?_) ?_ cap (by omega) ?_
    ·subst hd1
     exact⟨fl,h9,by rw[h10] at hl2;exact(zbe.1 hl2).2,fun b' hb'=>hl3 b' (by rw[h10];simp[hb'])⟩
    ·exact⟨_,h9.share (F':=FK F fp ks) (fun b hb=> .inl hb) (fun b' hb'=> .inr (hl3 b' (by rw[h10];simp[hb']))),qaer _⟩
    ·rw[h3]
     refine qalj (ty:=o.type) w hu hi hz ⟨b,0,none⟩ xs.length cap vs (by rw[hsize];exact hvl) (fun j u hu=> ?_) hsrc (by omega) (by omega) (growslice_fits (by omega) hfits)
     rw[Addr.add_mid,zbw,cell_of_row w b _ cur _ (0,0) h4]
     rw[←h8,zan] at hu
     split at hu
     ·simpa using hu
     ·cases hu
theorem qaba(hE:E.Ok)(h:Sim E pm F kv fp σ a w){o:Oper}{d:Nat}(ho:o.dst=some d)(hd:d<σ.n){cl:Call}{t e:TypeId}{s x:Operand}(hop:o.op=.call cl)(hcl:cl.callee=.builtin .append)
  (hargs:cl.args.toList=[s,x]) (hty:cl.argTypes.toList=[t,t]) {τ:U.Ty} (hel:E.elem t=some e) (hc:E.code e=some τ) {ss sx:SV U} {ys yx:AC U}
  (hs:RS E w F kv fp (badK σ) ss (a.eval s)) (hss:ac? ss=some ys) (hx:RS E w F kv fp (badK σ) sx (a.eval x)) (hsx:ac? sx=some yx)
  {rs:List Key} {ps qs:List Prop} {xs zs:List (U.T τ)} {ks ks':List Key} {d1 d2:Bool} {pall:List Prop}
  (ho1:oldsOf τ (restrict σ.ent rs) ys=some (ps,xs,ks,d1)) (ho2:newsOf τ (restrict σ.ent rs) yx=some (qs,zs,ks',d2)) (hp:∀p∈ps,p) (hks:(ks++ks').Nodup) (hle:xs.length+zs.length≤4294967296)
  (hfr:¬Names σ (d,0)) {next:Act→World→Prop} {Q:Exit→Act→World→Prop}
  (hn:∀F kv fp a' w',Sim E pm F kv fp (AM.apply o ⟨some (one (.ref (d,0) [])),[(0,.arr ⟨τ,xs++zs⟩ (d1&&d2))],ks++ks',[],pall⟩ σ) a' w'→next a' w'):o.wp E.P a w next Q:=by
 obtain⟨hk1',hk2',ad,c,us,hvx,hn1,hn2,hn3⟩:=qaix h ho2 (qaaf hx hsx)
 have hu:=qadk hel
 exact qaay hE h ho hd hop hcl hargs hty hel hc hs hss ho1 hk2' (by rw[hvx];exact Src.slice hu (by obtain⟨gl,g1,_⟩:=hn2;exact g1.1) hn3) hn1 hn2 hp hks hle hfr hn
theorem qamz{τ:U.Ty}{s:ByteArray}{ys:List (U.T τ)}(h:strRows τ s=some ys)(m:Bool):ys.length=s.size∧U.wd τ=1∧∃fl,RRow E w F m τ ys (s.data.toList.map fun b=>Value.int .u8 (b.toNat:Int)) fl∧fl.flatten=[]:=by
 unfold strRows at h
 have h0:=castArr_some h
 cases h0
 have hw:U.wd U.bcode=1:=by rw[←U.enc_len U.bcode (U.dflt U.bcode),U.enc_b];rfl
 have hsz:(s.data.toList.map fun b=>U.ofB (b.toNat:Int)).length=s.size:=by rw[zco];exact zbn
 have hsz':(s.data.toList.map fun b=>Value.int .u8 (b.toNat:Int)).length=s.size:=by rw[zco];exact zbn
 refine⟨hsz,hw,List.replicate s.size [],⟨by rw[hsz,hsz',hw,Nat.mul_one],by rw[hsz,zee,hw,Nat.mul_one],fun i x j c hx hj=> ?_⟩,by simp⟩
 rw[zal] at hx
 cases hb:s.data.toList[i]? with
 |none=>rw[hb] at hx;cases hx
 |some b=>
  rw[hb] at hx
  simp only[zcd,zae] at hx
  subst hx
  rw[U.enc_b,U.toB_ofB] at hj
  have hj0:j=0:=by
   cases j with
   |zero=>rfl
   |succ j=>simp at hj
  subst hj0
  simp only[zam,zae] at hj
  subst hj
  have e1:i*U.wd U.bcode+0=i:=by rw[hw];omega
  rw[e1]
  have e2:(s.data.toList.map fun b=>Value.int .u8 (b.toNat:Int)).getD i undef=.int .u8 (b.toNat:Int):=by
   rw[zac,zal,hb];rfl
  have e3:(List.replicate s.size ([]:List Nat)).getD i []=[]:=by
   rw[zac,zdz];split<;>rfl
  rw[e2,e3]
  exact .lit m _ ⟨rfl,by have:=b.toNat_lt;simp only[IntKind.min,IntKind.max,IntKind.signed,IntKind.bits,zbg,if_false];omega⟩
theorem qabb(hE:E.Ok)(h:Sim E pm F kv fp σ a w){o:Oper}{d:Nat}(ho:o.dst=some d)(hd:d<σ.n){cl:Call}{t u e:TypeId}{s x:Operand}(hop:o.op=.call cl)(hcl:cl.callee=.builtin .append)
  (hargs:cl.args.toList=[s,x]) (hty:cl.argTypes.toList=[t,u]) {τ:U.Ty} (hel:E.elem t=some e) (hc:E.code e=some τ) {ss sx:SV U} {ys:AC U} {str:ByteArray}
  (hs:RS E w F kv fp (badK σ) ss (a.eval s)) (hss:ac? ss=some ys) (hx:RS E w F kv fp (badK σ) sx (a.eval x)) (hsx:lit? sx=some (.string str)) (hu:E.P.underlying u=some .string)
  {rs:List Key} {ps:List Prop} {xs zs:List (U.T τ)} {ks:List Key} {d1:Bool} {pall:List Prop}
  (ho1:oldsOf τ (restrict σ.ent rs) ys=some (ps,xs,ks,d1)) (ho2:strRows τ str=some zs) (hp:∀p∈ps,p) (hks:ks.Nodup) (hle:xs.length+zs.length≤4294967296)
  (hfr:¬Names σ (d,0)) {next:Act→World→Prop} {Q:Exit→Act→World→Prop}
  (hn:∀F kv fp a' w',Sim E pm F kv fp (AM.apply o ⟨some (one (.ref (d,0) [])),[(0,.arr ⟨τ,xs++zs⟩ d1)],ks,[],pall⟩ σ) a' w'→next a' w'):o.wp E.P a w next Q:=by
 have hv:=qaah hx hsx
 obtain⟨h1,h2,fl,h3,h4⟩:=qamz (E:=E) (w:=w) (F:=F) ho2 true
 obtain⟨_,_,gl,g3,g4⟩:=qamz (E:=E) (w:=w) (F:=FK F fp []) ho2 false
 refine qaay (ks':=[]) (d2:=true) (zs:=zs) (us:=str.data.toList.map fun b=>Value.int .u8 (b.toNat:Int)) (pall:=pall) hE h ho hd hop hcl hargs hty hel hc hs hss ho1 (by simp) ?_ (fun _=>⟨fl,h3,by rw[h4];simp,by rw[h4];simp⟩) ⟨gl,g3,g4⟩ hp (by simpa using hks) hle hfr ?_
 ·rw[hv,h1,h2];exact Src.string hu str
 ·simpa using hn
end AM
