/- THE ABSTRACT MACHINE: append. -/
import Derived.Test.YtmlhlndkkidhoaaGreatQAmOps6
namespace AM
set_option linter.unusedVariables false
open Go
variable{U:kZ}{E:Env U}{pm:Pm}
variable{F F':Nat->Prop}{kv:Key->Value}{fp:Key->List Nat}{σ:ah U}{a:Act}{w w':World}{bad:Key->Bool}
theorem dQ{τ:U.Ty}{x:iX U}{ys:List (U.T τ)}(h:iV τ x=some ys):x=⟨τ,ys⟩:=by
 obtain⟨EK,xs⟩:=x
 unfold iV at h
 cases hd:U.deq EK τ with
 |isFalse he=>simp only[hd] at h;cases h
 |isTrue he=>
  simp only[hd] at h
  subst he
  cases h
  rfl
theorem Rp.Qq{w:World}{F:Nat->Prop}{c:U.C}{v:Value}{l:List Nat}(h:Rp E w F false c v l):l=[]:=by
 generalize hm:false=m at h
 cases h with
 |lit=>rfl
 |nil=>rfl
 |shr=>rfl
 |own=>cases hm
theorem eI.Ju{τ:U.Ty}{xs:List (U.T τ)}{vs:List Value}{fl:List (List Nat)}(h:eI E w F false τ xs vs fl):fl.flatten=[]:=by
 refine List.flatten_eq_nil_iff.2 fun l hl=> ?_
 obtain⟨n,hn,rfl⟩:=ri hl
 have hw:=U.kJ τ
 have hi:n/U.wd τ<xs.length:=(Nat.div_lt_iff_lt_mul hw).2 (by rw[<-h.2.1];exact hn)
 have hj:n%U.wd τ<U.wd τ:=Nat.mod_lt _ hw
 have:=h.2.2 (n/U.wd τ) xs[n/U.wd τ] (n%U.wd τ) ((U.enc τ xs[n/U.wd τ])[n%U.wd τ]'(by rw[U.dj];exact hj)) (fo hi) (fo _)
 have he:n/U.wd τ*U.wd τ+n%U.wd τ=n:=by rw[Tl];exact Nat.div_add_mod n _
 rw[he,eY (l:=fl),fo hn] at this
 exact this.Qq
structure Src(P:Program)(w:World)(u:TypeId)(x:Value)(size n:Nat)(us:List Value):Prop where
 ut:(∃e,P.underlying u=some (.slice e))\/P.underlying u=some .string
 len:∀w',(Builtin.lenOf x).run P w'=.ok n w'
 first:(Builtin.firstCells size n x).run P w=.ok us.toArray w
 Qn:(Builtin.firstCells size n x).run P w.drew=.ok us.toArray w.drew
theorem TN{P:Program}(w:World){t u ty e:TypeId}{i:TypeInfo}(ht:P.underlying t=some (.slice e))(hi:P.info? e=some i)(base:Option Addr)(n cap:Nat){x:Value}(h:Src P w u x i.size 0 [])(hc:n<=cap):
  (Builtin.append_ #[t,u] ty #[.slice base n cap,x]).run P w=.ok (.slice base n cap) w:=by
 have Yp:=h.ut
 have h1:=h.len
 have h2:=h.first
 rcases Yp with⟨e',hu⟩|hu<;>cases base<;>simp[Builtin.append_,run_underlying ht,run_underlying hu,Go.sizeOf,typeInfo,hi,h1,hc,h2,storeCells]
theorem ab5{P:Program}(w:World){t u ty e:TypeId}{i:TypeInfo}{z:Value}(ht:P.underlying t=some (.slice e))(hi:P.info? e=some i)(hz:i.zero=some z)
  {n:Nat} {us:List Value} {x:Value} (h:Src P w u x i.size n us)
  (h0:0<n) (h63:(n:Int)<=9223372036854775807) (h48:n*i.bytes<=281474976710656):
  (Builtin.append_ #[t,u] ty #[.slice none 0 0,x]).run P w=
   .ok (.slice (some ⟨w.heap.size,0,none⟩) n (grownCap w n 0 e)) (w.drew.alloc (.cells (us.toArray++Builtin.zeroCells z.cells (grownCap w n 0 e-n)) e)):=by
 have Yp:=h.ut
 have h1:=h.len
 have h2:=h.Qn
 have hn:n≠0:=by omega
 have Zk:¬(9223372036854775807<(n:Int)):=by omega
 have Zl:¬(281474976710656<Builtin.nextslicecap n 0*i.bytes):=by rw[nextslicecap_zero h0];omega
 rcases Yp with⟨e',hu⟩|hu<;>simp[Builtin.append_,run_underlying ht,run_underlying hu,Go.sizeOf,typeInfo,zeroValue,hi,hz,h1,hn,Zk,Zl,Question.forced,run_firstCells_none,h2,newRow,grownCap]
theorem TO{P:Program}(w:World){t u ty e:TypeId}{i:TypeInfo}{z:Value}(ht:P.underlying t=some (.slice e))(hi:P.info? e=some i)(hz:i.zero=some z)
  (b:Addr) (pG Af:Nat) (Uo:List Value) (hlo:Uo.length=pG*i.size) (holds:∀j v,Uo[j]? =some v->w.cell? (b.add j)=some v)
  {n:Nat} {us:List Value} {x:Value} (h:Src P w u x i.size n us)
  (hg:Af<pG+n) (h63:((pG+n:Nat):Int)<=9223372036854775807) (NE:Builtin.nextslicecap (pG+n) Af*i.bytes<=281474976710656):
  (Builtin.append_ #[t,u] ty #[.slice (some b) pG Af,x]).run P w=
   .ok (.slice (some ⟨w.heap.size,0,none⟩) (pG+n) (grownCap w (pG+n) Af e))
    (w.drew.alloc (.cells (Uo.toArray++us.toArray++Builtin.zeroCells z.cells (grownCap w (pG+n) Af e-(pG+n))) e)):=by
 have Yp:=h.ut
 have h1:=h.len
 have h2:=h.Qn
 have hn:¬(pG+n<=Af):=by omega
 have Zk:¬(9223372036854775807<((pG:Int)+(n:Int))):=by omega
 have Zl:¬(281474976710656<Builtin.nextslicecap (pG+n) Af*i.bytes):=by omega
 have ND:=run_firstCells_some (P:=P) w.drew i.size pG b pG Af Uo hlo (by simpa using holds)
 rcases Yp with⟨e',hu⟩|hu<;>
   (simp[Builtin.append_,run_underlying ht,run_underlying hu,Go.sizeOf,typeInfo,zeroValue,hi,hz,h1,hn,Zk,Zl,Question.forced,h2,ND,newRow,grownCap]
    congr 2
    apply Array.ext'
    simp[wB])
theorem ab4{P:Program}(w:World){t u ty e:TypeId}{i:TypeInfo}(ht:P.underlying t=some (.slice e))(hi:P.info? e=some i)
  (g pG Af:Nat) (cur:Array Value) (hg:w.heap[g]? =some (.cells cur e (0,0)))
  {m:Nat} {us:List Value} {x:Value} (h:Src P w u x i.size m us) (h1:∀u∈us,u.oneCell'=true)
  (w7:pG+m<=Af) (NE:pG*i.size+us.length<=cur.size):
  (Builtin.append_ #[t,u] ty #[.slice (some ⟨g,0,none⟩) pG Af,x]).run P w=
   .ok (.slice (some ⟨g,0,none⟩) (pG+m) Af) (w.setRow g (cur.toList.take (pG*i.size)++us++cur.toList.drop (pG*i.size+us.length)).toArray):=by
 have Yp:=h.ut
 have Ke:=h.len
 have hf:=h.first
 have p9:=run_storeCells_at P g (pG*i.size) e us 0 cur w hg (by simpa using NE) h1
 simp only[H0] at p9
 rcases Yp with⟨e',hu⟩|hu<;>simp[Builtin.append_,run_underlying ht,run_underlying hu,Go.sizeOf,typeInfo,hi,Ke,w7,hf,Addr.add_lit,p9]
theorem Src.slice{P:Program}{w:World}{t e:TypeId}(ht:P.underlying t=some (.slice e)){size n c:Nat}{ad:Option Addr}{us:List Value}(hl:us.length=n*size)
  (h:0<n->∃b off,ad=some ⟨b,off,none⟩/\∀i u,us[i]? =some u->w.cell? ⟨b,off+i,none⟩=some u):Src P w t (.slice ad n c) size n us:=by
 refine⟨.inl ⟨_,ht⟩,fun w'=>rfl,?_,?_⟩
 ·by_cases hn:0<n
  ·obtain⟨b,off,rfl,h2⟩:=h hn
   exact run_firstCells_some (P:=P) w size n ⟨b,off,none⟩ n c us hl (fun j u hu=>by rw[Addr.add_mid];exact h2 j u hu)
  ·have:n=0:=by omega
   subst this
   have:us=[]:=Em (by simpa using hl)
   subst this
   cases ad<;>simp[Builtin.firstCells,loadCells,loadCellsFrom]
 ·by_cases hn:0<n
  ·obtain⟨b,off,rfl,h2⟩:=h hn
   exact run_firstCells_some (P:=P) w.drew size n ⟨b,off,none⟩ n c us hl (fun j u hu=>by rw[Addr.add_mid];exact h2 j u hu)
  ·have:n=0:=by omega
   subst this
   have:us=[]:=Em (by simpa using hl)
   subst this
   cases ad<;>simp[Builtin.firstCells,loadCells,loadCellsFrom]
theorem Src.string{P:Program}{w:World}{u:TypeId}(hu:P.underlying u=some .string){size:Nat}(s:ByteArray):Src P w u (.string s) size s.size (s.data.toList.map fun b=>Value.int .u8 (b.toNat:Int)):=by
 have hx:(Array.map (fun b:UInt8=>Value.int IntKind.u8 (b.toNat:Int)) (s.extract 0 s.size).data)=(s.data.toList.map fun b=>Value.int .u8 (b.toNat:Int)).toArray:=by
  have:s.extract 0 s.size=s:=ByteArray.extract_zero_size
  rw[this]
  apply Array.ext'
  simp
 refine⟨.inr hu,fun w'=>rfl,?_,?_⟩
 ·simp only[Builtin.firstCells,hx];rfl
 ·simp only[Builtin.firstCells,hx];rfl
theorem amf(h:cE E pm F kv fp σ a w){τ:U.Ty}{rs:List Key}{x:AC U}{v:Value}{ps:List Prop}{ys:List (U.T τ)}{ks:List Key}{d:Bool}
  (hn:Gr τ (restrict σ.bJ rs) x=some (ps,ys,ks,d)) (hx:RD E w F kv fp (bW σ) x v):
  ks.Nodup/\(∀k∈ks,(σ.bJ k).isSome=true)/\∃ad c us,v=.slice ad ys.length c/\
   (d=true->∃fl,eI E w F true τ ys us fl/\fl.flatten.Nodup/\∀b∈fl.flatten,∃k∈ks,b∈fp k)/\
   (∃fl,eI E w (FK F fp ks) false τ ys us fl/\fl.flatten=[])/\
   (0<ys.length->∃b off,ad=some ⟨b,off,none⟩/\∀i u,us[i]? =some u->w.cell? ⟨b,off+i,none⟩=some u):=by
 unfold Gr at hn
 split at hn
 ·cases hn
  obtain⟨ad,h1⟩:=cf hx rfl
  exact⟨by simp,by simp,ad,0,[],h1,fun _=>⟨[],eI.nil,by simp,by simp⟩,⟨[],eI.nil,rfl⟩,fun h=>by simp at h⟩
 ·rename_i k
  split at hn
  ·rename_i y d' he
   split at hn
   ·rename_i zs hz
    cases hn
    have:=dQ hz
    subst this
    have e8:=jS he
    have h1:v=kv k:=cf hx rfl
    have h2:eW E w F d ⟨τ,ys⟩ (kv k) (fp k):=h.di k _ e8
    rw[<-h1] at h2
    have pL:=h.nodup k _ e8
    rcases h2.rows with⟨h3,⟨ad,h4⟩,h5⟩|⟨b,cap,cur,vs,fl,h3,h4,h5,h6,h7,h8,h9,rQ⟩
    ·simp only at h3;subst h3
     exact⟨by simp,by simp[e8],ad,0,[],h4,fun _=>⟨[],eI.nil,by simp,by simp⟩,⟨[],eI.nil,rfl⟩,fun h=>by simp at h⟩
    ·simp only at h3 h4 h5 h7 h8 h9
     rw[rQ] at pL
     refine⟨by simp,by simp[e8],some ⟨b,0,none⟩,cap,vs,h3,fun hd=> ?_,?_,fun _=>⟨b,0,rfl,fun i u hu=> ?_⟩⟩
     ·subst hd
      exact⟨fl,h9,(sN.1 pL).2,fun b' bf=>⟨k,by simp,by rw[rQ];simp[bf]⟩⟩
     ·exact⟨_,h9.k8 (F':=FK F fp [k]) (fun b hb=> .inl hb) (fun b' bf=> .inr ⟨k,by simp,by rw[rQ];simp[bf]⟩),yC _⟩
     ·rw[<-h8,oJ] at hu
      split at hu
      ·rw[cell_of_row w b _ cur _ (0,0) h4];simpa using hu
      ·cases hu
   ·cases hn
  ·cases hn
 ·rename_i EK ys'
  split at hn
  ·rename_i zs hz
   cases hn
   have:=dQ hz
   cases this
   have h1:Rp E w F false _ _ _:=cf hx rfl
   have lits:U.flat τ=true->∀{F:Nat->Prop}{m:Bool}{x:U.T τ}{j:Nat}{c:U.C}{u:Value}{l:List Nat},(U.enc τ x)[j]? =some c->Rp E w F m c u l->Rp E w F true c u []:=by
    intro EC F m x j c u l hj hr
    obtain⟨v,rfl⟩:=U.Mc τ EC x c (EM hj)
    generalize hc:(Cell.lit v:U.C)=c at hr
    cases hr with
    |lit _ _ hv=>cases hc;exact .lit _ _ hv
    |nil=>cases hc
    |shr=>cases hc
    |own=>cases hc
   rcases h1.inv with⟨h0,ad,c,rfl⟩|⟨b,off,cap,vs,rfl,hF,hc,hv,hr⟩
   ·subst h0
    exact⟨by simp,by simp,ad,c,[],rfl,fun _=>⟨[],eI.nil,by simp,by simp⟩,⟨[],eI.nil,rfl⟩,fun h=>by simp at h⟩
   ·have jT:∀(m:Bool)(F':Nat->Prop),(∀i x j c,ys[i]? =some x->(U.enc τ x)[j]? =some c->Rp E w F' m c (vs (i*U.wd τ+j)) [])->eI E w F' m τ ys ((List.range (ys.length*U.wd τ)).map vs) (List.replicate (ys.length*U.wd τ) []):=by
     intro m F' hh
     refine⟨by simp,by simp,fun i x j c hx hj=> ?_⟩
     have gF:=fJ hx hj
     rw[Gb,eY,nk,Lz gF]
     exact hh i x j c hx hj
    refine⟨by simp,by simp,some ⟨b,off,none⟩,cap,(List.range (ys.length*U.wd τ)).map vs,rfl,fun hd=> ?_,?_,fun _=>⟨b,off,rfl,fun i u hu=> ?_⟩⟩
    ·exact⟨_,jT true F (fun i x j c hx hj=>lits hd hj (hr i x j c hx hj)),by rw[yC];simp,by rw[yC];simp⟩
    ·exact⟨_,jT false _ (fun i x j c hx hj=>(hr i x j c hx hj).fQ (fun b hb=> .inl hb)),yC _⟩
    ·rw[nk] at hu
     by_cases hi:i<ys.length*U.wd τ
     ·rw[Lz hi] at hu
      cases hu
      exact hv i hi
     ·rw[nz (by simp;omega)] at hu;cases hu
  ·cases hn
 ·cases hn
theorem anY{x:AC U}{v:Value}{bad:Key->Bool}(h:RD E w F kv fp bad x v):RD E w F kv fp bad (abx x) v:=by
 cases x with
 |kn b τ xs=>
  refine⟨h.1,?_⟩
  rcases h.2 with g|g
  ·simp[iG] at g
  ·exact .inr g.1
 |c _=>exact h
 |e0=>exact h
 |ref _ _=>exact h
 |sub _ _ _ _=>exact h
 |lg _ _ _ _ _=>exact h
 |kc _ _=>exact h
 |ia _=>exact h
theorem ame(h:cE E pm F kv fp σ a w){τ:U.Ty}{rs:List Key}{x:AC U}{v:Value}{ps:List Prop}{ys:List (U.T τ)}{ks:List Key}{d:Bool}
  (hn:KP τ (restrict σ.bJ rs) x=some (ps,ys,ks,d)) (hx:RD E w F kv fp (bW σ) x v):
  ks.Nodup/\(∀k∈ks,(σ.bJ k).isSome=true)/\∃ad c us,v=.slice ad ys.length c/\
   (d=true->∃fl,eI E w F true τ ys us fl/\fl.flatten.Nodup/\∀b∈fl.flatten,∃k∈ks,b∈fp k)/\
   (∃fl,eI E w (FK F fp ks) false τ ys us fl/\fl.flatten=[])/\
   (0<ys.length->∃b off,ad=some ⟨b,off,none⟩/\∀i u,us[i]? =some u->w.cell? ⟨b,off+i,none⟩=some u):=
 amf h hn (anY hx)
theorem ack(h:cE E pm F kv fp σ a w){τ:U.Ty}{rs:List Key}{x:AC U}{v:Value}{ps:List Prop}{xs:List (U.T τ)}{ks:List Key}{d:Bool}
  (hn:tz τ (restrict σ.bJ rs) x=some (ps,xs,ks,d)) (hp:∀p∈ps,p) (hx:RD E w F kv fp (bW σ) x v):
  ks.Nodup/\(∀k∈ks,(σ.bJ k).isSome=true)/\∃l,eW E w F d ⟨τ,xs⟩ v l/\l.Nodup/\∀b∈l,∃k∈ks,b∈fp k:=by
 unfold tz at hn
 split at hn
 ·cases hn
  obtain⟨ad,h1⟩:=cf hx rfl
  exact⟨by simp,by simp,[],.inl ⟨rfl,⟨ad,h1⟩,rfl⟩,by simp,by simp⟩
 ·rename_i k
  split at hn
  ·rename_i y d' he
   split at hn
   ·rename_i zs hz
    cases hn
    have:=dQ hz
    subst this
    have e8:=jS he
    have h1:v=kv k:=cf hx rfl
    subst h1
    exact⟨by simp,by simp[e8],fp k,h.di k _ e8,h.nodup k _ e8,fun b hb=>⟨k,by simp,hb⟩⟩
   ·cases hn
  ·rename_i y dead he
   split at hn
   ·rename_i zs hz
    cases hn
    have:=dQ hz
    subst this
    have e8:=jS he
    have h1:v=kv k:=cf hx rfl
    subst h1
    exact⟨by simp,by simp[e8],fp k,eo.own (h.di k _ e8) (hp _ (by simp)),h.nodup k _ e8,fun b hb=>⟨k,by simp,hb⟩⟩
   ·cases hn
  ·cases hn
 ·rename_i k wd hi
  split at hn
  ·rename_i y d' he
   split at hn
   ·rename_i zs hz
    cases hn
    have:=dQ hz
    subst this
    have e8:=jS he
    obtain⟨h1,_⟩:=cf hx rfl
    subst h1
    obtain⟨l,h3,h4⟩:=eW.take (wd:=wd) (hi:=hi) (h.di k _ e8:eW E w F d ⟨τ,zs⟩ (kv k) (fp k)) (hp _ (by simp))
    exact⟨by simp,by simp[e8],l,h3,h4.nodup (h.nodup k _ e8),fun b hb=>⟨k,by simp,h4.subset hb⟩⟩
   ·cases hn
  ·cases hn
 ·cases hn
theorem ac2(hE:E.Ok)(h:cE E pm F kv fp σ a w){o:Oper}{d:Nat}(ho:o.dst=some d)(hd:d<σ.n){cl:Call}{t e:TypeId}{s x:Operand}(rf:o.op=.call cl)(iq:cl.callee=.builtin .append)
  (ld:cl.args.toList=[s,x]) {u:TypeId} (Ay:cl.argTypes.toList=[t,u]) {τ:U.Ty} (tF:E.elem t=some e) (hc:E.code e=some τ) {ss:SV U} {ys:AC U}
  (hs:RS E w F kv fp (bW σ) ss (a.eval s)) (UM:tT ss=some ys)
  {rs:List Key} {ps:List Prop} {xs zs:List (U.T τ)} {ks ks':List Key} {d1 d2:Bool} {pall:List Prop} {us:List Value}
  (YJ:tz τ (restrict σ.bJ rs) ys=some (ps,xs,ks,d1)) (Da:∀k∈ks',(σ.bJ k).isSome=true) (rJ:Src E.P w u (a.eval x) (U.wd τ) zs.length us)
  (PQ:d2=true->∃fl,eI E w F true τ zs us fl/\fl.flatten.Nodup/\∀b∈fl.flatten,∃k∈ks',b∈fp k) (UQ:∃fl,eI E w (FK F fp ks') false τ zs us fl/\fl.flatten=[]) (hp:∀p∈ps,p) (GI:(ks++ks').Nodup) (hle:xs.length+zs.length<=4294967296)
  (nM:¬Names σ (d,0)) {next:Act->World->Prop} {Q:Exit->Act->World->Prop}
  (hn:∀F kv fp a' w',cE E pm F kv fp (AM.apply o ⟨some (one (.ref (d,0) [])),[(0,.arr ⟨τ,xs++zs⟩ (d1&&d2))],ks++ks',[],pall⟩ σ) a' w'->next a' w'):o.wp E.P a w next Q:=by
 obtain⟨yM,i,z,hi,hz,jd,Nk,Wk,_⟩:=hE.code e τ hc
 have hu:=CD tF
 have hw:=U.kJ τ
 obtain⟨yV,kU,l,L8,zU,Nx⟩:=ack h YJ hp (kP hs UM)
 rw[<-jd] at rJ
 have jf:∀k∈ks++ks',(σ.bJ k).isSome=true:=fun k hk=>(jr.1 hk).elim (kU k) (Da k)
 have PK:=GI
 rw[qB] at PK
 have exec:∀{v w1},(Builtin.append_ #[t,u] o.type #[a.eval s,a.eval x]).run E.P w=.ok v w1->(execOp a.eval o).run E.P w=.ok (.value v) w1:=by
  intro v w1 hr
  have ha:cl.args= #[s,x]:=yD ld
  have ht:cl.argTypes= #[t,u]:=yD Ay
  unfold execOp;simp only[rf]
  simp[resolve,iq,ha,ht,invoke,builtin,hr]
 have K3:∀{n:Nat},n<=4294967296->n<=maxLen:=fun hh=>by simp only[maxLen];omega
 have NH:∀k∈ks++ks',∀b∈fp k,b<w.heap.size:=fun k hk b hb=>by
  obtain⟨e,he⟩:=mI.1 (jf k hk)
  exact Gc h he hb
 have hnF:∀k∈ks++ks',∀b∈fp k,¬F b:=fun k hk b hb=>by
  obtain⟨e,he⟩:=mI.1 (jf k hk)
  exact(h.fK k e b he hb).1
 have hWb:∀k∈ks++ks',∀b∈fp k,pm.W b\/pm.w0.heap.size<=b:=fun k hk b hb=>by
  obtain⟨e,he⟩:=mI.1 (jf k hk)
  exact(h.fK k e b he hb).2.1
 have grow:∀(vs:List Value),(d1=true->∃fl,eI E w F true τ xs vs fl/\fl.flatten.Nodup/\∀b∈fl.flatten,∃k∈ks,b∈fp k)->(∃fl,eI E w (FK F fp ks) false τ xs vs fl/\fl.flatten=[])->
   ∀{cap:Nat}{cur:Array Value}{w1:World},(∀b,b<w.heap.size->w1.heap[b]? =w.heap[b]?)->gN (fun b=>pm.W b\/pm.w0.heap.size<=b) w w1->w.heap.size<w1.heap.size->
   w1.heap[w.heap.size]? =some (.cells cur (E.tid τ) (0,0))->(xs++zs).length<=cap->cap<=maxLen->cur.size=cap*U.wd τ->cur.toList.take ((xs++zs).length*U.wd τ)=vs++us->
   next (a.put o.dst (.slice (some ⟨w.heap.size,0,none⟩) (xs++zs).length cap)) w1:=by
  intro vs h1 h2 cap cur w1 yL pE wy hb l4 hm ur zT
  obtain⟨F',kv',fp',n8⟩:=XL h ho hd nM (τ:=τ) (rows:=xs++zs) (ks:=ks++ks') (dp:=d1&&d2) (ps:=pall) (vs:=vs++us) GI jf
   (fun kG=>by
    simp only[cK] at kG
    obtain⟨fl,f1,f2,f3⟩:=h1 kG.1
    obtain⟨gl,g1,g2,g3⟩:=PQ kG.2
    refine⟨fl++gl,f1.append g1,by rw[J7];exact Uk h GI kU Da f3 g3 f2 g2,fun b hb=> ?_⟩
    rw[J7,jr] at hb
    rcases hb with hb|hb
    ·obtain⟨k,hk,hb⟩:=f3 b hb;exact⟨k,by simp[hk],hb⟩
    ·obtain⟨k,hk,hb⟩:=g3 b hb;exact⟨k,by simp[hk],hb⟩)
   (by
    obtain⟨fl,f1,f2⟩:=h2
    obtain⟨gl,g1,g2⟩:=UQ
    exact⟨fl++gl,(f1.f_ (fun b hb=>⟨Gg (fun k hk=>by simp[hk]) hb,rfl⟩) (by simp[f2])).append (g1.f_ (fun b hb=>⟨Gg (fun k hk=>by simp[hk]) hb,rfl⟩) (by simp[g2])),by rw[J7,f2,g2];rfl⟩)
   yL pE wy hb l4 hm ur zT
  exact hn F' kv' fp' _ _ n8
 have w6:∀{b cap:Nat}{cur':Array Value}{vs:List Value}{fl:List (List Nat)}{w1:World},eI E w F d1 τ xs vs fl->l=b::fl.flatten->(∀b',b'≠b->w1.heap[b']? =w.heap[b']?)->w1.heap.size=w.heap.size->
   w1.os=w.os->w1.tape=w.tape->w1.output=w.output->w1.heap[b]? =some (.cells cur' (E.tid τ) (0,0))->(xs++zs).length<=cap->cap<=maxLen->cur'.size=cap*U.wd τ->cur'.toList.take ((xs++zs).length*U.wd τ)=vs++us->
   next (a.put o.dst (.slice (some ⟨b,0,none⟩) (xs++zs).length cap)) w1:=by
  intro b cap cur' vs fl w1 jT hl yL wy hos htp vT hb l4 hm ur zT
  subst hl
  have iO:∃k∈ks,b∈fp k:=Nx b (by simp)
  obtain⟨kb,Nz,GM⟩:=iO
  have Zg:¬F b:=hnF kb (by simp[Nz]) b GM
  have pE:gN (fun b=>pm.W b\/pm.w0.heap.size<=b) w w1:=⟨hos,htp,vT,by omega,fun k hk I8=>yL k (fun e=>I8 (e▸hWb kb (by simp[Nz]) b GM))⟩
  have C1:∀(F':Nat->Prop)(zP:List Nat) bad,RS E w1 F' (dl kv (d,0) (.slice (some ⟨b,0,none⟩) (xs++zs).length cap)) (dl fp (d,0) zP) bad (one (.ref (d,0) [])) (.slice (some ⟨b,0,none⟩) (xs++zs).length cap):=
   fun F' zP bad=>ik ⟨⟨rfl,trivial⟩,.inr (by simp only[RA,sP];rfl)⟩
  have GD:∀k e,k∉ks++ks'->σ.bJ k=some e->∀b'∈fp k,w1.heap[b']? =w.heap[b']? :=fun k e hk he b' bf=>yL b' (fun e'=>by
   subst e'
   obtain⟨eb,heb⟩:=mI.1 (kU kb Nz)
   exact h.apart kb k eb e b' (fun e'=>hk (by subst e';simp[Nz])) heb he GM bf)
  cases kG:(d1&&d2) with
  |true=>
   simp only[cK] at kG
   obtain⟨rfl,hd2⟩:=kG
   obtain⟨gl,g1,g2,g3⟩:=PQ hd2
   have pL:((b::fl.flatten)++gl.flatten).Nodup:=Uk h GI kU Da Nx g3 zU g2
   have UO:(b::(fl++gl).flatten).Nodup:=by rw[J7];exact pL
   have Wl:=(sN.1 UO).1
   have pM:∀b'∈(b::(fl++gl).flatten),∃k∈ks++ks',b'∈fp k:=fun b' bf=>by
    rw[J7,<-zex,jr] at bf
    rcases bf with bf|bf
    ·obtain⟨k,hk,bf⟩:=Nx b' bf;exact⟨k,by simp[hk],bf⟩
    ·obtain⟨k,hk,bf⟩:=g3 b' bf;exact⟨k,by simp[hk],bf⟩
   have n8:=h.DN ho hd (.arr ⟨τ,xs++zs⟩ true) (one (.ref (d,0) [])) (ks++ks') pall _ (.slice (some ⟨b,0,none⟩) (xs++zs).length cap) (b::(fl++gl).flatten) (w':=w1) (F':=F) nM (C1 F _)
    (fun bad=>eW.nr hb l4 hm ur zT ((jT.append g1).f_ (fun b' bf=>⟨bf,yL b' (fun e=>Zg (e▸bf))⟩) (fun b' bf=>yL b' (fun e=>Wl (e▸bf)))))
    (fun b' bf=>⟨bf,yL b' (fun e=>Zg (e▸bf))⟩) (fun b' bf=> .inl bf) GD UO
    (fun b' bf=>by obtain⟨k,hk,bf⟩:=pM b' bf;exact⟨hnF k hk b' bf,.inl ⟨k,hk,jf k hk,bf⟩⟩) pE
   exact hn _ _ _ _ _ (by rw[hd2];exact n8)
  |false=>
   have u9:∀b',(F b'\/b'∈fl.flatten\/∃k∈ks',b'∈fp k)->b'≠b:=by
    rintro b' (bf|bf|⟨k,hk,bf⟩) rfl
    ·exact Zg bf
    ·exact(sN.1 zU).1 bf
    ·obtain⟨e1,Y9⟩:=mI.1 (kU kb Nz)
     obtain⟨e2,sS⟩:=mI.1 (Da k hk)
     exact h.apart kb k e1 e2 b' (PK.2.2 kb Nz k hk) Y9 sS GM bf
   obtain⟨gl,g1,g2⟩:=UQ
   have Ey:=jT.k8 (F':=fun b'=>F b'\/b'∈fl.flatten\/∃k∈ks',b'∈fp k) (fun b' bf=> .inl bf) (fun b' bf=> .inr (.inl bf))
   have hr2:=g1.f_ (w':=w) (F':=fun b'=>F b'\/b'∈fl.flatten\/∃k∈ks',b'∈fp k) (fun b' bf=>⟨bf.imp id .inr,rfl⟩) (by simp[g2])
   have hr3:=(Ey.append hr2).f_ (w':=w1) (F':=fun b'=>F b'\/b'∈fl.flatten\/∃k∈ks',b'∈fp k) (fun b' bf=>⟨bf,yL b' (u9 b' bf)⟩) (by simp[g2])
   have nI:=eW.nr hb l4 hm ur zT hr3
   rw[J7,g2,yC] at nI
   have n8:=h.DN ho hd (.arr ⟨τ,xs++zs⟩ false) (one (.ref (d,0) [])) (ks++ks') pall _ (.slice (some ⟨b,0,none⟩) (xs++zs).length cap) [b] (w':=w1) (F':=fun b'=>F b'\/b'∈fl.flatten\/∃k∈ks',b'∈fp k) nM (C1 _ _)
    (fun bad=>nI)
    (fun b' bf=>⟨.inl bf,yL b' (fun e=>Zg (e▸bf))⟩)
    (by
     rintro b' (bf|bf|⟨k,hk,bf⟩)
     ·exact .inl bf
     ·obtain⟨k,hk,bf⟩:=Nx b' (by simp[bf])
      exact .inr (.inl ⟨k,by simp[hk],kU k hk,bf⟩)
     ·exact .inr (.inl ⟨k,by simp[hk],Da k hk,bf⟩))
    GD (by simp)
    (fun b' bf=>by
     rw[ma.1 bf]
     exact⟨fun hf=>u9 b hf rfl,.inl ⟨kb,by simp[Nz],kU kb Nz,GM⟩⟩) pE
   exact hn _ _ _ _ _ (by rw[kG];exact n8)
 have vr:us.length=zs.length*U.wd τ:=by obtain⟨gl,g1,_⟩:=UQ;exact g1.1
 have Yq:∀u∈us,u.oneCell'=true:=by obtain⟨gl,g1,_⟩:=UQ;exact g1.gq
 have Db:(xs.length+zs.length)*i.bytes<=140737488355328:=by
  have:=Nat.mul_le_mul hle Wk
  omega
 by_cases bi:zs.length=0
 ·have PF:zs=[]:=Em bi
  subst PF
  have vS:us=[]:=Em (by simpa using vr)
  rcases L8.rows with⟨h3,⟨N6,h4⟩,h5⟩|⟨b,cap,cur,vs,fl,h3,h4,h5,h6,h7,h8,h9,rQ⟩
  ·simp only at h3;subst h3
   have hr:=exec (v:=.slice N6 0 0) (w1:=w) (by rw[h4];exact TN w hu hi _ _ _ (by rw[vS] at rJ;exact rJ) (s_ _))
   refine rD hr ?_
   have n8:=h.DN ho hd (.arr ⟨τ,[]⟩ (d1&&d2)) (one (.ref (d,0) [])) (ks++ks') pall (.slice N6 0 0) (.slice N6 0 0) [] (w':=w) (F':=F) nM
    (fun bad=>ik ⟨⟨rfl,trivial⟩,.inr (by simp only[RA,sP];rfl)⟩) (fun bad=> .inl ⟨rfl,⟨N6,rfl⟩,rfl⟩) (fun b hb=>⟨hb,rfl⟩) (fun b hb=> .inl hb) (fun _ _ _ _ _ _=>rfl) (by simp) (by simp) (gN.refl _ _)
   exact hn _ _ _ _ _ n8
  ·simp only at h3 h4 h5 h7 h8 h9
   have hr:=exec (v:=.slice (some ⟨b,0,none⟩) xs.length cap) (w1:=w) (by rw[h3];exact TN w hu hi _ _ _ (by rw[vS] at rJ;exact rJ) h5)
   refine rD hr ?_
   have:=w6 (b:=b) (cap:=cap) (cur':=cur) (vs:=vs) (fl:=fl) (w1:=w) h9 rQ (fun _ _=>rfl) rfl rfl rfl rfl h4 (by simpa using h5) h6 h7 (by rw[vS,ww,ww];exact h8)
   simpa using this
 ·have YQ:us.length=zs.length*i.size:=by rw[jd];exact vr
  have grown:∀(vs:List Value),vs.length=xs.length*U.wd τ->(d1=true->∃fl,eI E w F true τ xs vs fl/\fl.flatten.Nodup/\∀b∈fl.flatten,∃k∈ks,b∈fp k)->(∃fl,eI E w (FK F fp ks) false τ xs vs fl/\fl.flatten=[])->
    ∀Gm:Nat,Gm<xs.length+zs.length->(Builtin.append_ #[t,u] o.type #[a.eval s,a.eval x]).run E.P w=
     .ok (.slice (some ⟨w.heap.size,0,none⟩) (xs.length+zs.length) (grownCap w (xs.length+zs.length) Gm e)) (w.drew.alloc (.cells (vs.toArray++us.toArray++Builtin.zeroCells z.cells (grownCap w (xs.length+zs.length) Gm e-(xs.length+zs.length))) e))->
    o.wp E.P a w next Q:=by
   intro vs Ex h1 h2 Gm hold je
   refine rD (exec je) ?_
   have Y4:=grownCap_ge w (xs.length+zs.length) Gm e
   have:=grow vs h1 h2 (cap:=grownCap w (xs.length+zs.length) Gm e) (cur:=vs.toArray++us.toArray++Builtin.zeroCells z.cells (grownCap w (xs.length+zs.length) Gm e-(xs.length+zs.length)))
    (w1:=w.drew.alloc (.cells (vs.toArray++us.toArray++Builtin.zeroCells z.cells (grownCap w (xs.length+zs.length) Gm e-(xs.length+zs.length))) e))
    (fun b hb=>Ah w.drew _ hb) ((gN.drew _ _).trans (gN.alloc _ _ _)) (by simp) (by rw[yM];exact heap_alloc_new w.drew _) (by simpa using Y4) (grownCap_le_maxLen w _ Gm e (K3 hle))
    (by
     simp only[Array.size_append,VH,size_zeroCells,Nk,Ex,vr,<-wz]
     congr 1;omega)
    (by
     have zU:((xs++zs).length*U.wd τ)=(vs++us).length:=by simp[Ex,vr,wz]
     simp only[Array.toList_append,wB]
     rw[<-wB,zU]
     exact List.take_left)
   simpa using this
  rcases L8.rows with⟨h3,⟨N6,h4⟩,h5⟩|⟨b,cap,cur,vs,fl,h3,h4,h5,h6,h7,h8,h9,rQ⟩
  ·simp only at h3;subst h3
   refine grown [] (by simp) (fun _=>⟨[],eI.nil,by simp,by simp⟩) ⟨[],eI.nil,rfl⟩ 0 (by omega) ?_
   rw[h4]
   simp only[fO,tY] at Db hle⊢
   cases N6 with
   |none=>
    have hr:=ab5 (ty:=o.type) w hu hi hz rJ (by omega) (by omega) (by omega)
    simpa using hr
   |some a'=>
    have hr:=TO (ty:=o.type) w hu hi hz a' 0 0 [] (by simp) (by simp) rJ (by omega) (by omega) (growslice_fits (by omega) (by simpa using Db))
    simpa using hr
  ·simp only at h3 h4 h5 h7 h8 h9
   have Ex:vs.length=xs.length*U.wd τ:=h9.1
   by_cases w7:xs.length+zs.length<=cap
   ·have NE:xs.length*i.size+us.length<=cur.size:=by rw[YQ,jd,h7,<-wz];exact zy _ w7
    have hr:=ab4 (ty:=o.type) w hu hi b xs.length cap cur (by rw[<-yM];exact h4) rJ Yq w7 NE
    rw[<-h3] at hr
    refine rD (exec hr) ?_
    have:=w6 (b:=b) (cap:=cap) (cur':=(cur.toList.take (xs.length*i.size)++us++cur.toList.drop (xs.length*i.size+us.length)).toArray) (vs:=vs) (fl:=fl)
     (w1:=w.setRow b (cur.toList.take (xs.length*i.size)++us++cur.toList.drop (xs.length*i.size+us.length)).toArray) h9 rQ (fun b' bf=>setRow_other w b b' _ bf) (by simp) rfl rfl rfl (setRow_heap w b cur _ _ _ h4) (by simpa using w7) h6
     (by
      simp only[VH,kg,oH,J6,El]
      omega)
     (by
      have zU:((xs++zs).length*U.wd τ)=(vs++us).length:=by simp[Ex,vr,wz]
      rw[jd,h8,zU]
      exact List.take_left)
    simpa using this
   ·refine grown vs Ex (fun hd1=> ?_) ?_ cap (by omega) ?_
    ·subst hd1
     exact⟨fl,h9,by rw[rQ] at zU;exact(sN.1 zU).2,fun b' bf=>Nx b' (by rw[rQ];simp[bf])⟩
    ·exact⟨_,h9.k8 (F':=FK F fp ks) (fun b hb=> .inl hb) (fun b' bf=> .inr (Nx b' (by rw[rQ];simp[bf]))),yC _⟩
    ·rw[h3]
     refine TO (ty:=o.type) w hu hi hz ⟨b,0,none⟩ xs.length cap vs (by rw[jd];exact Ex) (fun j u hu=> ?_) rJ (by omega) (by omega) (growslice_fits (by omega) Db)
     rw[Addr.add_mid,tY,cell_of_row w b _ cur _ (0,0) h4]
     rw[<-h8,oJ] at hu
     split at hu
     ·simpa using hu
     ·cases hu
theorem anV(hE:E.Ok)(h:cE E pm F kv fp σ a w){o:Oper}{d:Nat}(ho:o.dst=some d)(hd:d<σ.n){cl:Call}{t e:TypeId}{s x:Operand}(rf:o.op=.call cl)(iq:cl.callee=.builtin .append)
  (ld:cl.args.toList=[s,x]) (Ay:cl.argTypes.toList=[t,t]) {τ:U.Ty} (tF:E.elem t=some e) (hc:E.code e=some τ) {ss sx:SV U} {ys yx:AC U}
  (hs:RS E w F kv fp (bW σ) ss (a.eval s)) (UM:tT ss=some ys) (hx:RS E w F kv fp (bW σ) sx (a.eval x)) (hsx:tT sx=some yx)
  {rs:List Key} {ps qs:List Prop} {xs zs:List (U.T τ)} {ks ks':List Key} {d1 d2:Bool} {pall:List Prop}
  (YJ:tz τ (restrict σ.bJ rs) ys=some (ps,xs,ks,d1)) (I7:KP τ (restrict σ.bJ rs) yx=some (qs,zs,ks',d2)) (hp:∀p∈ps,p) (GI:(ks++ks').Nodup) (hle:xs.length+zs.length<=4294967296)
  (nM:¬Names σ (d,0)) {next:Act->World->Prop} {Q:Exit->Act->World->Prop}
  (hn:∀F kv fp a' w',cE E pm F kv fp (AM.apply o ⟨some (one (.ref (d,0) [])),[(0,.arr ⟨τ,xs++zs⟩ (d1&&d2))],ks++ks',[],pall⟩ σ) a' w'->next a' w'):o.wp E.P a w next Q:=by
 obtain⟨auf,Da,ad,c,us,hvx,PQ,UQ,UP⟩:=ame h I7 (kP hx hsx)
 have hu:=CD tF
 exact ac2 hE h ho hd rf iq ld Ay tF hc hs UM YJ Da (by rw[hvx];exact Src.slice hu (by obtain⟨gl,g1,_⟩:=UQ;exact g1.1) UP) PQ UQ hp GI hle nM hn
theorem abQ{τ:U.Ty}{s:ByteArray}{ys:List (U.T τ)}(h:As τ s=some ys)(m:Bool):ys.length=s.size/\U.wd τ=1/\∃fl,eI E w F m τ ys (s.data.toList.map fun b=>Value.int .u8 (b.toNat:Int)) fl/\fl.flatten=[]:=by
 unfold As at h
 have h0:=dQ h
 cases h0
 have hw:U.wd U.ot=1:=by rw[<-U.dj U.ot (U.e_ U.ot),U.Fz];rfl
 have wy:(s.data.toList.map fun b=>U.ofB (b.toNat:Int)).length=s.size:=by rw[wv];exact El
 have an5:(s.data.toList.map fun b=>Value.int .u8 (b.toNat:Int)).length=s.size:=by rw[wv];exact El
 refine⟨wy,hw,List.replicate s.size [],⟨by rw[wy,an5,hw,Nat.mul_one],by rw[wy,zee,hw,Nat.mul_one],fun i x j c hx hj=> ?_⟩,by simp⟩
 rw[nk] at hx
 cases hb:s.data.toList[i]? with
 |none=>rw[hb] at hx;cases hx
 |some b=>
  rw[hb] at hx
  simp only[Ek,gx] at hx
  subst hx
  rw[U.Fz,U.LF] at hj
  have hj0:j=0:=by
   cases j with
   |zero=>rfl
   |succ j=>simp at hj
  subst hj0
  simp only[t_,gx] at hj
  subst hj
  have e1:i*U.wd U.ot+0=i:=by rw[hw];omega
  rw[e1]
  have e2:(s.data.toList.map fun b=>Value.int .u8 (b.toNat:Int)).getD i undef=.int .u8 (b.toNat:Int):=by
   rw[eY,nk,hb];rfl
  have e3:(List.replicate s.size ([]:List Nat)).getD i []=[]:=by
   rw[eY,zdz];split<;>rfl
  rw[e2,e3]
  exact .lit m _ ⟨rfl,by have:=b.toNat_lt;simp only[IntKind.min,IntKind.max,IntKind.signed,IntKind.bits,wx,if_false];omega⟩
theorem anU(hE:E.Ok)(h:cE E pm F kv fp σ a w){o:Oper}{d:Nat}(ho:o.dst=some d)(hd:d<σ.n){cl:Call}{t u e:TypeId}{s x:Operand}(rf:o.op=.call cl)(iq:cl.callee=.builtin .append)
  (ld:cl.args.toList=[s,x]) (Ay:cl.argTypes.toList=[t,u]) {τ:U.Ty} (tF:E.elem t=some e) (hc:E.code e=some τ) {ss sx:SV U} {ys:AC U} {str:ByteArray}
  (hs:RS E w F kv fp (bW σ) ss (a.eval s)) (UM:tT ss=some ys) (hx:RS E w F kv fp (bW σ) sx (a.eval x)) (hsx:iR sx=some (.string str)) (hu:E.P.underlying u=some .string)
  {rs:List Key} {ps:List Prop} {xs zs:List (U.T τ)} {ks:List Key} {d1:Bool} {pall:List Prop}
  (YJ:tz τ (restrict σ.bJ rs) ys=some (ps,xs,ks,d1)) (I7:As τ str=some zs) (hp:∀p∈ps,p) (GI:ks.Nodup) (hle:xs.length+zs.length<=4294967296)
  (nM:¬Names σ (d,0)) {next:Act->World->Prop} {Q:Exit->Act->World->Prop}
  (hn:∀F kv fp a' w',cE E pm F kv fp (AM.apply o ⟨some (one (.ref (d,0) [])),[(0,.arr ⟨τ,xs++zs⟩ d1)],ks,[],pall⟩ σ) a' w'->next a' w'):o.wp E.P a w next Q:=by
 have hv:=pH hx hsx
 obtain⟨h1,h2,fl,h3,h4⟩:=abQ (E:=E) (w:=w) (F:=F) I7 true
 obtain⟨_,_,gl,g3,g4⟩:=abQ (E:=E) (w:=w) (F:=FK F fp []) I7 false
 refine ac2 (ks':=[]) (d2:=true) (zs:=zs) (us:=str.data.toList.map fun b=>Value.int .u8 (b.toNat:Int)) (pall:=pall) hE h ho hd rf iq ld Ay tF hc hs UM YJ (by simp) ?_ (fun _=>⟨fl,h3,by rw[h4];simp,by rw[h4];simp⟩) ⟨gl,g3,g4⟩ hp (by simpa using GI) hle nM ?_
 ·rw[hv,h1,h2];exact Src.string hu str
 ·simpa using hn
end AM
