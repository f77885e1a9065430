import Derived.Test.YtnndcpncmmcaaaaGreatQAmOps6
namespace AM
set_option linter.unusedVariables false
open Go
variable{U:jO}{E:Env U}{pm:Pm}
variable{F F':Nat->Prop}{kv:Key->Value}{fp:Key->List Nat}{σ:ah U}{a:Act}{w w':World}{bad:Key->Bool}
theorem bJ{τ:U.Ty}{x:fK U}{ys:List (U.T τ)}(h:dC τ x=some ys):x=⟨τ,ys⟩:=by
 obtain⟨s8,xs⟩:=x
 unfold dC at h
 cases hd:U.deq s8 τ with
 |isFalse he=>simp only[hd] at h;cases h
 |isTrue he=>
  simp only[hd] at h
  subst he
  cases h
  rfl
theorem Rp.Dz{w:World}{F:Nat->Prop}{c:U.C}{v:Value}{l:List Nat}(h:Rp E w F false c v l):l=[]:=by
 generalize hm:false=m at h
 cases h with
 |lit=>rfl
 |nil=>rfl
 |shr=>rfl
 |own=>cases hm
theorem dD.q_{τ:U.Ty}{xs:List (U.T τ)}{vs:List Value}{fl:List (List Nat)}(h:dD E w F false τ xs vs fl):fl.flatten=[]:=by
 refine List.flatten_eq_nil_iff.2 fun l hl=> ?_
 obtain⟨n,hn,rfl⟩:=zG hl
 have hw:=U.ka τ
 have hi:n/U.wd τ<xs.length:=(Nat.div_lt_iff_lt_mul hw).2 (by rw[<-h.2.1];exact hn)
 have hj:n%U.wd τ<U.wd τ:=Nat.mod_lt _ hw
 have:=h.2.2 (n/U.wd τ) xs[n/U.wd τ] (n%U.wd τ) ((U.enc τ xs[n/U.wd τ])[n%U.wd τ]'(by rw[U.cP];exact hj)) (gr hi) (gr _)
 have he:n/U.wd τ*U.wd τ+n%U.wd τ=n:=by rw[RR];exact Nat.div_add_mod n _
 rw[he,gh (l:=fl),gr hn] at this
 exact this.Dz
structure Src(P:Program)(w:World)(u:TypeId)(x:Value)(size n:Nat)(us:List Value):Prop where
 ut:(∃e,P.underlying u=some (.slice e))\/P.underlying u=some .string
 len:∀w',(Builtin.lenOf x).run P w'=.ok n w'
 first:(Builtin.firstCells size n x).run P w=.ok us.toArray w
 QD:(Builtin.firstCells size n x).run P w.drew=.ok us.toArray w.drew
theorem MR{P:Program}(w:World){t u ty e:TypeId}{i:TypeInfo}(ht:P.underlying t=some (.slice e))(hi:P.info? e=some i)(base:Option Addr)(n cap:Nat){x:Value}(h:Src P w u x i.size 0 [])(hc:n<=cap):
  (Builtin.append_ #[t,u] ty #[.slice base n cap,x]).run P w=.ok (.slice base n cap) w:=by
 have Tt:=h.ut
 have h1:=h.len
 have h2:=h.first
 rcases Tt with⟨e',hu⟩|hu<;>cases base<;>simp[Builtin.append_,run_underlying ht,run_underlying hu,Go.sizeOf,typeInfo,hi,h1,hc,h2,storeCells]
theorem ZG{P:Program}(w:World){t u ty e:TypeId}{i:TypeInfo}{z:Value}(ht:P.underlying t=some (.slice e))(hi:P.info? e=some i)(hz:i.zero=some z)
  {n:Nat} {us:List Value} {x:Value} (h:Src P w u x i.size n us)
  (h0:0<n) (h63:(n:Int)<=9223372036854775807) (h48:n*i.bytes<=281474976710656):
  (Builtin.append_ #[t,u] ty #[.slice none 0 0,x]).run P w=
   .ok (.slice (some ⟨w.heap.size,0,none⟩) n (grownCap w n 0 e)) (w.drew.alloc (.cells (us.toArray++Builtin.zeroCells z.cells (grownCap w n 0 e-n)) e)):=by
 have Tt:=h.ut
 have h1:=h.len
 have h2:=h.QD
 have hn:n≠0:=by omega
 have abc:¬(9223372036854775807<(n:Int)):=by omega
 have abd:¬(281474976710656<Builtin.nextslicecap n 0*i.bytes):=by rw[nextslicecap_zero h0];omega
 rcases Tt with⟨e',hu⟩|hu<;>simp[Builtin.append_,run_underlying ht,run_underlying hu,Go.sizeOf,typeInfo,zeroValue,hi,hz,h1,hn,abc,abd,Question.forced,run_firstCells_none,h2,newRow,grownCap]
theorem MS{P:Program}(w:World){t u ty e:TypeId}{i:TypeInfo}{z:Value}(ht:P.underlying t=some (.slice e))(hi:P.info? e=some i)(hz:i.zero=some z)
  (b:Addr) (pB Am:Nat) (Su:List Value) (H0:Su.length=pB*i.size) (holds:∀j v,Su[j]? =some v->w.cell? (b.add j)=some v)
  {n:Nat} {us:List Value} {x:Value} (h:Src P w u x i.size n us)
  (hg:Am<pB+n) (h63:((pB+n:Nat):Int)<=9223372036854775807) (IW:Builtin.nextslicecap (pB+n) Am*i.bytes<=281474976710656):
  (Builtin.append_ #[t,u] ty #[.slice (some b) pB Am,x]).run P w=
   .ok (.slice (some ⟨w.heap.size,0,none⟩) (pB+n) (grownCap w (pB+n) Am e))
    (w.drew.alloc (.cells (Su.toArray++us.toArray++Builtin.zeroCells z.cells (grownCap w (pB+n) Am e-(pB+n))) e)):=by
 have Tt:=h.ut
 have h1:=h.len
 have h2:=h.QD
 have hn:¬(pB+n<=Am):=by omega
 have abc:¬(9223372036854775807<((pB:Int)+(n:Int))):=by omega
 have abd:¬(281474976710656<Builtin.nextslicecap (pB+n) Am*i.bytes):=by omega
 have yK:=run_firstCells_some (P:=P) w.drew i.size pB b pB Am Su H0 (by simpa using holds)
 rcases Tt with⟨e',hu⟩|hu<;>
   (simp[Builtin.append_,run_underlying ht,run_underlying hu,Go.sizeOf,typeInfo,zeroValue,hi,hz,h1,hn,abc,abd,Question.forced,h2,yK,newRow,grownCap]
    congr 2
    apply Array.ext'
    simp[qc])
theorem ZF{P:Program}(w:World){t u ty e:TypeId}{i:TypeInfo}(ht:P.underlying t=some (.slice e))(hi:P.info? e=some i)
  (g pB Am:Nat) (cur:Array Value) (hg:w.heap[g]? =some (.cells cur e (0,0)))
  {m:Nat} {us:List Value} {x:Value} (h:Src P w u x i.size m us) (h1:∀u∈us,u.oneCell'=true)
  (qQ:pB+m<=Am) (IW:pB*i.size+us.length<=cur.size):
  (Builtin.append_ #[t,u] ty #[.slice (some ⟨g,0,none⟩) pB Am,x]).run P w=
   .ok (.slice (some ⟨g,0,none⟩) (pB+m) Am) (w.setRow g (cur.toList.take (pB*i.size)++us++cur.toList.drop (pB*i.size+us.length)).toArray):=by
 have Tt:=h.ut
 have H5:=h.len
 have hf:=h.first
 have nd:=run_storeCells_at P g (pB*i.size) e us 0 cur w hg (by simpa using IW) h1
 simp only[Aj] at nd
 rcases Tt with⟨e',hu⟩|hu<;>simp[Builtin.append_,run_underlying ht,run_underlying hu,Go.sizeOf,typeInfo,hi,H5,qQ,hf,Addr.add_lit,nd]
theorem Src.slice{P:Program}{w:World}{t e:TypeId}(ht:P.underlying t=some (.slice e)){size n c:Nat}{ad:Option Addr}{us:List Value}(hl:us.length=n*size)
  (h:0<n->∃b off,ad=some ⟨b,off,none⟩/\∀i u,us[i]? =some u->w.cell? ⟨b,off+i,none⟩=some u):Src P w t (.slice ad n c) size n us:=by
 refine⟨.inl ⟨_,ht⟩,fun w'=>rfl,?_,?_⟩
 ·by_cases hn:0<n
  ·obtain⟨b,off,rfl,h2⟩:=h hn
   exact run_firstCells_some (P:=P) w size n ⟨b,off,none⟩ n c us hl (fun j u hu=>by rw[Addr.add_mid];exact h2 j u hu)
  ·have:n=0:=by omega
   subst this
   have:us=[]:=yG (by simpa using hl)
   subst this
   cases ad<;>simp[Builtin.firstCells,loadCells,loadCellsFrom]
 ·by_cases hn:0<n
  ·obtain⟨b,off,rfl,h2⟩:=h hn
   exact run_firstCells_some (P:=P) w.drew size n ⟨b,off,none⟩ n c us hl (fun j u hu=>by rw[Addr.add_mid];exact h2 j u hu)
  ·have:n=0:=by omega
   subst this
   have:us=[]:=yG (by simpa using hl)
   subst this
   cases ad<;>simp[Builtin.firstCells,loadCells,loadCellsFrom]
theorem Src.string{P:Program}{w:World}{u:TypeId}(hu:P.underlying u=some .string){size:Nat}(s:ByteArray):Src P w u (.string s) size s.size (s.data.toList.map fun b=>Value.int .u8 (b.toNat:Int)):=by
 have hx:(Array.map (fun b:UInt8=>Value.int IntKind.u8 (b.toNat:Int)) (s.extract 0 s.size).data)=(s.data.toList.map fun b=>Value.int .u8 (b.toNat:Int)).toArray:=by
  have:s.extract 0 s.size=s:=ByteArray.extract_zero_size
  rw[this]
  apply Array.ext'
  simp
 refine⟨.inr hu,fun w'=>rfl,?_,?_⟩
 ·simp only[Builtin.firstCells,hx];rfl
 ·simp only[Builtin.firstCells,hx];rfl
theorem anb(h:cd E pm F kv fp σ a w){τ:U.Ty}{rs:List Key}{x:AC U}{v:Value}{ps:List Prop}{ys:List (U.T τ)}{ks:List Key}{d:Bool}
  (hn:Gg τ (restrict σ.aU rs) x=some (ps,ys,ks,d)) (hx:RD E w F kv fp (aZ σ) x v):
  ks.Nodup/\(∀k∈ks,(σ.aU k).isSome=true)/\∃ad c us,v=.slice ad ys.length c/\
   (d=true->∃fl,dD E w F true τ ys us fl/\fl.flatten.Nodup/\∀b∈fl.flatten,∃k∈ks,b∈fp k)/\
   (∃fl,dD E w (FK F fp ks) false τ ys us fl/\fl.flatten=[])/\
   (0<ys.length->∃b off,ad=some ⟨b,off,none⟩/\∀i u,us[i]? =some u->w.cell? ⟨b,off+i,none⟩=some u):=by
 unfold Gg at hn
 split at hn
 ·cases hn
  obtain⟨ad,h1⟩:=bG hx rfl
  exact⟨by simp,by simp,ad,0,[],h1,fun _=>⟨[],dD.nil,by simp,by simp⟩,⟨[],dD.nil,rfl⟩,fun h=>by simp at h⟩
 ·rename_i k
  split at hn
  ·rename_i y d' he
   split at hn
   ·rename_i zs hz
    cases hn
    have:=bJ hz
    subst this
    have dr:=fA he
    have h1:v=kv k:=bG hx rfl
    have h2:cF E w F d ⟨τ,ys⟩ (kv k) (fp k):=h.cT k _ dr
    rw[<-h1] at h2
    have oB:=h.nodup k _ dr
    rcases h2.rows with⟨h3,⟨ad,h4⟩,h5⟩|⟨b,cap,cur,vs,fl,h3,h4,h5,h6,h7,h8,h9,rk⟩
    ·simp only at h3;subst h3
     exact⟨by simp,by simp[dr],ad,0,[],h4,fun _=>⟨[],dD.nil,by simp,by simp⟩,⟨[],dD.nil,rfl⟩,fun h=>by simp at h⟩
    ·simp only at h3 h4 h5 h7 h8 h9
     rw[rk] at oB
     refine⟨by simp,by simp[dr],some ⟨b,0,none⟩,cap,vs,h3,fun hd=> ?_,?_,fun _=>⟨b,0,rfl,fun i u hu=> ?_⟩⟩
     ·subst hd
      exact⟨fl,h9,(pH.1 oB).2,fun b' aI=>⟨k,by simp,by rw[rk];simp[aI]⟩⟩
     ·exact⟨_,h9.i_ (F':=FK F fp [k]) (fun b hb=> .inl hb) (fun b' aI=> .inr ⟨k,by simp,by rw[rk];simp[aI]⟩),yY _⟩
     ·rw[<-h8,mP] at hu
      split at hu
      ·rw[cell_of_row w b _ cur _ (0,0) h4];simpa using hu
      ·cases hu
   ·cases hn
  ·cases hn
 ·rename_i s8 ys'
  split at hn
  ·rename_i zs hz
   cases hn
   have:=bJ hz
   cases this
   have h1:Rp E w F false _ _ _:=bG hx rfl
   have lits:U.flat τ=true->∀{F:Nat->Prop}{m:Bool}{x:U.T τ}{j:Nat}{c:U.C}{u:Value}{l:List Nat},(U.enc τ x)[j]? =some c->Rp E w F m c u l->Rp E w F true c u []:=by
    intro Ek F m x j c u l hj hr
    obtain⟨v,rfl⟩:=U.L_ τ Ek x c (Ep hj)
    generalize hc:(Cell.lit v:U.C)=c at hr
    cases hr with
    |lit _ _ hv=>cases hc;exact .lit _ _ hv
    |nil=>cases hc
    |shr=>cases hc
    |own=>cases hc
   rcases h1.inv with⟨h0,ad,c,rfl⟩|⟨b,off,cap,vs,rfl,hF,hc,hv,hr⟩
   ·subst h0
    exact⟨by simp,by simp,ad,c,[],rfl,fun _=>⟨[],dD.nil,by simp,by simp⟩,⟨[],dD.nil,rfl⟩,fun h=>by simp at h⟩
   ·have fB:∀(m:Bool)(F':Nat->Prop),(∀i x j c,ys[i]? =some x->(U.enc τ x)[j]? =some c->Rp E w F' m c (vs (i*U.wd τ+j)) [])->dD E w F' m τ ys ((List.range (ys.length*U.wd τ)).map vs) (List.replicate (ys.length*U.wd τ) []):=by
     intro m F' hh
     refine⟨by simp,by simp,fun i x j c hx hj=> ?_⟩
     have fx:=eI hx hj
     rw[kA,gh,mE,JZ fx]
     exact hh i x j c hx hj
    refine⟨by simp,by simp,some ⟨b,off,none⟩,cap,(List.range (ys.length*U.wd τ)).map vs,rfl,fun hd=> ?_,?_,fun _=>⟨b,off,rfl,fun i u hu=> ?_⟩⟩
    ·exact⟨_,fB true F (fun i x j c hx hj=>lits hd hj (hr i x j c hx hj)),by rw[yY];simp,by rw[yY];simp⟩
    ·exact⟨_,fB false _ (fun i x j c hx hj=>(hr i x j c hx hj).fe (fun b hb=> .inl hb)),yY _⟩
    ·rw[mE] at hu
     by_cases hi:i<ys.length*U.wd τ
     ·rw[JZ hi] at hu
      cases hu
      exact hv i hi
     ·rw[lU (by simp;omega)] at hu;cases hu
  ·cases hn
 ·cases hn
theorem ao6{x:AC U}{v:Value}{bad:Key->Bool}(h:RD E w F kv fp bad x v):RD E w F kv fp bad (acJ x) v:=by
 cases x with
 |kn b τ xs=>
  refine⟨h.1,?_⟩
  rcases h.2 with g|g
  ·simp[gg] at g
  ·exact .inr g.1
 |c _=>exact h
 |e0=>exact h
 |ref _ _=>exact h
 |sub _ _ _ _=>exact h
 |iC _ _ _ _ _=>exact h
 |ji _ _=>exact h
 |ia _=>exact h
theorem ana(h:cd E pm F kv fp σ a w){τ:U.Ty}{rs:List Key}{x:AC U}{v:Value}{ps:List Prop}{ys:List (U.T τ)}{ks:List Key}{d:Bool}
  (hn:Ky τ (restrict σ.aU rs) x=some (ps,ys,ks,d)) (hx:RD E w F kv fp (aZ σ) x v):
  ks.Nodup/\(∀k∈ks,(σ.aU k).isSome=true)/\∃ad c us,v=.slice ad ys.length c/\
   (d=true->∃fl,dD E w F true τ ys us fl/\fl.flatten.Nodup/\∀b∈fl.flatten,∃k∈ks,b∈fp k)/\
   (∃fl,dD E w (FK F fp ks) false τ ys us fl/\fl.flatten=[])/\
   (0<ys.length->∃b off,ad=some ⟨b,off,none⟩/\∀i u,us[i]? =some u->w.cell? ⟨b,off+i,none⟩=some u):=
 anb h hn (ao6 hx)
theorem adw(h:cd E pm F kv fp σ a w){τ:U.Ty}{rs:List Key}{x:AC U}{v:Value}{ps:List Prop}{xs:List (U.T τ)}{ks:List Key}{d:Bool}
  (hn:tm τ (restrict σ.aU rs) x=some (ps,xs,ks,d)) (hp:∀p∈ps,p) (hx:RD E w F kv fp (aZ σ) x v):
  ks.Nodup/\(∀k∈ks,(σ.aU k).isSome=true)/\∃l,cF E w F d ⟨τ,xs⟩ v l/\l.Nodup/\∀b∈l,∃k∈ks,b∈fp k:=by
 unfold tm at hn
 split at hn
 ·cases hn
  obtain⟨ad,h1⟩:=bG hx rfl
  exact⟨by simp,by simp,[],.inl ⟨rfl,⟨ad,h1⟩,rfl⟩,by simp,by simp⟩
 ·rename_i k
  split at hn
  ·rename_i y d' he
   split at hn
   ·rename_i zs hz
    cases hn
    have:=bJ hz
    subst this
    have dr:=fA he
    have h1:v=kv k:=bG hx rfl
    subst h1
    exact⟨by simp,by simp[dr],fp k,h.cT k _ dr,h.nodup k _ dr,fun b hb=>⟨k,by simp,hb⟩⟩
   ·cases hn
  ·rename_i y dead he
   split at hn
   ·rename_i zs hz
    cases hn
    have:=bJ hz
    subst this
    have dr:=fA he
    have h1:v=kv k:=bG hx rfl
    subst h1
    exact⟨by simp,by simp[dr],fp k,cM.own (h.cT k _ dr) (hp _ (by simp)),h.nodup k _ dr,fun b hb=>⟨k,by simp,hb⟩⟩
   ·cases hn
  ·cases hn
 ·rename_i k wd hi
  split at hn
  ·rename_i y d' he
   split at hn
   ·rename_i zs hz
    cases hn
    have:=bJ hz
    subst this
    have dr:=fA he
    obtain⟨h1,_⟩:=bG hx rfl
    subst h1
    obtain⟨l,h3,h4⟩:=cF.take (wd:=wd) (hi:=hi) (h.cT k _ dr:cF E w F d ⟨τ,zs⟩ (kv k) (fp k)) (hp _ (by simp))
    exact⟨by simp,by simp[dr],l,h3,h4.nodup (h.nodup k _ dr),fun b hb=>⟨k,by simp,h4.subset hb⟩⟩
   ·cases hn
  ·cases hn
 ·cases hn
theorem aea(hE:E.Ok)(h:cd E pm F kv fp σ a w){o:Oper}{d:Nat}(ho:o.dst=some d)(hd:d<σ.n){cl:Call}{t e:TypeId}{s x:Operand}(mI:o.op=.call cl)(fa:cl.callee=.builtin .append)
  (ib:cl.args.toList=[s,x]) {u:TypeId} (vi:cl.argTypes.toList=[t,u]) {τ:U.Ty} (pV:E.elem t=some e) (hc:E.code e=some τ) {ss:SV U} {ys:AC U}
  (hs:RS E w F kv fp (aZ σ) ss (a.eval s)) (Tx:sd ss=some ys)
  {rs:List Key} {ps:List Prop} {xs zs:List (U.T τ)} {ks ks':List Key} {d1 d2:Bool} {pall:List Prop} {us:List Value}
  (HZ:tm τ (restrict σ.aU rs) ys=some (ps,xs,ks,d1)) (Dm:∀k∈ks',(σ.aU k).isSome=true) (kk:Src E.P w u (a.eval x) (U.wd τ) zs.length us)
  (NE:d2=true->∃fl,dD E w F true τ zs us fl/\fl.flatten.Nodup/\∀b∈fl.flatten,∃k∈ks',b∈fp k) (TG:∃fl,dD E w (FK F fp ks') false τ zs us fl/\fl.flatten=[]) (hp:∀p∈ps,p) (Ej:(ks++ks').Nodup) (hle:xs.length+zs.length<=4294967296)
  (jq:¬Names σ (d,0)) {next:Act->World->Prop} {Q:Exit->Act->World->Prop}
  (hn:∀F kv fp a' w',cd E pm F kv fp (AM.apply o ⟨some (one (.ref (d,0) [])),[(0,.arr ⟨τ,xs++zs⟩ (d1&&d2))],ks++ks',[],pall,[]⟩ σ) a' w'->next a' w'):o.wp E.P a w next Q:=by
 obtain⟨uY,i,z,hi,hz,fZ,J2,Qm,_⟩:=hE.code e τ hc
 have hu:=y3 pV
 have hw:=U.ka τ
 obtain⟨lg,eS,l,zS,pf,KS⟩:=adw h HZ hp (bD hs Tx)
 rw[<-fZ] at kk
 have fQ:∀k∈ks++ks',(σ.aU k).isSome=true:=fun k hk=>(gA.1 hk).elim (eS k) (Dm k)
 have PL:=Ej
 rw[nH] at PL
 have exec:∀{v w1},(Builtin.append_ #[t,u] o.type #[a.eval s,a.eval x]).run E.P w=.ok v w1->(execOp a.eval o).run E.P w=.ok (.value v) w1:=by
  intro v w1 hr
  have ha:cl.args= #[s,x]:=vy ib
  have ht:cl.argTypes= #[t,u]:=vy vi
  unfold execOp;simp only[mI]
  simp[resolve,fa,ha,ht,invoke,builtin,hr]
 have Gv:∀{n:Nat},n<=4294967296->n<=maxLen:=fun hh=>by simp only[maxLen];omega
 have rj:∀k∈ks++ks',∀b∈fp k,b<w.heap.size:=fun k hk b hb=>by
  obtain⟨e,he⟩:=kH.1 (fQ k hk)
  exact vx h he hb
 have VN:∀k∈ks++ks',∀b∈fp k,¬F b:=fun k hk b hb=>by
  obtain⟨e,he⟩:=kH.1 (fQ k hk)
  exact(h.cU k e b he hb).1
 have hWb:∀k∈ks++ks',∀b∈fp k,pm.W b\/pm.w0.heap.size<=b:=fun k hk b hb=>by
  obtain⟨e,he⟩:=kH.1 (fQ k hk)
  exact(h.cU k e b he hb).2.1
 have grow:∀(vs:List Value),(d1=true->∃fl,dD E w F true τ xs vs fl/\fl.flatten.Nodup/\∀b∈fl.flatten,∃k∈ks,b∈fp k)->(∃fl,dD E w (FK F fp ks) false τ xs vs fl/\fl.flatten=[])->
   ∀{cap:Nat}{cur:Array Value}{w1:World},(∀b,b<w.heap.size->w1.heap[b]? =w.heap[b]?)->fm (fun b=>pm.W b\/pm.w0.heap.size<=b) w w1->w.heap.size<w1.heap.size->
   w1.heap[w.heap.size]? =some (.cells cur (E.tid τ) (0,0))->(xs++zs).length<=cap->cap<=maxLen->cur.size=cap*U.wd τ->cur.toList.take ((xs++zs).length*U.wd τ)=vs++us->
   next (a.put o.dst (.slice (some ⟨w.heap.size,0,none⟩) (xs++zs).length cap)) w1:=by
  intro vs h1 h2 cap cur w1 s9 kx mS hb jr hm lh vj
  obtain⟨F',kv',fp',la⟩:=ZO h ho hd jq (τ:=τ) (rows:=xs++zs) (ks:=ks++ks') (dp:=d1&&d2) (ps:=pall) (vs:=vs++us) Ej fQ
   (fun jh=>by
    simp only[fY] at jh
    obtain⟨fl,f1,f2,f3⟩:=h1 jh.1
    obtain⟨gl,g1,g2,g3⟩:=NE jh.2
    refine⟨fl++gl,f1.append g1,by rw[Ak];exact Sm h Ej eS Dm f3 g3 f2 g2,fun b hb=> ?_⟩
    rw[Ak,gA] at hb
    rcases hb with hb|hb
    ·obtain⟨k,hk,hb⟩:=f3 b hb;exact⟨k,by simp[hk],hb⟩
    ·obtain⟨k,hk,hb⟩:=g3 b hb;exact⟨k,by simp[hk],hb⟩)
   (by
    obtain⟨fl,f1,f2⟩:=h2
    obtain⟨gl,g1,g2⟩:=TG
    exact⟨fl++gl,(f1.cI (fun b hb=>⟨Ga (fun k hk=>by simp[hk]) hb,rfl⟩) (by simp[f2])).append (g1.cI (fun b hb=>⟨Ga (fun k hk=>by simp[hk]) hb,rfl⟩) (by simp[g2])),by rw[Ak,f2,g2];rfl⟩)
   s9 kx mS hb jr hm lh vj
  exact hn F' kv' fp' _ _ la
 have wJ:∀{b cap:Nat}{cur':Array Value}{vs:List Value}{fl:List (List Nat)}{w1:World},dD E w F d1 τ xs vs fl->l=b::fl.flatten->(∀b',b'≠b->w1.heap[b']? =w.heap[b']?)->w1.heap.size=w.heap.size->
   w1.os=w.os->w1.tape=w.tape->w1.output=w.output->w.drawn<=w1.drawn->w1.heap[b]? =some (.cells cur' (E.tid τ) (0,0))->(xs++zs).length<=cap->cap<=maxLen->cur'.size=cap*U.wd τ->cur'.toList.take ((xs++zs).length*U.wd τ)=vs++us->
   next (a.put o.dst (.slice (some ⟨b,0,none⟩) (xs++zs).length cap)) w1:=by
  intro b cap cur' vs fl w1 fB hl s9 mS hos htp rE NQ hb jr hm lh vj
  subst hl
  have gX:∃k∈ks,b∈fp k:=KS b (by simp)
  obtain⟨kb,NL,GH⟩:=gX
  have T':¬F b:=VN kb (by simp[NL]) b GH
  have kx:fm (fun b=>pm.W b\/pm.w0.heap.size<=b) w w1:=⟨hos,htp,rE,by omega,fun k hk Ez=>s9 k (fun e=>Ez (e▸hWb kb (by simp[NL]) b GH)),NQ⟩
  have rD:∀(F':Nat->Prop)(y7:List Nat) bad,RS E w1 F' (bx kv (d,0) (.slice (some ⟨b,0,none⟩) (xs++zs).length cap)) (bx fp (d,0) y7) bad (one (.ref (d,0) [])) (.slice (some ⟨b,0,none⟩) (xs++zs).length cap):=
   fun F' y7 bad=>fT ⟨⟨rfl,trivial⟩,.inr (by simp only[RA,gW];rfl)⟩
  have Gw:∀k e,k∉ks++ks'->σ.aU k=some e->∀b'∈fp k,w1.heap[b']? =w.heap[b']? :=fun k e hk he b' aI=>s9 b' (fun e'=>by
   subst e'
   obtain⟨eb,heb⟩:=kH.1 (eS kb NL)
   exact h.apart kb k eb e b' (fun e'=>hk (by subst e';simp[NL])) heb he GH aI)
  cases jh:(d1&&d2) with
  |true=>
   simp only[fY] at jh
   obtain⟨rfl,hd2⟩:=jh
   obtain⟨gl,g1,g2,g3⟩:=NE hd2
   have oB:((b::fl.flatten)++gl.flatten).Nodup:=Sm h Ej eS Dm KS g3 pf g2
   have TF:(b::(fl++gl).flatten).Nodup:=by rw[Ak];exact oB
   have RO:=(pH.1 TF).1
   have pE:∀b'∈(b::(fl++gl).flatten),∃k∈ks++ks',b'∈fp k:=fun b' aI=>by
    rw[Ak,<-zex,gA] at aI
    rcases aI with aI|aI
    ·obtain⟨k,hk,aI⟩:=KS b' aI;exact⟨k,by simp[hk],aI⟩
    ·obtain⟨k,hk,aI⟩:=g3 b' aI;exact⟨k,by simp[hk],aI⟩
   have la:=h.zx ho hd (.arr ⟨τ,xs++zs⟩ true) (one (.ref (d,0) [])) (ks++ks') pall _ (.slice (some ⟨b,0,none⟩) (xs++zs).length cap) (b::(fl++gl).flatten) (w':=w1) (F':=F) jq (rD F _)
    (fun bad=>cF.jm hb jr hm lh vj ((fB.append g1).cI (fun b' aI=>⟨aI,s9 b' (fun e=>T' (e▸aI))⟩) (fun b' aI=>s9 b' (fun e=>RO (e▸aI)))))
    (fun b' aI=>⟨aI,s9 b' (fun e=>T' (e▸aI))⟩) (fun b' aI=> .inl aI) Gw TF
    (fun b' aI=>by obtain⟨k,hk,aI⟩:=pE b' aI;exact⟨VN k hk b' aI,.inl ⟨k,hk,fQ k hk,aI⟩⟩) kx
   exact hn _ _ _ _ _ (by rw[hd2];exact la)
  |false=>
   have vO:∀b',(F b'\/b'∈fl.flatten\/∃k∈ks',b'∈fp k)->b'≠b:=by
    rintro b' (aI|aI|⟨k,hk,aI⟩) rfl
    ·exact T' aI
    ·exact(pH.1 pf).1 aI
    ·obtain⟨e1,L5⟩:=kH.1 (eS kb NL)
     obtain⟨e2,nX⟩:=kH.1 (Dm k hk)
     exact h.apart kb k e1 e2 b' (PL.2.2 kb NL k hk) L5 nX GH aI
   obtain⟨gl,g1,g2⟩:=TG
   have zc:=fB.i_ (F':=fun b'=>F b'\/b'∈fl.flatten\/∃k∈ks',b'∈fp k) (fun b' aI=> .inl aI) (fun b' aI=> .inr (.inl aI))
   have hr2:=g1.cI (w':=w) (F':=fun b'=>F b'\/b'∈fl.flatten\/∃k∈ks',b'∈fp k) (fun b' aI=>⟨aI.imp id .inr,rfl⟩) (by simp[g2])
   have hr3:=(zc.append hr2).cI (w':=w1) (F':=fun b'=>F b'\/b'∈fl.flatten\/∃k∈ks',b'∈fp k) (fun b' aI=>⟨aI,s9 b' (vO b' aI)⟩) (by simp[g2])
   have kz:=cF.jm hb jr hm lh vj hr3
   rw[Ak,g2,yY] at kz
   have la:=h.zx ho hd (.arr ⟨τ,xs++zs⟩ false) (one (.ref (d,0) [])) (ks++ks') pall _ (.slice (some ⟨b,0,none⟩) (xs++zs).length cap) [b] (w':=w1) (F':=fun b'=>F b'\/b'∈fl.flatten\/∃k∈ks',b'∈fp k) jq (rD _ _)
    (fun bad=>kz)
    (fun b' aI=>⟨.inl aI,s9 b' (fun e=>T' (e▸aI))⟩)
    (by
     rintro b' (aI|aI|⟨k,hk,aI⟩)
     ·exact .inl aI
     ·obtain⟨k,hk,aI⟩:=KS b' (by simp[aI])
      exact .inr (.inl ⟨k,by simp[hk],eS k hk,aI⟩)
     ·exact .inr (.inl ⟨k,by simp[hk],Dm k hk,aI⟩))
    Gw (by simp)
    (fun b' aI=>by
     rw[g_.1 aI]
     exact⟨fun hf=>vO b hf rfl,.inl ⟨kb,by simp[NL],eS kb NL,GH⟩⟩) kx
   exact hn _ _ _ _ _ (by rw[jh];exact la)
 have sO:us.length=zs.length*U.wd τ:=by obtain⟨gl,g1,_⟩:=TG;exact g1.1
 have PK:∀u∈us,u.oneCell'=true:=by obtain⟨gl,g1,_⟩:=TG;exact g1.dQ
 have tI:(xs.length+zs.length)*i.bytes<=140737488355328:=by
  have:=Nat.mul_le_mul hle Qm
  omega
 by_cases aG:zs.length=0
 ·have PI:zs=[]:=yG aG
  subst PI
  have rC:us=[]:=yG (by simpa using sO)
  rcases zS.rows with⟨h3,⟨Lg,h4⟩,h5⟩|⟨b,cap,cur,vs,fl,h3,h4,h5,h6,h7,h8,h9,rk⟩
  ·simp only at h3;subst h3
   have hr:=exec (v:=.slice Lg 0 0) (w1:=w) (by rw[h4];exact MR w hu hi _ _ _ (by rw[rC] at kk;exact kk) (og _))
   refine pC hr ?_
   have la:=h.zx ho hd (.arr ⟨τ,[]⟩ (d1&&d2)) (one (.ref (d,0) [])) (ks++ks') pall (.slice Lg 0 0) (.slice Lg 0 0) [] (w':=w) (F':=F) jq
    (fun bad=>fT ⟨⟨rfl,trivial⟩,.inr (by simp only[RA,gW];rfl)⟩) (fun bad=> .inl ⟨rfl,⟨Lg,rfl⟩,rfl⟩) (fun b hb=>⟨hb,rfl⟩) (fun b hb=> .inl hb) (fun _ _ _ _ _ _=>rfl) (by simp) (by simp) (fm.refl _ _)
   exact hn _ _ _ _ _ la
  ·simp only at h3 h4 h5 h7 h8 h9
   have hr:=exec (v:=.slice (some ⟨b,0,none⟩) xs.length cap) (w1:=w) (by rw[h3];exact MR w hu hi _ _ _ (by rw[rC] at kk;exact kk) h5)
   refine pC hr ?_
   have:=wJ (b:=b) (cap:=cap) (cur':=cur) (vs:=vs) (fl:=fl) (w1:=w) h9 rk (fun _ _=>rfl) rfl rfl rfl rfl (og _) h4 (by simpa using h5) h6 h7 (by rw[rC,sI,sI];exact h8)
   simpa using this
 ·have PU:us.length=zs.length*i.size:=by rw[fZ];exact sO
  have grown:∀(vs:List Value),vs.length=xs.length*U.wd τ->(d1=true->∃fl,dD E w F true τ xs vs fl/\fl.flatten.Nodup/\∀b∈fl.flatten,∃k∈ks,b∈fp k)->(∃fl,dD E w (FK F fp ks) false τ xs vs fl/\fl.flatten=[])->
    ∀yH:Nat,yH<xs.length+zs.length->(Builtin.append_ #[t,u] o.type #[a.eval s,a.eval x]).run E.P w=
     .ok (.slice (some ⟨w.heap.size,0,none⟩) (xs.length+zs.length) (grownCap w (xs.length+zs.length) yH e)) (w.drew.alloc (.cells (vs.toArray++us.toArray++Builtin.zeroCells z.cells (grownCap w (xs.length+zs.length) yH e-(xs.length+zs.length))) e))->
    o.wp E.P a w next Q:=by
   intro vs yI h1 h2 yH hold fw
   refine pC (exec fw) ?_
   have TU:=grownCap_ge w (xs.length+zs.length) yH e
   have:=grow vs h1 h2 (cap:=grownCap w (xs.length+zs.length) yH e) (cur:=vs.toArray++us.toArray++Builtin.zeroCells z.cells (grownCap w (xs.length+zs.length) yH e-(xs.length+zs.length)))
    (w1:=w.drew.alloc (.cells (vs.toArray++us.toArray++Builtin.zeroCells z.cells (grownCap w (xs.length+zs.length) yH e-(xs.length+zs.length))) e))
    (fun b hb=>yW w.drew _ hb) ((fm.drew _ _).trans (fm.alloc _ _ _)) (by simp) (by rw[uY];exact heap_alloc_new w.drew _) (by simpa using TU) (grownCap_le_maxLen w _ yH e (Gv hle))
    (by
     simp only[Array.size_append,Rt,size_zeroCells,J2,yI,sO,<-ta]
     congr 1;omega)
    (by
     have pf:((xs++zs).length*U.wd τ)=(vs++us).length:=by simp[yI,sO,ta]
     simp only[Array.toList_append,qc]
     rw[<-qc,pf]
     exact List.take_left)
   simpa using this
  rcases zS.rows with⟨h3,⟨Lg,h4⟩,h5⟩|⟨b,cap,cur,vs,fl,h3,h4,h5,h6,h7,h8,h9,rk⟩
  ·simp only at h3;subst h3
   refine grown [] (by simp) (fun _=>⟨[],dD.nil,by simp,by simp⟩) ⟨[],dD.nil,rfl⟩ 0 (by omega) ?_
   rw[h4]
   simp only[ii,oz] at tI hle⊢
   cases Lg with
   |none=>
    have hr:=ZG (ty:=o.type) w hu hi hz kk (by omega) (by omega) (by omega)
    simpa using hr
   |some a'=>
    have hr:=MS (ty:=o.type) w hu hi hz a' 0 0 [] (by simp) (by simp) kk (by omega) (by omega) (growslice_fits (by omega) (by simpa using tI))
    simpa using hr
  ·simp only at h3 h4 h5 h7 h8 h9
   have yI:vs.length=xs.length*U.wd τ:=h9.1
   by_cases qQ:xs.length+zs.length<=cap
   ·have IW:xs.length*i.size+us.length<=cur.size:=by rw[PU,fZ,h7,<-ta];exact u9 _ qQ
    have hr:=ZF (ty:=o.type) w hu hi b xs.length cap cur (by rw[<-uY];exact h4) kk PK qQ IW
    rw[<-h3] at hr
    refine pC (exec hr) ?_
    have:=wJ (b:=b) (cap:=cap) (cur':=(cur.toList.take (xs.length*i.size)++us++cur.toList.drop (xs.length*i.size+us.length)).toArray) (vs:=vs) (fl:=fl)
     (w1:=w.setRow b (cur.toList.take (xs.length*i.size)++us++cur.toList.drop (xs.length*i.size+us.length)).toArray) h9 rk (fun b' aI=>setRow_other w b b' _ aI) (by simp) rfl rfl rfl (og _) (setRow_heap w b cur _ _ _ h4) (by simpa using qQ) h6
     (by
      simp only[Rt,kF,mO,FT,yM]
      omega)
     (by
      have pf:((xs++zs).length*U.wd τ)=(vs++us).length:=by simp[yI,sO,ta]
      rw[fZ,h8,pf]
      exact List.take_left)
    simpa using this
   ·refine grown vs yI (fun hd1=> ?_) ?_ cap (by omega) ?_
    ·subst hd1
     exact⟨fl,h9,by rw[rk] at pf;exact(pH.1 pf).2,fun b' aI=>KS b' (by rw[rk];simp[aI])⟩
    ·exact⟨_,h9.i_ (F':=FK F fp ks) (fun b hb=> .inl hb) (fun b' aI=> .inr (KS b' (by rw[rk];simp[aI]))),yY _⟩
    ·rw[h3]
     refine MS (ty:=o.type) w hu hi hz ⟨b,0,none⟩ xs.length cap vs (by rw[fZ];exact yI) (fun j u hu=> ?_) kk (by omega) (by omega) (growslice_fits (by omega) tI)
     rw[Addr.add_mid,oz,cell_of_row w b _ cur _ (0,0) h4]
     rw[<-h8,mP] at hu
     split at hu
     ·simpa using hu
     ·cases hu
theorem ao1(hE:E.Ok)(h:cd E pm F kv fp σ a w){o:Oper}{d:Nat}(ho:o.dst=some d)(hd:d<σ.n){cl:Call}{t e:TypeId}{s x:Operand}(mI:o.op=.call cl)(fa:cl.callee=.builtin .append)
  (ib:cl.args.toList=[s,x]) (vi:cl.argTypes.toList=[t,t]) {τ:U.Ty} (pV:E.elem t=some e) (hc:E.code e=some τ) {ss sx:SV U} {ys yx:AC U}
  (hs:RS E w F kv fp (aZ σ) ss (a.eval s)) (Tx:sd ss=some ys) (hx:RS E w F kv fp (aZ σ) sx (a.eval x)) (hsx:sd sx=some yx)
  {rs:List Key} {ps qs:List Prop} {xs zs:List (U.T τ)} {ks ks':List Key} {d1 d2:Bool} {pall:List Prop}
  (HZ:tm τ (restrict σ.aU rs) ys=some (ps,xs,ks,d1)) (IK:Ky τ (restrict σ.aU rs) yx=some (qs,zs,ks',d2)) (hp:∀p∈ps,p) (Ej:(ks++ks').Nodup) (hle:xs.length+zs.length<=4294967296)
  (jq:¬Names σ (d,0)) {next:Act->World->Prop} {Q:Exit->Act->World->Prop}
  (hn:∀F kv fp a' w',cd E pm F kv fp (AM.apply o ⟨some (one (.ref (d,0) [])),[(0,.arr ⟨τ,xs++zs⟩ (d1&&d2))],ks++ks',[],pall,[]⟩ σ) a' w'->next a' w'):o.wp E.P a w next Q:=by
 obtain⟨as_,Dm,ad,c,us,hvx,NE,TG,PR⟩:=ana h IK (bD hx hsx)
 have hu:=y3 pV
 exact aea hE h ho hd mI fa ib vi pV hc hs Tx HZ Dm (by rw[hvx];exact Src.slice hu (by obtain⟨gl,g1,_⟩:=TG;exact g1.1) PR) NE TG hp Ej hle jq hn
theorem ac1{τ:U.Ty}{s:ByteArray}{ys:List (U.T τ)}(h:Aw τ s=some ys)(m:Bool):ys.length=s.size/\U.wd τ=1/\∃fl,dD E w F m τ ys (s.data.toList.map fun b=>Value.int .u8 (b.toNat:Int)) fl/\fl.flatten=[]:=by
 unfold Aw at h
 have h0:=bJ h
 cases h0
 have hw:U.wd U.om=1:=by rw[<-U.cP U.om (U.dt U.om),U.Fz];rfl
 have mS:(s.data.toList.map fun b=>U.ofB (b.toNat:Int)).length=s.size:=by rw[wj];exact yM
 have aav:(s.data.toList.map fun b=>Value.int .u8 (b.toNat:Int)).length=s.size:=by rw[wj];exact yM
 refine⟨mS,hw,List.replicate s.size [],⟨by rw[mS,aav,hw,Nat.mul_one],by rw[mS,X1,hw,Nat.mul_one],fun i x j c hx hj=> ?_⟩,by simp⟩
 rw[mE] at hx
 cases hb:s.data.toList[i]? with
 |none=>rw[hb] at hx;cases hx
 |some b=>
  rw[hb] at hx
  simp only[Ef,eZ] at hx
  subst hx
  rw[U.Fz,U.Ls] at hj
  have hj0:j=0:=by
   cases j with
   |zero=>rfl
   |succ j=>simp at hj
  subst hj0
  simp only[sT,eZ] at hj
  subst hj
  have e1:i*U.wd U.om+0=i:=by rw[hw];omega
  rw[e1]
  have e2:(s.data.toList.map fun b=>Value.int .u8 (b.toNat:Int)).getD i undef=.int .u8 (b.toNat:Int):=by
   rw[gh,mE,hb];rfl
  have e3:(List.replicate s.size ([]:List Nat)).getD i []=[]:=by
   rw[gh,zdz];split<;>rfl
  rw[e2,e3]
  exact .lit m _ ⟨rfl,by have:=b.toNat_lt;simp only[IntKind.min,IntKind.max,IntKind.signed,IntKind.bits,yN,if_false];omega⟩
theorem ao0(hE:E.Ok)(h:cd E pm F kv fp σ a w){o:Oper}{d:Nat}(ho:o.dst=some d)(hd:d<σ.n){cl:Call}{t u e:TypeId}{s x:Operand}(mI:o.op=.call cl)(fa:cl.callee=.builtin .append)
  (ib:cl.args.toList=[s,x]) (vi:cl.argTypes.toList=[t,u]) {τ:U.Ty} (pV:E.elem t=some e) (hc:E.code e=some τ) {ss sx:SV U} {ys:AC U} {str:ByteArray}
  (hs:RS E w F kv fp (aZ σ) ss (a.eval s)) (Tx:sd ss=some ys) (hx:RS E w F kv fp (aZ σ) sx (a.eval x)) (hsx:ie sx=some (.string str)) (hu:E.P.underlying u=some .string)
  {rs:List Key} {ps:List Prop} {xs zs:List (U.T τ)} {ks:List Key} {d1:Bool} {pall:List Prop}
  (HZ:tm τ (restrict σ.aU rs) ys=some (ps,xs,ks,d1)) (IK:Aw τ str=some zs) (hp:∀p∈ps,p) (Ej:ks.Nodup) (hle:xs.length+zs.length<=4294967296)
  (jq:¬Names σ (d,0)) {next:Act->World->Prop} {Q:Exit->Act->World->Prop}
  (hn:∀F kv fp a' w',cd E pm F kv fp (AM.apply o ⟨some (one (.ref (d,0) [])),[(0,.arr ⟨τ,xs++zs⟩ d1)],ks,[],pall,[]⟩ σ) a' w'->next a' w'):o.wp E.P a w next Q:=by
 have hv:=pD hx hsx
 obtain⟨h1,h2,fl,h3,h4⟩:=ac1 (E:=E) (w:=w) (F:=F) IK true
 obtain⟨_,_,gl,g3,g4⟩:=ac1 (E:=E) (w:=w) (F:=FK F fp []) IK false
 refine aea (ks':=[]) (d2:=true) (zs:=zs) (us:=str.data.toList.map fun b=>Value.int .u8 (b.toNat:Int)) (pall:=pall) hE h ho hd mI fa ib vi pV hc hs Tx HZ (by simp) ?_ (fun _=>⟨fl,h3,by rw[h4];simp,by rw[h4];simp⟩) ⟨gl,g3,g4⟩ hp (by simpa using Ej) hle jq ?_
 ·rw[hv,h1,h2];exact Src.string hu str
 ·simpa using hn
end AM
