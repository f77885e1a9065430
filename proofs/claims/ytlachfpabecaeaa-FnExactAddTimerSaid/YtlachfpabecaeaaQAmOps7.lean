/- THE ABSTRACT MACHINE: append. -/
import Derived.Test.YtlachfpabecaeaaQAmOps6
namespace AM
set_option linter.unusedVariables false
open Go
variable{U:dh}{E:Env U}{pm:Pm}
variable{F F':Nat->Prop}{kv:Key->Value}{fp:Key->List Nat}{σ:aa U}{a:Act}{w w':World}{bad:Key->Bool}
theorem aT{τ:U.Ty}{x:eT U}{ys:List (U.T τ)}(h:ct τ x=some ys):x=⟨τ,ys⟩:=by
 obtain⟨nj,xs⟩:=x
 unfold ct at h
 cases hd:U.Lj nj τ with
 |isFalse he=>simp only[hd] at h;cases h
 |isTrue he=>
  simp only[hd] at h
  subst he
  cases h
  rfl
theorem Rp.uZ{w:World}{F:Nat->Prop}{c:U.C}{v:Value}{l:List Nat}(h:Rp E w F false c v l):l=[]:=by
 generalize hm:false=m at h
 cases h with
 |lit=>rfl
 |nil=>rfl
 |shr=>rfl
 |own=>cases hm
theorem aR.p_{τ:U.Ty}{xs:List (U.T τ)}{vs:List Value}{fl:List (List Nat)}(h:aR E w F false τ xs vs fl):fl.flatten=[]:=by
 refine List.flatten_eq_nil_iff.2 fun l hl=> ?_
 obtain⟨n,hn,rfl⟩:=pA hl
 have hw:=U.c_ τ
 have hi:n/U.wd τ<xs.length:=(Nat.div_lt_iff_lt_mul hw).2 (by rw[<-h.2.1];exact hn)
 have hj:n%U.wd τ<U.wd τ:=Nat.mod_lt _ hw
 have:=h.2.2 (n/U.wd τ) xs[n/U.wd τ] (n%U.wd τ) ((U.enc τ xs[n/U.wd τ])[n%U.wd τ]'(by rw[U.aM];exact hj)) (cE hi) (cE _)
 have he:n/U.wd τ*U.wd τ+n%U.wd τ=n:=by rw[xh];exact Nat.div_add_mod n _
 rw[he,cI (l:=fl),cE hn] at this
 exact this.uZ
structure Src(P:Program)(w:World)(u:TypeId)(x:Value)(size n:Nat)(us:List Value):Prop where
 ut:(∃e,P.underlying u=some (.slice e))\/P.underlying u=some .string
 len:∀w',(Builtin.lenOf x).run P w'=.ok n w'
 first:(Builtin.firstCells size n x).run P w=.ok us.toArray w
 uX:(Builtin.firstCells size n x).run P w.drew=.ok us.toArray w.drew
theorem vV{P:Program}(w:World){t u ty e:TypeId}{i:TypeInfo}(ht:P.underlying t=some (.slice e))(hi:P.info? e=some i)(base:Option Addr)(n cap:Nat){x:Value}(h:Src P w u x i.size 0 [])(hc:n<=cap):
  (Builtin.append_ #[t,u] ty #[.slice base n cap,x]).run P w=.ok (.slice base n cap) w:=by
 have zt:=h.ut
 have h1:=h.len
 have h2:=h.first
 rcases zt with⟨e',hu⟩|hu<;>cases base<;>simp[Builtin.append_,run_underlying ht,run_underlying hu,Go.sizeOf,typeInfo,hi,h1,hc,h2,storeCells]
theorem C9{P:Program}(w:World){t u ty e:TypeId}{i:TypeInfo}{z:Value}(ht:P.underlying t=some (.slice e))(hi:P.info? e=some i)(hz:i.zero=some z)
  {n:Nat} {us:List Value} {x:Value} (h:Src P w u x i.size n us)
  (h0:0<n) (Qo:(n:Int)<=9223372036854775807) (Rm:n*i.bytes<=281474976710656):
  (Builtin.append_ #[t,u] ty #[.slice none 0 0,x]).run P w=
   .ok (.slice (some ⟨w.heap.size,0,none⟩) n (grownCap w n 0 e)) (w.drew.alloc (.cells (us.toArray++Builtin.zeroCells z.cells (grownCap w n 0 e-n)) e)):=by
 have zt:=h.ut
 have h1:=h.len
 have h2:=h.uX
 have hn:n≠0:=by omega
 have Ax:¬(9223372036854775807<(n:Int)):=by omega
 have Ay:¬(281474976710656<Builtin.nextslicecap n 0*i.bytes):=by rw[nextslicecap_zero h0];omega
 rcases zt with⟨e',hu⟩|hu<;>simp[Builtin.append_,run_underlying ht,run_underlying hu,Go.sizeOf,typeInfo,zeroValue,hi,hz,h1,hn,Ax,Ay,Question.forced,run_firstCells_none,h2,newRow,grownCap]
theorem vW{P:Program}(w:World){t u ty e:TypeId}{i:TypeInfo}{z:Value}(ht:P.underlying t=some (.slice e))(hi:P.info? e=some i)(hz:i.zero=some z)
  (b:Addr) (eE ji:Nat) (wy:List Value) (Kn:wy.length=eE*i.size) (holds:∀j v,wy[j]? =some v->w.cell? (b.add j)=some v)
  {n:Nat} {us:List Value} {x:Value} (h:Src P w u x i.size n us)
  (hg:ji<eE+n) (Qo:((eE+n:Nat):Int)<=9223372036854775807) (p7:Builtin.nextslicecap (eE+n) ji*i.bytes<=281474976710656):
  (Builtin.append_ #[t,u] ty #[.slice (some b) eE ji,x]).run P w=
   .ok (.slice (some ⟨w.heap.size,0,none⟩) (eE+n) (grownCap w (eE+n) ji e))
    (w.drew.alloc (.cells (wy.toArray++us.toArray++Builtin.zeroCells z.cells (grownCap w (eE+n) ji e-(eE+n))) e)):=by
 have zt:=h.ut
 have h1:=h.len
 have h2:=h.uX
 have hn:¬(eE+n<=ji):=by omega
 have Ax:¬(9223372036854775807<((eE:Int)+(n:Int))):=by omega
 have Ay:¬(281474976710656<Builtin.nextslicecap (eE+n) ji*i.bytes):=by omega
 have wT:=run_firstCells_some (P:=P) w.drew i.size eE b eE ji wy Kn (by simpa using holds)
 rcases zt with⟨e',hu⟩|hu<;>
   (simp[Builtin.append_,run_underlying ht,run_underlying hu,Go.sizeOf,typeInfo,zeroValue,hi,hz,h1,hn,Ax,Ay,Question.forced,h2,wT,newRow,grownCap]
    congr 2
    apply Array.ext'
    simp[jz])
theorem C8{P:Program}(w:World){t u ty e:TypeId}{i:TypeInfo}(ht:P.underlying t=some (.slice e))(hi:P.info? e=some i)
  (g eE ji:Nat) (cur:Array Value) (hg:w.heap[g]? =some (.cells cur e (0,0)))
  {m:Nat} {us:List Value} {x:Value} (h:Src P w u x i.size m us) (h1:∀u∈us,u.oneCell'=true)
  (ea:eE+m<=ji) (p7:eE*i.size+us.length<=cur.size):
  (Builtin.append_ #[t,u] ty #[.slice (some ⟨g,0,none⟩) eE ji,x]).run P w=
   .ok (.slice (some ⟨g,0,none⟩) (eE+m) ji) (w.setRow g (cur.toList.take (eE*i.size)++us++cur.toList.drop (eE*i.size+us.length)).toArray):=by
 have zt:=h.ut
 have qn:=h.len
 have hf:=h.first
 have gW:=run_storeCells_at P g (eE*i.size) e us 0 cur w hg (by simpa using p7) h1
 simp only[pn] at gW
 rcases zt with⟨e',hu⟩|hu<;>simp[Builtin.append_,run_underlying ht,run_underlying hu,Go.sizeOf,typeInfo,hi,qn,ea,hf,Addr.add_lit,gW]
theorem Src.slice{P:Program}{w:World}{t e:TypeId}(ht:P.underlying t=some (.slice e)){size n c:Nat}{ad:Option Addr}{us:List Value}(hl:us.length=n*size)
  (h:0<n->∃b off,ad=some ⟨b,off,none⟩/\∀i u,us[i]? =some u->w.cell? ⟨b,off+i,none⟩=some u):Src P w t (.slice ad n c) size n us:=by
 refine⟨.inl ⟨_,ht⟩,fun w'=>rfl,?_,?_⟩
 ·by_cases hn:0<n
  ·obtain⟨b,off,rfl,h2⟩:=h hn
   exact run_firstCells_some (P:=P) w size n ⟨b,off,none⟩ n c us hl (fun j u hu=>by rw[Addr.add_mid];exact h2 j u hu)
  ·have:n=0:=by omega
   subst this
   have:us=[]:=pB (by simpa using hl)
   subst this
   cases ad<;>simp[Builtin.firstCells,loadCells,loadCellsFrom]
 ·by_cases hn:0<n
  ·obtain⟨b,off,rfl,h2⟩:=h hn
   exact run_firstCells_some (P:=P) w.drew size n ⟨b,off,none⟩ n c us hl (fun j u hu=>by rw[Addr.add_mid];exact h2 j u hu)
  ·have:n=0:=by omega
   subst this
   have:us=[]:=pB (by simpa using hl)
   subst this
   cases ad<;>simp[Builtin.firstCells,loadCells,loadCellsFrom]
theorem Src.string{P:Program}{w:World}{u:TypeId}(hu:P.underlying u=some .string){size:Nat}(s:ByteArray):Src P w u (.string s) size s.size (s.data.toList.map fun b=>Value.int .u8 (b.toNat:Int)):=by
 have hx:(Array.map (fun b:UInt8=>Value.int IntKind.u8 (b.toNat:Int)) (s.extract 0 s.size).data)=(s.data.toList.map fun b=>Value.int .u8 (b.toNat:Int)).toArray:=by
  have:s.extract 0 s.size=s:=ByteArray.extract_zero_size
  rw[this]
  apply Array.ext'
  simp
 refine⟨.inr hu,fun w'=>rfl,?_,?_⟩
 ·simp only[Builtin.firstCells,hx];rfl
 ·simp only[Builtin.firstCells,hx];rfl
theorem H9(h:aC E pm F kv fp σ a w){τ:U.Ty}{rs:List Key}{x:AC U}{v:Value}{ps:List Prop}{ys:List (U.T τ)}{ks:List Key}{d:Bool}
  (hn:n7 τ (restrict σ.aq rs) x=some (ps,ys,ks,d)) (hx:RD E w F kv fp (av σ) x v):
  ks.Nodup/\(∀k∈ks,(σ.aq k).isSome=true)/\∃ad c us,v=.slice ad ys.length c/\
   (d=true->∃fl,aR E w F true τ ys us fl/\fl.flatten.Nodup/\∀b∈fl.flatten,∃k∈ks,b∈fp k)/\
   (∃fl,aR E w (FK F fp ks) false τ ys us fl/\fl.flatten=[])/\
   (0<ys.length->∃b off,ad=some ⟨b,off,none⟩/\∀i u,us[i]? =some u->w.cell? ⟨b,off+i,none⟩=some u):=by
 unfold n7 at hn
 split at hn
 ·cases hn
  obtain⟨ad,h1⟩:=ax hx rfl
  exact⟨by simp,by simp,ad,0,[],h1,fun _=>⟨[],aR.nil,by simp,by simp⟩,⟨[],aR.nil,rfl⟩,fun h=>by simp at h⟩
 ·rename_i k
  split at hn
  ·rename_i y d' he
   split at hn
   ·rename_i zs hz
    cases hn
    have:=aT hz
    subst this
    have bf:=cJ he
    have h1:v=kv k:=ax hx rfl
    have h2:ba E w F d ⟨τ,ys⟩ (kv k) (fp k):=h.aJ k _ bf
    rw[<-h1] at h2
    have eH:=h.nodup k _ bf
    rcases h2.rows with⟨h3,⟨ad,h4⟩,h5⟩|⟨b,cap,cur,vs,fl,h3,h4,h5,h6,h7,h8,h9,js⟩
    ·simp only at h3;subst h3
     exact⟨by simp,by simp[bf],ad,0,[],h4,fun _=>⟨[],aR.nil,by simp,by simp⟩,⟨[],aR.nil,rfl⟩,fun h=>by simp at h⟩
    ·simp only at h3 h4 h5 h7 h8 h9
     rw[js] at eH
     refine⟨by simp,by simp[bf],some ⟨b,0,none⟩,cap,vs,h3,fun hd=> ?_,?_,fun _=>⟨b,0,rfl,fun i u hu=> ?_⟩⟩
     ·subst hd
      exact⟨fl,h9,(fU.1 eH).2,fun b' aj=>⟨k,by simp,by rw[js];simp[aj]⟩⟩
     ·exact⟨_,h9.di (F':=FK F fp [k]) (fun b hb=> .inl hb) (fun b' aj=> .inr ⟨k,by simp,by rw[js];simp[aj]⟩),kt _⟩
     ·rw[<-h8,eP] at hu
      split at hu
      ·rw[cell_of_row w b _ cur _ (0,0) h4];simpa using hu
      ·cases hu
   ·cases hn
  ·cases hn
 ·rename_i nj Q5
  split at hn
  ·rename_i zs hz
   cases hn
   have:=aT hz
   cases this
   have h1:Rp E w F false _ _ _:=ax hx rfl
   have lits:U.flat τ=true->∀{F:Nat->Prop}{m:Bool}{x:U.T τ}{j:Nat}{c:U.C}{u:Value}{l:List Nat},(U.enc τ x)[j]? =some c->Rp E w F m c u l->Rp E w F true c u []:=by
    intro p6 F m x j c u l hj hr
    obtain⟨v,rfl⟩:=U.rO τ p6 x c (np hj)
    generalize hc:(Cell.lit v:U.C)=c at hr
    cases hr with
    |lit _ _ hv=>cases hc;exact .lit _ _ hv
    |nil=>cases hc
    |shr=>cases hc
    |own=>cases hc
   rcases h1.inv with⟨h0,ad,c,rfl⟩|⟨b,off,cap,vs,rfl,hF,hc,hv,hr⟩
   ·subst h0
    exact⟨by simp,by simp,ad,c,[],rfl,fun _=>⟨[],aR.nil,by simp,by simp⟩,⟨[],aR.nil,rfl⟩,fun h=>by simp at h⟩
   ·have cK:∀(m:Bool)(F':Nat->Prop),(∀i x j c,ys[i]? =some x->(U.enc τ x)[j]? =some c->Rp E w F' m c (vs (i*U.wd τ+j)) [])->aR E w F' m τ ys ((List.range (ys.length*U.wd τ)).map vs) (List.replicate (ys.length*U.wd τ) []):=by
     intro m F' hh
     refine⟨by simp,by simp,fun i x j c hx hj=> ?_⟩
     have bZ:=bw hx hj
     rw[nT,cI,eC,ri bZ]
     exact hh i x j c hx hj
    refine⟨by simp,by simp,some ⟨b,off,none⟩,cap,(List.range (ys.length*U.wd τ)).map vs,rfl,fun hd=> ?_,?_,fun _=>⟨b,off,rfl,fun i u hu=> ?_⟩⟩
    ·exact⟨_,cK true F (fun i x j c hx hj=>lits hd hj (hr i x j c hx hj)),by rw[kt];simp,by rw[kt];simp⟩
    ·exact⟨_,cK false _ (fun i x j c hx hj=>(hr i x j c hx hj).bG (fun b hb=> .inl hb)),kt _⟩
    ·rw[eC] at hu
     by_cases hi:i<ys.length*U.wd τ
     ·rw[ri hi] at hu
      cases hu
      exact hv i hi
     ·rw[eD (by simp;omega)] at hu;cases hu
  ·cases hn
 ·cases hn
theorem JP{x:AC U}{v:Value}{bad:Key->Bool}(h:RD E w F kv fp bad x v):RD E w F kv fp bad (Cv x) v:=by
 cases x with
 |kn b τ xs=>
  refine⟨h.1,?_⟩
  rcases h.2 with g|g
  ·simp[ck] at g
  ·exact .inr g.1
 |c _=>exact h
 |e0=>exact h
 |ref _ _=>exact h
 |sub _ _ _ _=>exact h
 |dt _ _ _ _ _=>exact h
 |cR _ _=>exact h
 |ia _=>exact h
theorem H8(h:aC E pm F kv fp σ a w){τ:U.Ty}{rs:List Key}{x:AC U}{v:Value}{ps:List Prop}{ys:List (U.T τ)}{ks:List Key}{d:Bool}
  (hn:qG τ (restrict σ.aq rs) x=some (ps,ys,ks,d)) (hx:RD E w F kv fp (av σ) x v):
  ks.Nodup/\(∀k∈ks,(σ.aq k).isSome=true)/\∃ad c us,v=.slice ad ys.length c/\
   (d=true->∃fl,aR E w F true τ ys us fl/\fl.flatten.Nodup/\∀b∈fl.flatten,∃k∈ks,b∈fp k)/\
   (∃fl,aR E w (FK F fp ks) false τ ys us fl/\fl.flatten=[])/\
   (0<ys.length->∃b off,ad=some ⟨b,off,none⟩/\∀i u,us[i]? =some u->w.cell? ⟨b,off+i,none⟩=some u):=
 H9 h hn (JP hx)
theorem Dn(h:aC E pm F kv fp σ a w){τ:U.Ty}{rs:List Key}{x:AC U}{v:Value}{ps:List Prop}{xs:List (U.T τ)}{ks:List Key}{d:Bool}
  (hn:ie τ (restrict σ.aq rs) x=some (ps,xs,ks,d)) (hp:∀p∈ps,p) (hx:RD E w F kv fp (av σ) x v):
  ks.Nodup/\(∀k∈ks,(σ.aq k).isSome=true)/\∃l,ba E w F d ⟨τ,xs⟩ v l/\l.Nodup/\∀b∈l,∃k∈ks,b∈fp k:=by
 unfold ie at hn
 split at hn
 ·cases hn
  obtain⟨ad,h1⟩:=ax hx rfl
  exact⟨by simp,by simp,[],.inl ⟨rfl,⟨ad,h1⟩,rfl⟩,by simp,by simp⟩
 ·rename_i k
  split at hn
  ·rename_i y d' he
   split at hn
   ·rename_i zs hz
    cases hn
    have:=aT hz
    subst this
    have bf:=cJ he
    have h1:v=kv k:=ax hx rfl
    subst h1
    exact⟨by simp,by simp[bf],fp k,h.aJ k _ bf,h.nodup k _ bf,fun b hb=>⟨k,by simp,hb⟩⟩
   ·cases hn
  ·rename_i y dead he
   split at hn
   ·rename_i zs hz
    cases hn
    have:=aT hz
    subst this
    have bf:=cJ he
    have h1:v=kv k:=ax hx rfl
    subst h1
    exact⟨by simp,by simp[bf],fp k,aW.own (h.aJ k _ bf) (hp _ (by simp)),h.nodup k _ bf,fun b hb=>⟨k,by simp,hb⟩⟩
   ·cases hn
  ·cases hn
 ·rename_i k wd hi
  split at hn
  ·rename_i y d' he
   split at hn
   ·rename_i zs hz
    cases hn
    have:=aT hz
    subst this
    have bf:=cJ he
    obtain⟨h1,_⟩:=ax hx rfl
    subst h1
    obtain⟨l,h3,h4⟩:=ba.take (wd:=wd) (hi:=hi) (h.aJ k _ bf:ba E w F d ⟨τ,zs⟩ (kv k) (fp k)) (hp _ (by simp))
    exact⟨by simp,by simp[bf],l,h3,h4.nodup (h.nodup k _ bf),fun b hb=>⟨k,by simp,h4.subset hb⟩⟩
   ·cases hn
  ·cases hn
 ·cases hn
theorem D1(hE:E.Ok)(h:aC E pm F kv fp σ a w){o:Oper}{d:Nat}(ho:o.dst=some d)(hd:d<σ.n){cl:Call}{t e:TypeId}{s x:Operand}(fV:o.op=.call cl)(cp:cl.callee=.builtin .append)
  (dr:cl.args.toList=[s,x]) {u:TypeId} (ly:cl.argTypes.toList=[t,u]) {τ:U.Ty} (iq:E.elem t=some e) (hc:E.code e=some τ) {ss:SV U} {ys:AC U}
  (hs:RS E w F kv fp (av σ) ss (a.eval s)) (wJ:iA ss=some ys)
  {rs:List Key} {ps:List Prop} {xs zs:List (U.T τ)} {ks ks':List Key} {d1 d2:Bool} {pall:List Prop} {us:List Value}
  (zN:ie τ (restrict σ.aq rs) ys=some (ps,xs,ks,d1)) (mi:∀k∈ks',(σ.aq k).isSome=true) (dU:Src E.P w u (a.eval x) (U.wd τ) zs.length us)
  (uu:d2=true->∃fl,aR E w F true τ zs us fl/\fl.flatten.Nodup/\∀b∈fl.flatten,∃k∈ks',b∈fp k) (wN:∃fl,aR E w (FK F fp ks') false τ zs us fl/\fl.flatten=[]) (hp:∀p∈ps,p) (oj:(ks++ks').Nodup) (hle:xs.length+zs.length<=4294967296)
  (eK:¬Names σ (d,0)) {next:Act->World->Prop} {Q:Exit->Act->World->Prop}
  (hn:∀F kv fp a' w',aC E pm F kv fp (AM.apply o ⟨some (one (.ref (d,0) [])),[(0,.arr ⟨τ,xs++zs⟩ (d1&&d2))],ks++ks',[],pall⟩ σ) a' w'->next a' w'):o.wp E.P a w next Q:=by
 obtain⟨jM,i,z,hi,hz,ci,kz,pu,_⟩:=hE.code e τ hc
 have hu:=l5 iq
 have hw:=U.c_ τ
 obtain⟨kF,ej,l,rI,nb,sO⟩:=Dn h zN hp (de hs wJ)
 rw[<-ci] at dU
 have cG:∀k∈ks++ks',(σ.aq k).isSome=true:=fun k hk=>(cZ.1 hk).elim (ej k) (mi k)
 have ul:=oj
 rw[fW] at ul
 have exec:∀{v w1},(Builtin.append_ #[t,u] o.type #[a.eval s,a.eval x]).run E.P w=.ok v w1->(execOp a.eval o).run E.P w=.ok (.value v) w1:=by
  intro v w1 hr
  have ha:cl.args= #[s,x]:=ku dr
  have ht:cl.argTypes= #[t,u]:=ku ly
  unfold execOp;simp only[fV]
  simp[resolve,cp,ha,ht,invoke,builtin,hr]
 have qR:∀{n:Nat},n<=4294967296->n<=maxLen:=fun hh=>by simp only[maxLen];omega
 have sV:∀k∈ks++ks',∀b∈fp k,b<w.heap.size:=fun k hk b hb=>by
  obtain⟨e,he⟩:=ef.1 (cG k hk)
  exact nU h he hb
 have BV:∀k∈ks++ks',∀b∈fp k,¬F b:=fun k hk b hb=>by
  obtain⟨e,he⟩:=ef.1 (cG k hk)
  exact(h.bC k e b he hb).1
 have Gv:∀k∈ks++ks',∀b∈fp k,pm.W b\/pm.w0.heap.size<=b:=fun k hk b hb=>by
  obtain⟨e,he⟩:=ef.1 (cG k hk)
  exact(h.bC k e b he hb).2.1
 have grow:∀(vs:List Value),(d1=true->∃fl,aR E w F true τ xs vs fl/\fl.flatten.Nodup/\∀b∈fl.flatten,∃k∈ks,b∈fp k)->(∃fl,aR E w (FK F fp ks) false τ xs vs fl/\fl.flatten=[])->
   ∀{cap:Nat}{cur:Array Value}{w1:World},(∀b,b<w.heap.size->w1.heap[b]? =w.heap[b]?)->bH (fun b=>pm.W b\/pm.w0.heap.size<=b) w w1->w.heap.size<w1.heap.size->
   w1.heap[w.heap.size]? =some (.cells cur (E.tid τ) (0,0))->(xs++zs).length<=cap->cap<=maxLen->cur.size=cap*U.wd τ->cur.toList.take ((xs++zs).length*U.wd τ)=vs++us->
   next (a.put o.dst (.slice (some ⟨w.heap.size,0,none⟩) (xs++zs).length cap)) w1:=by
  intro vs h1 h2 cap cur w1 jL eJ iG hb dM hm gS gy
  obtain⟨F',kv',fp',eI⟩:=yM h ho hd eK (τ:=τ) (rows:=xs++zs) (ks:=ks++ks') (dp:=d1&&d2) (ps:=pall) (vs:=vs++us) oj cG
   (fun dq=>by
    simp only[dR] at dq
    obtain⟨fl,f1,f2,f3⟩:=h1 dq.1
    obtain⟨gl,g1,g2,g3⟩:=uu dq.2
    refine⟨fl++gl,f1.append g1,by rw[pq];exact wv h oj ej mi f3 g3 f2 g2,fun b hb=> ?_⟩
    rw[pq,cZ] at hb
    rcases hb with hb|hb
    ·obtain⟨k,hk,hb⟩:=f3 b hb;exact⟨k,by simp[hk],hb⟩
    ·obtain⟨k,hk,hb⟩:=g3 b hb;exact⟨k,by simp[hk],hb⟩)
   (by
    obtain⟨fl,f1,f2⟩:=h2
    obtain⟨gl,g1,g2⟩:=wN
    exact⟨fl++gl,(f1.bD (fun b hb=>⟨nY (fun k hk=>by simp[hk]) hb,rfl⟩) (by simp[f2])).append (g1.bD (fun b hb=>⟨nY (fun k hk=>by simp[hk]) hb,rfl⟩) (by simp[g2])),by rw[pq,f2,g2];rfl⟩)
   jL eJ iG hb dM hm gS gy
  exact hn F' kv' fp' _ _ eI
 have fC:∀{b cap:Nat}{cur':Array Value}{vs:List Value}{fl:List (List Nat)}{w1:World},aR E w F d1 τ xs vs fl->l=b::fl.flatten->(∀b',b'≠b->w1.heap[b']? =w.heap[b']?)->w1.heap.size=w.heap.size->
   w1.os=w.os->w1.tape=w.tape->w1.output=w.output->w1.heap[b]? =some (.cells cur' (E.tid τ) (0,0))->(xs++zs).length<=cap->cap<=maxLen->cur'.size=cap*U.wd τ->cur'.toList.take ((xs++zs).length*U.wd τ)=vs++us->
   next (a.put o.dst (.slice (some ⟨b,0,none⟩) (xs++zs).length cap)) w1:=by
  intro b cap cur' vs fl w1 cK hl jL iG Kd J4 jn hb dM hm gS gy
  subst hl
  have cq:∃k∈ks,b∈fp k:=sO b (by simp)
  obtain⟨kb,sQ,ot⟩:=cq
  have As:¬F b:=BV kb (by simp[sQ]) b ot
  have eJ:bH (fun b=>pm.W b\/pm.w0.heap.size<=b) w w1:=⟨Kd,J4,jn,by omega,fun k hk pW=>jL k (fun e=>pW (e▸Gv kb (by simp[sQ]) b ot))⟩
  have mg:∀(F':Nat->Prop)(kU:List Nat) bad,RS E w1 F' (aO kv (d,0) (.slice (some ⟨b,0,none⟩) (xs++zs).length cap)) (aO fp (d,0) kU) bad (one (.ref (d,0) [])) (.slice (some ⟨b,0,none⟩) (xs++zs).length cap):=
   fun F' kU bad=>b8 ⟨⟨rfl,trivial⟩,.inr (by simp only[RA,gV];rfl)⟩
  have oi:∀k e,k∉ks++ks'->σ.aq k=some e->∀b'∈fp k,w1.heap[b']? =w.heap[b']? :=fun k e hk he b' aj=>jL b' (fun e'=>by
   subst e'
   obtain⟨eb,KH⟩:=ef.1 (ej kb sQ)
   exact h.apart kb k eb e b' (fun e'=>hk (by subst e';simp[sQ])) KH he ot aj)
  cases dq:(d1&&d2) with
  |true=>
   simp only[dR] at dq
   obtain⟨rfl,OM⟩:=dq
   obtain⟨gl,g1,g2,g3⟩:=uu OM
   have eH:((b::fl.flatten)++gl.flatten).Nodup:=wv h oj ej mi sO g3 nb g2
   have pX:(b::(fl++gl).flatten).Nodup:=by rw[pq];exact eH
   have uP:=(fU.1 pX).1
   have eU:∀b'∈(b::(fl++gl).flatten),∃k∈ks++ks',b'∈fp k:=fun b' aj=>by
    rw[pq,<-FV,cZ] at aj
    rcases aj with aj|aj
    ·obtain⟨k,hk,aj⟩:=sO b' aj;exact⟨k,by simp[hk],aj⟩
    ·obtain⟨k,hk,aj⟩:=g3 b' aj;exact⟨k,by simp[hk],aj⟩
   have eI:=h.mG ho hd (.arr ⟨τ,xs++zs⟩ true) (one (.ref (d,0) [])) (ks++ks') pall _ (.slice (some ⟨b,0,none⟩) (xs++zs).length cap) (b::(fl++gl).flatten) (w':=w1) (F':=F) eK (mg F _)
    (fun bad=>ba.d_ hb dM hm gS gy ((cK.append g1).bD (fun b' aj=>⟨aj,jL b' (fun e=>As (e▸aj))⟩) (fun b' aj=>jL b' (fun e=>uP (e▸aj)))))
    (fun b' aj=>⟨aj,jL b' (fun e=>As (e▸aj))⟩) (fun b' aj=> .inl aj) oi pX
    (fun b' aj=>by obtain⟨k,hk,aj⟩:=eU b' aj;exact⟨BV k hk b' aj,.inl ⟨k,hk,cG k hk,aj⟩⟩) eJ
   exact hn _ _ _ _ _ (by rw[OM];exact eI)
  |false=>
   have jr:∀b',(F b'\/b'∈fl.flatten\/∃k∈ks',b'∈fp k)->b'≠b:=by
    rintro b' (aj|aj|⟨k,hk,aj⟩) rfl
    ·exact As aj
    ·exact(fU.1 nb).1 aj
    ·obtain⟨e1,Al⟩:=ef.1 (ej kb sQ)
     obtain⟨e2,g_⟩:=ef.1 (mi k hk)
     exact h.apart kb k e1 e2 b' (ul.2.2 kb sQ k hk) Al g_ ot aj
   obtain⟨gl,g1,g2⟩:=wN
   have m8:=cK.di (F':=fun b'=>F b'\/b'∈fl.flatten\/∃k∈ks',b'∈fp k) (fun b' aj=> .inl aj) (fun b' aj=> .inr (.inl aj))
   have EB:=g1.bD (w':=w) (F':=fun b'=>F b'\/b'∈fl.flatten\/∃k∈ks',b'∈fp k) (fun b' aj=>⟨aj.imp id .inr,rfl⟩) (by simp[g2])
   have Pz:=(m8.append EB).bD (w':=w1) (F':=fun b'=>F b'\/b'∈fl.flatten\/∃k∈ks',b'∈fp k) (fun b' aj=>⟨aj,jL b' (jr b' aj)⟩) (by simp[g2])
   have ei:=ba.d_ hb dM hm gS gy Pz
   rw[pq,g2,kt] at ei
   have eI:=h.mG ho hd (.arr ⟨τ,xs++zs⟩ false) (one (.ref (d,0) [])) (ks++ks') pall _ (.slice (some ⟨b,0,none⟩) (xs++zs).length cap) [b] (w':=w1) (F':=fun b'=>F b'\/b'∈fl.flatten\/∃k∈ks',b'∈fp k) eK (mg _ _)
    (fun bad=>ei)
    (fun b' aj=>⟨.inl aj,jL b' (fun e=>As (e▸aj))⟩)
    (by
     rintro b' (aj|aj|⟨k,hk,aj⟩)
     ·exact .inl aj
     ·obtain⟨k,hk,aj⟩:=sO b' (by simp[aj])
      exact .inr (.inl ⟨k,by simp[hk],ej k hk,aj⟩)
     ·exact .inr (.inl ⟨k,by simp[hk],mi k hk,aj⟩))
    oi (by simp)
    (fun b' aj=>by
     rw[gj.1 aj]
     exact⟨fun hf=>jr b hf rfl,.inl ⟨kb,by simp[sQ],ej kb sQ,ot⟩⟩) eJ
   exact hn _ _ _ _ _ (by rw[dq];exact eI)
 have fv:us.length=zs.length*U.wd τ:=by obtain⟨gl,g1,_⟩:=wN;exact g1.1
 have zu:∀u∈us,u.oneCell'=true:=by obtain⟨gl,g1,_⟩:=wN;exact g1.bx
 have mj:(xs.length+zs.length)*i.bytes<=140737488355328:=by
  have:=Nat.mul_le_mul hle pu
  omega
 by_cases fu:zs.length=0
 ·have ug:zs=[]:=pB fu
  subst ug
  have jm:us=[]:=pB (by simpa using fv)
  rcases rI.rows with⟨h3,⟨s6,h4⟩,h5⟩|⟨b,cap,cur,vs,fl,h3,h4,h5,h6,h7,h8,h9,js⟩
  ·simp only at h3;subst h3
   have hr:=exec (v:=.slice s6 0 0) (w1:=w) (by rw[h4];exact vV w hu hi _ _ _ (by rw[jm] at dU;exact dU) (nl _))
   refine gq hr ?_
   have eI:=h.mG ho hd (.arr ⟨τ,[]⟩ (d1&&d2)) (one (.ref (d,0) [])) (ks++ks') pall (.slice s6 0 0) (.slice s6 0 0) [] (w':=w) (F':=F) eK
    (fun bad=>b8 ⟨⟨rfl,trivial⟩,.inr (by simp only[RA,gV];rfl)⟩) (fun bad=> .inl ⟨rfl,⟨s6,rfl⟩,rfl⟩) (fun b hb=>⟨hb,rfl⟩) (fun b hb=> .inl hb) (fun _ _ _ _ _ _=>rfl) (by simp) (by simp) (bH.refl _ _)
   exact hn _ _ _ _ _ eI
  ·simp only at h3 h4 h5 h7 h8 h9
   have hr:=exec (v:=.slice (some ⟨b,0,none⟩) xs.length cap) (w1:=w) (by rw[h3];exact vV w hu hi _ _ _ (by rw[jm] at dU;exact dU) h5)
   refine gq hr ?_
   have:=fC (b:=b) (cap:=cap) (cur':=cur) (vs:=vs) (fl:=fl) (w1:=w) h9 js (fun _ _=>rfl) rfl rfl rfl rfl h4 (by simpa using h5) h6 h7 (by rw[jm,nk,nk];exact h8)
   simpa using this
 ·have zT:us.length=zs.length*i.size:=by rw[ci];exact fv
  have grown:∀(vs:List Value),vs.length=xs.length*U.wd τ->(d1=true->∃fl,aR E w F true τ xs vs fl/\fl.flatten.Nodup/\∀b∈fl.flatten,∃k∈ks,b∈fp k)->(∃fl,aR E w (FK F fp ks) false τ xs vs fl/\fl.flatten=[])->
    ∀n0:Nat,n0<xs.length+zs.length->(Builtin.append_ #[t,u] o.type #[a.eval s,a.eval x]).run E.P w=
     .ok (.slice (some ⟨w.heap.size,0,none⟩) (xs.length+zs.length) (grownCap w (xs.length+zs.length) n0 e)) (w.drew.alloc (.cells (vs.toArray++us.toArray++Builtin.zeroCells z.cells (grownCap w (xs.length+zs.length) n0 e-(xs.length+zs.length))) e))->
    o.wp E.P a w next Q:=by
   intro vs nv h1 h2 n0 hold cu
   refine gq (exec cu) ?_
   have Ag:=grownCap_ge w (xs.length+zs.length) n0 e
   have:=grow vs h1 h2 (cap:=grownCap w (xs.length+zs.length) n0 e) (cur:=vs.toArray++us.toArray++Builtin.zeroCells z.cells (grownCap w (xs.length+zs.length) n0 e-(xs.length+zs.length)))
    (w1:=w.drew.alloc (.cells (vs.toArray++us.toArray++Builtin.zeroCells z.cells (grownCap w (xs.length+zs.length) n0 e-(xs.length+zs.length))) e))
    (fun b hb=>lc w.drew _ hb) ((bH.drew _ _).trans (bH.alloc _ _ _)) (by simp) (by rw[jM];exact heap_alloc_new w.drew _) (by simpa using Ag) (grownCap_le_maxLen w _ n0 e (qR hle))
    (by
     simp only[Array.size_append,xi,size_zeroCells,kz,nv,fv,<-kc]
     congr 1;omega)
    (by
     have nb:((xs++zs).length*U.wd τ)=(vs++us).length:=by simp[nv,fv,kc]
     simp only[Array.toList_append,jz]
     rw[<-jz,nb]
     exact List.take_left)
   simpa using this
  rcases rI.rows with⟨h3,⟨s6,h4⟩,h5⟩|⟨b,cap,cur,vs,fl,h3,h4,h5,h6,h7,h8,h9,js⟩
  ·simp only at h3;subst h3
   refine grown [] (by simp) (fun _=>⟨[],aR.nil,by simp,by simp⟩) ⟨[],aR.nil,rfl⟩ 0 (by omega) ?_
   rw[h4]
   simp only[vu,ke] at mj hle⊢
   cases s6 with
   |none=>
    have hr:=C9 (ty:=o.type) w hu hi hz dU (by omega) (by omega) (by omega)
    simpa using hr
   |some a'=>
    have hr:=vW (ty:=o.type) w hu hi hz a' 0 0 [] (by simp) (by simp) dU (by omega) (by omega) (growslice_fits (by omega) (by simpa using mj))
    simpa using hr
  ·simp only at h3 h4 h5 h7 h8 h9
   have nv:vs.length=xs.length*U.wd τ:=h9.1
   by_cases ea:xs.length+zs.length<=cap
   ·have p7:xs.length*i.size+us.length<=cur.size:=by rw[zT,ci,h7,<-kc];exact kf _ ea
    have hr:=C8 (ty:=o.type) w hu hi b xs.length cap cur (by rw[<-jM];exact h4) dU zu ea p7
    rw[<-h3] at hr
    refine gq (exec hr) ?_
    have:=fC (b:=b) (cap:=cap) (cur':=(cur.toList.take (xs.length*i.size)++us++cur.toList.drop (xs.length*i.size+us.length)).toArray) (vs:=vs) (fl:=fl)
     (w1:=w.setRow b (cur.toList.take (xs.length*i.size)++us++cur.toList.drop (xs.length*i.size+us.length)).toArray) h9 js (fun b' aj=>setRow_other w b b' _ aj) (by simp) rfl rfl rfl (setRow_heap w b cur _ _ _ h4) (by simpa using ea) h6
     (by
      simp only[xi,rj,kg,px,mS]
      omega)
     (by
      have nb:((xs++zs).length*U.wd τ)=(vs++us).length:=by simp[nv,fv,kc]
      rw[ci,h8,nb]
      exact List.take_left)
    simpa using this
   ·refine grown vs nv (fun P4=> ?_) ?_ cap (by omega) ?_
    ·subst P4
     exact⟨fl,h9,by rw[js] at nb;exact(fU.1 nb).2,fun b' aj=>sO b' (by rw[js];simp[aj])⟩
    ·exact⟨_,h9.di (F':=FK F fp ks) (fun b hb=> .inl hb) (fun b' aj=> .inr (sO b' (by rw[js];simp[aj]))),kt _⟩
    ·rw[h3]
     refine vW (ty:=o.type) w hu hi hz ⟨b,0,none⟩ xs.length cap vs (by rw[ci];exact nv) (fun j u hu=> ?_) dU (by omega) (by omega) (growslice_fits (by omega) mj)
     rw[Addr.add_mid,ke,cell_of_row w b _ cur _ (0,0) h4]
     rw[<-h8,eP] at hu
     split at hu
     ·simpa using hu
     ·cases hu
theorem JM(hE:E.Ok)(h:aC E pm F kv fp σ a w){o:Oper}{d:Nat}(ho:o.dst=some d)(hd:d<σ.n){cl:Call}{t e:TypeId}{s x:Operand}(fV:o.op=.call cl)(cp:cl.callee=.builtin .append)
  (dr:cl.args.toList=[s,x]) (ly:cl.argTypes.toList=[t,t]) {τ:U.Ty} (iq:E.elem t=some e) (hc:E.code e=some τ) {ss sx:SV U} {ys yx:AC U}
  (hs:RS E w F kv fp (av σ) ss (a.eval s)) (wJ:iA ss=some ys) (hx:RS E w F kv fp (av σ) sx (a.eval x)) (Eu:iA sx=some yx)
  {rs:List Key} {ps qs:List Prop} {xs zs:List (U.T τ)} {ks ks':List Key} {d1 d2:Bool} {pall:List Prop}
  (zN:ie τ (restrict σ.aq rs) ys=some (ps,xs,ks,d1)) (pV:qG τ (restrict σ.aq rs) yx=some (qs,zs,ks',d2)) (hp:∀p∈ps,p) (oj:(ks++ks').Nodup) (hle:xs.length+zs.length<=4294967296)
  (eK:¬Names σ (d,0)) {next:Act->World->Prop} {Q:Exit->Act->World->Prop}
  (hn:∀F kv fp a' w',aC E pm F kv fp (AM.apply o ⟨some (one (.ref (d,0) [])),[(0,.arr ⟨τ,xs++zs⟩ (d1&&d2))],ks++ks',[],pall⟩ σ) a' w'->next a' w'):o.wp E.P a w next Q:=by
 obtain⟨PT,mi,ad,c,us,Pn,uu,wN,wM⟩:=H8 h pV (de hx Eu)
 have hu:=l5 iq
 exact D1 hE h ho hd fV cp dr ly iq hc hs wJ zN mi (by rw[Pn];exact Src.slice hu (by obtain⟨gl,g1,_⟩:=wN;exact g1.1) wM) uu wN hp oj hle eK hn
theorem CQ{τ:U.Ty}{s:ByteArray}{ys:List (U.T τ)}(h:lq τ s=some ys)(m:Bool):ys.length=s.size/\U.wd τ=1/\∃fl,aR E w F m τ ys (s.data.toList.map fun b=>Value.int .u8 (b.toNat:Int)) fl/\fl.flatten=[]:=by
 unfold lq at h
 have h0:=aT h
 cases h0
 have hw:U.wd U.eM=1:=by rw[<-U.aM U.eM (U.bn U.eM),U.nG];rfl
 have iG:(s.data.toList.map fun b=>U.Gf (b.toNat:Int)).length=s.size:=by rw[tj];exact mS
 have J5:(s.data.toList.map fun b=>Value.int .u8 (b.toNat:Int)).length=s.size:=by rw[tj];exact mS
 refine⟨iG,hw,List.replicate s.size [],⟨by rw[iG,J5,hw,Nat.mul_one],by rw[iG,FY,hw,Nat.mul_one],fun i x j c hx hj=> ?_⟩,by simp⟩
 rw[eC] at hx
 cases hb:s.data.toList[i]? with
 |none=>rw[hb] at hx;cases hx
 |some b=>
  rw[hb] at hx
  simp only[mP,bM] at hx
  subst hx
  rw[U.nG,U.rl] at hj
  have PV:j=0:=by
   cases j with
   |zero=>rfl
   |succ j=>simp at hj
  subst PV
  simp only[iB,bM] at hj
  subst hj
  have e1:i*U.wd U.eM+0=i:=by rw[hw];omega
  rw[e1]
  have e2:(s.data.toList.map fun b=>Value.int .u8 (b.toNat:Int)).getD i undef=.int .u8 (b.toNat:Int):=by
   rw[cI,eC,hb];rfl
  have e3:(List.replicate s.size ([]:List Nat)).getD i []=[]:=by
   rw[cI,F5];split<;>rfl
  rw[e2,e3]
  exact .lit m _ ⟨rfl,by have:=b.toNat_lt;simp only[IntKind.min,IntKind.max,IntKind.signed,IntKind.bits,lN,if_false];omega⟩
theorem JL(hE:E.Ok)(h:aC E pm F kv fp σ a w){o:Oper}{d:Nat}(ho:o.dst=some d)(hd:d<σ.n){cl:Call}{t u e:TypeId}{s x:Operand}(fV:o.op=.call cl)(cp:cl.callee=.builtin .append)
  (dr:cl.args.toList=[s,x]) (ly:cl.argTypes.toList=[t,u]) {τ:U.Ty} (iq:E.elem t=some e) (hc:E.code e=some τ) {ss sx:SV U} {ys:AC U} {str:ByteArray}
  (hs:RS E w F kv fp (av σ) ss (a.eval s)) (wJ:iA ss=some ys) (hx:RS E w F kv fp (av σ) sx (a.eval x)) (Eu:cr sx=some (.string str)) (hu:E.P.underlying u=some .string)
  {rs:List Key} {ps:List Prop} {xs zs:List (U.T τ)} {ks:List Key} {d1:Bool} {pall:List Prop}
  (zN:ie τ (restrict σ.aq rs) ys=some (ps,xs,ks,d1)) (pV:lq τ str=some zs) (hp:∀p∈ps,p) (oj:ks.Nodup) (hle:xs.length+zs.length<=4294967296)
  (eK:¬Names σ (d,0)) {next:Act->World->Prop} {Q:Exit->Act->World->Prop}
  (hn:∀F kv fp a' w',aC E pm F kv fp (AM.apply o ⟨some (one (.ref (d,0) [])),[(0,.arr ⟨τ,xs++zs⟩ d1)],ks,[],pall⟩ σ) a' w'->next a' w'):o.wp E.P a w next Q:=by
 have hv:=fq hx Eu
 obtain⟨h1,h2,fl,h3,h4⟩:=CQ (E:=E) (w:=w) (F:=F) pV true
 obtain⟨_,_,gl,g3,g4⟩:=CQ (E:=E) (w:=w) (F:=FK F fp []) pV false
 refine D1 (ks':=[]) (d2:=true) (zs:=zs) (us:=str.data.toList.map fun b=>Value.int .u8 (b.toNat:Int)) (pall:=pall) hE h ho hd fV cp dr ly iq hc hs wJ zN (by simp) ?_ (fun _=>⟨fl,h3,by rw[h4];simp,by rw[h4];simp⟩) ⟨gl,g3,g4⟩ hp (by simpa using oj) hle eK ?_
 ·rw[hv,h1,h2];exact Src.string hu str
 ·simpa using hn
end AM
