/- THE ABSTRACT MACHINE: append. -/
import Derived.Test.YtlachfpabecaeaaQAmOps6
namespace AM
set_option linter.unusedVariables false
open Go
variable{U:dw}{E:Env U}{pm:Pm}
variable{F F':Nat->Prop}{kv:Key->Value}{fp:Key->List Nat}{σ:aa U}{a:Act}{w w':World}{bad:Key->Bool}
theorem aP{τ:U.Ty}{x:fx U}{ys:List (U.T τ)}(h:cv τ x=some ys):x=⟨τ,ys⟩:=by
 obtain⟨nZ,xs⟩:=x
 unfold cv at h
 cases hd:U.LH nZ τ with
 |isFalse he=>simp only[hd] at h;cases h
 |isTrue he=>
  simp only[hd] at h
  subst he
  cases h
  rfl
theorem Rp.v_{w:World}{F:Nat->Prop}{c:U.C}{v:Value}{l:List Nat}(h:Rp E w F false c v l):l=[]:=by
 generalize hm:false=m at h
 cases h with
 |lit=>rfl
 |nil=>rfl
 |shr=>rfl
 |own=>cases hm
theorem aO.rj{τ:U.Ty}{xs:List (U.T τ)}{vs:List Value}{fl:List (List Nat)}(h:aO E w F false τ xs vs fl):fl.flatten=[]:=by
 refine List.flatten_eq_nil_iff.2 fun l hl=> ?_
 obtain⟨n,hn,rfl⟩:=nJ hl
 have hw:=U.dq τ
 have hi:n/U.wd τ<xs.length:=(Nat.div_lt_iff_lt_mul hw).2 (by rw[<-h.2.1];exact hn)
 have hj:n%U.wd τ<U.wd τ:=Nat.mod_lt _ hw
 have:=h.2.2 (n/U.wd τ) xs[n/U.wd τ] (n%U.wd τ) ((U.enc τ xs[n/U.wd τ])[n%U.wd τ]'(by rw[U.aK];exact hj)) (cF hi) (cF _)
 have he:n/U.wd τ*U.wd τ+n%U.wd τ=n:=by rw[yr];exact Nat.div_add_mod n _
 rw[he,cB (l:=fl),cF hn] at this
 exact this.v_
structure Src(P:Program)(w:World)(u:TypeId)(x:Value)(size n:Nat)(us:List Value):Prop where
 ut:(∃e,P.underlying u=some (.slice e))\/P.underlying u=some .string
 len:∀w',(Builtin.lenOf x).run P w'=.ok n w'
 first:(Builtin.firstCells size n x).run P w=.ok us.toArray w
 v8:(Builtin.firstCells size n x).run P w.drew=.ok us.toArray w.drew
theorem w8{P:Program}(w:World){t u ty e:TypeId}{i:TypeInfo}(ht:P.underlying t=some (.slice e))(hi:P.info? e=some i)(base:Option Addr)(n cap:Nat){x:Value}(h:Src P w u x i.size 0 [])(hc:n<=cap):
  (Builtin.append_ #[t,u] ty #[.slice base n cap,x]).run P w=.ok (.slice base n cap) w:=by
 have AF:=h.ut
 have h1:=h.len
 have h2:=h.first
 rcases AF with⟨e',hu⟩|hu<;>cases base<;>simp[Builtin.append_,run_underlying ht,run_underlying hu,Go.sizeOf,typeInfo,hi,h1,hc,h2,storeCells]
theorem Dn{P:Program}(w:World){t u ty e:TypeId}{i:TypeInfo}{z:Value}(ht:P.underlying t=some (.slice e))(hi:P.info? e=some i)(hz:i.zero=some z)
  {n:Nat} {us:List Value} {x:Value} (h:Src P w u x i.size n us)
  (h0:0<n) (Pf:(n:Int)<=9223372036854775807) (P4:n*i.bytes<=281474976710656):
  (Builtin.append_ #[t,u] ty #[.slice none 0 0,x]).run P w=
   .ok (.slice (some ⟨w.heap.size,0,none⟩) n (grownCap w n 0 e)) (w.drew.alloc (.cells (us.toArray++Builtin.zeroCells z.cells (grownCap w n 0 e-n)) e)):=by
 have AF:=h.ut
 have h1:=h.len
 have h2:=h.v8
 have hn:n≠0:=by omega
 have BE:¬(9223372036854775807<(n:Int)):=by omega
 have BF:¬(281474976710656<Builtin.nextslicecap n 0*i.bytes):=by rw[nextslicecap_zero h0];omega
 rcases AF with⟨e',hu⟩|hu<;>simp[Builtin.append_,run_underlying ht,run_underlying hu,Go.sizeOf,typeInfo,zeroValue,hi,hz,h1,hn,BE,BF,Question.forced,run_firstCells_none,h2,newRow,grownCap]
theorem w9{P:Program}(w:World){t u ty e:TypeId}{i:TypeInfo}{z:Value}(ht:P.underlying t=some (.slice e))(hi:P.info? e=some i)(hz:i.zero=some z)
  (b:Addr) (eX jK:Nat) (xB:List Value) (KL:xB.length=eX*i.size) (holds:∀j v,xB[j]? =some v->w.cell? (b.add j)=some v)
  {n:Nat} {us:List Value} {x:Value} (h:Src P w u x i.size n us)
  (hg:jK<eX+n) (Pf:((eX+n:Nat):Int)<=9223372036854775807) (re:Builtin.nextslicecap (eX+n) jK*i.bytes<=281474976710656):
  (Builtin.append_ #[t,u] ty #[.slice (some b) eX jK,x]).run P w=
   .ok (.slice (some ⟨w.heap.size,0,none⟩) (eX+n) (grownCap w (eX+n) jK e))
    (w.drew.alloc (.cells (xB.toArray++us.toArray++Builtin.zeroCells z.cells (grownCap w (eX+n) jK e-(eX+n))) e)):=by
 have AF:=h.ut
 have h1:=h.len
 have h2:=h.v8
 have hn:¬(eX+n<=jK):=by omega
 have BE:¬(9223372036854775807<((eX:Int)+(n:Int))):=by omega
 have BF:¬(281474976710656<Builtin.nextslicecap (eX+n) jK*i.bytes):=by omega
 have xY:=run_firstCells_some (P:=P) w.drew i.size eX b eX jK xB KL (by simpa using holds)
 rcases AF with⟨e',hu⟩|hu<;>
   (simp[Builtin.append_,run_underlying ht,run_underlying hu,Go.sizeOf,typeInfo,zeroValue,hi,hz,h1,hn,BE,BF,Question.forced,h2,xY,newRow,grownCap]
    congr 2
    apply Array.ext'
    simp[kP])
theorem Dm{P:Program}(w:World){t u ty e:TypeId}{i:TypeInfo}(ht:P.underlying t=some (.slice e))(hi:P.info? e=some i)
  (g eX jK:Nat) (cur:Array Value) (hg:w.heap[g]? =some (.cells cur e (0,0)))
  {m:Nat} {us:List Value} {x:Value} (h:Src P w u x i.size m us) (h1:∀u∈us,u.oneCell'=true)
  (eu:eX+m<=jK) (re:eX*i.size+us.length<=cur.size):
  (Builtin.append_ #[t,u] ty #[.slice (some ⟨g,0,none⟩) eX jK,x]).run P w=
   .ok (.slice (some ⟨g,0,none⟩) (eX+m) jK) (w.setRow g (cur.toList.take (eX*i.size)++us++cur.toList.drop (eX*i.size+us.length)).toArray):=by
 have AF:=h.ut
 have rI:=h.len
 have hf:=h.first
 have io:=run_storeCells_at P g (eX*i.size) e us 0 cur w hg (by simpa using re) h1
 simp only[qh] at io
 rcases AF with⟨e',hu⟩|hu<;>simp[Builtin.append_,run_underlying ht,run_underlying hu,Go.sizeOf,typeInfo,hi,rI,eu,hf,Addr.add_lit,io]
theorem Src.slice{P:Program}{w:World}{t e:TypeId}(ht:P.underlying t=some (.slice e)){size n c:Nat}{ad:Option Addr}{us:List Value}(hl:us.length=n*size)
  (h:0<n->∃b off,ad=some ⟨b,off,none⟩/\∀i u,us[i]? =some u->w.cell? ⟨b,off+i,none⟩=some u):Src P w t (.slice ad n c) size n us:=by
 refine⟨.inl ⟨_,ht⟩,fun w'=>rfl,?_,?_⟩
 ·by_cases hn:0<n
  ·obtain⟨b,off,rfl,h2⟩:=h hn
   exact run_firstCells_some (P:=P) w size n ⟨b,off,none⟩ n c us hl (fun j u hu=>by rw[Addr.add_mid];exact h2 j u hu)
  ·have:n=0:=by omega
   subst this
   have:us=[]:=qk (by simpa using hl)
   subst this
   cases ad<;>simp[Builtin.firstCells,loadCells,loadCellsFrom]
 ·by_cases hn:0<n
  ·obtain⟨b,off,rfl,h2⟩:=h hn
   exact run_firstCells_some (P:=P) w.drew size n ⟨b,off,none⟩ n c us hl (fun j u hu=>by rw[Addr.add_mid];exact h2 j u hu)
  ·have:n=0:=by omega
   subst this
   have:us=[]:=qk (by simpa using hl)
   subst this
   cases ad<;>simp[Builtin.firstCells,loadCells,loadCellsFrom]
theorem Src.string{P:Program}{w:World}{u:TypeId}(hu:P.underlying u=some .string){size:Nat}(s:ByteArray):Src P w u (.string s) size s.size (s.data.toList.map fun b=>Value.int .u8 (b.toNat:Int)):=by
 have hx:(Array.map (fun b:UInt8=>Value.int IntKind.u8 (b.toNat:Int)) (s.extract 0 s.size).data)=(s.data.toList.map fun b=>Value.int .u8 (b.toNat:Int)).toArray:=by
  have:s.extract 0 s.size=s:=ByteArray.extract_zero_size
  rw[this]
  apply Array.ext'
  simp
 refine⟨.inr hu,fun w'=>rfl,?_,?_⟩
 ·simp only[Builtin.firstCells,hx];rfl
 ·simp only[Builtin.firstCells,hx];rfl
theorem Iz(h:aE E pm F kv fp σ a w){τ:U.Ty}{rs:List Key}{x:AC U}{v:Value}{ps:List Prop}{ys:List (U.T τ)}{ks:List Key}{d:Bool}
  (hn:o_ τ (restrict σ.aw rs) x=some (ps,ys,ks,d)) (hx:RD E w F kv fp (ay σ) x v):
  ks.Nodup/\(∀k∈ks,(σ.aw k).isSome=true)/\∃ad c us,v=.slice ad ys.length c/\
   (d=true->∃fl,aO E w F true τ ys us fl/\fl.flatten.Nodup/\∀b∈fl.flatten,∃k∈ks,b∈fp k)/\
   (∃fl,aO E w (FK F fp ks) false τ ys us fl/\fl.flatten=[])/\
   (0<ys.length->∃b off,ad=some ⟨b,off,none⟩/\∀i u,us[i]? =some u->w.cell? ⟨b,off+i,none⟩=some u):=by
 unfold o_ at hn
 split at hn
 ·cases hn
  obtain⟨ad,h1⟩:=aA hx rfl
  exact⟨by simp,by simp,ad,0,[],h1,fun _=>⟨[],aO.nil,by simp,by simp⟩,⟨[],aO.nil,rfl⟩,fun h=>by simp at h⟩
 ·rename_i k
  split at hn
  ·rename_i y d' he
   split at hn
   ·rename_i zs hz
    cases hn
    have:=aP hz
    subst this
    have a_:=cQ he
    have h1:v=kv k:=aA hx rfl
    have h2:aZ E w F d ⟨τ,ys⟩ (kv k) (fp k):=h.aJ k _ a_
    rw[<-h1] at h2
    have fc:=h.nodup k _ a_
    rcases h2.rows with⟨h3,⟨ad,h4⟩,h5⟩|⟨b,cap,cur,vs,fl,h3,h4,h5,h6,h7,h8,h9,jV⟩
    ·simp only at h3;subst h3
     exact⟨by simp,by simp[a_],ad,0,[],h4,fun _=>⟨[],aO.nil,by simp,by simp⟩,⟨[],aO.nil,rfl⟩,fun h=>by simp at h⟩
    ·simp only at h3 h4 h5 h7 h8 h9
     rw[jV] at fc
     refine⟨by simp,by simp[a_],some ⟨b,0,none⟩,cap,vs,h3,fun hd=> ?_,?_,fun _=>⟨b,0,rfl,fun i u hu=> ?_⟩⟩
     ·subst hd
      exact⟨fl,h9,(gx.1 fc).2,fun b' ap=>⟨k,by simp,by rw[jV];simp[ap]⟩⟩
     ·exact⟨_,h9.dy (F':=FK F fp [k]) (fun b hb=> .inl hb) (fun b' ap=> .inr ⟨k,by simp,by rw[jV];simp[ap]⟩),k_ _⟩
     ·rw[<-h8,fg] at hu
      split at hu
      ·rw[cell_of_row w b _ cur _ (0,0) h4];simpa using hu
      ·cases hu
   ·cases hn
  ·cases hn
 ·rename_i nZ PJ
  split at hn
  ·rename_i zs hz
   cases hn
   have:=aP hz
   cases this
   have h1:Rp E w F false _ _ _:=aA hx rfl
   have lits:U.flat τ=true->∀{F:Nat->Prop}{m:Bool}{x:U.T τ}{j:Nat}{c:U.C}{u:Value}{l:List Nat},(U.enc τ x)[j]? =some c->Rp E w F m c u l->Rp E w F true c u []:=by
    intro rc F m x j c u l hj hr
    obtain⟨v,rfl⟩:=U.sY τ rc x c (n6 hj)
    generalize hc:(Cell.lit v:U.C)=c at hr
    cases hr with
    |lit _ _ hv=>cases hc;exact .lit _ _ hv
    |nil=>cases hc
    |shr=>cases hc
    |own=>cases hc
   rcases h1.inv with⟨h0,ad,c,rfl⟩|⟨b,off,cap,vs,rfl,hF,hc,hv,hr⟩
   ·subst h0
    exact⟨by simp,by simp,ad,c,[],rfl,fun _=>⟨[],aO.nil,by simp,by simp⟩,⟨[],aO.nil,rfl⟩,fun h=>by simp at h⟩
   ·have cR:∀(m:Bool)(F':Nat->Prop),(∀i x j c,ys[i]? =some x->(U.enc τ x)[j]? =some c->Rp E w F' m c (vs (i*U.wd τ+j)) [])->aO E w F' m τ ys ((List.range (ys.length*U.wd τ)).map vs) (List.replicate (ys.length*U.wd τ) []):=by
     intro m F' hh
     refine⟨by simp,by simp,fun i x j c hx hj=> ?_⟩
     have bU:=bm hx hj
     rw[oT,cB,eW,sB bU]
     exact hh i x j c hx hj
    refine⟨by simp,by simp,some ⟨b,off,none⟩,cap,(List.range (ys.length*U.wd τ)).map vs,rfl,fun hd=> ?_,?_,fun _=>⟨b,off,rfl,fun i u hu=> ?_⟩⟩
    ·exact⟨_,cR true F (fun i x j c hx hj=>lits hd hj (hr i x j c hx hj)),by rw[k_];simp,by rw[k_];simp⟩
    ·exact⟨_,cR false _ (fun i x j c hx hj=>(hr i x j c hx hj).bx (fun b hb=> .inl hb)),k_ _⟩
    ·rw[eW] at hu
     by_cases hi:i<ys.length*U.wd τ
     ·rw[sB hi] at hu
      cases hu
      exact hv i hi
     ·rw[fb (by simp;omega)] at hu;cases hu
  ·cases hn
 ·cases hn
theorem Kc{x:AC U}{v:Value}{bad:Key->Bool}(h:RD E w F kv fp bad x v):RD E w F kv fp bad (CP x) v:=by
 cases x with
 |kn b τ xs=>
  refine⟨h.1,?_⟩
  rcases h.2 with g|g
  ·simp[cd] at g
  ·exact .inr g.1
 |c _=>exact h
 |e0=>exact h
 |ref _ _=>exact h
 |sub _ _ _ _=>exact h
 |dG _ _ _ _ _=>exact h
 |dh _ _=>exact h
 |ia _=>exact h
theorem Iy(h:aE E pm F kv fp σ a w){τ:U.Ty}{rs:List Key}{x:AC U}{v:Value}{ps:List Prop}{ys:List (U.T τ)}{ks:List Key}{d:Bool}
  (hn:rW τ (restrict σ.aw rs) x=some (ps,ys,ks,d)) (hx:RD E w F kv fp (ay σ) x v):
  ks.Nodup/\(∀k∈ks,(σ.aw k).isSome=true)/\∃ad c us,v=.slice ad ys.length c/\
   (d=true->∃fl,aO E w F true τ ys us fl/\fl.flatten.Nodup/\∀b∈fl.flatten,∃k∈ks,b∈fp k)/\
   (∃fl,aO E w (FK F fp ks) false τ ys us fl/\fl.flatten=[])/\
   (0<ys.length->∃b off,ad=some ⟨b,off,none⟩/\∀i u,us[i]? =some u->w.cell? ⟨b,off+i,none⟩=some u):=
 Iz h hn (Kc hx)
theorem DF(h:aE E pm F kv fp σ a w){τ:U.Ty}{rs:List Key}{x:AC U}{v:Value}{ps:List Prop}{xs:List (U.T τ)}{ks:List Key}{d:Bool}
  (hn:iM τ (restrict σ.aw rs) x=some (ps,xs,ks,d)) (hp:∀p∈ps,p) (hx:RD E w F kv fp (ay σ) x v):
  ks.Nodup/\(∀k∈ks,(σ.aw k).isSome=true)/\∃l,aZ E w F d ⟨τ,xs⟩ v l/\l.Nodup/\∀b∈l,∃k∈ks,b∈fp k:=by
 unfold iM at hn
 split at hn
 ·cases hn
  obtain⟨ad,h1⟩:=aA hx rfl
  exact⟨by simp,by simp,[],.inl ⟨rfl,⟨ad,h1⟩,rfl⟩,by simp,by simp⟩
 ·rename_i k
  split at hn
  ·rename_i y d' he
   split at hn
   ·rename_i zs hz
    cases hn
    have:=aP hz
    subst this
    have a_:=cQ he
    have h1:v=kv k:=aA hx rfl
    subst h1
    exact⟨by simp,by simp[a_],fp k,h.aJ k _ a_,h.nodup k _ a_,fun b hb=>⟨k,by simp,hb⟩⟩
   ·cases hn
  ·rename_i y dead he
   split at hn
   ·rename_i zs hz
    cases hn
    have:=aP hz
    subst this
    have a_:=cQ he
    have h1:v=kv k:=aA hx rfl
    subst h1
    exact⟨by simp,by simp[a_],fp k,aU.own (h.aJ k _ a_) (hp _ (by simp)),h.nodup k _ a_,fun b hb=>⟨k,by simp,hb⟩⟩
   ·cases hn
  ·cases hn
 ·rename_i k wd hi
  split at hn
  ·rename_i y d' he
   split at hn
   ·rename_i zs hz
    cases hn
    have:=aP hz
    subst this
    have a_:=cQ he
    obtain⟨h1,_⟩:=aA hx rfl
    subst h1
    obtain⟨l,h3,h4⟩:=aZ.take (wd:=wd) (hi:=hi) (h.aJ k _ a_:aZ E w F d ⟨τ,zs⟩ (kv k) (fp k)) (hp _ (by simp))
    exact⟨by simp,by simp[a_],l,h3,h4.nodup (h.nodup k _ a_),fun b hb=>⟨k,by simp,h4.subset hb⟩⟩
   ·cases hn
  ·cases hn
 ·cases hn
theorem Eg(hE:E.Ok)(h:aE E pm F kv fp σ a w){o:Oper}{d:Nat}(ho:o.dst=some d)(hd:d<σ.n){cl:Call}{t e:TypeId}{s x:Operand}(gy:o.op=.call cl)(ck:cl.callee=.builtin .append)
  (dE:cl.args.toList=[s,x]) {u:TypeId} (mq:cl.argTypes.toList=[t,u]) {τ:U.Ty} (iT:E.elem t=some e) (hc:E.code e=some τ) {ss:SV U} {ys:AC U}
  (hs:RS E w F kv fp (ay σ) ss (a.eval s)) (xP:i_ ss=some ys)
  {rs:List Key} {ps:List Prop} {xs zs:List (U.T τ)} {ks ks':List Key} {d1 d2:Bool} {pall:List Prop} {us:List Value}
  (A1:iM τ (restrict σ.aw rs) ys=some (ps,xs,ks,d1)) (m8:∀k∈ks',(σ.aw k).isSome=true) (en:Src E.P w u (a.eval x) (U.wd τ) zs.length us)
  (vC:d2=true->∃fl,aO E w F true τ zs us fl/\fl.flatten.Nodup/\∀b∈fl.flatten,∃k∈ks',b∈fp k) (xT:∃fl,aO E w (FK F fp ks') false τ zs us fl/\fl.flatten=[]) (hp:∀p∈ps,p) (pj:(ks++ks').Nodup) (hle:xs.length+zs.length<=4294967296)
  (fj:¬Names σ (d,0)) {next:Act->World->Prop} {Q:Exit->Act->World->Prop}
  (hn:∀F kv fp a' w',aE E pm F kv fp (AM.apply o ⟨some (one (.ref (d,0) [])),[(0,.arr ⟨τ,xs++zs⟩ (d1&&d2))],ks++ks',[],pall⟩ σ) a' w'->next a' w'):o.wp E.P a w next Q:=by
 obtain⟨kr,i,z,hi,hz,b9,lg,qg,_⟩:=hE.code e τ hc
 have hu:=mO iT
 have hw:=U.dq τ
 obtain⟨ll,eH,l,qf,nT,tY⟩:=DF h A1 hp (du hs xP)
 rw[<-b9] at en
 have cM:∀k∈ks++ks',(σ.aw k).isSome=true:=fun k hk=>(cY.1 hk).elim (eH k) (m8 k)
 have vw:=pj
 rw[gz] at vw
 have exec:∀{v w1},(Builtin.append_ #[t,u] o.type #[a.eval s,a.eval x]).run E.P w=.ok v w1->(execOp a.eval o).run E.P w=.ok (.value v) w1:=by
  intro v w1 hr
  have ha:cl.args= #[s,x]:=la dE
  have ht:cl.argTypes= #[t,u]:=la mq
  unfold execOp;simp only[gy]
  simp[resolve,ck,ha,ht,invoke,builtin,hr]
 have sd:∀{n:Nat},n<=4294967296->n<=maxLen:=fun hh=>by simp only[maxLen];omega
 have ue:∀k∈ks++ks',∀b∈fp k,b<w.heap.size:=fun k hk b hb=>by
  obtain⟨e,he⟩:=eD.1 (cM k hk)
  exact oV h he hb
 have Ca:∀k∈ks++ks',∀b∈fp k,¬F b:=fun k hk b hb=>by
  obtain⟨e,he⟩:=eD.1 (cM k hk)
  exact(h.bt k e b he hb).1
 have GZ:∀k∈ks++ks',∀b∈fp k,pm.W b\/pm.w0.heap.size<=b:=fun k hk b hb=>by
  obtain⟨e,he⟩:=eD.1 (cM k hk)
  exact(h.bt k e b he hb).2.1
 have grow:∀(vs:List Value),(d1=true->∃fl,aO E w F true τ xs vs fl/\fl.flatten.Nodup/\∀b∈fl.flatten,∃k∈ks,b∈fp k)->(∃fl,aO E w (FK F fp ks) false τ xs vs fl/\fl.flatten=[])->
   ∀{cap:Nat}{cur:Array Value}{w1:World},(∀b,b<w.heap.size->w1.heap[b]? =w.heap[b]?)->bB (fun b=>pm.W b\/pm.w0.heap.size<=b) w w1->w.heap.size<w1.heap.size->
   w1.heap[w.heap.size]? =some (.cells cur (E.tid τ) (0,0))->(xs++zs).length<=cap->cap<=maxLen->cur.size=cap*U.wd τ->cur.toList.take ((xs++zs).length*U.wd τ)=vs++us->
   next (a.put o.dst (.slice (some ⟨w.heap.size,0,none⟩) (xs++zs).length cap)) w1:=by
  intro vs h1 h2 cap cur w1 kq fi jf hb ec hm ik gY
  obtain⟨F',kv',fp',ff⟩:=zU h ho hd fj (τ:=τ) (rows:=xs++zs) (ks:=ks++ks') (dp:=d1&&d2) (ps:=pall) (vs:=vs++us) pj cM
   (fun dD=>by
    simp only[c9] at dD
    obtain⟨fl,f1,f2,f3⟩:=h1 dD.1
    obtain⟨gl,g1,g2,g3⟩:=vC dD.2
    refine⟨fl++gl,f1.append g1,by rw[qb];exact xy h pj eH m8 f3 g3 f2 g2,fun b hb=> ?_⟩
    rw[qb,cY] at hb
    rcases hb with hb|hb
    ·obtain⟨k,hk,hb⟩:=f3 b hb;exact⟨k,by simp[hk],hb⟩
    ·obtain⟨k,hk,hb⟩:=g3 b hb;exact⟨k,by simp[hk],hb⟩)
   (by
    obtain⟨fl,f1,f2⟩:=h2
    obtain⟨gl,g1,g2⟩:=xT
    exact⟨fl++gl,(f1.bu (fun b hb=>⟨o6 (fun k hk=>by simp[hk]) hb,rfl⟩) (by simp[f2])).append (g1.bu (fun b hb=>⟨o6 (fun k hk=>by simp[hk]) hb,rfl⟩) (by simp[g2])),by rw[qb,f2,g2];rfl⟩)
   kq fi jf hb ec hm ik gY
  exact hn F' kv' fp' _ _ ff
 have gb:∀{b cap:Nat}{cur':Array Value}{vs:List Value}{fl:List (List Nat)}{w1:World},aO E w F d1 τ xs vs fl->l=b::fl.flatten->(∀b',b'≠b->w1.heap[b']? =w.heap[b']?)->w1.heap.size=w.heap.size->
   w1.os=w.os->w1.tape=w.tape->w1.output=w.output->w1.heap[b]? =some (.cells cur' (E.tid τ) (0,0))->(xs++zs).length<=cap->cap<=maxLen->cur'.size=cap*U.wd τ->cur'.toList.take ((xs++zs).length*U.wd τ)=vs++us->
   next (a.put o.dst (.slice (some ⟨b,0,none⟩) (xs++zs).length cap)) w1:=by
  intro b cap cur' vs fl w1 cR hl kq jf KB Kr jQ hb ec hm ik gY
  subst hl
  have cn:∃k∈ks,b∈fp k:=tY b (by simp)
  obtain⟨kb,t_,pq⟩:=cn
  have Bz:¬F b:=Ca kb (by simp[t_]) b pq
  have fi:bB (fun b=>pm.W b\/pm.w0.heap.size<=b) w w1:=⟨KB,Kr,jQ,by omega,fun k hk qW=>kq k (fun e=>qW (e▸GZ kb (by simp[t_]) b pq))⟩
  have mX:∀(F':Nat->Prop)(lQ:List Nat) bad,RS E w1 F' (aL kv (d,0) (.slice (some ⟨b,0,none⟩) (xs++zs).length cap)) (aL fp (d,0) lQ) bad (one (.ref (d,0) [])) (.slice (some ⟨b,0,none⟩) (xs++zs).length cap):=
   fun F' lQ bad=>bY ⟨⟨rfl,trivial⟩,.inr (by simp only[RA,im];rfl)⟩
  have pi:∀k e,k∉ks++ks'->σ.aw k=some e->∀b'∈fp k,w1.heap[b']? =w.heap[b']? :=fun k e hk he b' ap=>kq b' (fun e'=>by
   subst e'
   obtain⟨eb,K5⟩:=eD.1 (eH kb t_)
   exact h.apart kb k eb e b' (fun e'=>hk (by subst e';simp[t_])) K5 he pq ap)
  cases dD:(d1&&d2) with
  |true=>
   simp only[c9] at dD
   obtain⟨rfl,Nx⟩:=dD
   obtain⟨gl,g1,g2,g3⟩:=vC Nx
   have fc:((b::fl.flatten)++gl.flatten).Nodup:=xy h pj eH m8 tY g3 nT g2
   have qZ:(b::(fl++gl).flatten).Nodup:=by rw[qb];exact fc
   have vX:=(gx.1 qZ).1
   have fy:∀b'∈(b::(fl++gl).flatten),∃k∈ks++ks',b'∈fp k:=fun b' ap=>by
    rw[qb,<-Hg,cY] at ap
    rcases ap with ap|ap
    ·obtain⟨k,hk,ap⟩:=tY b' ap;exact⟨k,by simp[hk],ap⟩
    ·obtain⟨k,hk,ap⟩:=g3 b' ap;exact⟨k,by simp[hk],ap⟩
   have ff:=h.nv ho hd (.arr ⟨τ,xs++zs⟩ true) (one (.ref (d,0) [])) (ks++ks') pall _ (.slice (some ⟨b,0,none⟩) (xs++zs).length cap) (b::(fl++gl).flatten) (w':=w1) (F':=F) fj (mX F _)
    (fun bad=>aZ.er hb ec hm ik gY ((cR.append g1).bu (fun b' ap=>⟨ap,kq b' (fun e=>Bz (e▸ap))⟩) (fun b' ap=>kq b' (fun e=>vX (e▸ap)))))
    (fun b' ap=>⟨ap,kq b' (fun e=>Bz (e▸ap))⟩) (fun b' ap=> .inl ap) pi qZ
    (fun b' ap=>by obtain⟨k,hk,ap⟩:=fy b' ap;exact⟨Ca k hk b' ap,.inl ⟨k,hk,cM k hk,ap⟩⟩) fi
   exact hn _ _ _ _ _ (by rw[Nx];exact ff)
  |false=>
   have jU:∀b',(F b'\/b'∈fl.flatten\/∃k∈ks',b'∈fp k)->b'≠b:=by
    rintro b' (ap|ap|⟨k,hk,ap⟩) rfl
    ·exact Bz ap
    ·exact(gx.1 nT).1 ap
    ·obtain⟨e1,Br⟩:=eD.1 (eH kb t_)
     obtain⟨e2,iw⟩:=eD.1 (m8 k hk)
     exact h.apart kb k e1 e2 b' (vw.2.2 kb t_ k hk) Br iw pq ap
   obtain⟨gl,g1,g2⟩:=xT
   have nP:=cR.dy (F':=fun b'=>F b'\/b'∈fl.flatten\/∃k∈ks',b'∈fp k) (fun b' ap=> .inl ap) (fun b' ap=> .inr (.inl ap))
   have EU:=g1.bu (w':=w) (F':=fun b'=>F b'\/b'∈fl.flatten\/∃k∈ks',b'∈fp k) (fun b' ap=>⟨ap.imp id .inr,rfl⟩) (by simp[g2])
   have Oj:=(nP.append EU).bu (w':=w1) (F':=fun b'=>F b'\/b'∈fl.flatten\/∃k∈ks',b'∈fp k) (fun b' ap=>⟨ap,kq b' (jU b' ap)⟩) (by simp[g2])
   have eG:=aZ.er hb ec hm ik gY Oj
   rw[qb,g2,k_] at eG
   have ff:=h.nv ho hd (.arr ⟨τ,xs++zs⟩ false) (one (.ref (d,0) [])) (ks++ks') pall _ (.slice (some ⟨b,0,none⟩) (xs++zs).length cap) [b] (w':=w1) (F':=fun b'=>F b'\/b'∈fl.flatten\/∃k∈ks',b'∈fp k) fj (mX _ _)
    (fun bad=>eG)
    (fun b' ap=>⟨.inl ap,kq b' (fun e=>Bz (e▸ap))⟩)
    (by
     rintro b' (ap|ap|⟨k,hk,ap⟩)
     ·exact .inl ap
     ·obtain⟨k,hk,ap⟩:=tY b' (by simp[ap])
      exact .inr (.inl ⟨k,by simp[hk],eH k hk,ap⟩)
     ·exact .inr (.inl ⟨k,by simp[hk],m8 k hk,ap⟩))
    pi (by simp)
    (fun b' ap=>by
     rw[gn.1 ap]
     exact⟨fun hf=>jU b hf rfl,.inl ⟨kb,by simp[t_],eH kb t_,pq⟩⟩) fi
   exact hn _ _ _ _ _ (by rw[dD];exact ff)
 have fS:us.length=zs.length*U.wd τ:=by obtain⟨gl,g1,_⟩:=xT;exact g1.1
 have AG:∀u∈us,u.oneCell'=true:=by obtain⟨gl,g1,_⟩:=xT;exact g1.bn
 have m9:(xs.length+zs.length)*i.bytes<=140737488355328:=by
  have:=Nat.mul_le_mul hle qg
  omega
 by_cases mo:zs.length=0
 ·have vp:zs=[]:=qk mo
  subst vp
  have jP:us=[]:=qk (by simpa using fS)
  rcases qf.rows with⟨h3,⟨ur,h4⟩,h5⟩|⟨b,cap,cur,vs,fl,h3,h4,h5,h6,h7,h8,h9,jV⟩
  ·simp only at h3;subst h3
   have hr:=exec (v:=.slice ur 0 0) (w1:=w) (by rw[h4];exact w8 w hu hi _ _ _ (by rw[jP] at en;exact en) (nC _))
   refine gW hr ?_
   have ff:=h.nv ho hd (.arr ⟨τ,[]⟩ (d1&&d2)) (one (.ref (d,0) [])) (ks++ks') pall (.slice ur 0 0) (.slice ur 0 0) [] (w':=w) (F':=F) fj
    (fun bad=>bY ⟨⟨rfl,trivial⟩,.inr (by simp only[RA,im];rfl)⟩) (fun bad=> .inl ⟨rfl,⟨ur,rfl⟩,rfl⟩) (fun b hb=>⟨hb,rfl⟩) (fun b hb=> .inl hb) (fun _ _ _ _ _ _=>rfl) (by simp) (by simp) (bB.refl _ _)
   exact hn _ _ _ _ _ ff
  ·simp only at h3 h4 h5 h7 h8 h9
   have hr:=exec (v:=.slice (some ⟨b,0,none⟩) xs.length cap) (w1:=w) (by rw[h3];exact w8 w hu hi _ _ _ (by rw[jP] at en;exact en) h5)
   refine gW hr ?_
   have:=gb (b:=b) (cap:=cap) (cur':=cur) (vs:=vs) (fl:=fl) (w1:=w) h9 jV (fun _ _=>rfl) rfl rfl rfl rfl h4 (by simpa using h5) h6 h7 (by rw[jP,oG,oG];exact h8)
   simpa using this
 ·have A7:us.length=zs.length*i.size:=by rw[b9];exact fS
  have grown:∀(vs:List Value),vs.length=xs.length*U.wd τ->(d1=true->∃fl,aO E w F true τ xs vs fl/\fl.flatten.Nodup/\∀b∈fl.flatten,∃k∈ks,b∈fp k)->(∃fl,aO E w (FK F fp ks) false τ xs vs fl/\fl.flatten=[])->
    ∀o8:Nat,o8<xs.length+zs.length->(Builtin.append_ #[t,u] o.type #[a.eval s,a.eval x]).run E.P w=
     .ok (.slice (some ⟨w.heap.size,0,none⟩) (xs.length+zs.length) (grownCap w (xs.length+zs.length) o8 e)) (w.drew.alloc (.cells (vs.toArray++us.toArray++Builtin.zeroCells z.cells (grownCap w (xs.length+zs.length) o8 e-(xs.length+zs.length))) e))->
    o.wp E.P a w next Q:=by
   intro vs oc h1 h2 o8 hold cx
   refine gW (exec cx) ?_
   have Bm:=grownCap_ge w (xs.length+zs.length) o8 e
   have:=grow vs h1 h2 (cap:=grownCap w (xs.length+zs.length) o8 e) (cur:=vs.toArray++us.toArray++Builtin.zeroCells z.cells (grownCap w (xs.length+zs.length) o8 e-(xs.length+zs.length)))
    (w1:=w.drew.alloc (.cells (vs.toArray++us.toArray++Builtin.zeroCells z.cells (grownCap w (xs.length+zs.length) o8 e-(xs.length+zs.length))) e))
    (fun b hb=>l8 w.drew _ hb) ((bB.drew _ _).trans (bB.alloc _ _ _)) (by simp) (by rw[kr];exact heap_alloc_new w.drew _) (by simpa using Bm) (grownCap_le_maxLen w _ o8 e (sd hle))
    (by
     simp only[Array.size_append,yt,size_zeroCells,lg,oc,fS,<-j8]
     congr 1;omega)
    (by
     have nT:((xs++zs).length*U.wd τ)=(vs++us).length:=by simp[oc,fS,j8]
     simp only[Array.toList_append,kP]
     rw[<-kP,nT]
     exact List.take_left)
   simpa using this
  rcases qf.rows with⟨h3,⟨ur,h4⟩,h5⟩|⟨b,cap,cur,vs,fl,h3,h4,h5,h6,h7,h8,h9,jV⟩
  ·simp only at h3;subst h3
   refine grown [] (by simp) (fun _=>⟨[],aO.nil,by simp,by simp⟩) ⟨[],aO.nil,rfl⟩ 0 (by omega) ?_
   rw[h4]
   simp only[j9,kO] at m9 hle⊢
   cases ur with
   |none=>
    have hr:=Dn (ty:=o.type) w hu hi hz en (by omega) (by omega) (by omega)
    simpa using hr
   |some a'=>
    have hr:=w9 (ty:=o.type) w hu hi hz a' 0 0 [] (by simp) (by simp) en (by omega) (by omega) (growslice_fits (by omega) (by simpa using m9))
    simpa using hr
  ·simp only at h3 h4 h5 h7 h8 h9
   have oc:vs.length=xs.length*U.wd τ:=h9.1
   by_cases eu:xs.length+zs.length<=cap
   ·have re:xs.length*i.size+us.length<=cur.size:=by rw[A7,b9,h7,<-j8];exact kS _ eu
    have hr:=Dm (ty:=o.type) w hu hi b xs.length cap cur (by rw[<-kr];exact h4) en AG eu re
    rw[<-h3] at hr
    refine gW (exec hr) ?_
    have:=gb (b:=b) (cap:=cap) (cur':=(cur.toList.take (xs.length*i.size)++us++cur.toList.drop (xs.length*i.size+us.length)).toArray) (vs:=vs) (fl:=fl)
     (w1:=w.setRow b (cur.toList.take (xs.length*i.size)++us++cur.toList.drop (xs.length*i.size+us.length)).toArray) h9 jV (fun b' ap=>setRow_other w b b' _ ap) (by simp) rfl rfl rfl (setRow_heap w b cur _ _ _ h4) (by simpa using eu) h6
     (by
      simp only[yt,kR,jw,n0,nI]
      omega)
     (by
      have nT:((xs++zs).length*U.wd τ)=(vs++us).length:=by simp[oc,fS,j8]
      rw[b9,h8,nT]
      exact List.take_left)
    simpa using this
   ·refine grown vs oc (fun OS=> ?_) ?_ cap (by omega) ?_
    ·subst OS
     exact⟨fl,h9,by rw[jV] at nT;exact(gx.1 nT).2,fun b' ap=>tY b' (by rw[jV];simp[ap])⟩
    ·exact⟨_,h9.dy (F':=FK F fp ks) (fun b hb=> .inl hb) (fun b' ap=> .inr (tY b' (by rw[jV];simp[ap]))),k_ _⟩
    ·rw[h3]
     refine w9 (ty:=o.type) w hu hi hz ⟨b,0,none⟩ xs.length cap vs (by rw[b9];exact oc) (fun j u hu=> ?_) en (by omega) (by omega) (growslice_fits (by omega) m9)
     rw[Addr.add_mid,kO,cell_of_row w b _ cur _ (0,0) h4]
     rw[<-h8,fg] at hu
     split at hu
     ·simpa using hu
     ·cases hu
theorem J_(hE:E.Ok)(h:aE E pm F kv fp σ a w){o:Oper}{d:Nat}(ho:o.dst=some d)(hd:d<σ.n){cl:Call}{t e:TypeId}{s x:Operand}(gy:o.op=.call cl)(ck:cl.callee=.builtin .append)
  (dE:cl.args.toList=[s,x]) (mq:cl.argTypes.toList=[t,t]) {τ:U.Ty} (iT:E.elem t=some e) (hc:E.code e=some τ) {ss sx:SV U} {ys yx:AC U}
  (hs:RS E w F kv fp (ay σ) ss (a.eval s)) (xP:i_ ss=some ys) (hx:RS E w F kv fp (ay σ) sx (a.eval x)) (EM:i_ sx=some yx)
  {rs:List Key} {ps qs:List Prop} {xs zs:List (U.T τ)} {ks ks':List Key} {d1 d2:Bool} {pall:List Prop}
  (A1:iM τ (restrict σ.aw rs) ys=some (ps,xs,ks,d1)) (qV:rW τ (restrict σ.aw rs) yx=some (qs,zs,ks',d2)) (hp:∀p∈ps,p) (pj:(ks++ks').Nodup) (hle:xs.length+zs.length<=4294967296)
  (fj:¬Names σ (d,0)) {next:Act->World->Prop} {Q:Exit->Act->World->Prop}
  (hn:∀F kv fp a' w',aE E pm F kv fp (AM.apply o ⟨some (one (.ref (d,0) [])),[(0,.arr ⟨τ,xs++zs⟩ (d1&&d2))],ks++ks',[],pall⟩ σ) a' w'->next a' w'):o.wp E.P a w next Q:=by
 obtain⟨OK,m8,ad,c,us,N8,vC,xT,xS⟩:=Iy h qV (du hx EM)
 have hu:=mO iT
 exact Eg hE h ho hd gy ck dE mq iT hc hs xP A1 m8 (by rw[N8];exact Src.slice hu (by obtain⟨gl,g1,_⟩:=xT;exact g1.1) xS) vC xT hp pj hle fj hn
theorem C'{τ:U.Ty}{s:ByteArray}{ys:List (U.T τ)}(h:mg τ s=some ys)(m:Bool):ys.length=s.size/\U.wd τ=1/\∃fl,aO E w F m τ ys (s.data.toList.map fun b=>Value.int .u8 (b.toNat:Int)) fl/\fl.flatten=[]:=by
 unfold mg at h
 have h0:=aP h
 cases h0
 have hw:U.wd U.fo=1:=by rw[<-U.aK U.fo (U.bj U.fo),U.ov];rfl
 have jf:(s.data.toList.map fun b=>U.GI (b.toNat:Int)).length=s.size:=by rw[uF];exact nI
 have Ks:(s.data.toList.map fun b=>Value.int .u8 (b.toNat:Int)).length=s.size:=by rw[uF];exact nI
 refine⟨jf,hw,List.replicate s.size [],⟨by rw[jf,Ks,hw,Nat.mul_one],by rw[jf,Gy,hw,Nat.mul_one],fun i x j c hx hj=> ?_⟩,by simp⟩
 rw[eW] at hx
 cases hb:s.data.toList[i]? with
 |none=>rw[hb] at hx;cases hx
 |some b=>
  rw[hb] at hx
  simp only[nG,bH] at hx
  subst hx
  rw[U.ov,U.sD] at hj
  have OM:j=0:=by
   cases j with
   |zero=>rfl
   |succ j=>simp at hj
  subst OM
  simp only[ja,bH] at hj
  subst hj
  have e1:i*U.wd U.fo+0=i:=by rw[hw];omega
  rw[e1]
  have e2:(s.data.toList.map fun b=>Value.int .u8 (b.toNat:Int)).getD i undef=.int .u8 (b.toNat:Int):=by
   rw[cB,eW,hb];rfl
  have e3:(List.replicate s.size ([]:List Nat)).getD i []=[]:=by
   rw[cB,GA];split<;>rfl
  rw[e2,e3]
  exact .lit m _ ⟨rfl,by have:=b.toNat_lt;simp only[IntKind.min,IntKind.max,IntKind.signed,IntKind.bits,mF,if_false];omega⟩
theorem J'(hE:E.Ok)(h:aE E pm F kv fp σ a w){o:Oper}{d:Nat}(ho:o.dst=some d)(hd:d<σ.n){cl:Call}{t u e:TypeId}{s x:Operand}(gy:o.op=.call cl)(ck:cl.callee=.builtin .append)
  (dE:cl.args.toList=[s,x]) (mq:cl.argTypes.toList=[t,u]) {τ:U.Ty} (iT:E.elem t=some e) (hc:E.code e=some τ) {ss sx:SV U} {ys:AC U} {str:ByteArray}
  (hs:RS E w F kv fp (ay σ) ss (a.eval s)) (xP:i_ ss=some ys) (hx:RS E w F kv fp (ay σ) sx (a.eval x)) (EM:cq sx=some (.string str)) (hu:E.P.underlying u=some .string)
  {rs:List Key} {ps:List Prop} {xs zs:List (U.T τ)} {ks:List Key} {d1:Bool} {pall:List Prop}
  (A1:iM τ (restrict σ.aw rs) ys=some (ps,xs,ks,d1)) (qV:mg τ str=some zs) (hp:∀p∈ps,p) (pj:ks.Nodup) (hle:xs.length+zs.length<=4294967296)
  (fj:¬Names σ (d,0)) {next:Act->World->Prop} {Q:Exit->Act->World->Prop}
  (hn:∀F kv fp a' w',aE E pm F kv fp (AM.apply o ⟨some (one (.ref (d,0) [])),[(0,.arr ⟨τ,xs++zs⟩ d1)],ks,[],pall⟩ σ) a' w'->next a' w'):o.wp E.P a w next Q:=by
 have hv:=fR hx EM
 obtain⟨h1,h2,fl,h3,h4⟩:=C' (E:=E) (w:=w) (F:=F) qV true
 obtain⟨_,_,gl,g3,g4⟩:=C' (E:=E) (w:=w) (F:=FK F fp []) qV false
 refine Eg (ks':=[]) (d2:=true) (zs:=zs) (us:=str.data.toList.map fun b=>Value.int .u8 (b.toNat:Int)) (pall:=pall) hE h ho hd gy ck dE mq iT hc hs xP A1 (by simp) ?_ (fun _=>⟨fl,h3,by rw[h4];simp,by rw[h4];simp⟩) ⟨gl,g3,g4⟩ hp (by simpa using pj) hle fj ?_
 ·rw[hv,h1,h2];exact Src.string hu str
 ·simpa using hn
end AM
