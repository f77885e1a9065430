/- THE ABSTRACT MACHINE: append. -/
import Derived.Test.YtpkdgcookaobfaaGreatDoorQAmOps6
namespace AM
set_option linter.unusedVariables false
open Go
variable{U:lz}{E:Env U}{pm:Pm}
variable{F F':Nat->Prop}{kv:Key->Value}{fp:Key->List Nat}{σ:ak U}{a:Act}{w w':World}{bad:Key->Bool}
theorem d_{τ:U.Ty}{x:fu U}{ys:List (U.T τ)}(h:jd τ x=some ys):x=⟨τ,ys⟩:=by
 obtain⟨Gj,xs⟩:=x
 unfold jd at h
 cases hd:U.deq Gj τ with
 |isFalse he=>simp only[hd] at h;cases h
 |isTrue he=>
  simp only[hd] at h
  subst he
  cases h
  rfl
theorem Rp.SX{w:World}{F:Nat->Prop}{c:U.C}{v:Value}{l:List Nat}(h:Rp E w F false c v l):l=[]:=by
 generalize hm:false=m at h
 cases h with
 |lit=>rfl
 |nil=>rfl
 |shr=>rfl
 |own=>cases hm
theorem eW.Lp{τ:U.Ty}{xs:List (U.T τ)}{vs:List Value}{fl:List (List Nat)}(h:eW E w F false τ xs vs fl):fl.flatten=[]:=by
 refine List.flatten_eq_nil_iff.2 fun l hl=> ?_
 obtain⟨n,hn,rfl⟩:=sG hl
 have hw:=U.la τ
 have hi:n/U.wd τ<xs.length:=(Nat.div_lt_iff_lt_mul hw).2 (by rw[<-h.2.1];exact hn)
 have hj:n%U.wd τ<U.wd τ:=Nat.mod_lt _ hw
 have:=h.2.2 (n/U.wd τ) xs[n/U.wd τ] (n%U.wd τ) ((U.enc τ xs[n/U.wd τ])[n%U.wd τ]'(by rw[U.dz];exact hj)) (fw hi) (fw _)
 have he:n/U.wd τ*U.wd τ+n%U.wd τ=n:=by rw[UB];exact Nat.div_add_mod n _
 rw[he,ez (l:=fl),fw hn] at this
 exact this.SX
structure Src(P:Program)(w:World)(u:TypeId)(x:Value)(size n:Nat)(us:List Value):Prop where
 ut:(∃e,P.underlying u=some (.slice e))\/P.underlying u=some .string
 len:∀w',(Builtin.lenOf x).run P w'=.ok n w'
 first:(Builtin.firstCells size n x).run P w=.ok us.toArray w
 SU:(Builtin.firstCells size n x).run P w.drew=.ok us.toArray w.drew
theorem UY{P:Program}(w:World){t u ty e:TypeId}{i:TypeInfo}(ht:P.underlying t=some (.slice e))(hi:P.info? e=some i)(base:Option Addr)(n cap:Nat){x:Value}(h:Src P w u x i.size 0 [])(hc:n<=cap):
  (Builtin.append_ #[t,u] ty #[.slice base n cap,x]).run P w=.ok (.slice base n cap) w:=by
 have hut:=h.ut
 have h1:=h.len
 have h2:=h.first
 rcases hut with⟨e',hu⟩|hu<;>cases base<;>simp[Builtin.append_,run_underlying ht,run_underlying hu,Go.sizeOf,typeInfo,hi,h1,hc,h2,storeCells]
theorem acV{P:Program}(w:World){t u ty e:TypeId}{i:TypeInfo}{z:Value}(ht:P.underlying t=some (.slice e))(hi:P.info? e=some i)(hz:i.zero=some z)
  {n:Nat} {us:List Value} {x:Value} (h:Src P w u x i.size n us)
  (h0:0<n) (h63:(n:Int)<=9223372036854775807) (h48:n*i.bytes<=281474976710656):
  (Builtin.append_ #[t,u] ty #[.slice none 0 0,x]).run P w=
   .ok (.slice (some ⟨w.heap.size,0,none⟩) n (grownCap w n 0 e)) (w.drew.alloc (.cells (us.toArray++Builtin.zeroCells z.cells (grownCap w n 0 e-n)) e)):=by
 have hut:=h.ut
 have h1:=h.len
 have h2:=h.SU
 have hn:n≠0:=by omega
 have abr:¬(9223372036854775807<(n:Int)):=by omega
 have abt:¬(281474976710656<Builtin.nextslicecap n 0*i.bytes):=by rw[nextslicecap_zero h0];omega
 rcases hut with⟨e',hu⟩|hu<;>simp[Builtin.append_,run_underlying ht,run_underlying hu,Go.sizeOf,typeInfo,zeroValue,hi,hz,h1,hn,abr,abt,Question.forced,run_firstCells_none,h2,newRow,grownCap]
theorem UZ{P:Program}(w:World){t u ty e:TypeId}{i:TypeInfo}{z:Value}(ht:P.underlying t=some (.slice e))(hi:P.info? e=some i)(hz:i.zero=some z)
  (b:Addr) (qo BB:Nat) (Vq:List Value) (hlo:Vq.length=qo*i.size) (holds:∀j v,Vq[j]? =some v->w.cell? (b.add j)=some v)
  {n:Nat} {us:List Value} {x:Value} (h:Src P w u x i.size n us)
  (hg:BB<qo+n) (h63:((qo+n:Nat):Int)<=9223372036854775807) (P5:Builtin.nextslicecap (qo+n) BB*i.bytes<=281474976710656):
  (Builtin.append_ #[t,u] ty #[.slice (some b) qo BB,x]).run P w=
   .ok (.slice (some ⟨w.heap.size,0,none⟩) (qo+n) (grownCap w (qo+n) BB e))
    (w.drew.alloc (.cells (Vq.toArray++us.toArray++Builtin.zeroCells z.cells (grownCap w (qo+n) BB e-(qo+n))) e)):=by
 have hut:=h.ut
 have h1:=h.len
 have h2:=h.SU
 have hn:¬(qo+n<=BB):=by omega
 have abr:¬(9223372036854775807<((qo:Int)+(n:Int))):=by omega
 have abt:¬(281474976710656<Builtin.nextslicecap (qo+n) BB*i.bytes):=by omega
 have P4:=run_firstCells_some (P:=P) w.drew i.size qo b qo BB Vq hlo (by simpa using holds)
 rcases hut with⟨e',hu⟩|hu<;>
   (simp[Builtin.append_,run_underlying ht,run_underlying hu,Go.sizeOf,typeInfo,zeroValue,hi,hz,h1,hn,abr,abt,Question.forced,h2,P4,newRow,grownCap]
    congr 2
    apply Array.ext'
    simp[xz])
theorem acU{P:Program}(w:World){t u ty e:TypeId}{i:TypeInfo}(ht:P.underlying t=some (.slice e))(hi:P.info? e=some i)
  (g qo BB:Nat) (cur:Array Value) (hg:w.heap[g]? =some (.cells cur e (0,0)))
  {m:Nat} {us:List Value} {x:Value} (h:Src P w u x i.size m us) (h1:∀u∈us,u.oneCell'=true)
  (yd:qo+m<=BB) (P5:qo*i.size+us.length<=cur.size):
  (Builtin.append_ #[t,u] ty #[.slice (some ⟨g,0,none⟩) qo BB,x]).run P w=
   .ok (.slice (some ⟨g,0,none⟩) (qo+m) BB) (w.setRow g (cur.toList.take (qo*i.size)++us++cur.toList.drop (qo*i.size+us.length)).toArray):=by
 have hut:=h.ut
 have Mn:=h.len
 have hf:=h.first
 have qR:=run_storeCells_at P g (qo*i.size) e us 0 cur w hg (by simpa using P5) h1
 simp only[J6] at qR
 rcases hut with⟨e',hu⟩|hu<;>simp[Builtin.append_,run_underlying ht,run_underlying hu,Go.sizeOf,typeInfo,hi,Mn,yd,hf,Addr.add_lit,qR]
theorem Src.slice{P:Program}{w:World}{t e:TypeId}(ht:P.underlying t=some (.slice e)){size n c:Nat}{ad:Option Addr}{us:List Value}(hl:us.length=n*size)
  (h:0<n->∃b off,ad=some ⟨b,off,none⟩/\∀i u,us[i]? =some u->w.cell? ⟨b,off+i,none⟩=some u):Src P w t (.slice ad n c) size n us:=by
 refine⟨.inl ⟨_,ht⟩,fun w'=>rfl,?_,?_⟩
 ·by_cases hn:0<n
  ·obtain⟨b,off,rfl,h2⟩:=h hn
   exact run_firstCells_some (P:=P) w size n ⟨b,off,none⟩ n c us hl (fun j u hu=>by rw[Addr.add_mid];exact h2 j u hu)
  ·have:n=0:=by omega
   subst this
   have:us=[]:=FL (by simpa using hl)
   subst this
   cases ad<;>simp[Builtin.firstCells,loadCells,loadCellsFrom]
 ·by_cases hn:0<n
  ·obtain⟨b,off,rfl,h2⟩:=h hn
   exact run_firstCells_some (P:=P) w.drew size n ⟨b,off,none⟩ n c us hl (fun j u hu=>by rw[Addr.add_mid];exact h2 j u hu)
  ·have:n=0:=by omega
   subst this
   have:us=[]:=FL (by simpa using hl)
   subst this
   cases ad<;>simp[Builtin.firstCells,loadCells,loadCellsFrom]
theorem Src.string{P:Program}{w:World}{u:TypeId}(hu:P.underlying u=some .string){size:Nat}(s:ByteArray):Src P w u (.string s) size s.size (s.data.toList.map fun b=>Value.int .u8 (b.toNat:Int)):=by
 have hx:(Array.map (fun b:UInt8=>Value.int IntKind.u8 (b.toNat:Int)) (s.extract 0 s.size).data)=(s.data.toList.map fun b=>Value.int .u8 (b.toNat:Int)).toArray:=by
  have:s.extract 0 s.size=s:=ByteArray.extract_zero_size
  rw[this]
  apply Array.ext'
  simp
 refine⟨.inr hu,fun w'=>rfl,?_,?_⟩
 ·simp only[Builtin.firstCells,hx];rfl
 ·simp only[Builtin.firstCells,hx];rfl
theorem alg(h:cM E pm F kv fp σ a w){τ:U.Ty}{rs:List Key}{x:AC U}{v:Value}{ps:List Prop}{ys:List (U.T τ)}{ks:List Key}{d:Bool}
  (hn:H5 τ (restrict σ.bO rs) x=some (ps,ys,ks,d)) (hx:RD E w F kv fp (bW σ) x v):
  ks.Nodup/\(∀k∈ks,(σ.bO k).isSome=true)/\∃ad c us,v=.slice ad ys.length c/\
   (d=true->∃fl,eW E w F true τ ys us fl/\fl.flatten.Nodup/\∀b∈fl.flatten,∃k∈ks,b∈fp k)/\
   (∃fl,eW E w (FK F fp ks) false τ ys us fl/\fl.flatten=[])/\
   (0<ys.length->∃b off,ad=some ⟨b,off,none⟩/\∀i u,us[i]? =some u->w.cell? ⟨b,off+i,none⟩=some u):=by
 unfold H5 at hn
 split at hn
 ·cases hn
  obtain⟨ad,h1⟩:=cw hx rfl
  exact⟨by simp,by simp,ad,0,[],h1,fun _=>⟨[],eW.nil,by simp,by simp⟩,⟨[],eW.nil,rfl⟩,fun h=>by simp at h⟩
 ·rename_i k
  split at hn
  ·rename_i y d' he
   split at hn
   ·rename_i zs hz
    cases hn
    have:=d_ hz
    subst this
    have fc:=j0 he
    have h1:v=kv k:=cw hx rfl
    have h2:e7 E w F d ⟨τ,ys⟩ (kv k) (fp k):=h.dH k _ fc
    rw[<-h1] at h2
    have qu:=h.nodup k _ fc
    rcases h2.rows with⟨h3,⟨ad,h4⟩,h5⟩|⟨b,cap,cur,vs,fl,h3,h4,h5,h6,h7,h8,h9,ta⟩
    ·simp only at h3;subst h3
     exact⟨by simp,by simp[fc],ad,0,[],h4,fun _=>⟨[],eW.nil,by simp,by simp⟩,⟨[],eW.nil,rfl⟩,fun h=>by simp at h⟩
    ·simp only at h3 h4 h5 h7 h8 h9
     rw[ta] at qu
     refine⟨by simp,by simp[fc],some ⟨b,0,none⟩,cap,vs,h3,fun hd=> ?_,?_,fun _=>⟨b,0,rfl,fun i u hu=> ?_⟩⟩
     ·subst hd
      exact⟨fl,h9,(tY.1 qu).2,fun b' bj=>⟨k,by simp,by rw[ta];simp[bj]⟩⟩
     ·exact⟨_,h9.lD (F':=FK F fp [k]) (fun b hb=> .inl hb) (fun b' bj=> .inr ⟨k,by simp,by rw[ta];simp[bj]⟩),zN _⟩
     ·rw[<-h8,qn] at hu
      split at hu
      ·rw[cell_of_row w b _ cur _ (0,0) h4];simpa using hu
      ·cases hu
   ·cases hn
  ·cases hn
 ·rename_i Gj ys'
  split at hn
  ·rename_i zs hz
   cases hn
   have:=d_ hz
   cases this
   have h1:Rp E w F false _ _ _:=cw hx rfl
   have lits:U.flat τ=true->∀{F:Nat->Prop}{m:Bool}{x:U.T τ}{j:Nat}{c:U.C}{u:Value}{l:List Nat},(U.enc τ x)[j]? =some c->Rp E w F m c u l->Rp E w F true c u []:=by
    intro Gd F m x j c u l hj hr
    obtain⟨v,rfl⟩:=U.Oj τ Gd x c (Gl hj)
    generalize hc:(Cell.lit v:U.C)=c at hr
    cases hr with
    |lit _ _ hv=>cases hc;exact .lit _ _ hv
    |nil=>cases hc
    |shr=>cases hc
    |own=>cases hc
   rcases h1.inv with⟨h0,ad,c,rfl⟩|⟨b,off,cap,vs,rfl,hF,hc,hv,hr⟩
   ·subst h0
    exact⟨by simp,by simp,ad,c,[],rfl,fun _=>⟨[],eW.nil,by simp,by simp⟩,⟨[],eW.nil,rfl⟩,fun h=>by simp at h⟩
   ·have j6:∀(m:Bool)(F':Nat->Prop),(∀i x j c,ys[i]? =some x->(U.enc τ x)[j]? =some c->Rp E w F' m c (vs (i*U.wd τ+j)) [])->eW E w F' m τ ys ((List.range (ys.length*U.wd τ)).map vs) (List.replicate (ys.length*U.wd τ) []):=by
     intro m F' hh
     refine⟨by simp,by simp,fun i x j c hx hj=> ?_⟩
     have gI:=fP hx hj
     rw[HP,ez,nT,NF gI]
     exact hh i x j c hx hj
    refine⟨by simp,by simp,some ⟨b,off,none⟩,cap,(List.range (ys.length*U.wd τ)).map vs,rfl,fun hd=> ?_,?_,fun _=>⟨b,off,rfl,fun i u hu=> ?_⟩⟩
    ·exact⟨_,j6 true F (fun i x j c hx hj=>lits hd hj (hr i x j c hx hj)),by rw[zN];simp,by rw[zN];simp⟩
    ·exact⟨_,j6 false _ (fun i x j c hx hj=>(hr i x j c hx hj).fT (fun b hb=> .inl hb)),zN _⟩
    ·rw[nT] at hu
     by_cases hi:i<ys.length*U.wd τ
     ·rw[NF hi] at hu
      cases hu
      exact hv i hi
     ·rw[od (by simp;omega)] at hu;cases hu
  ·cases hn
 ·cases hn
theorem amW{x:AC U}{v:Value}{bad:Key->Bool}(h:RD E w F kv fp bad x v):RD E w F kv fp bad (acj x) v:=by
 cases x with
 |kn b τ xs=>
  refine⟨h.1,?_⟩
  rcases h.2 with g|g
  ·simp[iJ] at g
  ·exact .inr g.1
 |c _=>exact h
 |e0=>exact h
 |ref _ _=>exact h
 |sub _ _ _ _=>exact h
 |lN _ _ _ _ _=>exact h
 |ky _ _=>exact h
 |ia _=>exact h
theorem alf(h:cM E pm F kv fp σ a w){τ:U.Ty}{rs:List Key}{x:AC U}{v:Value}{ps:List Prop}{ys:List (U.T τ)}{ks:List Key}{d:Bool}
  (hn:MY τ (restrict σ.bO rs) x=some (ps,ys,ks,d)) (hx:RD E w F kv fp (bW σ) x v):
  ks.Nodup/\(∀k∈ks,(σ.bO k).isSome=true)/\∃ad c us,v=.slice ad ys.length c/\
   (d=true->∃fl,eW E w F true τ ys us fl/\fl.flatten.Nodup/\∀b∈fl.flatten,∃k∈ks,b∈fp k)/\
   (∃fl,eW E w (FK F fp ks) false τ ys us fl/\fl.flatten=[])/\
   (0<ys.length->∃b off,ad=some ⟨b,off,none⟩/\∀i u,us[i]? =some u->w.cell? ⟨b,off+i,none⟩=some u):=
 alg h hn (amW hx)
theorem ac'(h:cM E pm F kv fp σ a w){τ:U.Ty}{rs:List Key}{x:AC U}{v:Value}{ps:List Prop}{xs:List (U.T τ)}{ks:List Key}{d:Bool}
  (hn:uR τ (restrict σ.bO rs) x=some (ps,xs,ks,d)) (hp:∀p∈ps,p) (hx:RD E w F kv fp (bW σ) x v):
  ks.Nodup/\(∀k∈ks,(σ.bO k).isSome=true)/\∃l,e7 E w F d ⟨τ,xs⟩ v l/\l.Nodup/\∀b∈l,∃k∈ks,b∈fp k:=by
 unfold uR at hn
 split at hn
 ·cases hn
  obtain⟨ad,h1⟩:=cw hx rfl
  exact⟨by simp,by simp,[],.inl ⟨rfl,⟨ad,h1⟩,rfl⟩,by simp,by simp⟩
 ·rename_i k
  split at hn
  ·rename_i y d' he
   split at hn
   ·rename_i zs hz
    cases hn
    have:=d_ hz
    subst this
    have fc:=j0 he
    have h1:v=kv k:=cw hx rfl
    subst h1
    exact⟨by simp,by simp[fc],fp k,h.dH k _ fc,h.nodup k _ fc,fun b hb=>⟨k,by simp,hb⟩⟩
   ·cases hn
  ·rename_i y dead he
   split at hn
   ·rename_i zs hz
    cases hn
    have:=d_ hz
    subst this
    have fc:=j0 he
    have h1:v=kv k:=cw hx rfl
    subst h1
    exact⟨by simp,by simp[fc],fp k,eE.own (h.dH k _ fc) (hp _ (by simp)),h.nodup k _ fc,fun b hb=>⟨k,by simp,hb⟩⟩
   ·cases hn
  ·cases hn
 ·rename_i k wd hi
  split at hn
  ·rename_i y d' he
   split at hn
   ·rename_i zs hz
    cases hn
    have:=d_ hz
    subst this
    have fc:=j0 he
    obtain⟨h1,_⟩:=cw hx rfl
    subst h1
    obtain⟨l,h3,h4⟩:=e7.take (wd:=wd) (hi:=hi) (h.dH k _ fc:e7 E w F d ⟨τ,zs⟩ (kv k) (fp k)) (hp _ (by simp))
    exact⟨by simp,by simp[fc],l,h3,h4.nodup (h.nodup k _ fc),fun b hb=>⟨k,by simp,h4.subset hb⟩⟩
   ·cases hn
  ·cases hn
 ·cases hn
theorem adL(hE:E.Ok)(h:cM E pm F kv fp σ a w){o:Oper}{d:Nat}(ho:o.dst=some d)(hd:d<σ.n){cl:Call}{t e:TypeId}{s x:Operand}(sF:o.op=.call cl)(iv:cl.callee=.builtin .append)
  (lK:cl.args.toList=[s,x]) {u:TypeId} (BV:cl.argTypes.toList=[t,u]) {τ:U.Ty} (uW:E.elem t=some e) (hc:E.code e=some τ) {ss:SV U} {ys:AC U}
  (hs:RS E w F kv fp (bW σ) ss (a.eval s)) (VP:vd ss=some ys)
  {rs:List Key} {ps:List Prop} {xs zs:List (U.T τ)} {ks ks':List Key} {d1 d2:Bool} {pall:List Prop} {us:List Value}
  (ho1:uR τ (restrict σ.bO rs) ys=some (ps,xs,ks,d1)) (EO:∀k∈ks',(σ.bO k).isSome=true) (sW:Src E.P w u (a.eval x) (U.wd τ) zs.length us)
  (Sm:d2=true->∃fl,eW E w F true τ zs us fl/\fl.flatten.Nodup/\∀b∈fl.flatten,∃k∈ks',b∈fp k) (VU:∃fl,eW E w (FK F fp ks') false τ zs us fl/\fl.flatten=[]) (hp:∀p∈ps,p) (Ij:(ks++ks').Nodup) (hle:xs.length+zs.length<=4294967296)
  (ov:¬Names σ (d,0)) {next:Act->World->Prop} {Q:Exit->Act->World->Prop}
  (hn:∀F kv fp a' w',cM E pm F kv fp (AM.apply o ⟨some (one (.ref (d,0) [])),[(0,.arr ⟨τ,xs++zs⟩ (d1&&d2))],ks++ks',[],pall⟩ σ) a' w'->next a' w'):o.wp E.P a w next Q:=by
 obtain⟨zW,i,z,hi,hz,jm,PJ,Xr,_⟩:=hE.code e τ hc
 have hu:=Ei uW
 have hw:=U.la τ
 obtain⟨Aa,lp,l,Oe,Bc,PV⟩:=ac' h ho1 hp (li hs VP)
 rw[<-jm] at sW
 have jo:∀k∈ks++ks',(σ.bO k).isSome=true:=fun k hk=>(jC.1 hk).elim (lp k) (EO k)
 have Sg:=Ij
 rw[rK] at Sg
 have exec:∀{v w1},(Builtin.append_ #[t,u] o.type #[a.eval s,a.eval x]).run E.P w=.ok v w1->(execOp a.eval o).run E.P w=.ok (.value v) w1:=by
  intro v w1 hr
  have ha:cl.args= #[s,x]:=zO lK
  have ht:cl.argTypes= #[t,u]:=zO BV
  unfold execOp;simp only[sF]
  simp[resolve,iv,ha,ht,invoke,builtin,hr]
 have Na:∀{n:Nat},n<=4294967296->n<=maxLen:=fun hh=>by simp only[maxLen];omega
 have P7:∀k∈ks++ks',∀b∈fp k,b<w.heap.size:=fun k hk b hb=>by
  obtain⟨e,he⟩:=nf.1 (jo k hk)
  exact HQ h he hb
 have hnF:∀k∈ks++ks',∀b∈fp k,¬F b:=fun k hk b hb=>by
  obtain⟨e,he⟩:=nf.1 (jo k hk)
  exact(h.fQ k e b he hb).1
 have hWb:∀k∈ks++ks',∀b∈fp k,pm.W b\/pm.w0.heap.size<=b:=fun k hk b hb=>by
  obtain⟨e,he⟩:=nf.1 (jo k hk)
  exact(h.fQ k e b he hb).2.1
 have grow:∀(vs:List Value),(d1=true->∃fl,eW E w F true τ xs vs fl/\fl.flatten.Nodup/\∀b∈fl.flatten,∃k∈ks,b∈fp k)->(∃fl,eW E w (FK F fp ks) false τ xs vs fl/\fl.flatten=[])->
   ∀{cap:Nat}{cur:Array Value}{w1:World},(∀b,b<w.heap.size->w1.heap[b]? =w.heap[b]?)->hU (fun b=>pm.W b\/pm.w0.heap.size<=b) w w1->w.heap.size<w1.heap.size->
   w1.heap[w.heap.size]? =some (.cells cur (E.tid τ) (0,0))->(xs++zs).length<=cap->cap<=maxLen->cur.size=cap*U.wd τ->cur.toList.take ((xs++zs).length*U.wd τ)=vs++us->
   next (a.put o.dst (.slice (some ⟨w.heap.size,0,none⟩) (xs++zs).length cap)) w1:=by
  intro vs h1 h2 cap cur w1 zV ql xx hb ni hm vA Ba
  obtain⟨F',kv',fp',o8⟩:=Z3 h ho hd ov (τ:=τ) (rows:=xs++zs) (ks:=ks++ks') (dp:=d1&&d2) (ps:=pall) (vs:=vs++us) Ij jo
   (fun kY=>by
    simp only[cJ] at kY
    obtain⟨fl,f1,f2,f3⟩:=h1 kY.1
    obtain⟨gl,g1,g2,g3⟩:=Sm kY.2
    refine⟨fl++gl,f1.append g1,by rw[Mg];exact Vm h Ij lp EO f3 g3 f2 g2,fun b hb=> ?_⟩
    rw[Mg,jC] at hb
    rcases hb with hb|hb
    ·obtain⟨k,hk,hb⟩:=f3 b hb;exact⟨k,by simp[hk],hb⟩
    ·obtain⟨k,hk,hb⟩:=g3 b hb;exact⟨k,by simp[hk],hb⟩)
   (by
    obtain⟨fl,f1,f2⟩:=h2
    obtain⟨gl,g1,g2⟩:=VU
    exact⟨fl++gl,(f1.gg (fun b hb=>⟨HU (fun k hk=>by simp[hk]) hb,rfl⟩) (by simp[f2])).append (g1.gg (fun b hb=>⟨HU (fun k hk=>by simp[hk]) hb,rfl⟩) (by simp[g2])),by rw[Mg,f2,g2];rfl⟩)
   zV ql xx hb ni hm vA Ba
  exact hn F' kv' fp' _ _ o8
 have yc:∀{b cap:Nat}{cur':Array Value}{vs:List Value}{fl:List (List Nat)}{w1:World},eW E w F d1 τ xs vs fl->l=b::fl.flatten->(∀b',b'≠b->w1.heap[b']? =w.heap[b']?)->w1.heap.size=w.heap.size->
   w1.os=w.os->w1.tape=w.tape->w1.output=w.output->w1.heap[b]? =some (.cells cur' (E.tid τ) (0,0))->(xs++zs).length<=cap->cap<=maxLen->cur'.size=cap*U.wd τ->cur'.toList.take ((xs++zs).length*U.wd τ)=vs++us->
   next (a.put o.dst (.slice (some ⟨b,0,none⟩) (xs++zs).length cap)) w1:=by
  intro b cap cur' vs fl w1 j6 hl zV xx hos htp w6 hb ni hm vA Ba
  subst hl
  have iM:∃k∈ks,b∈fp k:=PV b (by simp)
  obtain⟨kb,PX,Io⟩:=iM
  have hbF:¬F b:=hnF kb (by simp[PX]) b Io
  have ql:hU (fun b=>pm.W b\/pm.w0.heap.size<=b) w w1:=⟨hos,htp,w6,by omega,fun k hk K8=>zV k (fun e=>K8 (e▸hWb kb (by simp[PX]) b Io))⟩
  have EI:∀(F':Nat->Prop)(A6:List Nat) bad,RS E w1 F' (dD kv (d,0) (.slice (some ⟨b,0,none⟩) (xs++zs).length cap)) (dD fp (d,0) A6) bad (one (.ref (d,0) [])) (.slice (some ⟨b,0,none⟩) (xs++zs).length cap):=
   fun F' A6 bad=>iu ⟨⟨rfl,trivial⟩,.inr (by simp only[RA,t_];rfl)⟩
  have If:∀k e,k∉ks++ks'->σ.bO k=some e->∀b'∈fp k,w1.heap[b']? =w.heap[b']? :=fun k e hk he b' bj=>zV b' (fun e'=>by
   subst e'
   obtain⟨eb,heb⟩:=nf.1 (lp kb PX)
   exact h.apart kb k eb e b' (fun e'=>hk (by subst e';simp[PX])) heb he Io bj)
  cases kY:(d1&&d2) with
  |true=>
   simp only[cJ] at kY
   obtain⟨rfl,hd2⟩:=kY
   obtain⟨gl,g1,g2,g3⟩:=Sm hd2
   have qu:((b::fl.flatten)++gl.flatten).Nodup:=Vm h Ij lp EO PV g3 Bc g2
   have VR:(b::(fl++gl).flatten).Nodup:=by rw[Mg];exact qu
   have Xs:=(tY.1 VR).1
   have qv:∀b'∈(b::(fl++gl).flatten),∃k∈ks++ks',b'∈fp k:=fun b' bj=>by
    rw[Mg,<-zex,jC] at bj
    rcases bj with bj|bj
    ·obtain⟨k,hk,bj⟩:=PV b' bj;exact⟨k,by simp[hk],bj⟩
    ·obtain⟨k,hk,bj⟩:=g3 b' bj;exact⟨k,by simp[hk],bj⟩
   have o8:=h.Fo ho hd (.arr ⟨τ,xs++zs⟩ true) (one (.ref (d,0) [])) (ks++ks') pall _ (.slice (some ⟨b,0,none⟩) (xs++zs).length cap) (b::(fl++gl).flatten) (w':=w1) (F':=F) ov (EI F _)
    (fun bad=>e7.nZ hb ni hm vA Ba ((j6.append g1).gg (fun b' bj=>⟨bj,zV b' (fun e=>hbF (e▸bj))⟩) (fun b' bj=>zV b' (fun e=>Xs (e▸bj)))))
    (fun b' bj=>⟨bj,zV b' (fun e=>hbF (e▸bj))⟩) (fun b' bj=> .inl bj) If VR
    (fun b' bj=>by obtain⟨k,hk,bj⟩:=qv b' bj;exact⟨hnF k hk b' bj,.inl ⟨k,hk,jo k hk,bj⟩⟩) ql
   exact hn _ _ _ _ _ (by rw[hd2];exact o8)
  |false=>
   have wo:∀b',(F b'\/b'∈fl.flatten\/∃k∈ks',b'∈fp k)->b'≠b:=by
    rintro b' (bj|bj|⟨k,hk,bj⟩) rfl
    ·exact hbF bj
    ·exact(tY.1 Bc).1 bj
    ·obtain⟨e1,V5⟩:=nf.1 (lp kb PX)
     obtain⟨e2,uf⟩:=nf.1 (EO k hk)
     exact h.apart kb k e1 e2 b' (Sg.2.2 kb PX k hk) V5 uf Io bj
   obtain⟨gl,g1,g2⟩:=VU
   have Ga:=j6.lD (F':=fun b'=>F b'\/b'∈fl.flatten\/∃k∈ks',b'∈fp k) (fun b' bj=> .inl bj) (fun b' bj=> .inr (.inl bj))
   have hr2:=g1.gg (w':=w) (F':=fun b'=>F b'\/b'∈fl.flatten\/∃k∈ks',b'∈fp k) (fun b' bj=>⟨bj.imp id .inr,rfl⟩) (by simp[g2])
   have hr3:=(Ga.append hr2).gg (w':=w1) (F':=fun b'=>F b'\/b'∈fl.flatten\/∃k∈ks',b'∈fp k) (fun b' bj=>⟨bj,zV b' (wo b' bj)⟩) (by simp[g2])
   have om:=e7.nZ hb ni hm vA Ba hr3
   rw[Mg,g2,zN] at om
   have o8:=h.Fo ho hd (.arr ⟨τ,xs++zs⟩ false) (one (.ref (d,0) [])) (ks++ks') pall _ (.slice (some ⟨b,0,none⟩) (xs++zs).length cap) [b] (w':=w1) (F':=fun b'=>F b'\/b'∈fl.flatten\/∃k∈ks',b'∈fp k) ov (EI _ _)
    (fun bad=>om)
    (fun b' bj=>⟨.inl bj,zV b' (fun e=>hbF (e▸bj))⟩)
    (by
     rintro b' (bj|bj|⟨k,hk,bj⟩)
     ·exact .inl bj
     ·obtain⟨k,hk,bj⟩:=PV b' (by simp[bj])
      exact .inr (.inl ⟨k,by simp[hk],lp k hk,bj⟩)
     ·exact .inr (.inl ⟨k,by simp[hk],EO k hk,bj⟩))
    If (by simp)
    (fun b' bj=>by
     rw[mI.1 bj]
     exact⟨fun hf=>wo b hf rfl,.inl ⟨kb,by simp[PX],lp kb PX,Io⟩⟩) ql
   exact hn _ _ _ _ _ (by rw[kY];exact o8)
 have wF:us.length=zs.length*U.wd τ:=by obtain⟨gl,g1,_⟩:=VU;exact g1.1
 have aaA:∀u∈us,u.oneCell'=true:=by obtain⟨gl,g1,_⟩:=VU;exact g1.gv
 have EP:(xs.length+zs.length)*i.bytes<=140737488355328:=by
  have:=Nat.mul_le_mul hle Xr
  omega
 by_cases eV:zs.length=0
 ·have Sa:zs=[]:=FL eV
  subst Sa
  have w5:us=[]:=FL (by simpa using wF)
  rcases Oe.rows with⟨h3,⟨Qw,h4⟩,h5⟩|⟨b,cap,cur,vs,fl,h3,h4,h5,h6,h7,h8,h9,ta⟩
  ·simp only at h3;subst h3
   have hr:=exec (v:=.slice Qw 0 0) (w1:=w) (by rw[h4];exact UY w hu hi _ _ _ (by rw[w5] at sW;exact sW) (tX _))
   refine sQ hr ?_
   have o8:=h.Fo ho hd (.arr ⟨τ,[]⟩ (d1&&d2)) (one (.ref (d,0) [])) (ks++ks') pall (.slice Qw 0 0) (.slice Qw 0 0) [] (w':=w) (F':=F) ov
    (fun bad=>iu ⟨⟨rfl,trivial⟩,.inr (by simp only[RA,t_];rfl)⟩) (fun bad=> .inl ⟨rfl,⟨Qw,rfl⟩,rfl⟩) (fun b hb=>⟨hb,rfl⟩) (fun b hb=> .inl hb) (fun _ _ _ _ _ _=>rfl) (by simp) (by simp) (hU.refl _ _)
   exact hn _ _ _ _ _ o8
  ·simp only at h3 h4 h5 h7 h8 h9
   have hr:=exec (v:=.slice (some ⟨b,0,none⟩) xs.length cap) (w1:=w) (by rw[h3];exact UY w hu hi _ _ _ (by rw[w5] at sW;exact sW) h5)
   refine sQ hr ?_
   have:=yc (b:=b) (cap:=cap) (cur':=cur) (vs:=vs) (fl:=fl) (w1:=w) h9 ta (fun _ _=>rfl) rfl rfl rfl rfl h4 (by simpa using h5) h6 h7 (by rw[w5,xu,xu];exact h8)
   simpa using this
 ·have aaP:us.length=zs.length*i.size:=by rw[jm];exact wF
  have grown:∀(vs:List Value),vs.length=xs.length*U.wd τ->(d1=true->∃fl,eW E w F true τ xs vs fl/\fl.flatten.Nodup/\∀b∈fl.flatten,∃k∈ks,b∈fp k)->(∃fl,eW E w (FK F fp ks) false τ xs vs fl/\fl.flatten=[])->
    ∀H0:Nat,H0<xs.length+zs.length->(Builtin.append_ #[t,u] o.type #[a.eval s,a.eval x]).run E.P w=
     .ok (.slice (some ⟨w.heap.size,0,none⟩) (xs.length+zs.length) (grownCap w (xs.length+zs.length) H0 e)) (w.drew.alloc (.cells (vs.toArray++us.toArray++Builtin.zeroCells z.cells (grownCap w (xs.length+zs.length) H0 e-(xs.length+zs.length))) e))->
    o.wp E.P a w next Q:=by
   intro vs F_ h1 h2 H0 hold jn
   refine sQ (exec jn) ?_
   have hge:=grownCap_ge w (xs.length+zs.length) H0 e
   have:=grow vs h1 h2 (cap:=grownCap w (xs.length+zs.length) H0 e) (cur:=vs.toArray++us.toArray++Builtin.zeroCells z.cells (grownCap w (xs.length+zs.length) H0 e-(xs.length+zs.length)))
    (w1:=w.drew.alloc (.cells (vs.toArray++us.toArray++Builtin.zeroCells z.cells (grownCap w (xs.length+zs.length) H0 e-(xs.length+zs.length))) e))
    (fun b hb=>BD w.drew _ hb) ((hU.drew _ _).trans (hU.alloc _ _ _)) (by simp) (by rw[zW];exact heap_alloc_new w.drew _) (by simpa using hge) (grownCap_le_maxLen w _ H0 e (Na hle))
    (by
     simp only[Array.size_append,UD,size_zeroCells,PJ,F_,wF,<-xy]
     congr 1;omega)
    (by
     have Bc:((xs++zs).length*U.wd τ)=(vs++us).length:=by simp[F_,wF,xy]
     simp only[Array.toList_append,xz]
     rw[<-xz,Bc]
     exact List.take_left)
   simpa using this
  rcases Oe.rows with⟨h3,⟨Qw,h4⟩,h5⟩|⟨b,cap,cur,vs,fl,h3,h4,h5,h6,h7,h8,h9,ta⟩
  ·simp only at h3;subst h3
   refine grown [] (by simp) (fun _=>⟨[],eW.nil,by simp,by simp⟩) ⟨[],eW.nil,rfl⟩ 0 (by omega) ?_
   rw[h4]
   simp only[fv,vk] at EP hle⊢
   cases Qw with
   |none=>
    have hr:=acV (ty:=o.type) w hu hi hz sW (by omega) (by omega) (by omega)
    simpa using hr
   |some a'=>
    have hr:=UZ (ty:=o.type) w hu hi hz a' 0 0 [] (by simp) (by simp) sW (by omega) (by omega) (growslice_fits (by omega) (by simpa using EP))
    simpa using hr
  ·simp only at h3 h4 h5 h7 h8 h9
   have F_:vs.length=xs.length*U.wd τ:=h9.1
   by_cases yd:xs.length+zs.length<=cap
   ·have P5:xs.length*i.size+us.length<=cur.size:=by rw[aaP,jm,h7,<-xy];exact AL _ yd
    have hr:=acU (ty:=o.type) w hu hi b xs.length cap cur (by rw[<-zW];exact h4) sW aaA yd P5
    rw[<-h3] at hr
    refine sQ (exec hr) ?_
    have:=yc (b:=b) (cap:=cap) (cur':=(cur.toList.take (xs.length*i.size)++us++cur.toList.drop (xs.length*i.size+us.length)).toArray) (vs:=vs) (fl:=fl)
     (w1:=w.setRow b (cur.toList.take (xs.length*i.size)++us++cur.toList.drop (xs.length*i.size+us.length)).toArray) h9 ta (fun b' bj=>setRow_other w b b' _ bj) (by simp) rfl rfl rfl (setRow_heap w b cur _ _ _ h4) (by simpa using yd) h6
     (by
      simp only[UD,ko,oc,Mf,FU]
      omega)
     (by
      have Bc:((xs++zs).length*U.wd τ)=(vs++us).length:=by simp[F_,wF,xy]
      rw[jm,h8,Bc]
      exact List.take_left)
    simpa using this
   ·refine grown vs F_ (fun hd1=> ?_) ?_ cap (by omega) ?_
    ·subst hd1
     exact⟨fl,h9,by rw[ta] at Bc;exact(tY.1 Bc).2,fun b' bj=>PV b' (by rw[ta];simp[bj])⟩
    ·exact⟨_,h9.lD (F':=FK F fp ks) (fun b hb=> .inl hb) (fun b' bj=> .inr (PV b' (by rw[ta];simp[bj]))),zN _⟩
    ·rw[h3]
     refine UZ (ty:=o.type) w hu hi hz ⟨b,0,none⟩ xs.length cap vs (by rw[jm];exact F_) (fun j u hu=> ?_) sW (by omega) (by omega) (growslice_fits (by omega) EP)
     rw[Addr.add_mid,vk,cell_of_row w b _ cur _ (0,0) h4]
     rw[<-h8,qn] at hu
     split at hu
     ·simpa using hu
     ·cases hu
theorem amT(hE:E.Ok)(h:cM E pm F kv fp σ a w){o:Oper}{d:Nat}(ho:o.dst=some d)(hd:d<σ.n){cl:Call}{t e:TypeId}{s x:Operand}(sF:o.op=.call cl)(iv:cl.callee=.builtin .append)
  (lK:cl.args.toList=[s,x]) (BV:cl.argTypes.toList=[t,t]) {τ:U.Ty} (uW:E.elem t=some e) (hc:E.code e=some τ) {ss sx:SV U} {ys yx:AC U}
  (hs:RS E w F kv fp (bW σ) ss (a.eval s)) (VP:vd ss=some ys) (hx:RS E w F kv fp (bW σ) sx (a.eval x)) (hsx:vd sx=some yx)
  {rs:List Key} {ps qs:List Prop} {xs zs:List (U.T τ)} {ks ks':List Key} {d1 d2:Bool} {pall:List Prop}
  (ho1:uR τ (restrict σ.bO rs) ys=some (ps,xs,ks,d1)) (K7:MY τ (restrict σ.bO rs) yx=some (qs,zs,ks',d2)) (hp:∀p∈ps,p) (Ij:(ks++ks').Nodup) (hle:xs.length+zs.length<=4294967296)
  (ov:¬Names σ (d,0)) {next:Act->World->Prop} {Q:Exit->Act->World->Prop}
  (hn:∀F kv fp a' w',cM E pm F kv fp (AM.apply o ⟨some (one (.ref (d,0) [])),[(0,.arr ⟨τ,xs++zs⟩ (d1&&d2))],ks++ks',[],pall⟩ σ) a' w'->next a' w'):o.wp E.P a w next Q:=by
 obtain⟨aqb,EO,ad,c,us,hvx,Sm,VU,VT⟩:=alf h K7 (li hx hsx)
 have hu:=Ei uW
 exact adL hE h ho hd sF iv lK BV uW hc hs VP ho1 EO (by rw[hvx];exact Src.slice hu (by obtain⟨gl,g1,_⟩:=VU;exact g1.1) VT) Sm VU hp Ij hle ov hn
theorem acF{τ:U.Ty}{s:ByteArray}{ys:List (U.T τ)}(h:BN τ s=some ys)(m:Bool):ys.length=s.size/\U.wd τ=1/\∃fl,eW E w F m τ ys (s.data.toList.map fun b=>Value.int .u8 (b.toNat:Int)) fl/\fl.flatten=[]:=by
 unfold BN at h
 have h0:=d_ h
 cases h0
 have hw:U.wd U.pk=1:=by rw[<-U.dz U.pk (U.e6 U.pk),U.Hg];rfl
 have xx:(s.data.toList.map fun b=>U.ofB (b.toNat:Int)).length=s.size:=by rw[xt];exact FU
 have am3:(s.data.toList.map fun b=>Value.int .u8 (b.toNat:Int)).length=s.size:=by rw[xt];exact FU
 refine⟨xx,hw,List.replicate s.size [],⟨by rw[xx,am3,hw,Nat.mul_one],by rw[xx,zee,hw,Nat.mul_one],fun i x j c hx hj=> ?_⟩,by simp⟩
 rw[nT] at hx
 cases hb:s.data.toList[i]? with
 |none=>rw[hb] at hx;cases hx
 |some b=>
  rw[hb] at hx
  simp only[FT,gA] at hx
  subst hx
  rw[U.Hg,U.NK] at hj
  have hj0:j=0:=by
   cases j with
   |zero=>rfl
   |succ j=>simp at hj
  subst hj0
  simp only[vn,gA] at hj
  subst hj
  have e1:i*U.wd U.pk+0=i:=by rw[hw];omega
  rw[e1]
  have e2:(s.data.toList.map fun b=>Value.int .u8 (b.toNat:Int)).getD i undef=.int .u8 (b.toNat:Int):=by
   rw[ez,nT,hb];rfl
  have e3:(List.replicate s.size ([]:List Nat)).getD i []=[]:=by
   rw[ez,zdz];split<;>rfl
  rw[e2,e3]
  exact .lit m _ ⟨rfl,by have:=b.toNat_lt;simp only[IntKind.min,IntKind.max,IntKind.signed,IntKind.bits,xv,if_false];omega⟩
theorem amS(hE:E.Ok)(h:cM E pm F kv fp σ a w){o:Oper}{d:Nat}(ho:o.dst=some d)(hd:d<σ.n){cl:Call}{t u e:TypeId}{s x:Operand}(sF:o.op=.call cl)(iv:cl.callee=.builtin .append)
  (lK:cl.args.toList=[s,x]) (BV:cl.argTypes.toList=[t,u]) {τ:U.Ty} (uW:E.elem t=some e) (hc:E.code e=some τ) {ss sx:SV U} {ys:AC U} {str:ByteArray}
  (hs:RS E w F kv fp (bW σ) ss (a.eval s)) (VP:vd ss=some ys) (hx:RS E w F kv fp (bW σ) sx (a.eval x)) (hsx:iZ sx=some (.string str)) (hu:E.P.underlying u=some .string)
  {rs:List Key} {ps:List Prop} {xs zs:List (U.T τ)} {ks:List Key} {d1:Bool} {pall:List Prop}
  (ho1:uR τ (restrict σ.bO rs) ys=some (ps,xs,ks,d1)) (K7:BN τ str=some zs) (hp:∀p∈ps,p) (Ij:ks.Nodup) (hle:xs.length+zs.length<=4294967296)
  (ov:¬Names σ (d,0)) {next:Act->World->Prop} {Q:Exit->Act->World->Prop}
  (hn:∀F kv fp a' w',cM E pm F kv fp (AM.apply o ⟨some (one (.ref (d,0) [])),[(0,.arr ⟨τ,xs++zs⟩ d1)],ks,[],pall⟩ σ) a' w'->next a' w'):o.wp E.P a w next Q:=by
 have hv:=qp hx hsx
 obtain⟨h1,h2,fl,h3,h4⟩:=acF (E:=E) (w:=w) (F:=F) K7 true
 obtain⟨_,_,gl,g3,g4⟩:=acF (E:=E) (w:=w) (F:=FK F fp []) K7 false
 refine adL (ks':=[]) (d2:=true) (zs:=zs) (us:=str.data.toList.map fun b=>Value.int .u8 (b.toNat:Int)) (pall:=pall) hE h ho hd sF iv lK BV uW hc hs VP ho1 (by simp) ?_ (fun _=>⟨fl,h3,by rw[h4];simp,by rw[h4];simp⟩) ⟨gl,g3,g4⟩ hp (by simpa using Ij) hle ov ?_
 ·rw[hv,h1,h2];exact Src.string hu str
 ·simpa using hn
end AM
