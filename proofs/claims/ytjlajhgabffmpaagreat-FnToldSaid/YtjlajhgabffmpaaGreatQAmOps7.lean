/- THE ABSTRACT MACHINE: append. -/
import Derived.Test.YtjlajhgabffmpaaGreatQAmOps6
namespace AM
set_option linter.unusedVariables false
open Go
variable{U:lu}{E:Env U}{pm:Pm}
variable{F F':Nat->Prop}{kv:Key->Value}{fp:Key->List Nat}{σ:ai U}{a:Act}{w w':World}{bad:Key->Bool}
theorem eE{τ:U.Ty}{x:jh U}{ys:List (U.T τ)}(h:jo τ x=some ys):x=⟨τ,ys⟩:=by
 obtain⟨Gk,xs⟩:=x
 unfold jo at h
 cases hd:U.deq Gk τ with
 |isFalse he=>simp only[hd] at h;cases h
 |isTrue he=>
  simp only[hd] at h
  subst he
  cases h
  rfl
theorem Rp.SZ{w:World}{F:Nat->Prop}{c:U.C}{v:Value}{l:List Nat}(h:Rp E w F false c v l):l=[]:=by
 generalize hm:false=m at h
 cases h with
 |lit=>rfl
 |nil=>rfl
 |shr=>rfl
 |own=>cases hm
theorem e9.Lr{τ:U.Ty}{xs:List (U.T τ)}{vs:List Value}{fl:List (List Nat)}(h:e9 E w F false τ xs vs fl):fl.flatten=[]:=by
 refine List.flatten_eq_nil_iff.2 fun l hl=> ?_
 obtain⟨n,hn,rfl⟩:=sn hl
 have hw:=U.la τ
 have hi:n/U.wd τ<xs.length:=(Nat.div_lt_iff_lt_mul hw).2 (by rw[<-h.2.1];exact hn)
 have hj:n%U.wd τ<U.wd τ:=Nat.mod_lt _ hw
 have:=h.2.2 (n/U.wd τ) xs[n/U.wd τ] (n%U.wd τ) ((U.enc τ xs[n/U.wd τ])[n%U.wd τ]'(by rw[U.dK];exact hj)) (fH hi) (fH _)
 have he:n/U.wd τ*U.wd τ+n%U.wd τ=n:=by rw[Uy];exact Nat.div_add_mod n _
 rw[he,eX (l:=fl),fH hn] at this
 exact this.SZ
structure Src(P:Program)(w:World)(u:TypeId)(x:Value)(size n:Nat)(us:List Value):Prop where
 ut:(∃e,P.underlying u=some (.slice e))\/P.underlying u=some .string
 len:∀w',(Builtin.lenOf x).run P w'=.ok n w'
 first:(Builtin.firstCells size n x).run P w=.ok us.toArray w
 SX:(Builtin.firstCells size n x).run P w.drew=.ok us.toArray w.drew
theorem UT{P:Program}(w:World){t u ty e:TypeId}{i:TypeInfo}(ht:P.underlying t=some (.slice e))(hi:P.info? e=some i)(base:Option Addr)(n cap:Nat){x:Value}(h:Src P w u x i.size 0 [])(hc:n<=cap):
  (Builtin.append_ #[t,u] ty #[.slice base n cap,x]).run P w=.ok (.slice base n cap) w:=by
 have hut:=h.ut
 have h1:=h.len
 have h2:=h.first
 rcases hut with⟨e',hu⟩|hu<;>cases base<;>simp[Builtin.append_,run_underlying ht,run_underlying hu,Go.sizeOf,typeInfo,hi,h1,hc,h2,storeCells]
theorem acq{P:Program}(w:World){t u ty e:TypeId}{i:TypeInfo}{z:Value}(ht:P.underlying t=some (.slice e))(hi:P.info? e=some i)(hz:i.zero=some z)
  {n:Nat} {us:List Value} {x:Value} (h:Src P w u x i.size n us)
  (h0:0<n) (h63:(n:Int)<=9223372036854775807) (h48:n*i.bytes<=281474976710656):
  (Builtin.append_ #[t,u] ty #[.slice none 0 0,x]).run P w=
   .ok (.slice (some ⟨w.heap.size,0,none⟩) n (grownCap w n 0 e)) (w.drew.alloc (.cells (us.toArray++Builtin.zeroCells z.cells (grownCap w n 0 e-n)) e)):=by
 have hut:=h.ut
 have h1:=h.len
 have h2:=h.SX
 have hn:n≠0:=by omega
 have aa4:¬(9223372036854775807<(n:Int)):=by omega
 have aa5:¬(281474976710656<Builtin.nextslicecap n 0*i.bytes):=by rw[nextslicecap_zero h0];omega
 rcases hut with⟨e',hu⟩|hu<;>simp[Builtin.append_,run_underlying ht,run_underlying hu,Go.sizeOf,typeInfo,zeroValue,hi,hz,h1,hn,aa4,aa5,Question.forced,run_firstCells_none,h2,newRow,grownCap]
theorem UW{P:Program}(w:World){t u ty e:TypeId}{i:TypeInfo}{z:Value}(ht:P.underlying t=some (.slice e))(hi:P.info? e=some i)(hz:i.zero=some z)
  (b:Addr) (qc Bt:Nat) (Vn:List Value) (hlo:Vn.length=qc*i.size) (holds:∀j v,Vn[j]? =some v->w.cell? (b.add j)=some v)
  {n:Nat} {us:List Value} {x:Value} (h:Src P w u x i.size n us)
  (hg:Bt<qc+n) (h63:((qc+n:Nat):Int)<=9223372036854775807) (Qb:Builtin.nextslicecap (qc+n) Bt*i.bytes<=281474976710656):
  (Builtin.append_ #[t,u] ty #[.slice (some b) qc Bt,x]).run P w=
   .ok (.slice (some ⟨w.heap.size,0,none⟩) (qc+n) (grownCap w (qc+n) Bt e))
    (w.drew.alloc (.cells (Vn.toArray++us.toArray++Builtin.zeroCells z.cells (grownCap w (qc+n) Bt e-(qc+n))) e)):=by
 have hut:=h.ut
 have h1:=h.len
 have h2:=h.SX
 have hn:¬(qc+n<=Bt):=by omega
 have aa4:¬(9223372036854775807<((qc:Int)+(n:Int))):=by omega
 have aa5:¬(281474976710656<Builtin.nextslicecap (qc+n) Bt*i.bytes):=by omega
 have Qa:=run_firstCells_some (P:=P) w.drew i.size qc b qc Bt Vn hlo (by simpa using holds)
 rcases hut with⟨e',hu⟩|hu<;>
   (simp[Builtin.append_,run_underlying ht,run_underlying hu,Go.sizeOf,typeInfo,zeroValue,hi,hz,h1,hn,aa4,aa5,Question.forced,h2,Qa,newRow,grownCap]
    congr 2
    apply Array.ext'
    simp[xw])
theorem acp{P:Program}(w:World){t u ty e:TypeId}{i:TypeInfo}(ht:P.underlying t=some (.slice e))(hi:P.info? e=some i)
  (g qc Bt:Nat) (cur:Array Value) (hg:w.heap[g]? =some (.cells cur e (0,0)))
  {m:Nat} {us:List Value} {x:Value} (h:Src P w u x i.size m us) (h1:∀u∈us,u.oneCell'=true)
  (xY:qc+m<=Bt) (Qb:qc*i.size+us.length<=cur.size):
  (Builtin.append_ #[t,u] ty #[.slice (some ⟨g,0,none⟩) qc Bt,x]).run P w=
   .ok (.slice (some ⟨g,0,none⟩) (qc+m) Bt) (w.setRow g (cur.toList.take (qc*i.size)++us++cur.toList.drop (qc*i.size+us.length)).toArray):=by
 have hut:=h.ut
 have Mn:=h.len
 have hf:=h.first
 have qB:=run_storeCells_at P g (qc*i.size) e us 0 cur w hg (by simpa using Qb) h1
 simp only[JV] at qB
 rcases hut with⟨e',hu⟩|hu<;>simp[Builtin.append_,run_underlying ht,run_underlying hu,Go.sizeOf,typeInfo,hi,Mn,xY,hf,Addr.add_lit,qB]
theorem Src.slice{P:Program}{w:World}{t e:TypeId}(ht:P.underlying t=some (.slice e)){size n c:Nat}{ad:Option Addr}{us:List Value}(hl:us.length=n*size)
  (h:0<n->∃b off,ad=some ⟨b,off,none⟩/\∀i u,us[i]? =some u->w.cell? ⟨b,off+i,none⟩=some u):Src P w t (.slice ad n c) size n us:=by
 refine⟨.inl ⟨_,ht⟩,fun w'=>rfl,?_,?_⟩
 ·by_cases hn:0<n
  ·obtain⟨b,off,rfl,h2⟩:=h hn
   exact run_firstCells_some (P:=P) w size n ⟨b,off,none⟩ n c us hl (fun j u hu=>by rw[Addr.add_mid];exact h2 j u hu)
  ·have:n=0:=by omega
   subst this
   have:us=[]:=FU (by simpa using hl)
   subst this
   cases ad<;>simp[Builtin.firstCells,loadCells,loadCellsFrom]
 ·by_cases hn:0<n
  ·obtain⟨b,off,rfl,h2⟩:=h hn
   exact run_firstCells_some (P:=P) w.drew size n ⟨b,off,none⟩ n c us hl (fun j u hu=>by rw[Addr.add_mid];exact h2 j u hu)
  ·have:n=0:=by omega
   subst this
   have:us=[]:=FU (by simpa using hl)
   subst this
   cases ad<;>simp[Builtin.firstCells,loadCells,loadCellsFrom]
theorem Src.string{P:Program}{w:World}{u:TypeId}(hu:P.underlying u=some .string){size:Nat}(s:ByteArray):Src P w u (.string s) size s.size (s.data.toList.map fun b=>Value.int .u8 (b.toNat:Int)):=by
 have hx:(Array.map (fun b:UInt8=>Value.int IntKind.u8 (b.toNat:Int)) (s.extract 0 s.size).data)=(s.data.toList.map fun b=>Value.int .u8 (b.toNat:Int)).toArray:=by
  have:s.extract 0 s.size=s:=ByteArray.extract_zero_size
  rw[this]
  apply Array.ext'
  simp
 refine⟨.inr hu,fun w'=>rfl,?_,?_⟩
 ·simp only[Builtin.firstCells,hx];rfl
 ·simp only[Builtin.firstCells,hx];rfl
theorem akt(h:cQ E pm F kv fp σ a w){τ:U.Ty}{rs:List Key}{x:AC U}{v:Value}{ps:List Prop}{ys:List (U.T τ)}{ks:List Key}{d:Bool}
  (hn:HW τ (restrict σ.bM rs) x=some (ps,ys,ks,d)) (hx:RD E w F kv fp (bR σ) x v):
  ks.Nodup/\(∀k∈ks,(σ.bM k).isSome=true)/\∃ad c us,v=.slice ad ys.length c/\
   (d=true->∃fl,e9 E w F true τ ys us fl/\fl.flatten.Nodup/\∀b∈fl.flatten,∃k∈ks,b∈fp k)/\
   (∃fl,e9 E w (FK F fp ks) false τ ys us fl/\fl.flatten=[])/\
   (0<ys.length->∃b off,ad=some ⟨b,off,none⟩/\∀i u,us[i]? =some u->w.cell? ⟨b,off+i,none⟩=some u):=by
 unfold HW at hn
 split at hn
 ·cases hn
  obtain⟨ad,h1⟩:=cw hx rfl
  exact⟨by simp,by simp,ad,0,[],h1,fun _=>⟨[],e9.nil,by simp,by simp⟩,⟨[],e9.nil,rfl⟩,fun h=>by simp at h⟩
 ·rename_i k
  split at hn
  ·rename_i y d' he
   split at hn
   ·rename_i zs hz
    cases hn
    have:=eE hz
    subst this
    have fo:=kj he
    have h1:v=kv k:=cw hx rfl
    have h2:fi E w F d ⟨τ,ys⟩ (kv k) (fp k):=h.dV k _ fo
    rw[<-h1] at h2
    have qD:=h.nodup k _ fo
    rcases h2.rows with⟨h3,⟨ad,h4⟩,h5⟩|⟨b,cap,cur,vs,fl,h3,h4,h5,h6,h7,h8,h9,sV⟩
    ·simp only at h3;subst h3
     exact⟨by simp,by simp[fo],ad,0,[],h4,fun _=>⟨[],e9.nil,by simp,by simp⟩,⟨[],e9.nil,rfl⟩,fun h=>by simp at h⟩
    ·simp only at h3 h4 h5 h7 h8 h9
     rw[sV] at qD
     refine⟨by simp,by simp[fo],some ⟨b,0,none⟩,cap,vs,h3,fun hd=> ?_,?_,fun _=>⟨b,0,rfl,fun i u hu=> ?_⟩⟩
     ·subst hd
      exact⟨fl,h9,(tS.1 qD).2,fun b' bg=>⟨k,by simp,by rw[sV];simp[bg]⟩⟩
     ·exact⟨_,h9.lz (F':=FK F fp [k]) (fun b hb=> .inl hb) (fun b' bg=> .inr ⟨k,by simp,by rw[sV];simp[bg]⟩),zI _⟩
     ·rw[<-h8,qa] at hu
      split at hu
      ·rw[cell_of_row w b _ cur _ (0,0) h4];simpa using hu
      ·cases hu
   ·cases hn
  ·cases hn
 ·rename_i Gk ys'
  split at hn
  ·rename_i zs hz
   cases hn
   have:=eE hz
   cases this
   have h1:Rp E w F false _ _ _:=cw hx rfl
   have lits:U.flat τ=true->∀{F:Nat->Prop}{m:Bool}{x:U.T τ}{j:Nat}{c:U.C}{u:Value}{l:List Nat},(U.enc τ x)[j]? =some c->Rp E w F m c u l->Rp E w F true c u []:=by
    intro Gd F m x j c u l hj hr
    obtain⟨v,rfl⟩:=U.Oq τ Gd x c (Gn hj)
    generalize hc:(Cell.lit v:U.C)=c at hr
    cases hr with
    |lit _ _ hv=>cases hc;exact .lit _ _ hv
    |nil=>cases hc
    |shr=>cases hc
    |own=>cases hc
   rcases h1.inv with⟨h0,ad,c,rfl⟩|⟨b,off,cap,vs,rfl,hF,hc,hv,hr⟩
   ·subst h0
    exact⟨by simp,by simp,ad,c,[],rfl,fun _=>⟨[],e9.nil,by simp,by simp⟩,⟨[],e9.nil,rfl⟩,fun h=>by simp at h⟩
   ·have kk:∀(m:Bool)(F':Nat->Prop),(∀i x j c,ys[i]? =some x->(U.enc τ x)[j]? =some c->Rp E w F' m c (vs (i*U.wd τ+j)) [])->e9 E w F' m τ ys ((List.range (ys.length*U.wd τ)).map vs) (List.replicate (ys.length*U.wd τ) []):=by
     intro m F' hh
     refine⟨by simp,by simp,fun i x j c hx hj=> ?_⟩
     have gZ:=fU hx hj
     rw[HG,eX,nO,NN gZ]
     exact hh i x j c hx hj
    refine⟨by simp,by simp,some ⟨b,off,none⟩,cap,(List.range (ys.length*U.wd τ)).map vs,rfl,fun hd=> ?_,?_,fun _=>⟨b,off,rfl,fun i u hu=> ?_⟩⟩
    ·exact⟨_,kk true F (fun i x j c hx hj=>lits hd hj (hr i x j c hx hj)),by rw[zI];simp,by rw[zI];simp⟩
    ·exact⟨_,kk false _ (fun i x j c hx hj=>(hr i x j c hx hj).fZ (fun b hb=> .inl hb)),zI _⟩
    ·rw[nO] at hu
     by_cases hi:i<ys.length*U.wd τ
     ·rw[NN hi] at hu
      cases hu
      exact hv i hi
     ·rw[ox (by simp;omega)] at hu;cases hu
  ·cases hn
 ·cases hn
theorem al9{x:AC U}{v:Value}{bad:Key->Bool}(h:RD E w F kv fp bad x v):RD E w F kv fp bad (abU x) v:=by
 cases x with
 |kn b τ xs=>
  refine⟨h.1,?_⟩
  rcases h.2 with g|g
  ·simp[iX] at g
  ·exact .inr g.1
 |c _=>exact h
 |e0=>exact h
 |ref _ _=>exact h
 |sub _ _ _ _=>exact h
 |lK _ _ _ _ _=>exact h
 |kH _ _=>exact h
 |ia _=>exact h
theorem aks(h:cQ E pm F kv fp σ a w){τ:U.Ty}{rs:List Key}{x:AC U}{v:Value}{ps:List Prop}{ys:List (U.T τ)}{ks:List Key}{d:Bool}
  (hn:MZ τ (restrict σ.bM rs) x=some (ps,ys,ks,d)) (hx:RD E w F kv fp (bR σ) x v):
  ks.Nodup/\(∀k∈ks,(σ.bM k).isSome=true)/\∃ad c us,v=.slice ad ys.length c/\
   (d=true->∃fl,e9 E w F true τ ys us fl/\fl.flatten.Nodup/\∀b∈fl.flatten,∃k∈ks,b∈fp k)/\
   (∃fl,e9 E w (FK F fp ks) false τ ys us fl/\fl.flatten=[])/\
   (0<ys.length->∃b off,ad=some ⟨b,off,none⟩/\∀i u,us[i]? =some u->w.cell? ⟨b,off+i,none⟩=some u):=
 akt h hn (al9 hx)
theorem acI(h:cQ E pm F kv fp σ a w){τ:U.Ty}{rs:List Key}{x:AC U}{v:Value}{ps:List Prop}{xs:List (U.T τ)}{ks:List Key}{d:Bool}
  (hn:uG τ (restrict σ.bM rs) x=some (ps,xs,ks,d)) (hp:∀p∈ps,p) (hx:RD E w F kv fp (bR σ) x v):
  ks.Nodup/\(∀k∈ks,(σ.bM k).isSome=true)/\∃l,fi E w F d ⟨τ,xs⟩ v l/\l.Nodup/\∀b∈l,∃k∈ks,b∈fp k:=by
 unfold uG at hn
 split at hn
 ·cases hn
  obtain⟨ad,h1⟩:=cw hx rfl
  exact⟨by simp,by simp,[],.inl ⟨rfl,⟨ad,h1⟩,rfl⟩,by simp,by simp⟩
 ·rename_i k
  split at hn
  ·rename_i y d' he
   split at hn
   ·rename_i zs hz
    cases hn
    have:=eE hz
    subst this
    have fo:=kj he
    have h1:v=kv k:=cw hx rfl
    subst h1
    exact⟨by simp,by simp[fo],fp k,h.dV k _ fo,h.nodup k _ fo,fun b hb=>⟨k,by simp,hb⟩⟩
   ·cases hn
  ·rename_i y dead he
   split at hn
   ·rename_i zs hz
    cases hn
    have:=eE hz
    subst this
    have fo:=kj he
    have h1:v=kv k:=cw hx rfl
    subst h1
    exact⟨by simp,by simp[fo],fp k,eW.own (h.dV k _ fo) (hp _ (by simp)),h.nodup k _ fo,fun b hb=>⟨k,by simp,hb⟩⟩
   ·cases hn
  ·cases hn
 ·rename_i k wd hi
  split at hn
  ·rename_i y d' he
   split at hn
   ·rename_i zs hz
    cases hn
    have:=eE hz
    subst this
    have fo:=kj he
    obtain⟨h1,_⟩:=cw hx rfl
    subst h1
    obtain⟨l,h3,h4⟩:=fi.take (wd:=wd) (hi:=hi) (h.dV k _ fo:fi E w F d ⟨τ,zs⟩ (kv k) (fp k)) (hp _ (by simp))
    exact⟨by simp,by simp[fo],l,h3,h4.nodup (h.nodup k _ fo),fun b hb=>⟨k,by simp,h4.subset hb⟩⟩
   ·cases hn
  ·cases hn
 ·cases hn
theorem adl(hE:E.Ok)(h:cQ E pm F kv fp σ a w){o:Oper}{d:Nat}(ho:o.dst=some d)(hd:d<σ.n){cl:Call}{t e:TypeId}{s x:Operand}(sj:o.op=.call cl)(iH:cl.callee=.builtin .append)
  (lH:cl.args.toList=[s,x]) {u:TypeId} (BP:cl.argTypes.toList=[t,u]) {τ:U.Ty} (uM:E.elem t=some e) (hc:E.code e=some τ) {ss:SV U} {ys:AC U}
  (hs:RS E w F kv fp (bR σ) ss (a.eval s)) (VN:u5 ss=some ys)
  {rs:List Key} {ps:List Prop} {xs zs:List (U.T τ)} {ks ks':List Key} {d1 d2:Bool} {pall:List Prop} {us:List Value}
  (ho1:uG τ (restrict σ.bM rs) ys=some (ps,xs,ks,d1)) (EL:∀k∈ks',(σ.bM k).isSome=true) (sO:Src E.P w u (a.eval x) (U.wd τ) zs.length us)
  (Sq:d2=true->∃fl,e9 E w F true τ zs us fl/\fl.flatten.Nodup/\∀b∈fl.flatten,∃k∈ks',b∈fp k) (VR:∃fl,e9 E w (FK F fp ks') false τ zs us fl/\fl.flatten=[]) (hp:∀p∈ps,p) (Ia:(ks++ks').Nodup) (hle:xs.length+zs.length<=4294967296)
  (od:¬Names σ (d,0)) {next:Act->World->Prop} {Q:Exit->Act->World->Prop}
  (hn:∀F kv fp a' w',cQ E pm F kv fp (AM.apply o ⟨some (one (.ref (d,0) [])),[(0,.arr ⟨τ,xs++zs⟩ (d1&&d2))],ks++ks',[],pall⟩ σ) a' w'->next a' w'):o.wp E.P a w next Q:=by
 obtain⟨zR,i,z,hi,hz,jy,PO,Xh,_⟩:=hE.code e τ hc
 have hu:=D9 uM
 have hw:=U.la τ
 obtain⟨z0,lm,l,Ol,A8,P6⟩:=acI h ho1 hp (li hs VN)
 rw[<-jy] at sO
 have jA:∀k∈ks++ks',(σ.bM k).isSome=true:=fun k hk=>(jO.1 hk).elim (lm k) (EL k)
 have Sk:=Ia
 rw[rz] at Sk
 have exec:∀{v w1},(Builtin.append_ #[t,u] o.type #[a.eval s,a.eval x]).run E.P w=.ok v w1->(execOp a.eval o).run E.P w=.ok (.value v) w1:=by
  intro v w1 hr
  have ha:cl.args= #[s,x]:=zJ lH
  have ht:cl.argTypes= #[t,u]:=zJ BP
  unfold execOp;simp only[sj]
  simp[resolve,iH,ha,ht,invoke,builtin,hr]
 have Nb:∀{n:Nat},n<=4294967296->n<=maxLen:=fun hh=>by simp only[maxLen];omega
 have Qe:∀k∈ks++ks',∀b∈fp k,b<w.heap.size:=fun k hk b hb=>by
  obtain⟨e,he⟩:=m8.1 (jA k hk)
  exact HI h he hb
 have hnF:∀k∈ks++ks',∀b∈fp k,¬F b:=fun k hk b hb=>by
  obtain⟨e,he⟩:=m8.1 (jA k hk)
  exact(h.fV k e b he hb).1
 have hWb:∀k∈ks++ks',∀b∈fp k,pm.W b\/pm.w0.heap.size<=b:=fun k hk b hb=>by
  obtain⟨e,he⟩:=m8.1 (jA k hk)
  exact(h.fV k e b he hb).2.1
 have grow:∀(vs:List Value),(d1=true->∃fl,e9 E w F true τ xs vs fl/\fl.flatten.Nodup/\∀b∈fl.flatten,∃k∈ks,b∈fp k)->(∃fl,e9 E w (FK F fp ks) false τ xs vs fl/\fl.flatten=[])->
   ∀{cap:Nat}{cur:Array Value}{w1:World},(∀b,b<w.heap.size->w1.heap[b]? =w.heap[b]?)->iC (fun b=>pm.W b\/pm.w0.heap.size<=b) w w1->w.heap.size<w1.heap.size->
   w1.heap[w.heap.size]? =some (.cells cur (E.tid τ) (0,0))->(xs++zs).length<=cap->cap<=maxLen->cur.size=cap*U.wd τ->cur.toList.take ((xs++zs).length*U.wd τ)=vs++us->
   next (a.put o.dst (.slice (some ⟨w.heap.size,0,none⟩) (xs++zs).length cap)) w1:=by
  intro vs h1 h2 cap cur w1 zQ qz xu hb m_ hm vz A6
  obtain⟨F',kv',fp',oJ⟩:=ZJ h ho hd od (τ:=τ) (rows:=xs++zs) (ks:=ks++ks') (dp:=d1&&d2) (ps:=pall) (vs:=vs++us) Ia jA
   (fun kY=>by
    simp only[cO] at kY
    obtain⟨fl,f1,f2,f3⟩:=h1 kY.1
    obtain⟨gl,g1,g2,g3⟩:=Sq kY.2
    refine⟨fl++gl,f1.append g1,by rw[Mf];exact Vj h Ia lm EL f3 g3 f2 g2,fun b hb=> ?_⟩
    rw[Mf,jO] at hb
    rcases hb with hb|hb
    ·obtain⟨k,hk,hb⟩:=f3 b hb;exact⟨k,by simp[hk],hb⟩
    ·obtain⟨k,hk,hb⟩:=g3 b hb;exact⟨k,by simp[hk],hb⟩)
   (by
    obtain⟨fl,f1,f2⟩:=h2
    obtain⟨gl,g1,g2⟩:=VR
    exact⟨fl++gl,(f1.gx (fun b hb=>⟨HM (fun k hk=>by simp[hk]) hb,rfl⟩) (by simp[f2])).append (g1.gx (fun b hb=>⟨HM (fun k hk=>by simp[hk]) hb,rfl⟩) (by simp[g2])),by rw[Mf,f2,g2];rfl⟩)
   zQ qz xu hb m_ hm vz A6
  exact hn F' kv' fp' _ _ oJ
 have xX:∀{b cap:Nat}{cur':Array Value}{vs:List Value}{fl:List (List Nat)}{w1:World},e9 E w F d1 τ xs vs fl->l=b::fl.flatten->(∀b',b'≠b->w1.heap[b']? =w.heap[b']?)->w1.heap.size=w.heap.size->
   w1.os=w.os->w1.tape=w.tape->w1.output=w.output->w1.heap[b]? =some (.cells cur' (E.tid τ) (0,0))->(xs++zs).length<=cap->cap<=maxLen->cur'.size=cap*U.wd τ->cur'.toList.take ((xs++zs).length*U.wd τ)=vs++us->
   next (a.put o.dst (.slice (some ⟨b,0,none⟩) (xs++zs).length cap)) w1:=by
  intro b cap cur' vs fl w1 kk hl zQ xu hos htp wZ hb m_ hm vz A6
  subst hl
  have jg:∃k∈ks,b∈fp k:=P6 b (by simp)
  obtain⟨kb,P8,If⟩:=jg
  have hbF:¬F b:=hnF kb (by simp[P8]) b If
  have qz:iC (fun b=>pm.W b\/pm.w0.heap.size<=b) w w1:=⟨hos,htp,wZ,by omega,fun k hk KX=>zQ k (fun e=>KX (e▸hWb kb (by simp[P8]) b If))⟩
  have Ey:∀(F':Nat->Prop)(A1:List Nat) bad,RS E w1 F' (dQ kv (d,0) (.slice (some ⟨b,0,none⟩) (xs++zs).length cap)) (dQ fp (d,0) A1) bad (one (.ref (d,0) [])) (.slice (some ⟨b,0,none⟩) (xs++zs).length cap):=
   fun F' A1 bad=>iD ⟨⟨rfl,trivial⟩,.inr (by simp only[RA,tU];rfl)⟩
  have H7:∀k e,k∉ks++ks'->σ.bM k=some e->∀b'∈fp k,w1.heap[b']? =w.heap[b']? :=fun k e hk he b' bg=>zQ b' (fun e'=>by
   subst e'
   obtain⟨eb,heb⟩:=m8.1 (lm kb P8)
   exact h.apart kb k eb e b' (fun e'=>hk (by subst e';simp[P8])) heb he If bg)
  cases kY:(d1&&d2) with
  |true=>
   simp only[cO] at kY
   obtain⟨rfl,hd2⟩:=kY
   obtain⟨gl,g1,g2,g3⟩:=Sq hd2
   have qD:((b::fl.flatten)++gl.flatten).Nodup:=Vj h Ia lm EL P6 g3 A8 g2
   have VP:(b::(fl++gl).flatten).Nodup:=by rw[Mf];exact qD
   have Xi:=(tS.1 VP).1
   have qg:∀b'∈(b::(fl++gl).flatten),∃k∈ks++ks',b'∈fp k:=fun b' bg=>by
    rw[Mf,<-zex,jO] at bg
    rcases bg with bg|bg
    ·obtain⟨k,hk,bg⟩:=P6 b' bg;exact⟨k,by simp[hk],bg⟩
    ·obtain⟨k,hk,bg⟩:=g3 b' bg;exact⟨k,by simp[hk],bg⟩
   have oJ:=h.Fp ho hd (.arr ⟨τ,xs++zs⟩ true) (one (.ref (d,0) [])) (ks++ks') pall _ (.slice (some ⟨b,0,none⟩) (xs++zs).length cap) (b::(fl++gl).flatten) (w':=w1) (F':=F) od (Ey F _)
    (fun bad=>fi.nS hb m_ hm vz A6 ((kk.append g1).gx (fun b' bg=>⟨bg,zQ b' (fun e=>hbF (e▸bg))⟩) (fun b' bg=>zQ b' (fun e=>Xi (e▸bg)))))
    (fun b' bg=>⟨bg,zQ b' (fun e=>hbF (e▸bg))⟩) (fun b' bg=> .inl bg) H7 VP
    (fun b' bg=>by obtain⟨k,hk,bg⟩:=qg b' bg;exact⟨hnF k hk b' bg,.inl ⟨k,hk,jA k hk,bg⟩⟩) qz
   exact hn _ _ _ _ _ (by rw[hd2];exact oJ)
  |false=>
   have wj:∀b',(F b'\/b'∈fl.flatten\/∃k∈ks',b'∈fp k)->b'≠b:=by
    rintro b' (bg|bg|⟨k,hk,bg⟩) rfl
    ·exact hbF bg
    ·exact(tS.1 A8).1 bg
    ·obtain⟨e1,V0⟩:=m8.1 (lm kb P8)
     obtain⟨e2,tX⟩:=m8.1 (EL k hk)
     exact h.apart kb k e1 e2 b' (Sk.2.2 kb P8 k hk) V0 tX If bg
   obtain⟨gl,g1,g2⟩:=VR
   have F_:=kk.lz (F':=fun b'=>F b'\/b'∈fl.flatten\/∃k∈ks',b'∈fp k) (fun b' bg=> .inl bg) (fun b' bg=> .inr (.inl bg))
   have hr2:=g1.gx (w':=w) (F':=fun b'=>F b'\/b'∈fl.flatten\/∃k∈ks',b'∈fp k) (fun b' bg=>⟨bg.imp id .inr,rfl⟩) (by simp[g2])
   have hr3:=(F_.append hr2).gx (w':=w1) (F':=fun b'=>F b'\/b'∈fl.flatten\/∃k∈ks',b'∈fp k) (fun b' bg=>⟨bg,zQ b' (wj b' bg)⟩) (by simp[g2])
   have oa:=fi.nS hb m_ hm vz A6 hr3
   rw[Mf,g2,zI] at oa
   have oJ:=h.Fp ho hd (.arr ⟨τ,xs++zs⟩ false) (one (.ref (d,0) [])) (ks++ks') pall _ (.slice (some ⟨b,0,none⟩) (xs++zs).length cap) [b] (w':=w1) (F':=fun b'=>F b'\/b'∈fl.flatten\/∃k∈ks',b'∈fp k) od (Ey _ _)
    (fun bad=>oa)
    (fun b' bg=>⟨.inl bg,zQ b' (fun e=>hbF (e▸bg))⟩)
    (by
     rintro b' (bg|bg|⟨k,hk,bg⟩)
     ·exact .inl bg
     ·obtain⟨k,hk,bg⟩:=P6 b' (by simp[bg])
      exact .inr (.inl ⟨k,by simp[hk],lm k hk,bg⟩)
     ·exact .inr (.inl ⟨k,by simp[hk],EL k hk,bg⟩))
    H7 (by simp)
    (fun b' bg=>by
     rw[mF.1 bg]
     exact⟨fun hf=>wj b hf rfl,.inl ⟨kb,by simp[P8],lm kb P8,If⟩⟩) qz
   exact hn _ _ _ _ _ (by rw[kY];exact oJ)
 have wC:us.length=zs.length*U.wd τ:=by obtain⟨gl,g1,_⟩:=VR;exact g1.1
 have aai:∀u∈us,u.oneCell'=true:=by obtain⟨gl,g1,_⟩:=VR;exact g1.gD
 have EM:(xs.length+zs.length)*i.bytes<=140737488355328:=by
  have:=Nat.mul_le_mul hle Xh
  omega
 by_cases aS:zs.length=0
 ·have Sf:zs=[]:=FU aS
  subst Sf
  have wY:us=[]:=FU (by simpa using wC)
  rcases Ol.rows with⟨h3,⟨QD,h4⟩,h5⟩|⟨b,cap,cur,vs,fl,h3,h4,h5,h6,h7,h8,h9,sV⟩
  ·simp only at h3;subst h3
   have hr:=exec (v:=.slice QD 0 0) (w1:=w) (by rw[h4];exact UT w hu hi _ _ _ (by rw[wY] at sO;exact sO) (tR _))
   refine sH hr ?_
   have oJ:=h.Fp ho hd (.arr ⟨τ,[]⟩ (d1&&d2)) (one (.ref (d,0) [])) (ks++ks') pall (.slice QD 0 0) (.slice QD 0 0) [] (w':=w) (F':=F) od
    (fun bad=>iD ⟨⟨rfl,trivial⟩,.inr (by simp only[RA,tU];rfl)⟩) (fun bad=> .inl ⟨rfl,⟨QD,rfl⟩,rfl⟩) (fun b hb=>⟨hb,rfl⟩) (fun b hb=> .inl hb) (fun _ _ _ _ _ _=>rfl) (by simp) (by simp) (iC.refl _ _)
   exact hn _ _ _ _ _ oJ
  ·simp only at h3 h4 h5 h7 h8 h9
   have hr:=exec (v:=.slice (some ⟨b,0,none⟩) xs.length cap) (w1:=w) (by rw[h3];exact UT w hu hi _ _ _ (by rw[wY] at sO;exact sO) h5)
   refine sH hr ?_
   have:=xX (b:=b) (cap:=cap) (cur':=cur) (vs:=vs) (fl:=fl) (w1:=w) h9 sV (fun _ _=>rfl) rfl rfl rfl rfl h4 (by simpa using h5) h6 h7 (by rw[wY,xr,xr];exact h8)
   simpa using this
 ·have aay:us.length=zs.length*i.size:=by rw[jy];exact wC
  have grown:∀(vs:List Value),vs.length=xs.length*U.wd τ->(d1=true->∃fl,e9 E w F true τ xs vs fl/\fl.flatten.Nodup/\∀b∈fl.flatten,∃k∈ks,b∈fp k)->(∃fl,e9 E w (FK F fp ks) false τ xs vs fl/\fl.flatten=[])->
    ∀HS:Nat,HS<xs.length+zs.length->(Builtin.append_ #[t,u] o.type #[a.eval s,a.eval x]).run E.P w=
     .ok (.slice (some ⟨w.heap.size,0,none⟩) (xs.length+zs.length) (grownCap w (xs.length+zs.length) HS e)) (w.drew.alloc (.cells (vs.toArray++us.toArray++Builtin.zeroCells z.cells (grownCap w (xs.length+zs.length) HS e-(xs.length+zs.length))) e))->
    o.wp E.P a w next Q:=by
   intro vs F9 h1 h2 HS hold jz
   refine sH (exec jz) ?_
   have hge:=grownCap_ge w (xs.length+zs.length) HS e
   have:=grow vs h1 h2 (cap:=grownCap w (xs.length+zs.length) HS e) (cur:=vs.toArray++us.toArray++Builtin.zeroCells z.cells (grownCap w (xs.length+zs.length) HS e-(xs.length+zs.length)))
    (w1:=w.drew.alloc (.cells (vs.toArray++us.toArray++Builtin.zeroCells z.cells (grownCap w (xs.length+zs.length) HS e-(xs.length+zs.length))) e))
    (fun b hb=>Bv w.drew _ hb) ((iC.drew _ _).trans (iC.alloc _ _ _)) (by simp) (by rw[zR];exact heap_alloc_new w.drew _) (by simpa using hge) (grownCap_le_maxLen w _ HS e (Nb hle))
    (by
     simp only[Array.size_append,WH,size_zeroCells,PO,F9,wC,<-xv]
     congr 1;omega)
    (by
     have A8:((xs++zs).length*U.wd τ)=(vs++us).length:=by simp[F9,wC,xv]
     simp only[Array.toList_append,xw]
     rw[<-xw,A8]
     exact List.take_left)
   simpa using this
  rcases Ol.rows with⟨h3,⟨QD,h4⟩,h5⟩|⟨b,cap,cur,vs,fl,h3,h4,h5,h6,h7,h8,h9,sV⟩
  ·simp only at h3;subst h3
   refine grown [] (by simp) (fun _=>⟨[],e9.nil,by simp,by simp⟩) ⟨[],e9.nil,rfl⟩ 0 (by omega) ?_
   rw[h4]
   simp only[fG,vf] at EM hle⊢
   cases QD with
   |none=>
    have hr:=acq (ty:=o.type) w hu hi hz sO (by omega) (by omega) (by omega)
    simpa using hr
   |some a'=>
    have hr:=UW (ty:=o.type) w hu hi hz a' 0 0 [] (by simp) (by simp) sO (by omega) (by omega) (growslice_fits (by omega) (by simpa using EM))
    simpa using hr
  ·simp only at h3 h4 h5 h7 h8 h9
   have F9:vs.length=xs.length*U.wd τ:=h9.1
   by_cases xY:xs.length+zs.length<=cap
   ·have Qb:xs.length*i.size+us.length<=cur.size:=by rw[aay,jy,h7,<-xv];exact AI _ xY
    have hr:=acp (ty:=o.type) w hu hi b xs.length cap cur (by rw[<-zR];exact h4) sO aai xY Qb
    rw[<-h3] at hr
    refine sH (exec hr) ?_
    have:=xX (b:=b) (cap:=cap) (cur':=(cur.toList.take (xs.length*i.size)++us++cur.toList.drop (xs.length*i.size+us.length)).toArray) (vs:=vs) (fl:=fl)
     (w1:=w.setRow b (cur.toList.take (xs.length*i.size)++us++cur.toList.drop (xs.length*i.size+us.length)).toArray) h9 sV (fun b' bg=>setRow_other w b b' _ bg) (by simp) rfl rfl rfl (setRow_heap w b cur _ _ _ h4) (by simpa using xY) h6
     (by
      simp only[WH,kI,oz,Me,FT]
      omega)
     (by
      have A8:((xs++zs).length*U.wd τ)=(vs++us).length:=by simp[F9,wC,xv]
      rw[jy,h8,A8]
      exact List.take_left)
    simpa using this
   ·refine grown vs F9 (fun hd1=> ?_) ?_ cap (by omega) ?_
    ·subst hd1
     exact⟨fl,h9,by rw[sV] at A8;exact(tS.1 A8).2,fun b' bg=>P6 b' (by rw[sV];simp[bg])⟩
    ·exact⟨_,h9.lz (F':=FK F fp ks) (fun b hb=> .inl hb) (fun b' bg=> .inr (P6 b' (by rw[sV];simp[bg]))),zI _⟩
    ·rw[h3]
     refine UW (ty:=o.type) w hu hi hz ⟨b,0,none⟩ xs.length cap vs (by rw[jy];exact F9) (fun j u hu=> ?_) sO (by omega) (by omega) (growslice_fits (by omega) EM)
     rw[Addr.add_mid,vf,cell_of_row w b _ cur _ (0,0) h4]
     rw[<-h8,qa] at hu
     split at hu
     ·simpa using hu
     ·cases hu
theorem al6(hE:E.Ok)(h:cQ E pm F kv fp σ a w){o:Oper}{d:Nat}(ho:o.dst=some d)(hd:d<σ.n){cl:Call}{t e:TypeId}{s x:Operand}(sj:o.op=.call cl)(iH:cl.callee=.builtin .append)
  (lH:cl.args.toList=[s,x]) (BP:cl.argTypes.toList=[t,t]) {τ:U.Ty} (uM:E.elem t=some e) (hc:E.code e=some τ) {ss sx:SV U} {ys yx:AC U}
  (hs:RS E w F kv fp (bR σ) ss (a.eval s)) (VN:u5 ss=some ys) (hx:RS E w F kv fp (bR σ) sx (a.eval x)) (hsx:u5 sx=some yx)
  {rs:List Key} {ps qs:List Prop} {xs zs:List (U.T τ)} {ks ks':List Key} {d1 d2:Bool} {pall:List Prop}
  (ho1:uG τ (restrict σ.bM rs) ys=some (ps,xs,ks,d1)) (KW:MZ τ (restrict σ.bM rs) yx=some (qs,zs,ks',d2)) (hp:∀p∈ps,p) (Ia:(ks++ks').Nodup) (hle:xs.length+zs.length<=4294967296)
  (od:¬Names σ (d,0)) {next:Act->World->Prop} {Q:Exit->Act->World->Prop}
  (hn:∀F kv fp a' w',cQ E pm F kv fp (AM.apply o ⟨some (one (.ref (d,0) [])),[(0,.arr ⟨τ,xs++zs⟩ (d1&&d2))],ks++ks',[],pall⟩ σ) a' w'->next a' w'):o.wp E.P a w next Q:=by
 obtain⟨apu,EL,ad,c,us,hvx,Sq,VR,VQ⟩:=aks h KW (li hx hsx)
 have hu:=D9 uM
 exact adl hE h ho hd sj iH lH BP uM hc hs VN ho1 EL (by rw[hvx];exact Src.slice hu (by obtain⟨gl,g1,_⟩:=VR;exact g1.1) VQ) Sq VR hp Ia hle od hn
theorem ab_{τ:U.Ty}{s:ByteArray}{ys:List (U.T τ)}(h:BG τ s=some ys)(m:Bool):ys.length=s.size/\U.wd τ=1/\∃fl,e9 E w F m τ ys (s.data.toList.map fun b=>Value.int .u8 (b.toNat:Int)) fl/\fl.flatten=[]:=by
 unfold BG at h
 have h0:=eE h
 cases h0
 have hw:U.wd U.o9=1:=by rw[<-U.dK U.o9 (U.fq U.o9),U.Ha];rfl
 have xu:(s.data.toList.map fun b=>U.ofB (b.toNat:Int)).length=s.size:=by rw[xp];exact FT
 have ame:(s.data.toList.map fun b=>Value.int .u8 (b.toNat:Int)).length=s.size:=by rw[xp];exact FT
 refine⟨xu,hw,List.replicate s.size [],⟨by rw[xu,ame,hw,Nat.mul_one],by rw[xu,zee,hw,Nat.mul_one],fun i x j c hx hj=> ?_⟩,by simp⟩
 rw[nO] at hx
 cases hb:s.data.toList[i]? with
 |none=>rw[hb] at hx;cases hx
 |some b=>
  rw[hb] at hx
  simp only[FR,gJ] at hx
  subst hx
  rw[U.Ha,U.NT] at hj
  have hj0:j=0:=by
   cases j with
   |zero=>rfl
   |succ j=>simp at hj
  subst hj0
  simp only[vh,gJ] at hj
  subst hj
  have e1:i*U.wd U.o9+0=i:=by rw[hw];omega
  rw[e1]
  have e2:(s.data.toList.map fun b=>Value.int .u8 (b.toNat:Int)).getD i undef=.int .u8 (b.toNat:Int):=by
   rw[eX,nO,hb];rfl
  have e3:(List.replicate s.size ([]:List Nat)).getD i []=[]:=by
   rw[eX,zdz];split<;>rfl
  rw[e2,e3]
  exact .lit m _ ⟨rfl,by have:=b.toNat_lt;simp only[IntKind.min,IntKind.max,IntKind.signed,IntKind.bits,xt,if_false];omega⟩
theorem al5(hE:E.Ok)(h:cQ E pm F kv fp σ a w){o:Oper}{d:Nat}(ho:o.dst=some d)(hd:d<σ.n){cl:Call}{t u e:TypeId}{s x:Operand}(sj:o.op=.call cl)(iH:cl.callee=.builtin .append)
  (lH:cl.args.toList=[s,x]) (BP:cl.argTypes.toList=[t,u]) {τ:U.Ty} (uM:E.elem t=some e) (hc:E.code e=some τ) {ss sx:SV U} {ys:AC U} {str:ByteArray}
  (hs:RS E w F kv fp (bR σ) ss (a.eval s)) (VN:u5 ss=some ys) (hx:RS E w F kv fp (bR σ) sx (a.eval x)) (hsx:jj sx=some (.string str)) (hu:E.P.underlying u=some .string)
  {rs:List Key} {ps:List Prop} {xs zs:List (U.T τ)} {ks:List Key} {d1:Bool} {pall:List Prop}
  (ho1:uG τ (restrict σ.bM rs) ys=some (ps,xs,ks,d1)) (KW:BG τ str=some zs) (hp:∀p∈ps,p) (Ia:ks.Nodup) (hle:xs.length+zs.length<=4294967296)
  (od:¬Names σ (d,0)) {next:Act->World->Prop} {Q:Exit->Act->World->Prop}
  (hn:∀F kv fp a' w',cQ E pm F kv fp (AM.apply o ⟨some (one (.ref (d,0) [])),[(0,.arr ⟨τ,xs++zs⟩ d1)],ks,[],pall⟩ σ) a' w'->next a' w'):o.wp E.P a w next Q:=by
 have hv:=qd hx hsx
 obtain⟨h1,h2,fl,h3,h4⟩:=ab_ (E:=E) (w:=w) (F:=F) KW true
 obtain⟨_,_,gl,g3,g4⟩:=ab_ (E:=E) (w:=w) (F:=FK F fp []) KW false
 refine adl (ks':=[]) (d2:=true) (zs:=zs) (us:=str.data.toList.map fun b=>Value.int .u8 (b.toNat:Int)) (pall:=pall) hE h ho hd sj iH lH BP uM hc hs VN ho1 (by simp) ?_ (fun _=>⟨fl,h3,by rw[h4];simp,by rw[h4];simp⟩) ⟨gl,g3,g4⟩ hp (by simpa using Ia) hle od ?_
 ·rw[hv,h1,h2];exact Src.string hu str
 ·simpa using hn
end AM
