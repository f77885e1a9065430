import Derived.Test.YthciaocifglggaaGreatDoorQAmOps6
namespace AM
set_option linter.unusedVariables false
open Go
variable{U:kz}{E:Env U}{pm:Pm}
variable{F F':Nat->Prop}{kv:Key->Value}{fp:Key->List Nat}{σ:af U}{a:Act}{w w':World}{bad:Key->Bool}
theorem dC{τ:U.Ty}{x:eK U}{ys:List (U.T τ)}(h:iJ τ x=some ys):x=⟨τ,ys⟩:=by
 obtain⟨Cr,xs⟩:=x
 unfold iJ at h
 cases hd:U.deq Cr τ with
 |isFalse he=>simp only[hd] at h;cases h
 |isTrue he=>
  simp only[hd] at h
  subst he
  cases h
  rfl
theorem Rp.NM{w:World}{F:Nat->Prop}{c:U.C}{v:Value}{l:List Nat}(h:Rp E w F false c v l):l=[]:=by
 generalize hm:false=m at h
 cases h with
 |lit=>rfl
 |nil=>rfl
 |shr=>rfl
 |own=>cases hm
theorem ep.GC{τ:U.Ty}{xs:List (U.T τ)}{vs:List Value}{fl:List (List Nat)}(h:ep E w F false τ xs vs fl):fl.flatten=[]:=by
 refine List.flatten_eq_nil_iff.2 fun l hl=> ?_
 obtain⟨n,hn,rfl⟩:=tX hl
 have hw:=U.kq τ
 have hi:n/U.wd τ<xs.length:=(Nat.div_lt_iff_lt_mul hw).2 (by rw[<-h.2.1];exact hn)
 have hj:n%U.wd τ<U.wd τ:=Nat.mod_lt _ hw
 have:=h.2.2 (n/U.wd τ) xs[n/U.wd τ] (n%U.wd τ) ((U.enc τ xs[n/U.wd τ])[n%U.wd τ]'(by rw[U.cZ];exact hj)) (gg hi) (gg _)
 have he:n/U.wd τ*U.wd τ+n%U.wd τ=n:=by rw[RR];exact Nat.div_add_mod n _
 rw[he,fY (l:=fl),gg hn] at this
 exact this.NM
structure Src(P:Program)(w:World)(u:TypeId)(x:Value)(size n:Nat)(us:List Value):Prop where
 ut:(∃e,P.underlying u=some (.slice e))\/P.underlying u=some .string
 len:∀w',(Builtin.lenOf x).run P w'=.ok n w'
 first:(Builtin.firstCells size n x).run P w=.ok us.toArray w
 NJ:(Builtin.firstCells size n x).run P w.drew=.ok us.toArray w.drew
theorem Pn{P:Program}(w:World){t u ty e:TypeId}{i:TypeInfo}(ht:P.underlying t=some (.slice e))(hi:P.info? e=some i)(base:Option Addr)(n cap:Nat){x:Value}(h:Src P w u x i.size 0 [])(hc:n<=cap):
  (Builtin.append_ #[t,u] ty #[.slice base n cap,x]).run P w=.ok (.slice base n cap) w:=by
 have WY:=h.ut
 have h1:=h.len
 have h2:=h.first
 rcases WY with⟨e',hu⟩|hu<;>cases base<;>simp[Builtin.append_,run_underlying ht,run_underlying hu,Go.sizeOf,typeInfo,hi,h1,hc,h2,storeCells]
theorem aay{P:Program}(w:World){t u ty e:TypeId}{i:TypeInfo}{z:Value}(ht:P.underlying t=some (.slice e))(hi:P.info? e=some i)(hz:i.zero=some z)
  {n:Nat} {us:List Value} {x:Value} (h:Src P w u x i.size n us)
  (h0:0<n) (h63:(n:Int)<=9223372036854775807) (h48:n*i.bytes<=281474976710656):
  (Builtin.append_ #[t,u] ty #[.slice none 0 0,x]).run P w=
   .ok (.slice (some ⟨w.heap.size,0,none⟩) n (grownCap w n 0 e)) (w.drew.alloc (.cells (us.toArray++Builtin.zeroCells z.cells (grownCap w n 0 e-n)) e)):=by
 have WY:=h.ut
 have h1:=h.len
 have h2:=h.NJ
 have hn:n≠0:=by omega
 have X6:¬(9223372036854775807<(n:Int)):=by omega
 have X7:¬(281474976710656<Builtin.nextslicecap n 0*i.bytes):=by rw[nextslicecap_zero h0];omega
 rcases WY with⟨e',hu⟩|hu<;>simp[Builtin.append_,run_underlying ht,run_underlying hu,Go.sizeOf,typeInfo,zeroValue,hi,hz,h1,hn,X6,X7,Question.forced,run_firstCells_none,h2,newRow,grownCap]
theorem Po{P:Program}(w:World){t u ty e:TypeId}{i:TypeInfo}{z:Value}(ht:P.underlying t=some (.slice e))(hi:P.info? e=some i)(hz:i.zero=some z)
  (b:Addr) (oe yd:Nat) (PQ:List Value) (hlo:PQ.length=oe*i.size) (holds:∀j v,PQ[j]? =some v->w.cell? (b.add j)=some v)
  {n:Nat} {us:List Value} {x:Value} (h:Src P w u x i.size n us)
  (hg:yd<oe+n) (h63:((oe+n:Nat):Int)<=9223372036854775807) (KR:Builtin.nextslicecap (oe+n) yd*i.bytes<=281474976710656):
  (Builtin.append_ #[t,u] ty #[.slice (some b) oe yd,x]).run P w=
   .ok (.slice (some ⟨w.heap.size,0,none⟩) (oe+n) (grownCap w (oe+n) yd e))
    (w.drew.alloc (.cells (PQ.toArray++us.toArray++Builtin.zeroCells z.cells (grownCap w (oe+n) yd e-(oe+n))) e)):=by
 have WY:=h.ut
 have h1:=h.len
 have h2:=h.NJ
 have hn:¬(oe+n<=yd):=by omega
 have X6:¬(9223372036854775807<((oe:Int)+(n:Int))):=by omega
 have X7:¬(281474976710656<Builtin.nextslicecap (oe+n) yd*i.bytes):=by omega
 have Gx:=run_firstCells_some (P:=P) w.drew i.size oe b oe yd PQ hlo (by simpa using holds)
 rcases WY with⟨e',hu⟩|hu<;>
   (simp[Builtin.append_,run_underlying ht,run_underlying hu,Go.sizeOf,typeInfo,zeroValue,hi,hz,h1,hn,X6,X7,Question.forced,h2,Gx,newRow,grownCap]
    congr 2
    apply Array.ext'
    simp[xu])
theorem aax{P:Program}(w:World){t u ty e:TypeId}{i:TypeInfo}(ht:P.underlying t=some (.slice e))(hi:P.info? e=some i)
  (g oe yd:Nat) (cur:Array Value) (hg:w.heap[g]? =some (.cells cur e (0,0)))
  {m:Nat} {us:List Value} {x:Value} (h:Src P w u x i.size m us) (h1:∀u∈us,u.oneCell'=true)
  (vm:oe+m<=yd) (KR:oe*i.size+us.length<=cur.size):
  (Builtin.append_ #[t,u] ty #[.slice (some ⟨g,0,none⟩) oe yd,x]).run P w=
   .ok (.slice (some ⟨g,0,none⟩) (oe+m) yd) (w.setRow g (cur.toList.take (oe*i.size)++us++cur.toList.drop (oe*i.size+us.length)).toArray):=by
 have WY:=h.ut
 have HF:=h.len
 have hf:=h.first
 have pZ:=run_storeCells_at P g (oe*i.size) e us 0 cur w hg (by simpa using KR) h1
 simp only[FD] at pZ
 rcases WY with⟨e',hu⟩|hu<;>simp[Builtin.append_,run_underlying ht,run_underlying hu,Go.sizeOf,typeInfo,hi,HF,vm,hf,Addr.add_lit,pZ]
theorem Src.slice{P:Program}{w:World}{t e:TypeId}(ht:P.underlying t=some (.slice e)){size n c:Nat}{ad:Option Addr}{us:List Value}(hl:us.length=n*size)
  (h:0<n->∃b off,ad=some ⟨b,off,none⟩/\∀i u,us[i]? =some u->w.cell? ⟨b,off+i,none⟩=some u):Src P w t (.slice ad n c) size n us:=by
 refine⟨.inl ⟨_,ht⟩,fun w'=>rfl,?_,?_⟩
 ·by_cases hn:0<n
  ·obtain⟨b,off,rfl,h2⟩:=h hn
   exact run_firstCells_some (P:=P) w size n ⟨b,off,none⟩ n c us hl (fun j u hu=>by rw[Addr.add_mid];exact h2 j u hu)
  ·have:n=0:=by omega
   subst this
   have:us=[]:=Du (by simpa using hl)
   subst this
   cases ad<;>simp[Builtin.firstCells,loadCells,loadCellsFrom]
 ·by_cases hn:0<n
  ·obtain⟨b,off,rfl,h2⟩:=h hn
   exact run_firstCells_some (P:=P) w.drew size n ⟨b,off,none⟩ n c us hl (fun j u hu=>by rw[Addr.add_mid];exact h2 j u hu)
  ·have:n=0:=by omega
   subst this
   have:us=[]:=Du (by simpa using hl)
   subst this
   cases ad<;>simp[Builtin.firstCells,loadCells,loadCellsFrom]
theorem Src.string{P:Program}{w:World}{u:TypeId}(hu:P.underlying u=some .string){size:Nat}(s:ByteArray):Src P w u (.string s) size s.size (s.data.toList.map fun b=>Value.int .u8 (b.toNat:Int)):=by
 have hx:(Array.map (fun b:UInt8=>Value.int IntKind.u8 (b.toNat:Int)) (s.extract 0 s.size).data)=(s.data.toList.map fun b=>Value.int .u8 (b.toNat:Int)).toArray:=by
  have:s.extract 0 s.size=s:=ByteArray.extract_zero_size
  rw[this]
  apply Array.ext'
  simp
 refine⟨.inr hu,fun w'=>rfl,?_,?_⟩
 ·simp only[Builtin.firstCells,hx];rfl
 ·simp only[Builtin.firstCells,hx];rfl
theorem akk(h:cG E pm F kv fp σ a w){τ:U.Ty}{rs:List Key}{x:AC U}{v:Value}{ps:List Prop}{ys:List (U.T τ)}{ks:List Key}{d:Bool}
  (hn:DP τ (restrict σ.bH rs) x=some (ps,ys,ks,d)) (hx:RD E w F kv fp (bW σ) x v):
  ks.Nodup/\(∀k∈ks,(σ.bH k).isSome=true)/\∃ad c us,v=.slice ad ys.length c/\
   (d=true->∃fl,ep E w F true τ ys us fl/\fl.flatten.Nodup/\∀b∈fl.flatten,∃k∈ks,b∈fp k)/\
   (∃fl,ep E w (FK F fp ks) false τ ys us fl/\fl.flatten=[])/\
   (0<ys.length->∃b off,ad=some ⟨b,off,none⟩/\∀i u,us[i]? =some u->w.cell? ⟨b,off+i,none⟩=some u):=by
 unfold DP at hn
 split at hn
 ·cases hn
  obtain⟨ad,h1⟩:=cn hx rfl
  exact⟨by simp,by simp,ad,0,[],h1,fun _=>⟨[],ep.nil,by simp,by simp⟩,⟨[],ep.nil,rfl⟩,fun h=>by simp at h⟩
 ·rename_i k
  split at hn
  ·rename_i y d' he
   split at hn
   ·rename_i zs hz
    cases hn
    have:=dC hz
    subst this
    have eG:=jx he
    have h1:v=kv k:=cn hx rfl
    have h2:eu E w F d ⟨τ,ys⟩ (kv k) (fp k):=h.cV k _ eG
    rw[<-h1] at h2
    have oi:=h.nodup k _ eG
    rcases h2.rows with⟨h3,⟨ad,h4⟩,h5⟩|⟨b,cap,cur,vs,fl,h3,h4,h5,h6,h7,h8,h9,ph⟩
    ·simp only at h3;subst h3
     exact⟨by simp,by simp[eG],ad,0,[],h4,fun _=>⟨[],ep.nil,by simp,by simp⟩,⟨[],ep.nil,rfl⟩,fun h=>by simp at h⟩
    ·simp only at h3 h4 h5 h7 h8 h9
     rw[ph] at oi
     refine⟨by simp,by simp[eG],some ⟨b,0,none⟩,cap,vs,h3,fun hd=> ?_,?_,fun _=>⟨b,0,rfl,fun i u hu=> ?_⟩⟩
     ·subst hd
      exact⟨fl,h9,(rv.1 oi).2,fun b' aY=>⟨k,by simp,by rw[ph];simp[aY]⟩⟩
     ·exact⟨_,h9.kD (F':=FK F fp [k]) (fun b hb=> .inl hb) (fun b' aY=> .inr ⟨k,by simp,by rw[ph];simp[aY]⟩),wS _⟩
     ·rw[<-h8,nF] at hu
      split at hu
      ·rw[cell_of_row w b _ cur _ (0,0) h4];simpa using hu
      ·cases hu
   ·cases hn
  ·cases hn
 ·rename_i Cr ys'
  split at hn
  ·rename_i zs hz
   cases hn
   have:=dC hz
   cases this
   have h1:Rp E w F false _ _ _:=cn hx rfl
   have lits:U.flat τ=true->∀{F:Nat->Prop}{m:Bool}{x:U.T τ}{j:Nat}{c:U.C}{u:Value}{l:List Nat},(U.enc τ x)[j]? =some c->Rp E w F m c u l->Rp E w F true c u []:=by
    intro yD F m x j c u l hj hr
    obtain⟨v,rfl⟩:=U.Jv τ yD x c (Cs hj)
    generalize hc:(Cell.lit v:U.C)=c at hr
    cases hr with
    |lit _ _ hv=>cases hc;exact .lit _ _ hv
    |nil=>cases hc
    |shr=>cases hc
    |own=>cases hc
   rcases h1.inv with⟨h0,ad,c,rfl⟩|⟨b,off,cap,vs,rfl,hF,hc,hv,hr⟩
   ·subst h0
    exact⟨by simp,by simp,ad,c,[],rfl,fun _=>⟨[],ep.nil,by simp,by simp⟩,⟨[],ep.nil,rfl⟩,fun h=>by simp at h⟩
   ·have jy:∀(m:Bool)(F':Nat->Prop),(∀i x j c,ys[i]? =some x->(U.enc τ x)[j]? =some c->Rp E w F' m c (vs (i*U.wd τ+j)) [])->ep E w F' m τ ys ((List.range (ys.length*U.wd τ)).map vs) (List.replicate (ys.length*U.wd τ) []):=by
     intro m F' hh
     refine⟨by simp,by simp,fun i x j c hx hj=> ?_⟩
     have fX:=fe hx hj
     rw[DD,fY,lZ,IX fX]
     exact hh i x j c hx hj
    refine⟨by simp,by simp,some ⟨b,off,none⟩,cap,(List.range (ys.length*U.wd τ)).map vs,rfl,fun hd=> ?_,?_,fun _=>⟨b,off,rfl,fun i u hu=> ?_⟩⟩
    ·exact⟨_,jy true F (fun i x j c hx hj=>lits hd hj (hr i x j c hx hj)),by rw[wS];simp,by rw[wS];simp⟩
    ·exact⟨_,jy false _ (fun i x j c hx hj=>(hr i x j c hx hj).fh (fun b hb=> .inl hb)),wS _⟩
    ·rw[lZ] at hu
     by_cases hi:i<ys.length*U.wd τ
     ·rw[IX hi] at hu
      cases hu
      exact hv i hi
     ·rw[mi (by simp;omega)] at hu;cases hu
  ·cases hn
 ·cases hn
theorem al0{x:AC U}{v:Value}{bad:Key->Bool}(h:RD E w F kv fp bad x v):RD E w F kv fp bad (ZT x) v:=by
 cases x with
 |kn b τ xs=>
  refine⟨h.1,?_⟩
  rcases h.2 with g|g
  ·simp[io] at g
  ·exact .inr g.1
 |c _=>exact h
 |e0=>exact h
 |ref _ _=>exact h
 |sub _ _ _ _=>exact h
 |kM _ _ _ _ _=>exact h
 |j0 _ _=>exact h
 |ia _=>exact h
theorem akj(h:cG E pm F kv fp σ a w){τ:U.Ty}{rs:List Key}{x:AC U}{v:Value}{ps:List Prop}{ys:List (U.T τ)}{ks:List Key}{d:Bool}
  (hn:H7 τ (restrict σ.bH rs) x=some (ps,ys,ks,d)) (hx:RD E w F kv fp (bW σ) x v):
  ks.Nodup/\(∀k∈ks,(σ.bH k).isSome=true)/\∃ad c us,v=.slice ad ys.length c/\
   (d=true->∃fl,ep E w F true τ ys us fl/\fl.flatten.Nodup/\∀b∈fl.flatten,∃k∈ks,b∈fp k)/\
   (∃fl,ep E w (FK F fp ks) false τ ys us fl/\fl.flatten=[])/\
   (0<ys.length->∃b off,ad=some ⟨b,off,none⟩/\∀i u,us[i]? =some u->w.cell? ⟨b,off+i,none⟩=some u):=
 akk h hn (al0 hx)
theorem aaM(h:cG E pm F kv fp σ a w){τ:U.Ty}{rs:List Key}{x:AC U}{v:Value}{ps:List Prop}{xs:List (U.T τ)}{ks:List Key}{d:Bool}
  (hn:rY τ (restrict σ.bH rs) x=some (ps,xs,ks,d)) (hp:∀p∈ps,p) (hx:RD E w F kv fp (bW σ) x v):
  ks.Nodup/\(∀k∈ks,(σ.bH k).isSome=true)/\∃l,eu E w F d ⟨τ,xs⟩ v l/\l.Nodup/\∀b∈l,∃k∈ks,b∈fp k:=by
 unfold rY at hn
 split at hn
 ·cases hn
  obtain⟨ad,h1⟩:=cn hx rfl
  exact⟨by simp,by simp,[],.inl ⟨rfl,⟨ad,h1⟩,rfl⟩,by simp,by simp⟩
 ·rename_i k
  split at hn
  ·rename_i y d' he
   split at hn
   ·rename_i zs hz
    cases hn
    have:=dC hz
    subst this
    have eG:=jx he
    have h1:v=kv k:=cn hx rfl
    subst h1
    exact⟨by simp,by simp[eG],fp k,h.cV k _ eG,h.nodup k _ eG,fun b hb=>⟨k,by simp,hb⟩⟩
   ·cases hn
  ·rename_i y dead he
   split at hn
   ·rename_i zs hz
    cases hn
    have:=dC hz
    subst this
    have eG:=jx he
    have h1:v=kv k:=cn hx rfl
    subst h1
    exact⟨by simp,by simp[eG],fp k,dU.own (h.cV k _ eG) (hp _ (by simp)),h.nodup k _ eG,fun b hb=>⟨k,by simp,hb⟩⟩
   ·cases hn
  ·cases hn
 ·rename_i k wd hi
  split at hn
  ·rename_i y d' he
   split at hn
   ·rename_i zs hz
    cases hn
    have:=dC hz
    subst this
    have eG:=jx he
    obtain⟨h1,_⟩:=cn hx rfl
    subst h1
    obtain⟨l,h3,h4⟩:=eu.take (wd:=wd) (hi:=hi) (h.cV k _ eG:eu E w F d ⟨τ,zs⟩ (kv k) (fp k)) (hp _ (by simp))
    exact⟨by simp,by simp[eG],l,h3,h4.nodup (h.nodup k _ eG),fun b hb=>⟨k,by simp,h4.subset hb⟩⟩
   ·cases hn
  ·cases hn
 ·cases hn
theorem abl(hE:E.Ok)(h:cG E pm F kv fp σ a w){o:Oper}{d:Nat}(ho:o.dst=some d)(hd:d<σ.n){cl:Call}{t e:TypeId}{s x:Operand}(p5:o.op=.call cl)(gU:cl.callee=.builtin .append)
  (kK:cl.args.toList=[s,x]) {u:TypeId} (yz:cl.argTypes.toList=[t,u]) {τ:U.Ty} (se:E.elem t=some e) (hc:E.code e=some τ) {ss:SV U} {ys:AC U}
  (hs:RS E w F kv fp (bW σ) ss (a.eval s)) (Qk:sr ss=some ys)
  {rs:List Key} {ps:List Prop} {xs zs:List (U.T τ)} {ks ks':List Key} {d1 d2:Bool} {pall:List Prop} {us:List Value}
  (Xk:rY τ (restrict σ.bH rs) ys=some (ps,xs,ks,d1)) (Bk:∀k∈ks',(σ.bH k).isSome=true) (qh:Src E.P w u (a.eval x) (U.wd τ) zs.length us)
  (M9:d2=true->∃fl,ep E w F true τ zs us fl/\fl.flatten.Nodup/\∀b∈fl.flatten,∃k∈ks',b∈fp k) (Qp:∃fl,ep E w (FK F fp ks') false τ zs us fl/\fl.flatten=[]) (hp:∀p∈ps,p) (D4:(ks++ks').Nodup) (hle:xs.length+zs.length<=4294967296)
  (ng:¬Names σ (d,0)) {next:Act->World->Prop} {Q:Exit->Act->World->Prop}
  (hn:∀F kv fp a' w',cG E pm F kv fp (AM.apply o ⟨some (one (.ref (d,0) [])),[(0,.arr ⟨τ,xs++zs⟩ (d1&&d2))],ks++ks',[],pall⟩ σ) a' w'->next a' w'):o.wp E.P a w next Q:=by
 obtain⟨wZ,i,z,hi,hz,iU,KA,SC,_⟩:=hE.code e τ hc
 have hu:=AL se
 have hw:=U.kq τ
 obtain⟨w6,kJ,l,Jq,yk,KK⟩:=aaM h Xk hp (kt hs Qk)
 rw[<-iU] at qh
 have jq:∀k∈ks++ks',(σ.bH k).isSome=true:=fun k hk=>(kA.1 hk).elim (kJ k) (Bk k)
 have M5:=D4
 rw[pu] at M5
 have exec:∀{v w1},(Builtin.append_ #[t,u] o.type #[a.eval s,a.eval x]).run E.P w=.ok v w1->(execOp a.eval o).run E.P w=.ok (.value v) w1:=by
  intro v w1 hr
  have ha:cl.args= #[s,x]:=wT kK
  have ht:cl.argTypes= #[t,u]:=wT yz
  unfold execOp;simp only[p5]
  simp[resolve,gU,ha,ht,invoke,builtin,hr]
 have Ij:∀{n:Nat},n<=4294967296->n<=maxLen:=fun hh=>by simp only[maxLen];omega
 have KS:∀k∈ks++ks',∀b∈fp k,b<w.heap.size:=fun k hk b hb=>by
  obtain⟨e,he⟩:=lJ.1 (jq k hk)
  exact DE h he hb
 have Ze:∀k∈ks++ks',∀b∈fp k,¬F b:=fun k hk b hb=>by
  obtain⟨e,he⟩:=lJ.1 (jq k hk)
  exact(h.ff k e b he hb).1
 have hWb:∀k∈ks++ks',∀b∈fp k,pm.W b\/pm.w0.heap.size<=b:=fun k hk b hb=>by
  obtain⟨e,he⟩:=lJ.1 (jq k hk)
  exact(h.ff k e b he hb).2.1
 have grow:∀(vs:List Value),(d1=true->∃fl,ep E w F true τ xs vs fl/\fl.flatten.Nodup/\∀b∈fl.flatten,∃k∈ks,b∈fp k)->(∃fl,ep E w (FK F fp ks) false τ xs vs fl/\fl.flatten=[])->
   ∀{cap:Nat}{cur:Array Value}{w1:World},(∀b,b<w.heap.size->w1.heap[b]? =w.heap[b]?)->gy (fun b=>pm.W b\/pm.w0.heap.size<=b) w w1->w.heap.size<w1.heap.size->
   w1.heap[w.heap.size]? =some (.cells cur (E.tid τ) (0,0))->(xs++zs).length<=cap->cap<=maxLen->cur.size=cap*U.wd τ->cur.toList.take ((xs++zs).length*U.wd τ)=vs++us->
   next (a.put o.dst (.slice (some ⟨w.heap.size,0,none⟩) (xs++zs).length cap)) w1:=by
  intro vs h1 h2 cap cur w1 wY ob sL hb ln hm sN xI
  obtain⟨F',kv',fp',nb⟩:=Wj h ho hd ng (τ:=τ) (rows:=xs++zs) (ks:=ks++ks') (dp:=d1&&d2) (ps:=pall) (vs:=vs++us) D4 jq
   (fun jU=>by
    simp only[eE] at jU
    obtain⟨fl,f1,f2,f3⟩:=h1 jU.1
    obtain⟨gl,g1,g2,g3⟩:=M9 jU.2
    refine⟨fl++gl,f1.append g1,by rw[Hw];exact PN h D4 kJ Bk f3 g3 f2 g2,fun b hb=> ?_⟩
    rw[Hw,kA] at hb
    rcases hb with hb|hb
    ·obtain⟨k,hk,hb⟩:=f3 b hb;exact⟨k,by simp[hk],hb⟩
    ·obtain⟨k,hk,hb⟩:=g3 b hb;exact⟨k,by simp[hk],hb⟩)
   (by
    obtain⟨fl,f1,f2⟩:=h2
    obtain⟨gl,g1,g2⟩:=Qp
    exact⟨fl++gl,(f1.fE (fun b hb=>⟨DI (fun k hk=>by simp[hk]) hb,rfl⟩) (by simp[f2])).append (g1.fE (fun b hb=>⟨DI (fun k hk=>by simp[hk]) hb,rfl⟩) (by simp[g2])),by rw[Hw,f2,g2];rfl⟩)
   wY ob sL hb ln hm sN xI
  exact hn F' kv' fp' _ _ nb
 have vk:∀{b cap:Nat}{cur':Array Value}{vs:List Value}{fl:List (List Nat)}{w1:World},ep E w F d1 τ xs vs fl->l=b::fl.flatten->(∀b',b'≠b->w1.heap[b']? =w.heap[b']?)->w1.heap.size=w.heap.size->
   w1.os=w.os->w1.tape=w.tape->w1.output=w.output->w1.heap[b]? =some (.cells cur' (E.tid τ) (0,0))->(xs++zs).length<=cap->cap<=maxLen->cur'.size=cap*U.wd τ->cur'.toList.take ((xs++zs).length*U.wd τ)=vs++us->
   next (a.put o.dst (.slice (some ⟨b,0,none⟩) (xs++zs).length cap)) w1:=by
  intro b cap cur' vs fl w1 jy hl wY sL hos htp uj hb ln hm sN xI
  subst hl
  have iq:∃k∈ks,b∈fp k:=KK b (by simp)
  obtain⟨kb,KN,D9⟩:=iq
  have X2:¬F b:=Ze kb (by simp[KN]) b D9
  have ob:gy (fun b=>pm.W b\/pm.w0.heap.size<=b) w w1:=⟨hos,htp,uj,by omega,fun k hk Gs=>wY k (fun e=>Gs (e▸hWb kb (by simp[KN]) b D9))⟩
  have A_:∀(F':Nat->Prop)(xz:List Nat) bad,RS E w1 F' (db kv (d,0) (.slice (some ⟨b,0,none⟩) (xs++zs).length cap)) (db fp (d,0) xz) bad (one (.ref (d,0) [])) (.slice (some ⟨b,0,none⟩) (xs++zs).length cap):=
   fun F' xz bad=>gZ ⟨⟨rfl,trivial⟩,.inr (by simp only[RA,rA];rfl)⟩
  have D2:∀k e,k∉ks++ks'->σ.bH k=some e->∀b'∈fp k,w1.heap[b']? =w.heap[b']? :=fun k e hk he b' aY=>wY b' (fun e'=>by
   subst e'
   obtain⟨eb,heb⟩:=lJ.1 (kJ kb KN)
   exact h.apart kb k eb e b' (fun e'=>hk (by subst e';simp[KN])) heb he D9 aY)
  cases jU:(d1&&d2) with
  |true=>
   simp only[eE] at jU
   obtain⟨rfl,hd2⟩:=jU
   obtain⟨gl,g1,g2,g3⟩:=M9 hd2
   have oi:((b::fl.flatten)++gl.flatten).Nodup:=PN h D4 kJ Bk KK g3 yk g2
   have Qn:(b::(fl++gl).flatten).Nodup:=by rw[Hw];exact oi
   have SD:=(rv.1 Qn).1
   have px:∀b'∈(b::(fl++gl).flatten),∃k∈ks++ks',b'∈fp k:=fun b' aY=>by
    rw[Hw,<-Zu,kA] at aY
    rcases aY with aY|aY
    ·obtain⟨k,hk,aY⟩:=KK b' aY;exact⟨k,by simp[hk],aY⟩
    ·obtain⟨k,hk,aY⟩:=g3 b' aY;exact⟨k,by simp[hk],aY⟩
   have nb:=h.BJ ho hd (.arr ⟨τ,xs++zs⟩ true) (one (.ref (d,0) [])) (ks++ks') pall _ (.slice (some ⟨b,0,none⟩) (xs++zs).length cap) (b::(fl++gl).flatten) (w':=w1) (F':=F) ng (A_ F _)
    (fun bad=>eu.mj hb ln hm sN xI ((jy.append g1).fE (fun b' aY=>⟨aY,wY b' (fun e=>X2 (e▸aY))⟩) (fun b' aY=>wY b' (fun e=>SD (e▸aY)))))
    (fun b' aY=>⟨aY,wY b' (fun e=>X2 (e▸aY))⟩) (fun b' aY=> .inl aY) D2 Qn
    (fun b' aY=>by obtain⟨k,hk,aY⟩:=px b' aY;exact⟨Ze k hk b' aY,.inl ⟨k,hk,jq k hk,aY⟩⟩) ob
   exact hn _ _ _ _ _ (by rw[hd2];exact nb)
  |false=>
   have uq:∀b',(F b'\/b'∈fl.flatten\/∃k∈ks',b'∈fp k)->b'≠b:=by
    rintro b' (aY|aY|⟨k,hk,aY⟩) rfl
    ·exact X2 aY
    ·exact(rv.1 yk).1 aY
    ·obtain⟨e1,XV⟩:=lJ.1 (kJ kb KN)
     obtain⟨e2,rD⟩:=lJ.1 (Bk k hk)
     exact h.apart kb k e1 e2 b' (M5.2.2 kb KN k hk) XV rD D9 aY
   obtain⟨gl,g1,g2⟩:=Qp
   have Cj:=jy.kD (F':=fun b'=>F b'\/b'∈fl.flatten\/∃k∈ks',b'∈fp k) (fun b' aY=> .inl aY) (fun b' aY=> .inr (.inl aY))
   have hr2:=g1.fE (w':=w) (F':=fun b'=>F b'\/b'∈fl.flatten\/∃k∈ks',b'∈fp k) (fun b' aY=>⟨aY.imp id .inr,rfl⟩) (by simp[g2])
   have hr3:=(Cj.append hr2).fE (w':=w1) (F':=fun b'=>F b'\/b'∈fl.flatten\/∃k∈ks',b'∈fp k) (fun b' aY=>⟨aY,wY b' (uq b' aY)⟩) (by simp[g2])
   have mM:=eu.mj hb ln hm sN xI hr3
   rw[Hw,g2,wS] at mM
   have nb:=h.BJ ho hd (.arr ⟨τ,xs++zs⟩ false) (one (.ref (d,0) [])) (ks++ks') pall _ (.slice (some ⟨b,0,none⟩) (xs++zs).length cap) [b] (w':=w1) (F':=fun b'=>F b'\/b'∈fl.flatten\/∃k∈ks',b'∈fp k) ng (A_ _ _)
    (fun bad=>mM)
    (fun b' aY=>⟨.inl aY,wY b' (fun e=>X2 (e▸aY))⟩)
    (by
     rintro b' (aY|aY|⟨k,hk,aY⟩)
     ·exact .inl aY
     ·obtain⟨k,hk,aY⟩:=KK b' (by simp[aY])
      exact .inr (.inl ⟨k,by simp[hk],kJ k hk,aY⟩)
     ·exact .inr (.inl ⟨k,by simp[hk],Bk k hk,aY⟩))
    D2 (by simp)
    (fun b' aY=>by
     rw[oa.1 aY]
     exact⟨fun hf=>uq b hf rfl,.inl ⟨kb,by simp[KN],kJ kb KN,D9⟩⟩) ob
   exact hn _ _ _ _ _ (by rw[jU];exact nb)
 have tS:us.length=zs.length*U.wd τ:=by obtain⟨gl,g1,_⟩:=Qp;exact g1.1
 have WZ:∀u∈us,u.oneCell'=true:=by obtain⟨gl,g1,_⟩:=Qp;exact g1.fB
 have Bl:(xs.length+zs.length)*i.bytes<=140737488355328:=by
  have:=Nat.mul_le_mul hle SC
  omega
 by_cases bj:zs.length=0
 ·have MZ:zs=[]:=Du bj
  subst MZ
  have ui:us=[]:=Du (by simpa using tS)
  rcases Jq.rows with⟨h3,⟨K_,h4⟩,h5⟩|⟨b,cap,cur,vs,fl,h3,h4,h5,h6,h7,h8,h9,ph⟩
  ·simp only at h3;subst h3
   have hr:=exec (v:=.slice K_ 0 0) (w1:=w) (by rw[h4];exact Pn w hu hi _ _ _ (by rw[ui] at qh;exact qh) (tB _))
   refine qd hr ?_
   have nb:=h.BJ ho hd (.arr ⟨τ,[]⟩ (d1&&d2)) (one (.ref (d,0) [])) (ks++ks') pall (.slice K_ 0 0) (.slice K_ 0 0) [] (w':=w) (F':=F) ng
    (fun bad=>gZ ⟨⟨rfl,trivial⟩,.inr (by simp only[RA,rA];rfl)⟩) (fun bad=> .inl ⟨rfl,⟨K_,rfl⟩,rfl⟩) (fun b hb=>⟨hb,rfl⟩) (fun b hb=> .inl hb) (fun _ _ _ _ _ _=>rfl) (by simp) (by simp) (gy.refl _ _)
   exact hn _ _ _ _ _ nb
  ·simp only at h3 h4 h5 h7 h8 h9
   have hr:=exec (v:=.slice (some ⟨b,0,none⟩) xs.length cap) (w1:=w) (by rw[h3];exact Pn w hu hi _ _ _ (by rw[ui] at qh;exact qh) h5)
   refine qd hr ?_
   have:=vk (b:=b) (cap:=cap) (cur':=cur) (vs:=vs) (fl:=fl) (w1:=w) h9 ph (fun _ _=>rfl) rfl rfl rfl rfl h4 (by simpa using h5) h6 h7 (by rw[ui,tV,tV];exact h8)
   simpa using this
 ·have Xr:us.length=zs.length*i.size:=by rw[iU];exact tS
  have grown:∀(vs:List Value),vs.length=xs.length*U.wd τ->(d1=true->∃fl,ep E w F true τ xs vs fl/\fl.flatten.Nodup/\∀b∈fl.flatten,∃k∈ks,b∈fp k)->(∃fl,ep E w (FK F fp ks) false τ xs vs fl/\fl.flatten=[])->
    ∀DN:Nat,DN<xs.length+zs.length->(Builtin.append_ #[t,u] o.type #[a.eval s,a.eval x]).run E.P w=
     .ok (.slice (some ⟨w.heap.size,0,none⟩) (xs.length+zs.length) (grownCap w (xs.length+zs.length) DN e)) (w.drew.alloc (.cells (vs.toArray++us.toArray++Builtin.zeroCells z.cells (grownCap w (xs.length+zs.length) DN e-(xs.length+zs.length))) e))->
    o.wp E.P a w next Q:=by
   intro vs Ci h1 h2 DN hold iV
   refine qd (exec iV) ?_
   have XP:=grownCap_ge w (xs.length+zs.length) DN e
   have:=grow vs h1 h2 (cap:=grownCap w (xs.length+zs.length) DN e) (cur:=vs.toArray++us.toArray++Builtin.zeroCells z.cells (grownCap w (xs.length+zs.length) DN e-(xs.length+zs.length)))
    (w1:=w.drew.alloc (.cells (vs.toArray++us.toArray++Builtin.zeroCells z.cells (grownCap w (xs.length+zs.length) DN e-(xs.length+zs.length))) e))
    (fun b hb=>yf w.drew _ hb) ((gy.drew _ _).trans (gy.alloc _ _ _)) (by simp) (by rw[wZ];exact heap_alloc_new w.drew _) (by simpa using XP) (grownCap_le_maxLen w _ DN e (Ij hle))
    (by
     simp only[Array.size_append,O3,size_zeroCells,KA,Ci,tS,<-wD]
     congr 1;omega)
    (by
     have yk:((xs++zs).length*U.wd τ)=(vs++us).length:=by simp[Ci,tS,wD]
     simp only[Array.toList_append,xu]
     rw[<-xu,yk]
     exact List.take_left)
   simpa using this
  rcases Jq.rows with⟨h3,⟨K_,h4⟩,h5⟩|⟨b,cap,cur,vs,fl,h3,h4,h5,h6,h7,h8,h9,ph⟩
  ·simp only at h3;subst h3
   refine grown [] (by simp) (fun _=>⟨[],ep.nil,by simp,by simp⟩) ⟨[],ep.nil,rfl⟩ 0 (by omega) ?_
   rw[h4]
   simp only[om,tW] at Bl hle⊢
   cases K_ with
   |none=>
    have hr:=aay (ty:=o.type) w hu hi hz qh (by omega) (by omega) (by omega)
    simpa using hr
   |some a'=>
    have hr:=Po (ty:=o.type) w hu hi hz a' 0 0 [] (by simp) (by simp) qh (by omega) (by omega) (growslice_fits (by omega) (by simpa using Bl))
    simpa using hr
  ·simp only at h3 h4 h5 h7 h8 h9
   have Ci:vs.length=xs.length*U.wd τ:=h9.1
   by_cases vm:xs.length+zs.length<=cap
   ·have KR:xs.length*i.size+us.length<=cur.size:=by rw[Xr,iU,h7,<-wD];exact wH _ vm
    have hr:=aax (ty:=o.type) w hu hi b xs.length cap cur (by rw[<-wZ];exact h4) qh WZ vm KR
    rw[<-h3] at hr
    refine qd (exec hr) ?_
    have:=vk (b:=b) (cap:=cap) (cur':=(cur.toList.take (xs.length*i.size)++us++cur.toList.drop (xs.length*i.size+us.length)).toArray) (vs:=vs) (fl:=fl)
     (w1:=w.setRow b (cur.toList.take (xs.length*i.size)++us++cur.toList.drop (xs.length*i.size+us.length)).toArray) h9 ph (fun b' aY=>setRow_other w b b' _ aY) (by simp) rfl rfl rfl (setRow_heap w b cur _ _ _ h4) (by simpa using vm) h6
     (by
      simp only[O3,wG,od,J0,B6]
      omega)
     (by
      have yk:((xs++zs).length*U.wd τ)=(vs++us).length:=by simp[Ci,tS,wD]
      rw[iU,h8,yk]
      exact List.take_left)
    simpa using this
   ·refine grown vs Ci (fun hd1=> ?_) ?_ cap (by omega) ?_
    ·subst hd1
     exact⟨fl,h9,by rw[ph] at yk;exact(rv.1 yk).2,fun b' aY=>KK b' (by rw[ph];simp[aY])⟩
    ·exact⟨_,h9.kD (F':=FK F fp ks) (fun b hb=> .inl hb) (fun b' aY=> .inr (KK b' (by rw[ph];simp[aY]))),wS _⟩
    ·rw[h3]
     refine Po (ty:=o.type) w hu hi hz ⟨b,0,none⟩ xs.length cap vs (by rw[iU];exact Ci) (fun j u hu=> ?_) qh (by omega) (by omega) (growslice_fits (by omega) Bl)
     rw[Addr.add_mid,tW,cell_of_row w b _ cur _ (0,0) h4]
     rw[<-h8,nF] at hu
     split at hu
     ·simpa using hu
     ·cases hu
theorem alX(hE:E.Ok)(h:cG E pm F kv fp σ a w){o:Oper}{d:Nat}(ho:o.dst=some d)(hd:d<σ.n){cl:Call}{t e:TypeId}{s x:Operand}(p5:o.op=.call cl)(gU:cl.callee=.builtin .append)
  (kK:cl.args.toList=[s,x]) (yz:cl.argTypes.toList=[t,t]) {τ:U.Ty} (se:E.elem t=some e) (hc:E.code e=some τ) {ss sx:SV U} {ys yx:AC U}
  (hs:RS E w F kv fp (bW σ) ss (a.eval s)) (Qk:sr ss=some ys) (hx:RS E w F kv fp (bW σ) sx (a.eval x)) (hsx:sr sx=some yx)
  {rs:List Key} {ps qs:List Prop} {xs zs:List (U.T τ)} {ks ks':List Key} {d1 d2:Bool} {pall:List Prop}
  (Xk:rY τ (restrict σ.bH rs) ys=some (ps,xs,ks,d1)) (Gr:H7 τ (restrict σ.bH rs) yx=some (qs,zs,ks',d2)) (hp:∀p∈ps,p) (D4:(ks++ks').Nodup) (hle:xs.length+zs.length<=4294967296)
  (ng:¬Names σ (d,0)) {next:Act->World->Prop} {Q:Exit->Act->World->Prop}
  (hn:∀F kv fp a' w',cG E pm F kv fp (AM.apply o ⟨some (one (.ref (d,0) [])),[(0,.arr ⟨τ,xs++zs⟩ (d1&&d2))],ks++ks',[],pall⟩ σ) a' w'->next a' w'):o.wp E.P a w next Q:=by
 obtain⟨ap0,Bk,ad,c,us,hvx,M9,Qp,Qo⟩:=akj h Gr (kt hx hsx)
 have hu:=AL se
 exact abl hE h ho hd p5 gU kK yz se hc hs Qk Xk Bk (by rw[hvx];exact Src.slice hu (by obtain⟨gl,g1,_⟩:=Qp;exact g1.1) Qo) M9 Qp hp D4 hle ng hn
theorem aaj{τ:U.Ty}{s:ByteArray}{ys:List (U.T τ)}(h:yp τ s=some ys)(m:Bool):ys.length=s.size/\U.wd τ=1/\∃fl,ep E w F m τ ys (s.data.toList.map fun b=>Value.int .u8 (b.toNat:Int)) fl/\fl.flatten=[]:=by
 unfold yp at h
 have h0:=dC h
 cases h0
 have hw:U.wd U.nk=1:=by rw[<-U.cZ U.nk (U.eP U.nk),U.C_];rfl
 have sL:(s.data.toList.map fun b=>U.ofB (b.toNat:Int)).length=s.size:=by rw[BV];exact B6
 have al9:(s.data.toList.map fun b=>Value.int .u8 (b.toNat:Int)).length=s.size:=by rw[BV];exact B6
 refine⟨sL,hw,List.replicate s.size [],⟨by rw[sL,al9,hw,Nat.mul_one],by rw[sL,zee,hw,Nat.mul_one],fun i x j c hx hj=> ?_⟩,by simp⟩
 rw[lZ] at hx
 cases hb:s.data.toList[i]? with
 |none=>rw[hb] at hx;cases hx
 |some b=>
  rw[hb] at hx
  simp only[B5,fJ] at hx
  subst hx
  rw[U.C_,U.I6] at hj
  have hj0:j=0:=by
   cases j with
   |zero=>rfl
   |succ j=>simp at hj
  subst hj0
  simp only[sB,fJ] at hj
  subst hj
  have e1:i*U.wd U.nk+0=i:=by rw[hw];omega
  rw[e1]
  have e2:(s.data.toList.map fun b=>Value.int .u8 (b.toNat:Int)).getD i undef=.int .u8 (b.toNat:Int):=by
   rw[fY,lZ,hb];rfl
  have e3:(List.replicate s.size ([]:List Nat)).getD i []=[]:=by
   rw[fY,zdz];split<;>rfl
  rw[e2,e3]
  exact .lit m _ ⟨rfl,by have:=b.toNat_lt;simp only[IntKind.min,IntKind.max,IntKind.signed,IntKind.bits,wE,if_false];omega⟩
theorem alW(hE:E.Ok)(h:cG E pm F kv fp σ a w){o:Oper}{d:Nat}(ho:o.dst=some d)(hd:d<σ.n){cl:Call}{t u e:TypeId}{s x:Operand}(p5:o.op=.call cl)(gU:cl.callee=.builtin .append)
  (kK:cl.args.toList=[s,x]) (yz:cl.argTypes.toList=[t,u]) {τ:U.Ty} (se:E.elem t=some e) (hc:E.code e=some τ) {ss sx:SV U} {ys:AC U} {str:ByteArray}
  (hs:RS E w F kv fp (bW σ) ss (a.eval s)) (Qk:sr ss=some ys) (hx:RS E w F kv fp (bW σ) sx (a.eval x)) (hsx:iC sx=some (.string str)) (hu:E.P.underlying u=some .string)
  {rs:List Key} {ps:List Prop} {xs zs:List (U.T τ)} {ks:List Key} {d1:Bool} {pall:List Prop}
  (Xk:rY τ (restrict σ.bH rs) ys=some (ps,xs,ks,d1)) (Gr:yp τ str=some zs) (hp:∀p∈ps,p) (D4:ks.Nodup) (hle:xs.length+zs.length<=4294967296)
  (ng:¬Names σ (d,0)) {next:Act->World->Prop} {Q:Exit->Act->World->Prop}
  (hn:∀F kv fp a' w',cG E pm F kv fp (AM.apply o ⟨some (one (.ref (d,0) [])),[(0,.arr ⟨τ,xs++zs⟩ d1)],ks,[],pall⟩ σ) a' w'->next a' w'):o.wp E.P a w next Q:=by
 have hv:=og hx hsx
 obtain⟨h1,h2,fl,h3,h4⟩:=aaj (E:=E) (w:=w) (F:=F) Gr true
 obtain⟨_,_,gl,g3,g4⟩:=aaj (E:=E) (w:=w) (F:=FK F fp []) Gr false
 refine abl (ks':=[]) (d2:=true) (zs:=zs) (us:=str.data.toList.map fun b=>Value.int .u8 (b.toNat:Int)) (pall:=pall) hE h ho hd p5 gU kK yz se hc hs Qk Xk (by simp) ?_ (fun _=>⟨fl,h3,by rw[h4];simp,by rw[h4];simp⟩) ⟨gl,g3,g4⟩ hp (by simpa using D4) hle ng ?_
 ·rw[hv,h1,h2];exact Src.string hu str
 ·simpa using hn
end AM
