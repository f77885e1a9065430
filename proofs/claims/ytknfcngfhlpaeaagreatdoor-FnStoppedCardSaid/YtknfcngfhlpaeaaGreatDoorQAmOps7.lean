import Derived.Test.YtknfcngfhlpaeaaGreatDoorQAmOps6
namespace AM
set_option linter.unusedVariables false
open Go
variable{U:kz}{E:Env U}{pm:Pm}
variable{F F':Nat->Prop}{kv:Key->Value}{fp:Key->List Nat}{σ:ak U}{a:Act}{w w':World}{bad:Key->Bool}
theorem dr{τ:U.Ty}{x:cC U}{ys:List (U.T τ)}(h:iD τ x=some ys):x=⟨τ,ys⟩:=by
 obtain⟨El,xs⟩:=x
 unfold iD at h
 cases hd:U.deq El τ with
 |isFalse he=>simp only[hd] at h;cases h
 |isTrue he=>
  simp only[hd] at h
  subst he
  cases h
  rfl
theorem Rp.PI{w:World}{F:Nat->Prop}{c:U.C}{v:Value}{l:List Nat}(h:Rp E w F false c v l):l=[]:=by
 generalize hm:false=m at h
 cases h with
 |lit=>rfl
 |nil=>rfl
 |shr=>rfl
 |own=>cases hm
theorem eg.IL{τ:U.Ty}{xs:List (U.T τ)}{vs:List Value}{fl:List (List Nat)}(h:eg E w F false τ xs vs fl):fl.flatten=[]:=by
 refine List.flatten_eq_nil_iff.2 fun l hl=> ?_
 obtain⟨n,hn,rfl⟩:=qD hl
 have hw:=U.kp τ
 have hi:n/U.wd τ<xs.length:=(Nat.div_lt_iff_lt_mul hw).2 (by rw[<-h.2.1];exact hn)
 have hj:n%U.wd τ<U.wd τ:=Nat.mod_lt _ hw
 have:=h.2.2 (n/U.wd τ) xs[n/U.wd τ] (n%U.wd τ) ((U.enc τ xs[n/U.wd τ])[n%U.wd τ]'(by rw[U.cY];exact hj)) (eW hi) (eW _)
 have he:n/U.wd τ*U.wd τ+n%U.wd τ=n:=by rw[Q6];exact Nat.div_add_mod n _
 rw[he,dB (l:=fl),eW hn] at this
 exact this.PI
structure Src(P:Program)(w:World)(u:TypeId)(x:Value)(size n:Nat)(us:List Value):Prop where
 ut:(∃e,P.underlying u=some (.slice e))\/P.underlying u=some .string
 len:∀w',(Builtin.lenOf x).run P w'=.ok n w'
 first:(Builtin.firstCells size n x).run P w=.ok us.toArray w
 PG:(Builtin.firstCells size n x).run P w.drew=.ok us.toArray w.drew
theorem Rn{P:Program}(w:World){t u ty e:TypeId}{i:TypeInfo}(ht:P.underlying t=some (.slice e))(hi:P.info? e=some i)(base:Option Addr)(n cap:Nat){x:Value}(h:Src P w u x i.size 0 [])(hc:n<=cap):
  (Builtin.append_ #[t,u] ty #[.slice base n cap,x]).run P w=.ok (.slice base n cap) w:=by
 have Xk:=h.ut
 have h1:=h.len
 have h2:=h.first
 rcases Xk with⟨e',hu⟩|hu<;>cases base<;>simp[Builtin.append_,run_underlying ht,run_underlying hu,Go.sizeOf,typeInfo,hi,h1,hc,h2,storeCells]
theorem aav{P:Program}(w:World){t u ty e:TypeId}{i:TypeInfo}{z:Value}(ht:P.underlying t=some (.slice e))(hi:P.info? e=some i)(hz:i.zero=some z)
  {n:Nat} {us:List Value} {x:Value} (h:Src P w u x i.size n us)
  (h0:0<n) (h63:(n:Int)<=9223372036854775807) (h48:n*i.bytes<=281474976710656):
  (Builtin.append_ #[t,u] ty #[.slice none 0 0,x]).run P w=
   .ok (.slice (some ⟨w.heap.size,0,none⟩) n (grownCap w n 0 e)) (w.drew.alloc (.cells (us.toArray++Builtin.zeroCells z.cells (grownCap w n 0 e-n)) e)):=by
 have Xk:=h.ut
 have h1:=h.len
 have h2:=h.PG
 have hn:n≠0:=by omega
 have Yx:¬(9223372036854775807<(n:Int)):=by omega
 have Yy:¬(281474976710656<Builtin.nextslicecap n 0*i.bytes):=by rw[nextslicecap_zero h0];omega
 rcases Xk with⟨e',hu⟩|hu<;>simp[Builtin.append_,run_underlying ht,run_underlying hu,Go.sizeOf,typeInfo,zeroValue,hi,hz,h1,hn,Yx,Yy,Question.forced,run_firstCells_none,h2,newRow,grownCap]
theorem Ro{P:Program}(w:World){t u ty e:TypeId}{i:TypeInfo}{z:Value}(ht:P.underlying t=some (.slice e))(hi:P.info? e=some i)(hz:i.zero=some z)
  (b:Addr) (oZ zQ:Nat) (RW:List Value) (hlo:RW.length=oZ*i.size) (holds:∀j v,RW[j]? =some v->w.cell? (b.add j)=some v)
  {n:Nat} {us:List Value} {x:Value} (h:Src P w u x i.size n us)
  (hg:zQ<oZ+n) (h63:((oZ+n:Nat):Int)<=9223372036854775807) (MX:Builtin.nextslicecap (oZ+n) zQ*i.bytes<=281474976710656):
  (Builtin.append_ #[t,u] ty #[.slice (some b) oZ zQ,x]).run P w=
   .ok (.slice (some ⟨w.heap.size,0,none⟩) (oZ+n) (grownCap w (oZ+n) zQ e))
    (w.drew.alloc (.cells (RW.toArray++us.toArray++Builtin.zeroCells z.cells (grownCap w (oZ+n) zQ e-(oZ+n))) e)):=by
 have Xk:=h.ut
 have h1:=h.len
 have h2:=h.PG
 have hn:¬(oZ+n<=zQ):=by omega
 have Yx:¬(9223372036854775807<((oZ:Int)+(n:Int))):=by omega
 have Yy:¬(281474976710656<Builtin.nextslicecap (oZ+n) zQ*i.bytes):=by omega
 have IF:=run_firstCells_some (P:=P) w.drew i.size oZ b oZ zQ RW hlo (by simpa using holds)
 rcases Xk with⟨e',hu⟩|hu<;>
   (simp[Builtin.append_,run_underlying ht,run_underlying hu,Go.sizeOf,typeInfo,zeroValue,hi,hz,h1,hn,Yx,Yy,Question.forced,h2,IF,newRow,grownCap]
    congr 2
    apply Array.ext'
    simp[we])
theorem aau{P:Program}(w:World){t u ty e:TypeId}{i:TypeInfo}(ht:P.underlying t=some (.slice e))(hi:P.info? e=some i)
  (g oZ zQ:Nat) (cur:Array Value) (hg:w.heap[g]? =some (.cells cur e (0,0)))
  {m:Nat} {us:List Value} {x:Value} (h:Src P w u x i.size m us) (h1:∀u∈us,u.oneCell'=true)
  (wX:oZ+m<=zQ) (MX:oZ*i.size+us.length<=cur.size):
  (Builtin.append_ #[t,u] ty #[.slice (some ⟨g,0,none⟩) oZ zQ,x]).run P w=
   .ok (.slice (some ⟨g,0,none⟩) (oZ+m) zQ) (w.setRow g (cur.toList.take (oZ*i.size)++us++cur.toList.drop (oZ*i.size+us.length)).toArray):=by
 have Xk:=h.ut
 have JB:=h.len
 have hf:=h.first
 have oW:=run_storeCells_at P g (oZ*i.size) e us 0 cur w hg (by simpa using MX) h1
 simp only[HD] at oW
 rcases Xk with⟨e',hu⟩|hu<;>simp[Builtin.append_,run_underlying ht,run_underlying hu,Go.sizeOf,typeInfo,hi,JB,wX,hf,Addr.add_lit,oW]
theorem Src.slice{P:Program}{w:World}{t e:TypeId}(ht:P.underlying t=some (.slice e)){size n c:Nat}{ad:Option Addr}{us:List Value}(hl:us.length=n*size)
  (h:0<n->∃b off,ad=some ⟨b,off,none⟩/\∀i u,us[i]? =some u->w.cell? ⟨b,off+i,none⟩=some u):Src P w t (.slice ad n c) size n us:=by
 refine⟨.inl ⟨_,ht⟩,fun w'=>rfl,?_,?_⟩
 ·by_cases hn:0<n
  ·obtain⟨b,off,rfl,h2⟩:=h hn
   exact run_firstCells_some (P:=P) w size n ⟨b,off,none⟩ n c us hl (fun j u hu=>by rw[Addr.add_mid];exact h2 j u hu)
  ·have:n=0:=by omega
   subst this
   have:us=[]:=Fy (by simpa using hl)
   subst this
   cases ad<;>simp[Builtin.firstCells,loadCells,loadCellsFrom]
 ·by_cases hn:0<n
  ·obtain⟨b,off,rfl,h2⟩:=h hn
   exact run_firstCells_some (P:=P) w.drew size n ⟨b,off,none⟩ n c us hl (fun j u hu=>by rw[Addr.add_mid];exact h2 j u hu)
  ·have:n=0:=by omega
   subst this
   have:us=[]:=Fy (by simpa using hl)
   subst this
   cases ad<;>simp[Builtin.firstCells,loadCells,loadCellsFrom]
theorem Src.string{P:Program}{w:World}{u:TypeId}(hu:P.underlying u=some .string){size:Nat}(s:ByteArray):Src P w u (.string s) size s.size (s.data.toList.map fun b=>Value.int .u8 (b.toNat:Int)):=by
 have hx:(Array.map (fun b:UInt8=>Value.int IntKind.u8 (b.toNat:Int)) (s.extract 0 s.size).data)=(s.data.toList.map fun b=>Value.int .u8 (b.toNat:Int)).toArray:=by
  have:s.extract 0 s.size=s:=ByteArray.extract_zero_size
  rw[this]
  apply Array.ext'
  simp
 refine⟨.inr hu,fun w'=>rfl,?_,?_⟩
 ·simp only[Builtin.firstCells,hx];rfl
 ·simp only[Builtin.firstCells,hx];rfl
theorem aid(h:cG E pm F kv fp σ a w){τ:U.Ty}{rs:List Key}{x:AC U}{v:Value}{ps:List Prop}{ys:List (U.T τ)}{ks:List Key}{d:Bool}
  (hn:FY τ (restrict σ.bH rs) x=some (ps,ys,ks,d)) (hx:RD E w F kv fp (bR σ) x v):
  ks.Nodup/\(∀k∈ks,(σ.bH k).isSome=true)/\∃ad c us,v=.slice ad ys.length c/\
   (d=true->∃fl,eg E w F true τ ys us fl/\fl.flatten.Nodup/\∀b∈fl.flatten,∃k∈ks,b∈fp k)/\
   (∃fl,eg E w (FK F fp ks) false τ ys us fl/\fl.flatten=[])/\
   (0<ys.length->∃b off,ad=some ⟨b,off,none⟩/\∀i u,us[i]? =some u->w.cell? ⟨b,off+i,none⟩=some u):=by
 unfold FY at hn
 split at hn
 ·cases hn
  obtain⟨ad,h1⟩:=ca hx rfl
  exact⟨by simp,by simp,ad,0,[],h1,fun _=>⟨[],eg.nil,by simp,by simp⟩,⟨[],eg.nil,rfl⟩,fun h=>by simp at h⟩
 ·rename_i k
  split at hn
  ·rename_i y d' he
   split at hn
   ·rename_i zs hz
    cases hn
    have:=dr hz
    subst this
    have ew:=jx he
    have h1:v=kv k:=ca hx rfl
    have h2:eo E w F d ⟨τ,ys⟩ (kv k) (fp k):=h.cW k _ ew
    rw[<-h1] at h2
    have o9:=h.nodup k _ ew
    rcases h2.rows with⟨h3,⟨ad,h4⟩,h5⟩|⟨b,cap,cur,vs,fl,h3,h4,h5,h6,h7,h8,h9,rv⟩
    ·simp only at h3;subst h3
     exact⟨by simp,by simp[ew],ad,0,[],h4,fun _=>⟨[],eg.nil,by simp,by simp⟩,⟨[],eg.nil,rfl⟩,fun h=>by simp at h⟩
    ·simp only at h3 h4 h5 h7 h8 h9
     rw[rv] at o9
     refine⟨by simp,by simp[ew],some ⟨b,0,none⟩,cap,vs,h3,fun hd=> ?_,?_,fun _=>⟨b,0,rfl,fun i u hu=> ?_⟩⟩
     ·subst hd
      exact⟨fl,h9,(sC.1 o9).2,fun b' bg=>⟨k,by simp,by rw[rv];simp[bg]⟩⟩
     ·exact⟨_,h9.kB (F':=FK F fp [k]) (fun b hb=> .inl hb) (fun b' bg=> .inr ⟨k,by simp,by rw[rv];simp[bg]⟩),ym _⟩
     ·rw[<-h8,oT] at hu
      split at hu
      ·rw[cell_of_row w b _ cur _ (0,0) h4];simpa using hu
      ·cases hu
   ·cases hn
  ·cases hn
 ·rename_i El ys'
  split at hn
  ·rename_i zs hz
   cases hn
   have:=dr hz
   cases this
   have h1:Rp E w F false _ _ _:=ca hx rfl
   have lits:U.flat τ=true->∀{F:Nat->Prop}{m:Bool}{x:U.T τ}{j:Nat}{c:U.C}{u:Value}{l:List Nat},(U.enc τ x)[j]? =some c->Rp E w F m c u l->Rp E w F true c u []:=by
    intro An F m x j c u l hj hr
    obtain⟨v,rfl⟩:=U.Lw τ An x c (Em hj)
    generalize hc:(Cell.lit v:U.C)=c at hr
    cases hr with
    |lit _ _ hv=>cases hc;exact .lit _ _ hv
    |nil=>cases hc
    |shr=>cases hc
    |own=>cases hc
   rcases h1.inv with⟨h0,ad,c,rfl⟩|⟨b,off,cap,vs,rfl,hF,hc,hv,hr⟩
   ·subst h0
    exact⟨by simp,by simp,ad,c,[],rfl,fun _=>⟨[],eg.nil,by simp,by simp⟩,⟨[],eg.nil,rfl⟩,fun h=>by simp at h⟩
   ·have jz:∀(m:Bool)(F':Nat->Prop),(∀i x j c,ys[i]? =some x->(U.enc τ x)[j]? =some c->Rp E w F' m c (vs (i*U.wd τ+j)) [])->eg E w F' m τ ys ((List.range (ys.length*U.wd τ)).map vs) (List.replicate (ys.length*U.wd τ) []):=by
     intro m F' hh
     refine⟨by simp,by simp,fun i x j c hx hj=> ?_⟩
     have fU:=fi hx hj
     rw[FJ,dB,mw,KL fU]
     exact hh i x j c hx hj
    refine⟨by simp,by simp,some ⟨b,off,none⟩,cap,(List.range (ys.length*U.wd τ)).map vs,rfl,fun hd=> ?_,?_,fun _=>⟨b,off,rfl,fun i u hu=> ?_⟩⟩
    ·exact⟨_,jz true F (fun i x j c hx hj=>lits hd hj (hr i x j c hx hj)),by rw[ym];simp,by rw[ym];simp⟩
    ·exact⟨_,jz false _ (fun i x j c hx hj=>(hr i x j c hx hj).fq (fun b hb=> .inl hb)),ym _⟩
    ·rw[mw] at hu
     by_cases hi:i<ys.length*U.wd τ
     ·rw[KL hi] at hu
      cases hu
      exact hv i hi
     ·rw[nb (by simp;omega)] at hu;cases hu
  ·cases hn
 ·cases hn
theorem ajS{x:AC U}{v:Value}{bad:Key->Bool}(h:RD E w F kv fp bad x v):RD E w F kv fp bad (ZW x) v:=by
 cases x with
 |kn b τ xs=>
  refine⟨h.1,?_⟩
  rcases h.2 with g|g
  ·simp[hJ] at g
  ·exact .inr g.1
 |c _=>exact h
 |e0=>exact h
 |ref _ _=>exact h
 |sub _ _ _ _=>exact h
 |kI _ _ _ _ _=>exact h
 |jU _ _=>exact h
 |ia _=>exact h
theorem aic(h:cG E pm F kv fp σ a w){τ:U.Ty}{rs:List Key}{x:AC U}{v:Value}{ps:List Prop}{ys:List (U.T τ)}{ks:List Key}{d:Bool}
  (hn:J_ τ (restrict σ.bH rs) x=some (ps,ys,ks,d)) (hx:RD E w F kv fp (bR σ) x v):
  ks.Nodup/\(∀k∈ks,(σ.bH k).isSome=true)/\∃ad c us,v=.slice ad ys.length c/\
   (d=true->∃fl,eg E w F true τ ys us fl/\fl.flatten.Nodup/\∀b∈fl.flatten,∃k∈ks,b∈fp k)/\
   (∃fl,eg E w (FK F fp ks) false τ ys us fl/\fl.flatten=[])/\
   (0<ys.length->∃b off,ad=some ⟨b,off,none⟩/\∀i u,us[i]? =some u->w.cell? ⟨b,off+i,none⟩=some u):=
 aid h hn (ajS hx)
theorem aaJ(h:cG E pm F kv fp σ a w){τ:U.Ty}{rs:List Key}{x:AC U}{v:Value}{ps:List Prop}{xs:List (U.T τ)}{ks:List Key}{d:Bool}
  (hn:tm τ (restrict σ.bH rs) x=some (ps,xs,ks,d)) (hp:∀p∈ps,p) (hx:RD E w F kv fp (bR σ) x v):
  ks.Nodup/\(∀k∈ks,(σ.bH k).isSome=true)/\∃l,eo E w F d ⟨τ,xs⟩ v l/\l.Nodup/\∀b∈l,∃k∈ks,b∈fp k:=by
 unfold tm at hn
 split at hn
 ·cases hn
  obtain⟨ad,h1⟩:=ca hx rfl
  exact⟨by simp,by simp,[],.inl ⟨rfl,⟨ad,h1⟩,rfl⟩,by simp,by simp⟩
 ·rename_i k
  split at hn
  ·rename_i y d' he
   split at hn
   ·rename_i zs hz
    cases hn
    have:=dr hz
    subst this
    have ew:=jx he
    have h1:v=kv k:=ca hx rfl
    subst h1
    exact⟨by simp,by simp[ew],fp k,h.cW k _ ew,h.nodup k _ ew,fun b hb=>⟨k,by simp,hb⟩⟩
   ·cases hn
  ·rename_i y dead he
   split at hn
   ·rename_i zs hz
    cases hn
    have:=dr hz
    subst this
    have ew:=jx he
    have h1:v=kv k:=ca hx rfl
    subst h1
    exact⟨by simp,by simp[ew],fp k,dK.own (h.cW k _ ew) (hp _ (by simp)),h.nodup k _ ew,fun b hb=>⟨k,by simp,hb⟩⟩
   ·cases hn
  ·cases hn
 ·rename_i k wd hi
  split at hn
  ·rename_i y d' he
   split at hn
   ·rename_i zs hz
    cases hn
    have:=dr hz
    subst this
    have ew:=jx he
    obtain⟨h1,_⟩:=ca hx rfl
    subst h1
    obtain⟨l,h3,h4⟩:=eo.take (wd:=wd) (hi:=hi) (h.cW k _ ew:eo E w F d ⟨τ,zs⟩ (kv k) (fp k)) (hp _ (by simp))
    exact⟨by simp,by simp[ew],l,h3,h4.nodup (h.nodup k _ ew),fun b hb=>⟨k,by simp,h4.subset hb⟩⟩
   ·cases hn
  ·cases hn
 ·cases hn
theorem abi(hE:E.Ok)(h:cG E pm F kv fp σ a w){o:Oper}{d:Nat}(ho:o.dst=some d)(hd:d<σ.n){cl:Call}{t e:TypeId}{s x:Operand}(qB:o.op=.call cl)(gB:cl.callee=.builtin .append)
  (kG:cl.args.toList=[s,x]) {u:TypeId} (Ai:cl.argTypes.toList=[t,u]) {τ:U.Ty} (tt:E.elem t=some e) (hc:E.code e=some τ) {ss:SV U} {ys:AC U}
  (hs:RS E w F kv fp (bR σ) ss (a.eval s)) (Sg:tG ss=some ys)
  {rs:List Key} {ps:List Prop} {xs zs:List (U.T τ)} {ks ks':List Key} {d1 d2:Bool} {pall:List Prop} {us:List Value}
  (XC:tm τ (restrict σ.bH rs) ys=some (ps,xs,ks,d1)) (C9:∀k∈ks',(σ.bH k).isSome=true) (rh:Src E.P w u (a.eval x) (U.wd τ) zs.length us)
  (O':d2=true->∃fl,eg E w F true τ zs us fl/\fl.flatten.Nodup/\∀b∈fl.flatten,∃k∈ks',b∈fp k) (Sl:∃fl,eg E w (FK F fp ks') false τ zs us fl/\fl.flatten=[]) (hp:∀p∈ps,p) (Gg:(ks++ks').Nodup) (hle:xs.length+zs.length<=4294967296)
  (nu:¬Names σ (d,0)) {next:Act->World->Prop} {Q:Exit->Act->World->Prop}
  (hn:∀F kv fp a' w',cG E pm F kv fp (AM.apply o ⟨some (one (.ref (d,0) [])),[(0,.arr ⟨τ,xs++zs⟩ (d1&&d2))],ks++ks',[],pall⟩ σ) a' w'->next a' w'):o.wp E.P a w next Q:=by
 obtain⟨yA,i,z,hi,hz,iL,MF,Uc,_⟩:=hE.code e τ hc
 have hu:=CH tt
 have hw:=U.kp τ
 obtain⟨yH,kx,l,Ls,zv,MQ⟩:=aaJ h XC hp (kr hs Sg)
 rw[<-iL] at rh
 have iN:∀k∈ks++ks',(σ.bH k).isSome=true:=fun k hk=>(jE.1 hk).elim (kx k) (C9 k)
 have O4:=Gg
 rw[p8] at O4
 have exec:∀{v w1},(Builtin.append_ #[t,u] o.type #[a.eval s,a.eval x]).run E.P w=.ok v w1->(execOp a.eval o).run E.P w=.ok (.value v) w1:=by
  intro v w1 hr
  have ha:cl.args= #[s,x]:=yn kG
  have ht:cl.argTypes= #[t,u]:=yn Ai
  unfold execOp;simp only[qB]
  simp[resolve,gB,ha,ht,invoke,builtin,hr]
 have Kj:∀{n:Nat},n<=4294967296->n<=maxLen:=fun hh=>by simp only[maxLen];omega
 have MZ:∀k∈ks++ks',∀b∈fp k,b<w.heap.size:=fun k hk b hb=>by
  obtain⟨e,he⟩:=l6.1 (iN k hk)
  exact FL h he hb
 have Zj:∀k∈ks++ks',∀b∈fp k,¬F b:=fun k hk b hb=>by
  obtain⟨e,he⟩:=l6.1 (iN k hk)
  exact(h.fj k e b he hb).1
 have hWb:∀k∈ks++ks',∀b∈fp k,pm.W b\/pm.w0.heap.size<=b:=fun k hk b hb=>by
  obtain⟨e,he⟩:=l6.1 (iN k hk)
  exact(h.fj k e b he hb).2.1
 have grow:∀(vs:List Value),(d1=true->∃fl,eg E w F true τ xs vs fl/\fl.flatten.Nodup/\∀b∈fl.flatten,∃k∈ks,b∈fp k)->(∃fl,eg E w (FK F fp ks) false τ xs vs fl/\fl.flatten=[])->
   ∀{cap:Nat}{cur:Array Value}{w1:World},(∀b,b<w.heap.size->w1.heap[b]? =w.heap[b]?)->gq (fun b=>pm.W b\/pm.w0.heap.size<=b) w w1->w.heap.size<w1.heap.size->
   w1.heap[w.heap.size]? =some (.cells cur (E.tid τ) (0,0))->(xs++zs).length<=cap->cap<=maxLen->cur.size=cap*U.wd τ->cur.toList.take ((xs++zs).length*U.wd τ)=vs++us->
   next (a.put o.dst (.slice (some ⟨w.heap.size,0,none⟩) (xs++zs).length cap)) w1:=by
  intro vs h1 h2 cap cur w1 yz oV tU hb l_ hm tY zu
  obtain⟨F',kv',fp',nI⟩:=WI h ho hd nu (τ:=τ) (rows:=xs++zs) (ks:=ks++ks') (dp:=d1&&d2) (ps:=pall) (vs:=vs++us) Gg iN
   (fun jR=>by
    simp only[cH] at jR
    obtain⟨fl,f1,f2,f3⟩:=h1 jR.1
    obtain⟨gl,g1,g2,g3⟩:=O' jR.2
    refine⟨fl++gl,f1.append g1,by rw[Ju];exact RQ h Gg kx C9 f3 g3 f2 g2,fun b hb=> ?_⟩
    rw[Ju,jE] at hb
    rcases hb with hb|hb
    ·obtain⟨k,hk,hb⟩:=f3 b hb;exact⟨k,by simp[hk],hb⟩
    ·obtain⟨k,hk,hb⟩:=g3 b hb;exact⟨k,by simp[hk],hb⟩)
   (by
    obtain⟨fl,f1,f2⟩:=h2
    obtain⟨gl,g1,g2⟩:=Sl
    exact⟨fl++gl,(f1.fC (fun b hb=>⟨FP (fun k hk=>by simp[hk]) hb,rfl⟩) (by simp[f2])).append (g1.fC (fun b hb=>⟨FP (fun k hk=>by simp[hk]) hb,rfl⟩) (by simp[g2])),by rw[Ju,f2,g2];rfl⟩)
   yz oV tU hb l_ hm tY zu
  exact hn F' kv' fp' _ _ nI
 have wW:∀{b cap:Nat}{cur':Array Value}{vs:List Value}{fl:List (List Nat)}{w1:World},eg E w F d1 τ xs vs fl->l=b::fl.flatten->(∀b',b'≠b->w1.heap[b']? =w.heap[b']?)->w1.heap.size=w.heap.size->
   w1.os=w.os->w1.tape=w.tape->w1.output=w.output->w1.heap[b]? =some (.cells cur' (E.tid τ) (0,0))->(xs++zs).length<=cap->cap<=maxLen->cur'.size=cap*U.wd τ->cur'.toList.take ((xs++zs).length*U.wd τ)=vs++us->
   next (a.put o.dst (.slice (some ⟨b,0,none⟩) (xs++zs).length cap)) w1:=by
  intro b cap cur' vs fl w1 jz hl yz tU hos htp vB hb l_ hm tY zu
  subst hl
  have ic:∃k∈ks,b∈fp k:=MQ b (by simp)
  obtain⟨kb,MS,Gl⟩:=ic
  have Yt:¬F b:=Zj kb (by simp[MS]) b Gl
  have oV:gq (fun b=>pm.W b\/pm.w0.heap.size<=b) w w1:=⟨hos,htp,vB,by omega,fun k hk IA=>yz k (fun e=>IA (e▸hWb kb (by simp[MS]) b Gl))⟩
  have C4:∀(F':Nat->Prop)(zo:List Nat) bad,RS E w1 F' (c_ kv (d,0) (.slice (some ⟨b,0,none⟩) (xs++zs).length cap)) (c_ fp (d,0) zo) bad (one (.ref (d,0) [])) (.slice (some ⟨b,0,none⟩) (xs++zs).length cap):=
   fun F' zo bad=>gP ⟨⟨rfl,trivial⟩,.inr (by simp only[RA,sE];rfl)⟩
  have Gd:∀k e,k∉ks++ks'->σ.bH k=some e->∀b'∈fp k,w1.heap[b']? =w.heap[b']? :=fun k e hk he b' bg=>yz b' (fun e'=>by
   subst e'
   obtain⟨eb,heb⟩:=l6.1 (kx kb MS)
   exact h.apart kb k eb e b' (fun e'=>hk (by subst e';simp[MS])) heb he Gl bg)
  cases jR:(d1&&d2) with
  |true=>
   simp only[cH] at jR
   obtain⟨rfl,hd2⟩:=jR
   obtain⟨gl,g1,g2,g3⟩:=O' hd2
   have o9:((b::fl.flatten)++gl.flatten).Nodup:=RQ h Gg kx C9 MQ g3 zv g2
   have Sj:(b::(fl++gl).flatten).Nodup:=by rw[Ju];exact o9
   have Ud:=(sC.1 Sj).1
   have o_:∀b'∈(b::(fl++gl).flatten),∃k∈ks++ks',b'∈fp k:=fun b' bg=>by
    rw[Ju,<-VR,jE] at bg
    rcases bg with bg|bg
    ·obtain⟨k,hk,bg⟩:=MQ b' bg;exact⟨k,by simp[hk],bg⟩
    ·obtain⟨k,hk,bg⟩:=g3 b' bg;exact⟨k,by simp[hk],bg⟩
   have nI:=h.Dy ho hd (.arr ⟨τ,xs++zs⟩ true) (one (.ref (d,0) [])) (ks++ks') pall _ (.slice (some ⟨b,0,none⟩) (xs++zs).length cap) (b::(fl++gl).flatten) (w':=w1) (F':=F) nu (C4 F _)
    (fun bad=>eo.mU hb l_ hm tY zu ((jz.append g1).fC (fun b' bg=>⟨bg,yz b' (fun e=>Yt (e▸bg))⟩) (fun b' bg=>yz b' (fun e=>Ud (e▸bg)))))
    (fun b' bg=>⟨bg,yz b' (fun e=>Yt (e▸bg))⟩) (fun b' bg=> .inl bg) Gd Sj
    (fun b' bg=>by obtain⟨k,hk,bg⟩:=o_ b' bg;exact⟨Zj k hk b' bg,.inl ⟨k,hk,iN k hk,bg⟩⟩) oV
   exact hn _ _ _ _ _ (by rw[hd2];exact nI)
  |false=>
   have uT:∀b',(F b'\/b'∈fl.flatten\/∃k∈ks',b'∈fp k)->b'≠b:=by
    rintro b' (bg|bg|⟨k,hk,bg⟩) rfl
    ·exact Yt bg
    ·exact(sC.1 zv).1 bg
    ·obtain⟨e1,Sy⟩:=l6.1 (kx kb MS)
     obtain⟨e2,sJ⟩:=l6.1 (C9 k hk)
     exact h.apart kb k e1 e2 b' (O4.2.2 kb MS k hk) Sy sJ Gl bg
   obtain⟨gl,g1,g2⟩:=Sl
   have Ed:=jz.kB (F':=fun b'=>F b'\/b'∈fl.flatten\/∃k∈ks',b'∈fp k) (fun b' bg=> .inl bg) (fun b' bg=> .inr (.inl bg))
   have hr2:=g1.fC (w':=w) (F':=fun b'=>F b'\/b'∈fl.flatten\/∃k∈ks',b'∈fp k) (fun b' bg=>⟨bg.imp id .inr,rfl⟩) (by simp[g2])
   have hr3:=(Ed.append hr2).fC (w':=w1) (F':=fun b'=>F b'\/b'∈fl.flatten\/∃k∈ks',b'∈fp k) (fun b' bg=>⟨bg,yz b' (uT b' bg)⟩) (by simp[g2])
   have nq:=eo.mU hb l_ hm tY zu hr3
   rw[Ju,g2,ym] at nq
   have nI:=h.Dy ho hd (.arr ⟨τ,xs++zs⟩ false) (one (.ref (d,0) [])) (ks++ks') pall _ (.slice (some ⟨b,0,none⟩) (xs++zs).length cap) [b] (w':=w1) (F':=fun b'=>F b'\/b'∈fl.flatten\/∃k∈ks',b'∈fp k) nu (C4 _ _)
    (fun bad=>nq)
    (fun b' bg=>⟨.inl bg,yz b' (fun e=>Yt (e▸bg))⟩)
    (by
     rintro b' (bg|bg|⟨k,hk,bg⟩)
     ·exact .inl bg
     ·obtain⟨k,hk,bg⟩:=MQ b' (by simp[bg])
      exact .inr (.inl ⟨k,by simp[hk],kx k hk,bg⟩)
     ·exact .inr (.inl ⟨k,by simp[hk],C9 k hk,bg⟩))
    Gd (by simp)
    (fun b' bg=>by
     rw[mb.1 bg]
     exact⟨fun hf=>uT b hf rfl,.inl ⟨kb,by simp[MS],kx kb MS,Gl⟩⟩) oV
   exact hn _ _ _ _ _ (by rw[jR];exact nI)
 have ve:us.length=zs.length*U.wd τ:=by obtain⟨gl,g1,_⟩:=Sl;exact g1.1
 have Xl:∀u∈us,u.oneCell'=true:=by obtain⟨gl,g1,_⟩:=Sl;exact g1.fJ
 have C':(xs.length+zs.length)*i.bytes<=140737488355328:=by
  have:=Nat.mul_le_mul hle Uc
  omega
 by_cases dG:zs.length=0
 ·have OY:zs=[]:=Fy dG
  subst OY
  have vA:us=[]:=Fy (by simpa using ve)
  rcases Ls.rows with⟨h3,⟨Nh,h4⟩,h5⟩|⟨b,cap,cur,vs,fl,h3,h4,h5,h6,h7,h8,h9,rv⟩
  ·simp only at h3;subst h3
   have hr:=exec (v:=.slice Nh 0 0) (w1:=w) (by rw[h4];exact Rn w hu hi _ _ _ (by rw[vA] at rh;exact rh) (sB _))
   refine qZ hr ?_
   have nI:=h.Dy ho hd (.arr ⟨τ,[]⟩ (d1&&d2)) (one (.ref (d,0) [])) (ks++ks') pall (.slice Nh 0 0) (.slice Nh 0 0) [] (w':=w) (F':=F) nu
    (fun bad=>gP ⟨⟨rfl,trivial⟩,.inr (by simp only[RA,sE];rfl)⟩) (fun bad=> .inl ⟨rfl,⟨Nh,rfl⟩,rfl⟩) (fun b hb=>⟨hb,rfl⟩) (fun b hb=> .inl hb) (fun _ _ _ _ _ _=>rfl) (by simp) (by simp) (gq.refl _ _)
   exact hn _ _ _ _ _ nI
  ·simp only at h3 h4 h5 h7 h8 h9
   have hr:=exec (v:=.slice (some ⟨b,0,none⟩) xs.length cap) (w1:=w) (by rw[h3];exact Rn w hu hi _ _ _ (by rw[vA] at rh;exact rh) h5)
   refine qZ hr ?_
   have:=wW (b:=b) (cap:=cap) (cur':=cur) (vs:=vs) (fl:=fl) (w1:=w) h9 rv (fun _ _=>rfl) rfl rfl rfl rfl h4 (by simpa using h5) h6 h7 (by rw[vA,sR,sR];exact h8)
   simpa using this
 ·have XI:us.length=zs.length*i.size:=by rw[iL];exact ve
  have grown:∀(vs:List Value),vs.length=xs.length*U.wd τ->(d1=true->∃fl,eg E w F true τ xs vs fl/\fl.flatten.Nodup/\∀b∈fl.flatten,∃k∈ks,b∈fp k)->(∃fl,eg E w (FK F fp ks) false τ xs vs fl/\fl.flatten=[])->
    ∀FV:Nat,FV<xs.length+zs.length->(Builtin.append_ #[t,u] o.type #[a.eval s,a.eval x]).run E.P w=
     .ok (.slice (some ⟨w.heap.size,0,none⟩) (xs.length+zs.length) (grownCap w (xs.length+zs.length) FV e)) (w.drew.alloc (.cells (vs.toArray++us.toArray++Builtin.zeroCells z.cells (grownCap w (xs.length+zs.length) FV e-(xs.length+zs.length))) e))->
    o.wp E.P a w next Q:=by
   intro vs Ec h1 h2 FV hold iM
   refine qZ (exec iM) ?_
   have Yf:=grownCap_ge w (xs.length+zs.length) FV e
   have:=grow vs h1 h2 (cap:=grownCap w (xs.length+zs.length) FV e) (cur:=vs.toArray++us.toArray++Builtin.zeroCells z.cells (grownCap w (xs.length+zs.length) FV e-(xs.length+zs.length)))
    (w1:=w.drew.alloc (.cells (vs.toArray++us.toArray++Builtin.zeroCells z.cells (grownCap w (xs.length+zs.length) FV e-(xs.length+zs.length))) e))
    (fun b hb=>zS w.drew _ hb) ((gq.drew _ _).trans (gq.alloc _ _ _)) (by simp) (by rw[yA];exact heap_alloc_new w.drew _) (by simpa using Yf) (grownCap_le_maxLen w _ FV e (Kj hle))
    (by
     simp only[Array.size_append,Q8,size_zeroCells,MF,Ec,ve,<-x_]
     congr 1;omega)
    (by
     have zv:((xs++zs).length*U.wd τ)=(vs++us).length:=by simp[Ec,ve,x_]
     simp only[Array.toList_append,we]
     rw[<-we,zv]
     exact List.take_left)
   simpa using this
  rcases Ls.rows with⟨h3,⟨Nh,h4⟩,h5⟩|⟨b,cap,cur,vs,fl,h3,h4,h5,h6,h7,h8,h9,rv⟩
  ·simp only at h3;subst h3
   refine grown [] (by simp) (fun _=>⟨[],eg.nil,by simp,by simp⟩) ⟨[],eg.nil,rfl⟩ 0 (by omega) ?_
   rw[h4]
   simp only[ig,tH] at C' hle⊢
   cases Nh with
   |none=>
    have hr:=aav (ty:=o.type) w hu hi hz rh (by omega) (by omega) (by omega)
    simpa using hr
   |some a'=>
    have hr:=Ro (ty:=o.type) w hu hi hz a' 0 0 [] (by simp) (by simp) rh (by omega) (by omega) (growslice_fits (by omega) (by simpa using C'))
    simpa using hr
  ·simp only at h3 h4 h5 h7 h8 h9
   have Ec:vs.length=xs.length*U.wd τ:=h9.1
   by_cases wX:xs.length+zs.length<=cap
   ·have MX:xs.length*i.size+us.length<=cur.size:=by rw[XI,iL,h7,<-x_];exact ze _ wX
    have hr:=aau (ty:=o.type) w hu hi b xs.length cap cur (by rw[<-yA];exact h4) rh Xl wX MX
    rw[<-h3] at hr
    refine qZ (exec hr) ?_
    have:=wW (b:=b) (cap:=cap) (cur':=(cur.toList.take (xs.length*i.size)++us++cur.toList.drop (xs.length*i.size+us.length)).toArray) (vs:=vs) (fl:=fl)
     (w1:=w.setRow b (cur.toList.take (xs.length*i.size)++us++cur.toList.drop (xs.length*i.size+us.length)).toArray) h9 rv (fun b' bg=>setRow_other w b b' _ bg) (by simp) rfl rfl rfl (setRow_heap w b cur _ _ _ h4) (by simpa using wX) h6
     (by
      simp only[Q8,na,nE,Jt,D4]
      omega)
     (by
      have zv:((xs++zs).length*U.wd τ)=(vs++us).length:=by simp[Ec,ve,x_]
      rw[iL,h8,zv]
      exact List.take_left)
    simpa using this
   ·refine grown vs Ec (fun hd1=> ?_) ?_ cap (by omega) ?_
    ·subst hd1
     exact⟨fl,h9,by rw[rv] at zv;exact(sC.1 zv).2,fun b' bg=>MQ b' (by rw[rv];simp[bg])⟩
    ·exact⟨_,h9.kB (F':=FK F fp ks) (fun b hb=> .inl hb) (fun b' bg=> .inr (MQ b' (by rw[rv];simp[bg]))),ym _⟩
    ·rw[h3]
     refine Ro (ty:=o.type) w hu hi hz ⟨b,0,none⟩ xs.length cap vs (by rw[iL];exact Ec) (fun j u hu=> ?_) rh (by omega) (by omega) (growslice_fits (by omega) C')
     rw[Addr.add_mid,tH,cell_of_row w b _ cur _ (0,0) h4]
     rw[<-h8,oT] at hu
     split at hu
     ·simpa using hu
     ·cases hu
theorem ajP(hE:E.Ok)(h:cG E pm F kv fp σ a w){o:Oper}{d:Nat}(ho:o.dst=some d)(hd:d<σ.n){cl:Call}{t e:TypeId}{s x:Operand}(qB:o.op=.call cl)(gB:cl.callee=.builtin .append)
  (kG:cl.args.toList=[s,x]) (Ai:cl.argTypes.toList=[t,t]) {τ:U.Ty} (tt:E.elem t=some e) (hc:E.code e=some τ) {ss sx:SV U} {ys yx:AC U}
  (hs:RS E w F kv fp (bR σ) ss (a.eval s)) (Sg:tG ss=some ys) (hx:RS E w F kv fp (bR σ) sx (a.eval x)) (hsx:tG sx=some yx)
  {rs:List Key} {ps qs:List Prop} {xs zs:List (U.T τ)} {ks ks':List Key} {d1 d2:Bool} {pall:List Prop}
  (XC:tm τ (restrict σ.bH rs) ys=some (ps,xs,ks,d1)) (Iz:J_ τ (restrict σ.bH rs) yx=some (qs,zs,ks',d2)) (hp:∀p∈ps,p) (Gg:(ks++ks').Nodup) (hle:xs.length+zs.length<=4294967296)
  (nu:¬Names σ (d,0)) {next:Act->World->Prop} {Q:Exit->Act->World->Prop}
  (hn:∀F kv fp a' w',cG E pm F kv fp (AM.apply o ⟨some (one (.ref (d,0) [])),[(0,.arr ⟨τ,xs++zs⟩ (d1&&d2))],ks++ks',[],pall⟩ σ) a' w'->next a' w'):o.wp E.P a w next Q:=by
 obtain⟨am7,C9,ad,c,us,hvx,O',Sl,Sk⟩:=aic h Iz (kr hx hsx)
 have hu:=CH tt
 exact abi hE h ho hd qB gB kG Ai tt hc hs Sg XC C9 (by rw[hvx];exact Src.slice hu (by obtain⟨gl,g1,_⟩:=Sl;exact g1.1) Sk) O' Sl hp Gg hle nu hn
theorem aag{τ:U.Ty}{s:ByteArray}{ys:List (U.T τ)}(h:Ab τ s=some ys)(m:Bool):ys.length=s.size/\U.wd τ=1/\∃fl,eg E w F m τ ys (s.data.toList.map fun b=>Value.int .u8 (b.toNat:Int)) fl/\fl.flatten=[]:=by
 unfold Ab at h
 have h0:=dr h
 cases h0
 have hw:U.wd U.nR=1:=by rw[<-U.cY U.nR (U.ee U.nR),U.E_];rfl
 have tU:(s.data.toList.map fun b=>U.ofB (b.toNat:Int)).length=s.size:=by rw[uW];exact D4
 have aj1:(s.data.toList.map fun b=>Value.int .u8 (b.toNat:Int)).length=s.size:=by rw[uW];exact D4
 refine⟨tU,hw,List.replicate s.size [],⟨by rw[tU,aj1,hw,Nat.mul_one],by rw[tU,zee,hw,Nat.mul_one],fun i x j c hx hj=> ?_⟩,by simp⟩
 rw[mw] at hx
 cases hb:s.data.toList[i]? with
 |none=>rw[hb] at hx;cases hx
 |some b=>
  rw[hb] at hx
  simp only[D3,fM] at hx
  subst hx
  rw[U.E_,U.KV] at hj
  have hj0:j=0:=by
   cases j with
   |zero=>rfl
   |succ j=>simp at hj
  subst hj0
  simp only[tJ,fM] at hj
  subst hj
  have e1:i*U.wd U.nR+0=i:=by rw[hw];omega
  rw[e1]
  have e2:(s.data.toList.map fun b=>Value.int .u8 (b.toNat:Int)).getD i undef=.int .u8 (b.toNat:Int):=by
   rw[dB,mw,hb];rfl
  have e3:(List.replicate s.size ([]:List Nat)).getD i []=[]:=by
   rw[dB,zdz];split<;>rfl
  rw[e2,e3]
  exact .lit m _ ⟨rfl,by have:=b.toNat_lt;simp only[IntKind.min,IntKind.max,IntKind.signed,IntKind.bits,wb,if_false];omega⟩
theorem ajO(hE:E.Ok)(h:cG E pm F kv fp σ a w){o:Oper}{d:Nat}(ho:o.dst=some d)(hd:d<σ.n){cl:Call}{t u e:TypeId}{s x:Operand}(qB:o.op=.call cl)(gB:cl.callee=.builtin .append)
  (kG:cl.args.toList=[s,x]) (Ai:cl.argTypes.toList=[t,u]) {τ:U.Ty} (tt:E.elem t=some e) (hc:E.code e=some τ) {ss sx:SV U} {ys:AC U} {str:ByteArray}
  (hs:RS E w F kv fp (bR σ) ss (a.eval s)) (Sg:tG ss=some ys) (hx:RS E w F kv fp (bR σ) sx (a.eval x)) (hsx:ix sx=some (.string str)) (hu:E.P.underlying u=some .string)
  {rs:List Key} {ps:List Prop} {xs zs:List (U.T τ)} {ks:List Key} {d1:Bool} {pall:List Prop}
  (XC:tm τ (restrict σ.bH rs) ys=some (ps,xs,ks,d1)) (Iz:Ab τ str=some zs) (hp:∀p∈ps,p) (Gg:ks.Nodup) (hle:xs.length+zs.length<=4294967296)
  (nu:¬Names σ (d,0)) {next:Act->World->Prop} {Q:Exit->Act->World->Prop}
  (hn:∀F kv fp a' w',cG E pm F kv fp (AM.apply o ⟨some (one (.ref (d,0) [])),[(0,.arr ⟨τ,xs++zs⟩ d1)],ks,[],pall⟩ σ) a' w'->next a' w'):o.wp E.P a w next Q:=by
 have hv:=o6 hx hsx
 obtain⟨h1,h2,fl,h3,h4⟩:=aag (E:=E) (w:=w) (F:=F) Iz true
 obtain⟨_,_,gl,g3,g4⟩:=aag (E:=E) (w:=w) (F:=FK F fp []) Iz false
 refine abi (ks':=[]) (d2:=true) (zs:=zs) (us:=str.data.toList.map fun b=>Value.int .u8 (b.toNat:Int)) (pall:=pall) hE h ho hd qB gB kG Ai tt hc hs Sg XC (by simp) ?_ (fun _=>⟨fl,h3,by rw[h4];simp,by rw[h4];simp⟩) ⟨gl,g3,g4⟩ hp (by simpa using Gg) hle nu ?_
 ·rw[hv,h1,h2];exact Src.string hu str
 ·simpa using hn
end AM
