import Derived.Test.YtmcepppejchhkaaGreatDoorQAmOps6
namespace AM
set_option linter.unusedVariables false
open Go
variable{U:lQ}{E:Env U}{pm:Pm}
variable{F F':Nat->Prop}{kv:Key->Value}{fp:Key->List Nat}{σ:ak U}{a:Act}{w w':World}{bad:Key->Bool}
theorem eh{τ:U.Ty}{x:iE U}{ys:List (U.T τ)}(h:jo τ x=some ys):x=⟨τ,ys⟩:=by
 obtain⟨GI,xs⟩:=x
 unfold jo at h
 cases hd:U.deq GI τ with
 |isFalse he=>simp only[hd] at h;cases h
 |isTrue he=>
  simp only[hd] at h
  subst he
  cases h
  rfl
theorem Rp.S6{w:World}{F:Nat->Prop}{c:U.C}{v:Value}{l:List Nat}(h:Rp E w F false c v l):l=[]:=by
 generalize hm:false=m at h
 cases h with
 |lit=>rfl
 |nil=>rfl
 |shr=>rfl
 |own=>cases hm
theorem e9.LL{τ:U.Ty}{xs:List (U.T τ)}{vs:List Value}{fl:List (List Nat)}(h:e9 E w F false τ xs vs fl):fl.flatten=[]:=by
 refine List.flatten_eq_nil_iff.2 fun l hl=> ?_
 obtain⟨n,hn,rfl⟩:=sT hl
 have hw:=U.lq τ
 have hi:n/U.wd τ<xs.length:=(Nat.div_lt_iff_lt_mul hw).2 (by rw[<-h.2.1];exact hn)
 have hj:n%U.wd τ<U.wd τ:=Nat.mod_lt _ hw
 have:=h.2.2 (n/U.wd τ) xs[n/U.wd τ] (n%U.wd τ) ((U.enc τ xs[n/U.wd τ])[n%U.wd τ]'(by rw[U.dG];exact hj)) (fE hi) (fE _)
 have he:n/U.wd τ*U.wd τ+n%U.wd τ=n:=by rw[UL];exact Nat.div_add_mod n _
 rw[he,eV (l:=fl),fE hn] at this
 exact this.S6
structure Src(P:Program)(w:World)(u:TypeId)(x:Value)(size n:Nat)(us:List Value):Prop where
 ut:(∃e,P.underlying u=some (.slice e))\/P.underlying u=some .string
 len:∀w',(Builtin.lenOf x).run P w'=.ok n w'
 first:(Builtin.firstCells size n x).run P w=.ok us.toArray w
 S4:(Builtin.firstCells size n x).run P w.drew=.ok us.toArray w.drew
theorem U8{P:Program}(w:World){t u ty e:TypeId}{i:TypeInfo}(ht:P.underlying t=some (.slice e))(hi:P.info? e=some i)(base:Option Addr)(n cap:Nat){x:Value}(h:Src P w u x i.size 0 [])(hc:n<=cap):
  (Builtin.append_ #[t,u] ty #[.slice base n cap,x]).run P w=.ok (.slice base n cap) w:=by
 have hut:=h.ut
 have h1:=h.len
 have h2:=h.first
 rcases hut with⟨e',hu⟩|hu<;>cases base<;>simp[Builtin.append_,run_underlying ht,run_underlying hu,Go.sizeOf,typeInfo,hi,h1,hc,h2,storeCells]
theorem adg{P:Program}(w:World){t u ty e:TypeId}{i:TypeInfo}{z:Value}(ht:P.underlying t=some (.slice e))(hi:P.info? e=some i)(hz:i.zero=some z)
  {n:Nat} {us:List Value} {x:Value} (h:Src P w u x i.size n us)
  (h0:0<n) (h63:(n:Int)<=9223372036854775807) (h48:n*i.bytes<=281474976710656):
  (Builtin.append_ #[t,u] ty #[.slice none 0 0,x]).run P w=
   .ok (.slice (some ⟨w.heap.size,0,none⟩) n (grownCap w n 0 e)) (w.drew.alloc (.cells (us.toArray++Builtin.zeroCells z.cells (grownCap w n 0 e-n)) e)):=by
 have hut:=h.ut
 have h1:=h.len
 have h2:=h.S4
 have hn:n≠0:=by omega
 have abL:¬(9223372036854775807<(n:Int)):=by omega
 have abM:¬(281474976710656<Builtin.nextslicecap n 0*i.bytes):=by rw[nextslicecap_zero h0];omega
 rcases hut with⟨e',hu⟩|hu<;>simp[Builtin.append_,run_underlying ht,run_underlying hu,Go.sizeOf,typeInfo,zeroValue,hi,hz,h1,hn,abL,abM,Question.forced,run_firstCells_none,h2,newRow,grownCap]
theorem U9{P:Program}(w:World){t u ty e:TypeId}{i:TypeInfo}{z:Value}(ht:P.underlying t=some (.slice e))(hi:P.info? e=some i)(hz:i.zero=some z)
  (b:Addr) (qz BT:Nat) (VA:List Value) (hlo:VA.length=qz*i.size) (holds:∀j v,VA[j]? =some v->w.cell? (b.add j)=some v)
  {n:Nat} {us:List Value} {x:Value} (h:Src P w u x i.size n us)
  (hg:BT<qz+n) (h63:((qz+n:Nat):Int)<=9223372036854775807) (Qd:Builtin.nextslicecap (qz+n) BT*i.bytes<=281474976710656):
  (Builtin.append_ #[t,u] ty #[.slice (some b) qz BT,x]).run P w=
   .ok (.slice (some ⟨w.heap.size,0,none⟩) (qz+n) (grownCap w (qz+n) BT e))
    (w.drew.alloc (.cells (VA.toArray++us.toArray++Builtin.zeroCells z.cells (grownCap w (qz+n) BT e-(qz+n))) e)):=by
 have hut:=h.ut
 have h1:=h.len
 have h2:=h.S4
 have hn:¬(qz+n<=BT):=by omega
 have abL:¬(9223372036854775807<((qz:Int)+(n:Int))):=by omega
 have abM:¬(281474976710656<Builtin.nextslicecap (qz+n) BT*i.bytes):=by omega
 have Ly:=run_firstCells_some (P:=P) w.drew i.size qz b qz BT VA hlo (by simpa using holds)
 rcases hut with⟨e',hu⟩|hu<;>
   (simp[Builtin.append_,run_underlying ht,run_underlying hu,Go.sizeOf,typeInfo,zeroValue,hi,hz,h1,hn,abL,abM,Question.forced,h2,Ly,newRow,grownCap]
    congr 2
    apply Array.ext'
    simp[xU])
theorem adf{P:Program}(w:World){t u ty e:TypeId}{i:TypeInfo}(ht:P.underlying t=some (.slice e))(hi:P.info? e=some i)
  (g qz BT:Nat) (cur:Array Value) (hg:w.heap[g]? =some (.cells cur e (0,0)))
  {m:Nat} {us:List Value} {x:Value} (h:Src P w u x i.size m us) (h1:∀u∈us,u.oneCell'=true)
  (yJ:qz+m<=BT) (Qd:qz*i.size+us.length<=cur.size):
  (Builtin.append_ #[t,u] ty #[.slice (some ⟨g,0,none⟩) qz BT,x]).run P w=
   .ok (.slice (some ⟨g,0,none⟩) (qz+m) BT) (w.setRow g (cur.toList.take (qz*i.size)++us++cur.toList.drop (qz*i.size+us.length)).toArray):=by
 have hut:=h.ut
 have MG:=h.len
 have hf:=h.first
 have rh:=run_storeCells_at P g (qz*i.size) e us 0 cur w hg (by simpa using Qd) h1
 simp only[Kj] at rh
 rcases hut with⟨e',hu⟩|hu<;>simp[Builtin.append_,run_underlying ht,run_underlying hu,Go.sizeOf,typeInfo,hi,MG,yJ,hf,Addr.add_lit,rh]
theorem Src.slice{P:Program}{w:World}{t e:TypeId}(ht:P.underlying t=some (.slice e)){size n c:Nat}{ad:Option Addr}{us:List Value}(hl:us.length=n*size)
  (h:0<n->∃b off,ad=some ⟨b,off,none⟩/\∀i u,us[i]? =some u->w.cell? ⟨b,off+i,none⟩=some u):Src P w t (.slice ad n c) size n us:=by
 refine⟨.inl ⟨_,ht⟩,fun w'=>rfl,?_,?_⟩
 ·by_cases hn:0<n
  ·obtain⟨b,off,rfl,h2⟩:=h hn
   exact run_firstCells_some (P:=P) w size n ⟨b,off,none⟩ n c us hl (fun j u hu=>by rw[Addr.add_mid];exact h2 j u hu)
  ·have:n=0:=by omega
   subst this
   have:us=[]:=Gl (by simpa using hl)
   subst this
   cases ad<;>simp[Builtin.firstCells,loadCells,loadCellsFrom]
 ·by_cases hn:0<n
  ·obtain⟨b,off,rfl,h2⟩:=h hn
   exact run_firstCells_some (P:=P) w.drew size n ⟨b,off,none⟩ n c us hl (fun j u hu=>by rw[Addr.add_mid];exact h2 j u hu)
  ·have:n=0:=by omega
   subst this
   have:us=[]:=Gl (by simpa using hl)
   subst this
   cases ad<;>simp[Builtin.firstCells,loadCells,loadCellsFrom]
theorem Src.string{P:Program}{w:World}{u:TypeId}(hu:P.underlying u=some .string){size:Nat}(s:ByteArray):Src P w u (.string s) size s.size (s.data.toList.map fun b=>Value.int .u8 (b.toNat:Int)):=by
 have hx:(Array.map (fun b:UInt8=>Value.int IntKind.u8 (b.toNat:Int)) (s.extract 0 s.size).data)=(s.data.toList.map fun b=>Value.int .u8 (b.toNat:Int)).toArray:=by
  have:s.extract 0 s.size=s:=ByteArray.extract_zero_size
  rw[this]
  apply Array.ext'
  simp
 refine⟨.inr hu,fun w'=>rfl,?_,?_⟩
 ·simp only[Builtin.firstCells,hx];rfl
 ·simp only[Builtin.firstCells,hx];rfl
theorem alJ(h:cR E pm F kv fp σ a w){τ:U.Ty}{rs:List Key}{x:AC U}{v:Value}{ps:List Prop}{ys:List (U.T τ)}{ks:List Key}{d:Bool}
  (hn:Ih τ (restrict σ.bP rs) x=some (ps,ys,ks,d)) (hx:RD E w F kv fp (bY σ) x v):
  ks.Nodup/\(∀k∈ks,(σ.bP k).isSome=true)/\∃ad c us,v=.slice ad ys.length c/\
   (d=true->∃fl,e9 E w F true τ ys us fl/\fl.flatten.Nodup/\∀b∈fl.flatten,∃k∈ks,b∈fp k)/\
   (∃fl,e9 E w (FK F fp ks) false τ ys us fl/\fl.flatten=[])/\
   (0<ys.length->∃b off,ad=some ⟨b,off,none⟩/\∀i u,us[i]? =some u->w.cell? ⟨b,off+i,none⟩=some u):=by
 unfold Ih at hn
 split at hn
 ·cases hn
  obtain⟨ad,h1⟩:=cx hx rfl
  exact⟨by simp,by simp,ad,0,[],h1,fun _=>⟨[],e9.nil,by simp,by simp⟩,⟨[],e9.nil,rfl⟩,fun h=>by simp at h⟩
 ·rename_i k
  split at hn
  ·rename_i y d' he
   split at hn
   ·rename_i zs hz
    cases hn
    have:=eh hz
    subst this
    have fi:=kf he
    have h1:v=kv k:=cx hx rfl
    have h2:fe E w F d ⟨τ,ys⟩ (kv k) (fp k):=h.dD k _ fi
    rw[<-h1] at h2
    have qE:=h.nodup k _ fi
    rcases h2.rows with⟨h3,⟨ad,h4⟩,h5⟩|⟨b,cap,cur,vs,fl,h3,h4,h5,h6,h7,h8,h9,tC⟩
    ·simp only at h3;subst h3
     exact⟨by simp,by simp[fi],ad,0,[],h4,fun _=>⟨[],e9.nil,by simp,by simp⟩,⟨[],e9.nil,rfl⟩,fun h=>by simp at h⟩
    ·simp only at h3 h4 h5 h7 h8 h9
     rw[tC] at qE
     refine⟨by simp,by simp[fi],some ⟨b,0,none⟩,cap,vs,h3,fun hd=> ?_,?_,fun _=>⟨b,0,rfl,fun i u hu=> ?_⟩⟩
     ·subst hd
      exact⟨fl,h9,(ur.1 qE).2,fun b' bj=>⟨k,by simp,by rw[tC];simp[bj]⟩⟩
     ·exact⟨_,h9.lT (F':=FK F fp [k]) (fun b hb=> .inl hb) (fun b' bj=> .inr ⟨k,by simp,by rw[tC];simp[bj]⟩),An _⟩
     ·rw[<-h8,qy] at hu
      split at hu
      ·rw[cell_of_row w b _ cur _ (0,0) h4];simpa using hu
      ·cases hu
   ·cases hn
  ·cases hn
 ·rename_i GI ys'
  split at hn
  ·rename_i zs hz
   cases hn
   have:=eh hz
   cases this
   have h1:Rp E w F false _ _ _:=cx hx rfl
   have lits:U.flat τ=true->∀{F:Nat->Prop}{m:Bool}{x:U.T τ}{j:Nat}{c:U.C}{u:Value}{l:List Nat},(U.enc τ x)[j]? =some c->Rp E w F m c u l->Rp E w F true c u []:=by
    intro Cj F m x j c u l hj hr
    obtain⟨v,rfl⟩:=U.Ox τ Cj x c (GK hj)
    generalize hc:(Cell.lit v:U.C)=c at hr
    cases hr with
    |lit _ _ hv=>cases hc;exact .lit _ _ hv
    |nil=>cases hc
    |shr=>cases hc
    |own=>cases hc
   rcases h1.inv with⟨h0,ad,c,rfl⟩|⟨b,off,cap,vs,rfl,hF,hc,hv,hr⟩
   ·subst h0
    exact⟨by simp,by simp,ad,c,[],rfl,fun _=>⟨[],e9.nil,by simp,by simp⟩,⟨[],e9.nil,rfl⟩,fun h=>by simp at h⟩
   ·have kj:∀(m:Bool)(F':Nat->Prop),(∀i x j c,ys[i]? =some x->(U.enc τ x)[j]? =some c->Rp E w F' m c (vs (i*U.wd τ+j)) [])->e9 E w F' m τ ys ((List.range (ys.length*U.wd τ)).map vs) (List.replicate (ys.length*U.wd τ) []):=by
     intro m F' hh
     refine⟨by simp,by simp,fun i x j c hx hj=> ?_⟩
     have gy:=fS hx hj
     rw[H3,eV,nS,NU gy]
     exact hh i x j c hx hj
    refine⟨by simp,by simp,some ⟨b,off,none⟩,cap,(List.range (ys.length*U.wd τ)).map vs,rfl,fun hd=> ?_,?_,fun _=>⟨b,off,rfl,fun i u hu=> ?_⟩⟩
    ·exact⟨_,kj true F (fun i x j c hx hj=>lits hd hj (hr i x j c hx hj)),by rw[An];simp,by rw[An];simp⟩
    ·exact⟨_,kj false _ (fun i x j c hx hj=>(hr i x j c hx hj).fW (fun b hb=> .inl hb)),An _⟩
    ·rw[nS] at hu
     by_cases hi:i<ys.length*U.wd τ
     ·rw[NU hi] at hu
      cases hu
      exact hv i hi
     ·rw[ot (by simp;omega)] at hu;cases hu
  ·cases hn
 ·cases hn
theorem anm{x:AC U}{v:Value}{bad:Key->Bool}(h:RD E w F kv fp bad x v):RD E w F kv fp bad (acG x) v:=by
 cases x with
 |kn b τ xs=>
  refine⟨h.1,?_⟩
  rcases h.2 with g|g
  ·simp[iT] at g
  ·exact .inr g.1
 |c _=>exact h
 |e0=>exact h
 |ref _ _=>exact h
 |sub _ _ _ _=>exact h
 |l7 _ _ _ _ _=>exact h
 |kQ _ _=>exact h
 |ia _=>exact h
theorem alI(h:cR E pm F kv fp σ a w){τ:U.Ty}{rs:List Key}{x:AC U}{v:Value}{ps:List Prop}{ys:List (U.T τ)}{ks:List Key}{d:Bool}
  (hn:Nc τ (restrict σ.bP rs) x=some (ps,ys,ks,d)) (hx:RD E w F kv fp (bY σ) x v):
  ks.Nodup/\(∀k∈ks,(σ.bP k).isSome=true)/\∃ad c us,v=.slice ad ys.length c/\
   (d=true->∃fl,e9 E w F true τ ys us fl/\fl.flatten.Nodup/\∀b∈fl.flatten,∃k∈ks,b∈fp k)/\
   (∃fl,e9 E w (FK F fp ks) false τ ys us fl/\fl.flatten=[])/\
   (0<ys.length->∃b off,ad=some ⟨b,off,none⟩/\∀i u,us[i]? =some u->w.cell? ⟨b,off+i,none⟩=some u):=
 alJ h hn (anm hx)
theorem adu(h:cR E pm F kv fp σ a w){τ:U.Ty}{rs:List Key}{x:AC U}{v:Value}{ps:List Prop}{xs:List (U.T τ)}{ks:List Key}{d:Bool}
  (hn:vf τ (restrict σ.bP rs) x=some (ps,xs,ks,d)) (hp:∀p∈ps,p) (hx:RD E w F kv fp (bY σ) x v):
  ks.Nodup/\(∀k∈ks,(σ.bP k).isSome=true)/\∃l,fe E w F d ⟨τ,xs⟩ v l/\l.Nodup/\∀b∈l,∃k∈ks,b∈fp k:=by
 unfold vf at hn
 split at hn
 ·cases hn
  obtain⟨ad,h1⟩:=cx hx rfl
  exact⟨by simp,by simp,[],.inl ⟨rfl,⟨ad,h1⟩,rfl⟩,by simp,by simp⟩
 ·rename_i k
  split at hn
  ·rename_i y d' he
   split at hn
   ·rename_i zs hz
    cases hn
    have:=eh hz
    subst this
    have fi:=kf he
    have h1:v=kv k:=cx hx rfl
    subst h1
    exact⟨by simp,by simp[fi],fp k,h.dD k _ fi,h.nodup k _ fi,fun b hb=>⟨k,by simp,hb⟩⟩
   ·cases hn
  ·rename_i y dead he
   split at hn
   ·rename_i zs hz
    cases hn
    have:=eh hz
    subst this
    have fi:=kf he
    have h1:v=kv k:=cx hx rfl
    subst h1
    exact⟨by simp,by simp[fi],fp k,eK.own (h.dD k _ fi) (hp _ (by simp)),h.nodup k _ fi,fun b hb=>⟨k,by simp,hb⟩⟩
   ·cases hn
  ·cases hn
 ·rename_i k wd hi
  split at hn
  ·rename_i y d' he
   split at hn
   ·rename_i zs hz
    cases hn
    have:=eh hz
    subst this
    have fi:=kf he
    obtain⟨h1,_⟩:=cx hx rfl
    subst h1
    obtain⟨l,h3,h4⟩:=fe.take (wd:=wd) (hi:=hi) (h.dD k _ fi:fe E w F d ⟨τ,zs⟩ (kv k) (fp k)) (hp _ (by simp))
    exact⟨by simp,by simp[fi],l,h3,h4.nodup (h.nodup k _ fi),fun b hb=>⟨k,by simp,h4.subset hb⟩⟩
   ·cases hn
  ·cases hn
 ·cases hn
theorem ad5(hE:E.Ok)(h:cR E pm F kv fp σ a w){o:Oper}{d:Nat}(ho:o.dst=some d)(hd:d<σ.n){cl:Call}{t e:TypeId}{s x:Operand}(sR:o.op=.call cl)(ix:cl.callee=.builtin .append)
  (l5:cl.args.toList=[s,x]) {u:TypeId} (Ce:cl.argTypes.toList=[t,u]) {τ:U.Ty} (vj:E.elem t=some e) (hc:E.code e=some τ) {ss:SV U} {ys:AC U}
  (hs:RS E w F kv fp (bY σ) ss (a.eval s)) (V2:vx ss=some ys)
  {rs:List Key} {ps:List Prop} {xs zs:List (U.T τ)} {ks ks':List Key} {d1 d2:Bool} {pall:List Prop} {us:List Value}
  (ho1:vf τ (restrict σ.bP rs) ys=some (ps,xs,ks,d1)) (Fa:∀k∈ks',(σ.bP k).isSome=true) (tt:Src E.P w u (a.eval x) (U.wd τ) zs.length us)
  (Su:d2=true->∃fl,e9 E w F true τ zs us fl/\fl.flatten.Nodup/\∀b∈fl.flatten,∃k∈ks',b∈fp k) (V6:∃fl,e9 E w (FK F fp ks') false τ zs us fl/\fl.flatten=[]) (hp:∀p∈ps,p) (Ix:(ks++ks').Nodup) (hle:xs.length+zs.length<=4294967296)
  (oG:¬Names σ (d,0)) {next:Act->World->Prop} {Q:Exit->Act->World->Prop}
  (hn:∀F kv fp a' w',cR E pm F kv fp (AM.apply o ⟨some (one (.ref (d,0) [])),[(0,.arr ⟨τ,xs++zs⟩ (d1&&d2))],ks++ks',[],pall⟩ σ) a' w'->next a' w'):o.wp E.P a w next Q:=by
 obtain⟨Ax,i,z,hi,hz,jy,PV,XN,_⟩:=hE.code e τ hc
 have hu:=EG vj
 have hw:=U.lq τ
 obtain⟨AB,lH,l,Ot,Bz,P8⟩:=adu h ho1 hp (lD hs V2)
 rw[<-jy] at tt
 have jA:∀k∈ks++ks',(σ.bP k).isSome=true:=fun k hk=>(jI.1 hk).elim (lH k) (Fa k)
 have So:=Ix
 rw[rV] at So
 have exec:∀{v w1},(Builtin.append_ #[t,u] o.type #[a.eval s,a.eval x]).run E.P w=.ok v w1->(execOp a.eval o).run E.P w=.ok (.value v) w1:=by
  intro v w1 hr
  have ha:cl.args= #[s,x]:=Ao l5
  have ht:cl.argTypes= #[t,u]:=Ao Ce
  unfold execOp;simp only[sR]
  simp[resolve,ix,ha,ht,invoke,builtin,hr]
 have Nq:∀{n:Nat},n<=4294967296->n<=maxLen:=fun hh=>by simp only[maxLen];omega
 have Qg:∀k∈ks++ks',∀b∈fp k,b<w.heap.size:=fun k hk b hb=>by
  obtain⟨e,he⟩:=nA.1 (jA k hk)
  exact H4 h he hb
 have hnF:∀k∈ks++ks',∀b∈fp k,¬F b:=fun k hk b hb=>by
  obtain⟨e,he⟩:=nA.1 (jA k hk)
  exact(h.fT k e b he hb).1
 have hWb:∀k∈ks++ks',∀b∈fp k,pm.W b\/pm.w0.heap.size<=b:=fun k hk b hb=>by
  obtain⟨e,he⟩:=nA.1 (jA k hk)
  exact(h.fT k e b he hb).2.1
 have grow:∀(vs:List Value),(d1=true->∃fl,e9 E w F true τ xs vs fl/\fl.flatten.Nodup/\∀b∈fl.flatten,∃k∈ks,b∈fp k)->(∃fl,e9 E w (FK F fp ks) false τ xs vs fl/\fl.flatten=[])->
   ∀{cap:Nat}{cur:Array Value}{w1:World},(∀b,b<w.heap.size->w1.heap[b]? =w.heap[b]?)->ic (fun b=>pm.W b\/pm.w0.heap.size<=b) w w1->w.heap.size<w1.heap.size->
   w1.heap[w.heap.size]? =some (.cells cur (E.tid τ) (0,0))->(xs++zs).length<=cap->cap<=maxLen->cur.size=cap*U.wd τ->cur.toList.take ((xs++zs).length*U.wd τ)=vs++us->
   next (a.put o.dst (.slice (some ⟨w.heap.size,0,none⟩) (xs++zs).length cap)) w1:=by
  intro vs h1 h2 cap cur w1 Aw qw vQ hb nC hm vU Bx
  obtain⟨F',kv',fp',pf⟩:=aal h ho hd oG (τ:=τ) (rows:=xs++zs) (ks:=ks++ks') (dp:=d1&&d2) (ps:=pall) (vs:=vs++us) Ix jA
   (fun kM=>by
    simp only[cN] at kM
    obtain⟨fl,f1,f2,f3⟩:=h1 kM.1
    obtain⟨gl,g1,g2,g3⟩:=Su kM.2
    refine⟨fl++gl,f1.append g1,by rw[Mz];exact Vw h Ix lH Fa f3 g3 f2 g2,fun b hb=> ?_⟩
    rw[Mz,jI] at hb
    rcases hb with hb|hb
    ·obtain⟨k,hk,hb⟩:=f3 b hb;exact⟨k,by simp[hk],hb⟩
    ·obtain⟨k,hk,hb⟩:=g3 b hb;exact⟨k,by simp[hk],hb⟩)
   (by
    obtain⟨fl,f1,f2⟩:=h2
    obtain⟨gl,g1,g2⟩:=V6
    exact⟨fl++gl,(f1.gv (fun b hb=>⟨H8 (fun k hk=>by simp[hk]) hb,rfl⟩) (by simp[f2])).append (g1.gv (fun b hb=>⟨H8 (fun k hk=>by simp[hk]) hb,rfl⟩) (by simp[g2])),by rw[Mz,f2,g2];rfl⟩)
   Aw qw vQ hb nC hm vU Bx
  exact hn F' kv' fp' _ _ pf
 have yI:∀{b cap:Nat}{cur':Array Value}{vs:List Value}{fl:List (List Nat)}{w1:World},e9 E w F d1 τ xs vs fl->l=b::fl.flatten->(∀b',b'≠b->w1.heap[b']? =w.heap[b']?)->w1.heap.size=w.heap.size->
   w1.os=w.os->w1.tape=w.tape->w1.output=w.output->w1.heap[b]? =some (.cells cur' (E.tid τ) (0,0))->(xs++zs).length<=cap->cap<=maxLen->cur'.size=cap*U.wd τ->cur'.toList.take ((xs++zs).length*U.wd τ)=vs++us->
   next (a.put o.dst (.slice (some ⟨b,0,none⟩) (xs++zs).length cap)) w1:=by
  intro b cap cur' vs fl w1 kj hl Aw vQ hos htp xp hb nC hm vU Bx
  subst hl
  have iW:∃k∈ks,b∈fp k:=P8 b (by simp)
  obtain⟨kb,P',IC⟩:=iW
  have hbF:¬F b:=hnF kb (by simp[P']) b IC
  have qw:ic (fun b=>pm.W b\/pm.w0.heap.size<=b) w w1:=⟨hos,htp,xp,by omega,fun k hk Lu=>Aw k (fun e=>Lu (e▸hWb kb (by simp[P']) b IC))⟩
  have E5:∀(F':Nat->Prop)(Bq:List Nat) bad,RS E w1 F' (dJ kv (d,0) (.slice (some ⟨b,0,none⟩) (xs++zs).length cap)) (dJ fp (d,0) Bq) bad (one (.ref (d,0) [])) (.slice (some ⟨b,0,none⟩) (xs++zs).length cap):=
   fun F' Bq bad=>iD ⟨⟨rfl,trivial⟩,.inr (by simp only[RA,uw];rfl)⟩
  have Iu:∀k e,k∉ks++ks'->σ.bP k=some e->∀b'∈fp k,w1.heap[b']? =w.heap[b']? :=fun k e hk he b' bj=>Aw b' (fun e'=>by
   subst e'
   obtain⟨eb,heb⟩:=nA.1 (lH kb P')
   exact h.apart kb k eb e b' (fun e'=>hk (by subst e';simp[P'])) heb he IC bj)
  cases kM:(d1&&d2) with
  |true=>
   simp only[cN] at kM
   obtain⟨rfl,hd2⟩:=kM
   obtain⟨gl,g1,g2,g3⟩:=Su hd2
   have qE:((b::fl.flatten)++gl.flatten).Nodup:=Vw h Ix lH Fa P8 g3 Bz g2
   have V4:(b::(fl++gl).flatten).Nodup:=by rw[Mz];exact qE
   have XO:=(ur.1 V4).1
   have qG:∀b'∈(b::(fl++gl).flatten),∃k∈ks++ks',b'∈fp k:=fun b' bj=>by
    rw[Mz,<-zex,jI] at bj
    rcases bj with bj|bj
    ·obtain⟨k,hk,bj⟩:=P8 b' bj;exact⟨k,by simp[hk],bj⟩
    ·obtain⟨k,hk,bj⟩:=g3 b' bj;exact⟨k,by simp[hk],bj⟩
   have pf:=h.FO ho hd (.arr ⟨τ,xs++zs⟩ true) (one (.ref (d,0) [])) (ks++ks') pall _ (.slice (some ⟨b,0,none⟩) (xs++zs).length cap) (b::(fl++gl).flatten) (w':=w1) (F':=F) oG (E5 F _)
    (fun bad=>fe.og hb nC hm vU Bx ((kj.append g1).gv (fun b' bj=>⟨bj,Aw b' (fun e=>hbF (e▸bj))⟩) (fun b' bj=>Aw b' (fun e=>XO (e▸bj)))))
    (fun b' bj=>⟨bj,Aw b' (fun e=>hbF (e▸bj))⟩) (fun b' bj=> .inl bj) Iu V4
    (fun b' bj=>by obtain⟨k,hk,bj⟩:=qG b' bj;exact⟨hnF k hk b' bj,.inl ⟨k,hk,jA k hk,bj⟩⟩) qw
   exact hn _ _ _ _ _ (by rw[hd2];exact pf)
  |false=>
   have wO:∀b',(F b'\/b'∈fl.flatten\/∃k∈ks',b'∈fp k)->b'≠b:=by
    rintro b' (bj|bj|⟨k,hk,bj⟩) rfl
    ·exact hbF bj
    ·exact(ur.1 Bz).1 bj
    ·obtain⟨e1,Wg⟩:=nA.1 (lH kb P')
     obtain⟨e2,uB⟩:=nA.1 (Fa k hk)
     exact h.apart kb k e1 e2 b' (So.2.2 kb P' k hk) Wg uB IC bj
   obtain⟨gl,g1,g2⟩:=V6
   have Gy:=kj.lT (F':=fun b'=>F b'\/b'∈fl.flatten\/∃k∈ks',b'∈fp k) (fun b' bj=> .inl bj) (fun b' bj=> .inr (.inl bj))
   have hr2:=g1.gv (w':=w) (F':=fun b'=>F b'\/b'∈fl.flatten\/∃k∈ks',b'∈fp k) (fun b' bj=>⟨bj.imp id .inr,rfl⟩) (by simp[g2])
   have hr3:=(Gy.append hr2).gv (w':=w1) (F':=fun b'=>F b'\/b'∈fl.flatten\/∃k∈ks',b'∈fp k) (fun b' bj=>⟨bj,Aw b' (wO b' bj)⟩) (by simp[g2])
   have oB:=fe.og hb nC hm vU Bx hr3
   rw[Mz,g2,An] at oB
   have pf:=h.FO ho hd (.arr ⟨τ,xs++zs⟩ false) (one (.ref (d,0) [])) (ks++ks') pall _ (.slice (some ⟨b,0,none⟩) (xs++zs).length cap) [b] (w':=w1) (F':=fun b'=>F b'\/b'∈fl.flatten\/∃k∈ks',b'∈fp k) oG (E5 _ _)
    (fun bad=>oB)
    (fun b' bj=>⟨.inl bj,Aw b' (fun e=>hbF (e▸bj))⟩)
    (by
     rintro b' (bj|bj|⟨k,hk,bj⟩)
     ·exact .inl bj
     ·obtain⟨k,hk,bj⟩:=P8 b' (by simp[bj])
      exact .inr (.inl ⟨k,by simp[hk],lH k hk,bj⟩)
     ·exact .inr (.inl ⟨k,by simp[hk],Fa k hk,bj⟩))
    Iu (by simp)
    (fun b' bj=>by
     rw[mW.1 bj]
     exact⟨fun hf=>wO b hf rfl,.inl ⟨kb,by simp[P'],lH kb P',IC⟩⟩) qw
   exact hn _ _ _ _ _ (by rw[kM];exact pf)
 have w5:us.length=zs.length*U.wd τ:=by obtain⟨gl,g1,_⟩:=V6;exact g1.1
 have aaT:∀u∈us,u.oneCell'=true:=by obtain⟨gl,g1,_⟩:=V6;exact g1.gF
 have Fb:(xs.length+zs.length)*i.bytes<=140737488355328:=by
  have:=Nat.mul_le_mul hle XN
  omega
 by_cases ey:zs.length=0
 ·have Si:zs=[]:=Gl ey
  subst Si
  have xo:us=[]:=Gl (by simpa using w5)
  rcases Ot.rows with⟨h3,⟨QD,h4⟩,h5⟩|⟨b,cap,cur,vs,fl,h3,h4,h5,h6,h7,h8,h9,tC⟩
  ·simp only at h3;subst h3
   have hr:=exec (v:=.slice QD 0 0) (w1:=w) (by rw[h4];exact U8 w hu hi _ _ _ (by rw[xo] at tt;exact tt) (uh _))
   refine te hr ?_
   have pf:=h.FO ho hd (.arr ⟨τ,[]⟩ (d1&&d2)) (one (.ref (d,0) [])) (ks++ks') pall (.slice QD 0 0) (.slice QD 0 0) [] (w':=w) (F':=F) oG
    (fun bad=>iD ⟨⟨rfl,trivial⟩,.inr (by simp only[RA,uw];rfl)⟩) (fun bad=> .inl ⟨rfl,⟨QD,rfl⟩,rfl⟩) (fun b hb=>⟨hb,rfl⟩) (fun b hb=> .inl hb) (fun _ _ _ _ _ _=>rfl) (by simp) (by simp) (ic.refl _ _)
   exact hn _ _ _ _ _ pf
  ·simp only at h3 h4 h5 h7 h8 h9
   have hr:=exec (v:=.slice (some ⟨b,0,none⟩) xs.length cap) (w1:=w) (by rw[h3];exact U8 w hu hi _ _ _ (by rw[xo] at tt;exact tt) h5)
   refine te hr ?_
   have:=yI (b:=b) (cap:=cap) (cur':=cur) (vs:=vs) (fl:=fl) (w1:=w) h9 tC (fun _ _=>rfl) rfl rfl rfl rfl h4 (by simpa using h5) h6 h7 (by rw[xo,uJ,uJ];exact h8)
   simpa using this
 ·have aa8:us.length=zs.length*i.size:=by rw[jy];exact w5
  have grown:∀(vs:List Value),vs.length=xs.length*U.wd τ->(d1=true->∃fl,e9 E w F true τ xs vs fl/\fl.flatten.Nodup/\∀b∈fl.flatten,∃k∈ks,b∈fp k)->(∃fl,e9 E w (FK F fp ks) false τ xs vs fl/\fl.flatten=[])->
    ∀Ic:Nat,Ic<xs.length+zs.length->(Builtin.append_ #[t,u] o.type #[a.eval s,a.eval x]).run E.P w=
     .ok (.slice (some ⟨w.heap.size,0,none⟩) (xs.length+zs.length) (grownCap w (xs.length+zs.length) Ic e)) (w.drew.alloc (.cells (vs.toArray++us.toArray++Builtin.zeroCells z.cells (grownCap w (xs.length+zs.length) Ic e-(xs.length+zs.length))) e))->
    o.wp E.P a w next Q:=by
   intro vs Gx h1 h2 Ic hold jz
   refine te (exec jz) ?_
   have hge:=grownCap_ge w (xs.length+zs.length) Ic e
   have:=grow vs h1 h2 (cap:=grownCap w (xs.length+zs.length) Ic e) (cur:=vs.toArray++us.toArray++Builtin.zeroCells z.cells (grownCap w (xs.length+zs.length) Ic e-(xs.length+zs.length)))
    (w1:=w.drew.alloc (.cells (vs.toArray++us.toArray++Builtin.zeroCells z.cells (grownCap w (xs.length+zs.length) Ic e-(xs.length+zs.length))) e))
    (fun b hb=>BW w.drew _ hb) ((ic.drew _ _).trans (ic.alloc _ _ _)) (by simp) (by rw[Ax];exact heap_alloc_new w.drew _) (by simpa using hge) (grownCap_le_maxLen w _ Ic e (Nq hle))
    (by
     simp only[Array.size_append,UN,size_zeroCells,PV,Gx,w5,<-xT]
     congr 1;omega)
    (by
     have Bz:((xs++zs).length*U.wd τ)=(vs++us).length:=by simp[Gx,w5,xT]
     simp only[Array.toList_append,xU]
     rw[<-xU,Bz]
     exact List.take_left)
   simpa using this
  rcases Ot.rows with⟨h3,⟨QD,h4⟩,h5⟩|⟨b,cap,cur,vs,fl,h3,h4,h5,h6,h7,h8,h9,tC⟩
  ·simp only at h3;subst h3
   refine grown [] (by simp) (fun _=>⟨[],e9.nil,by simp,by simp⟩) ⟨[],e9.nil,rfl⟩ 0 (by omega) ?_
   rw[h4]
   simp only[fz,vB] at Fb hle⊢
   cases QD with
   |none=>
    have hr:=adg (ty:=o.type) w hu hi hz tt (by omega) (by omega) (by omega)
    simpa using hr
   |some a'=>
    have hr:=U9 (ty:=o.type) w hu hi hz a' 0 0 [] (by simp) (by simp) tt (by omega) (by omega) (growslice_fits (by omega) (by simpa using Fb))
    simpa using hr
  ·simp only at h3 h4 h5 h7 h8 h9
   have Gx:vs.length=xs.length*U.wd τ:=h9.1
   by_cases yJ:xs.length+zs.length<=cap
   ·have Qd:xs.length*i.size+us.length<=cur.size:=by rw[aa8,jy,h7,<-xT];exact Be _ yJ
    have hr:=adf (ty:=o.type) w hu hi b xs.length cap cur (by rw[<-Ax];exact h4) tt aaT yJ Qd
    rw[<-h3] at hr
    refine te (exec hr) ?_
    have:=yI (b:=b) (cap:=cap) (cur':=(cur.toList.take (xs.length*i.size)++us++cur.toList.drop (xs.length*i.size+us.length)).toArray) (vs:=vs) (fl:=fl)
     (w1:=w.setRow b (cur.toList.take (xs.length*i.size)++us++cur.toList.drop (xs.length*i.size+us.length)).toArray) h9 tC (fun b' bj=>setRow_other w b b' _ bj) (by simp) rfl rfl rfl (setRow_heap w b cur _ _ _ h4) (by simpa using yJ) h6
     (by
      simp only[UN,kF,oq,My,Gk]
      omega)
     (by
      have Bz:((xs++zs).length*U.wd τ)=(vs++us).length:=by simp[Gx,w5,xT]
      rw[jy,h8,Bz]
      exact List.take_left)
    simpa using this
   ·refine grown vs Gx (fun hd1=> ?_) ?_ cap (by omega) ?_
    ·subst hd1
     exact⟨fl,h9,by rw[tC] at Bz;exact(ur.1 Bz).2,fun b' bj=>P8 b' (by rw[tC];simp[bj])⟩
    ·exact⟨_,h9.lT (F':=FK F fp ks) (fun b hb=> .inl hb) (fun b' bj=> .inr (P8 b' (by rw[tC];simp[bj]))),An _⟩
    ·rw[h3]
     refine U9 (ty:=o.type) w hu hi hz ⟨b,0,none⟩ xs.length cap vs (by rw[jy];exact Gx) (fun j u hu=> ?_) tt (by omega) (by omega) (growslice_fits (by omega) Fb)
     rw[Addr.add_mid,vB,cell_of_row w b _ cur _ (0,0) h4]
     rw[<-h8,qy] at hu
     split at hu
     ·simpa using hu
     ·cases hu
theorem anj(hE:E.Ok)(h:cR E pm F kv fp σ a w){o:Oper}{d:Nat}(ho:o.dst=some d)(hd:d<σ.n){cl:Call}{t e:TypeId}{s x:Operand}(sR:o.op=.call cl)(ix:cl.callee=.builtin .append)
  (l5:cl.args.toList=[s,x]) (Ce:cl.argTypes.toList=[t,t]) {τ:U.Ty} (vj:E.elem t=some e) (hc:E.code e=some τ) {ss sx:SV U} {ys yx:AC U}
  (hs:RS E w F kv fp (bY σ) ss (a.eval s)) (V2:vx ss=some ys) (hx:RS E w F kv fp (bY σ) sx (a.eval x)) (hsx:vx sx=some yx)
  {rs:List Key} {ps qs:List Prop} {xs zs:List (U.T τ)} {ks ks':List Key} {d1 d2:Bool} {pall:List Prop}
  (ho1:vf τ (restrict σ.bP rs) ys=some (ps,xs,ks,d1)) (Lt:Nc τ (restrict σ.bP rs) yx=some (qs,zs,ks',d2)) (hp:∀p∈ps,p) (Ix:(ks++ks').Nodup) (hle:xs.length+zs.length<=4294967296)
  (oG:¬Names σ (d,0)) {next:Act->World->Prop} {Q:Exit->Act->World->Prop}
  (hn:∀F kv fp a' w',cR E pm F kv fp (AM.apply o ⟨some (one (.ref (d,0) [])),[(0,.arr ⟨τ,xs++zs⟩ (d1&&d2))],ks++ks',[],pall⟩ σ) a' w'->next a' w'):o.wp E.P a w next Q:=by
 obtain⟨aqF,Fa,ad,c,us,hvx,Su,V6,V5⟩:=alI h Lt (lD hx hsx)
 have hu:=EG vj
 exact ad5 hE h ho hd sR ix l5 Ce vj hc hs V2 ho1 Fa (by rw[hvx];exact Src.slice hu (by obtain⟨gl,g1,_⟩:=V6;exact g1.1) V5) Su V6 hp Ix hle oG hn
theorem ac1{τ:U.Ty}{s:ByteArray}{ys:List (U.T τ)}(h:B8 τ s=some ys)(m:Bool):ys.length=s.size/\U.wd τ=1/\∃fl,e9 E w F m τ ys (s.data.toList.map fun b=>Value.int .u8 (b.toNat:Int)) fl/\fl.flatten=[]:=by
 unfold B8 at h
 have h0:=eh h
 cases h0
 have hw:U.wd U.pB=1:=by rw[<-U.dG U.pB (U.ff U.pB),U.Hu];rfl
 have vQ:(s.data.toList.map fun b=>U.ofB (b.toNat:Int)).length=s.size:=by rw[wP];exact Gk
 have anv:(s.data.toList.map fun b=>Value.int .u8 (b.toNat:Int)).length=s.size:=by rw[wP];exact Gk
 refine⟨vQ,hw,List.replicate s.size [],⟨by rw[vQ,anv,hw,Nat.mul_one],by rw[vQ,zee,hw,Nat.mul_one],fun i x j c hx hj=> ?_⟩,by simp⟩
 rw[nS] at hx
 cases hb:s.data.toList[i]? with
 |none=>rw[hb] at hx;cases hx
 |some b=>
  rw[hb] at hx
  simp only[Gj,gI] at hx
  subst hx
  rw[U.Hu,U.N0] at hj
  have hj0:j=0:=by
   cases j with
   |zero=>rfl
   |succ j=>simp at hj
  subst hj0
  simp only[vF,gI] at hj
  subst hj
  have e1:i*U.wd U.pB+0=i:=by rw[hw];omega
  rw[e1]
  have e2:(s.data.toList.map fun b=>Value.int .u8 (b.toNat:Int)).getD i undef=.int .u8 (b.toNat:Int):=by
   rw[eV,nS,hb];rfl
  have e3:(List.replicate s.size ([]:List Nat)).getD i []=[]:=by
   rw[eV,zdz];split<;>rfl
  rw[e2,e3]
  exact .lit m _ ⟨rfl,by have:=b.toNat_lt;simp only[IntKind.min,IntKind.max,IntKind.signed,IntKind.bits,xS,if_false];omega⟩
theorem ani(hE:E.Ok)(h:cR E pm F kv fp σ a w){o:Oper}{d:Nat}(ho:o.dst=some d)(hd:d<σ.n){cl:Call}{t u e:TypeId}{s x:Operand}(sR:o.op=.call cl)(ix:cl.callee=.builtin .append)
  (l5:cl.args.toList=[s,x]) (Ce:cl.argTypes.toList=[t,u]) {τ:U.Ty} (vj:E.elem t=some e) (hc:E.code e=some τ) {ss sx:SV U} {ys:AC U} {str:ByteArray}
  (hs:RS E w F kv fp (bY σ) ss (a.eval s)) (V2:vx ss=some ys) (hx:RS E w F kv fp (bY σ) sx (a.eval x)) (hsx:ji sx=some (.string str)) (hu:E.P.underlying u=some .string)
  {rs:List Key} {ps:List Prop} {xs zs:List (U.T τ)} {ks:List Key} {d1:Bool} {pall:List Prop}
  (ho1:vf τ (restrict σ.bP rs) ys=some (ps,xs,ks,d1)) (Lt:B8 τ str=some zs) (hp:∀p∈ps,p) (Ix:ks.Nodup) (hle:xs.length+zs.length<=4294967296)
  (oG:¬Names σ (d,0)) {next:Act->World->Prop} {Q:Exit->Act->World->Prop}
  (hn:∀F kv fp a' w',cR E pm F kv fp (AM.apply o ⟨some (one (.ref (d,0) [])),[(0,.arr ⟨τ,xs++zs⟩ d1)],ks,[],pall⟩ σ) a' w'->next a' w'):o.wp E.P a w next Q:=by
 have hv:=qB hx hsx
 obtain⟨h1,h2,fl,h3,h4⟩:=ac1 (E:=E) (w:=w) (F:=F) Lt true
 obtain⟨_,_,gl,g3,g4⟩:=ac1 (E:=E) (w:=w) (F:=FK F fp []) Lt false
 refine ad5 (ks':=[]) (d2:=true) (zs:=zs) (us:=str.data.toList.map fun b=>Value.int .u8 (b.toNat:Int)) (pall:=pall) hE h ho hd sR ix l5 Ce vj hc hs V2 ho1 (by simp) ?_ (fun _=>⟨fl,h3,by rw[h4];simp,by rw[h4];simp⟩) ⟨gl,g3,g4⟩ hp (by simpa using Ix) hle oG ?_
 ·rw[hv,h1,h2];exact Src.string hu str
 ·simpa using hn
end AM
