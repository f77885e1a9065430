import Derived.Test.YthciaocifglggaaGreatDoorQAmOps4
namespace AM
set_option linter.unusedVariables false
open Go
variable{U:kz}{E:Env U}{pm:Pm}
variable{F:Nat->Prop}{kv:Key->Value}{fp:Key->List Nat}{σ:af U}{a:Act}{w:World}{bad:Key->Bool}
theorem wT{α:Type}{as:Array α}{l:List α}(h:as.toList=l):as=l.toArray:=by rw[<-h]
theorem AL{t e:TypeId}(h:E.elem t=some e):E.P.underlying t=some (.slice e):=by
 unfold Env.elem at h
 split at h
 ·rename_i e' hu;cases h;exact hu
 ·cases h
theorem nY{t:TypeId}{m:Nat}(h:(E.elem t).bind E.size=some m):∃e i,E.P.underlying t=some (.slice e)/\E.P.info? e=some i/\i.size=m:=by
 cases he:E.elem t with
 |none=>rw[he] at h;cases h
 |some e=>
  rw[he] at h
  simp only[Option.bind_some,Env.size] at h
  cases hi:E.P.info? e with
  |none=>rw[hi] at h;cases h
  |some i=>rw[hi] at h;simp only[B5,fJ] at h;exact⟨e,i,AL he,hi,h⟩
theorem Wr{t e:TypeId}{i:TypeInfo}{b off len cap:Nat}{k:IntKind}{n:Int}(hu:E.P.underlying t=some (.slice e))(hi:E.P.info? e=some i)(h1:0<=n)(h2:n.toNat<len):
  (Instr.indexAt t (.slice (some ⟨b,off,none⟩) len cap) (.int k n)).run E.P w=.ok (.pointer (some ⟨b,off+n.toNat*i.size,none⟩)) w:=by
 have h3:0<=n/\n<(len:Int):=⟨h1,by omega⟩
 simp[Instr.indexAt,asIntOf,run_underlying hu,Go.sizeOf,typeInfo,hi,h3,Addr.add_mid]
theorem akA{o:Oper}{t:TypeId}{x y:Operand}{sx sy:SV U}{τ:U.Ty}{ys:List (U.T τ)}{k:IntKind}{n:Int}{m:Nat}(ho:o.op=.indexAddr t x y)
  (hx:RS E w F kv fp bad sx (a.eval x)) (hc:sr sx=some (.c (.sl τ ys))) (hy:RS E w F kv fp bad sy (a.eval y)) (hl:iC sy=some (.int k n)) (hm:(E.elem t).bind E.size=some m) (hw:m=U.wd τ)
  (h1:0<=n) (h2:n.toNat<ys.length):cv E F kv fp bad a w o (one (.ia (U.enc τ (ys.getD n.toNat (U.eP τ))))):=by
 obtain⟨e,i,hu,hi,hs⟩:=nY hm
 have h3:=og hy hl
 rcases(cn (kt hx hc) rfl:Rp E w F false _ _ _).inv with⟨h0,_⟩|⟨b,off,cap,vs,h4,hF,w8,hv,hr⟩
 ·rw[h0] at h2;simp at h2
 ·have tE:=eH (d:=U.eP τ) h2
  refine⟨.pointer (some ⟨b,off+n.toNat*U.wd τ,none⟩),?_,gZ ⟨⟨rfl,trivial⟩,.inr ⟨b,_,rfl,hF,fun j c hj=> ?_⟩⟩⟩
  ·unfold execOp;simp only[ho,h3,h4]
   rw[<-hw,<-hs]
   exact ic (Wr hu hi h1 h2)
  ·refine⟨vs (n.toNat*U.wd τ+j),?_,hr _ _ j c tE hj⟩
   rw[Lm];exact hv _ (fe tE hj)
theorem aky(h:cG E pm F kv fp σ a w){o:Oper}{t:TypeId}{x y:Operand}{sx sy:SV U}{k:Key}{p:Path}{ks:List Key}{kd:IntKind}{n:Int}{m:Nat}{ps:List Prop}{b:eK U}(ho:o.op=.indexAddr t x y)
  (hx:RS E w F kv fp (bW σ) sx (a.eval x)) (hc:sr sx=some (.ref k p)) (hy:RS E w F kv fp (bW σ) sy (a.eval y)) (hl:iC sy=some (.int kd n)) (hm:(E.elem t).bind E.size=some m)
  (ha:oW (restrict σ.bH ks) σ.aC (.ref k p)=some (ps,b)) (hw:m=U.wd b.τ) (hp:∀q∈ps,q)
  (h1:0<=n) (h2:n.toNat<b.xs.length):cv E F kv fp (bW σ) a w o (one (.kM k p n.toNat (U.wd b.τ) 0)):=by
 obtain⟨e,i,hu,hi,hs⟩:=nY hm
 have h3:=og hy hl
 have yA:=kt hx hc
 have W_:=WC h ha hp yA
 have amu:io (bW σ) (AC.ref (U:=U) k p)=false:=by
  simp only[oW] at ha
  split at ha
  ·rename_i y d he
   cases gU:fg (restrict σ.bH ks) σ.aC k p<;>simp only[gU,cond_false,cond_true] at ha
   ·cases ha
   ·exact DF gU he
  ·cases ha
 have mN:=cn yA amu
 rcases W_.inv with⟨h0,_⟩|⟨b',off,cap,vs,h4,hF,w8,hv,hr⟩
 ·rw[h0] at h2;simp at h2
 ·refine⟨.pointer (some ⟨b',off+n.toNat*U.wd b.τ,none⟩),?_,gZ ⟨⟨rfl,trivial⟩,.inr ⟨b',off,b.xs.length,cap,?_,by simp⟩⟩⟩
  ·unfold execOp;simp only[ho,h3,h4]
   rw[<-hw,<-hs]
   exact ic (Wr hu hi h1 h2)
  ·rw[<-h4];exact mN
theorem alH{s:ByteArray}{n:Nat}(h:n<s.size):s[n]? =some (s.data.toList.getD n 0):=by
 have h':n<s.data.toList.length:=by simpa using h
 rw[fY,gg h']
 simp[h]
 rfl
theorem akx{o:Oper}{t:TypeId}{x y:Operand}{sx sy:SV U}{s:ByteArray}{k:IntKind}{n:Int}(ho:o.op=.index t x y)
  (hx:RS E w F kv fp bad sx (a.eval x)) (hc:iC sx=some (.string s)) (hy:RS E w F kv fp bad sy (a.eval y)) (hl:iC sy=some (.int k n)) (hu:E.P.underlying t=some .string)
  (h1:0<=n) (h2:n.toNat<s.size):cv E F kv fp bad a w o (tD (.int .u8 ((s.data.toList.getD n.toNat 0).toNat:Int))):=by
 refine⟨_,?_,lG (v:=.int .u8 _) ⟨rfl,by have:=(s.data.toList.getD n.toNat 0).toNat_lt;simp only[IntKind.min,IntKind.max,IntKind.signed,IntKind.bits,wE,if_false];omega⟩⟩
 unfold execOp;simp only[ho,og hx hc,og hy hl]
 refine ic ?_
 simp only[Instr.index,asIntOf,Sem.run_bind,Sem.run_pure,Result.andThen_ok,run_underlying hu,if_pos h1,alH h2]
theorem akw{o:Oper}{x:Operand}{t:TypeId}{sx:SV U}{s:ByteArray}{cl:Call}(ho:o.op=.call cl)(gU:cl.callee=.builtin .len)(kK:cl.args.toList=[x])(yz:cl.argTypes.toList=[t])
  (hx:RS E w F kv fp bad sx (a.eval x)) (hc:iC sx=some (.string s)) (hu:E.P.underlying t=some .string):cv E F kv fp bad a w o (tD (.int .i64 s.size)):=by
 refine⟨_,?_,lG (v:=.int .i64 _) ⟨rfl,by have:s.size<=9223372036854775807:=(L0 hx hc).2;simp only[IntKind.min,IntKind.max,IntKind.signed,IntKind.bits,if_true];omega⟩⟩
 have ha:cl.args= #[x]:=wT kK
 have ht:cl.argTypes= #[t]:=wT yz
 unfold execOp;simp only[ho]
 simp[resolve,gU,ha,ht,invoke,builtin,Builtin.len_,run_underlying hu,og hx hc,goInt]
theorem Wm{o:Oper}{x:Operand}{t e:TypeId}{n:Nat}{cl:Call}(ho:o.op=.call cl)(gU:cl.callee=.builtin .len)(kK:cl.args.toList=[x])(yz:cl.argTypes.toList=[t])
  (hx:∃ad c,a.eval x=.slice ad n c) (hu:E.P.underlying t=some (.slice e)) (hmx:n<=maxLen):cv E F kv fp bad a w o (tD (.int .i64 n)):=by
 obtain⟨ad,c,hx⟩:=hx
 unfold maxLen at hmx
 refine⟨_,?_,lG (v:=.int .i64 _) ⟨rfl,by simp only[IntKind.min,IntKind.max,IntKind.signed,IntKind.bits,if_true];omega⟩⟩
 have ha:cl.args= #[x]:=wT kK
 have ht:cl.argTypes= #[t]:=wT yz
 unfold execOp;simp only[ho]
 simp[resolve,gU,ha,ht,invoke,builtin,Builtin.len_,run_underlying hu,hx,goInt]
theorem Rp.slice{w:World}{F:Nat->Prop}{τ:U.Ty}{xs:List (U.T τ)}{v:Value}{fp:List Nat}(h:Rp E w F false (.sl τ xs) v fp):∃ad c,v=.slice ad xs.length c/\(xs.length<=c):=by
 rcases h.inv with⟨h0,ad,c,rfl⟩|⟨b,off,cap,vs,rfl,_,hc,_,_⟩
 ·exact⟨ad,c,by simp[h0],by simp[h0]⟩
 ·exact⟨_,_,rfl,hc⟩
theorem aaU{o:Oper}{x y:Operand}{sx sy:SV U}{k:IntKind}{m n:Int}{cl:Call}{b:Bool}(ho:o.op=.call cl)(gU:cl.callee=.builtin (if b then .min else .max))(kK:cl.args.toList=[x,y])
  (hx:RS E w F kv fp bad sx (a.eval x)) (hc:iC sx=some (.int k m)) (hy:RS E w F kv fp bad sy (a.eval y)) (ln:iC sy=some (.int k n)):
  cv E F kv fp bad a w o (tD (.int k (if(if b then n<m else n>m) then n else m))):=by
 have hrm:k.min<=m/\m<=k.max:=(L0 hx hc).2
 have hrn:k.min<=n/\n<=k.max:=(L0 hy ln).2
 refine⟨_,?_,lG (v:=.int k _) ⟨rfl,by cases b<;>simp only[wE,if_false,if_true]<;>split<;>assumption⟩⟩
 have ha:cl.args= #[x,y]:=wT kK
 unfold execOp;simp only[ho]
 cases b
 ·simp[resolve,gU,ha,invoke,builtin,Builtin.max_,Builtin.max2,og hx hc,og hy ln]
 ·simp[resolve,gU,ha,invoke,builtin,Builtin.min_,Builtin.min2,og hx hc,og hy ln]
theorem alL{b:Option Operand}{bs Yk:List (SV U)}{l:Option Int}(h:De b bs=some (l,Yk)):
  (b=none/\l=none/\Yk=bs)\/∃y sy k n,b=some y/\bs=sy::Yk/\iC sy=some (.int k n)/\l=some n:=by
 unfold De at h
 split at h
 ·cases h;exact .inl ⟨rfl,rfl,rfl⟩
 ·rename_i y sy r
  split at h
  ·rename_i k n hn;cases h;exact .inr ⟨y,sy,k,n,rfl,rfl,hn,rfl⟩
  ·cases h
 ·cases h
def RP(l:Option Int)(v:Option Value):Prop:=(l=none/\v=none)\/∃k n,l=some n/\v=some (.int k n)
theorem ajM{t:TypeId}{s:ByteArray}{l h:Option Int}{lv hv:Option Value}(hu:E.P.underlying t=some .string)(hl:RP l lv)(hh:RP h hv)
  (h1:0<=l.getD 0) (h2:l.getD 0<=h.getD s.size) (h3:h.getD s.size<=s.size):
  (Instr.sliceAt t (.string s) lv hv none).run E.P w=.ok (.string (s.extract (l.getD 0).toNat (h.getD s.size).toNat)) w:=by
 rcases hl with⟨rfl,rfl⟩|⟨k,n,rfl,rfl⟩<;>rcases hh with⟨rfl,rfl⟩|⟨k',n',rfl,rfl⟩<;>simp only[Ln,Ds] at h1 h2 h3⊢
 ·simp[Instr.sliceAt,run_underlying hu,Instr.slice,Instr.sliceBounds]
 ·have h4:0<=n'/\n'<=(s.size:Int):=⟨by omega,h3⟩
  simp[Instr.sliceAt,run_underlying hu,Instr.slice,Instr.sliceBounds,Instr.sliceBound,asIntOf,h4]
 ·have h4:0<=n/\n<=(s.size:Int):=⟨by omega,h2⟩
  simp[Instr.sliceAt,run_underlying hu,Instr.slice,Instr.sliceBounds,Instr.sliceBound,asIntOf,h4]
 ·have h4:0<=n'/\n'<=(s.size:Int):=⟨by omega,h3⟩
  have h5:0<=n/\n<=(n'.toNat:Int):=⟨by omega,by omega⟩
  have h6:0<=n/\n<=max n' 0:=⟨by omega,by omega⟩
  simp[Instr.sliceAt,run_underlying hu,Instr.slice,Instr.sliceBounds,Instr.sliceBound,asIntOf,h4,h5,h6]
theorem Wd{t e:TypeId}{i:TypeInfo}{ad:Option Addr}{n c:Nat}{l h:Option Int}{lv hv:Option Value}(hu:E.P.underlying t=some (.slice e))(hi:E.P.info? e=some i)(hl:RP l lv)(hh:RP h hv)
  (hc:n<=c) (h1:0<=l.getD 0) (h2:l.getD 0<=h.getD n) (h3:h.getD n<=n):
  (Instr.sliceAt t (.slice ad n c) lv hv none).run E.P w=.ok (pB i.size (l.getD 0).toNat (h.getD n).toNat (.slice ad n c)) w:=by
 rcases hl with⟨rfl,rfl⟩|⟨k,m,rfl,rfl⟩<;>rcases hh with⟨rfl,rfl⟩|⟨k',m',rfl,rfl⟩<;>simp only[Ln,Ds] at h1 h2 h3⊢
 ·simp[Instr.sliceAt,run_underlying hu,Instr.slice,Instr.sliceBounds,Go.sizeOf,typeInfo,hi,pB]
 ·have h4:0<=m'/\m'<=(c:Int):=⟨by omega,by omega⟩
  simp[Instr.sliceAt,run_underlying hu,Instr.slice,Instr.sliceBounds,Instr.sliceBound,asIntOf,h4,Go.sizeOf,typeInfo,hi,pB]
 ·have h4:0<=m/\m<=(n:Int):=⟨by omega,h2⟩
  simp[Instr.sliceAt,run_underlying hu,Instr.slice,Instr.sliceBounds,Instr.sliceBound,asIntOf,h4,Go.sizeOf,typeInfo,hi,pB]
 ·have h4:0<=m'/\m'<=(c:Int):=⟨by omega,by omega⟩
  have h5:0<=m/\m<=(m'.toNat:Int):=⟨by omega,by omega⟩
  have h6:0<=m/\m<=max m' 0:=⟨by omega,by omega⟩
  simp[Instr.sliceAt,run_underlying hu,Instr.slice,Instr.sliceBounds,Instr.sliceBound,asIntOf,h4,h5,h6,Go.sizeOf,typeInfo,hi,pB]
theorem ajL{t e:TypeId}{i:TypeInfo}{ad:Option Addr}{n c:Nat}{l:Option Int}{lv:Option Value}{k k':IntKind}(hu:E.P.underlying t=some (.slice e))(hi:E.P.info? e=some i)(hl:RP l lv)
  (h1:l.getD 0=0):
  (Instr.sliceAt t (.slice ad n c) lv (some (.int k 0)) (some (.int k' 0))).run E.P w=.ok (.slice ad 0 0) w:=by
 rcases hl with⟨rfl,rfl⟩|⟨k,m,rfl,rfl⟩<;>simp only[Ln,Ds] at h1⊢
 ·simp[Instr.sliceAt,run_underlying hu,Instr.slice,Instr.sliceBounds,Instr.sliceBound,asIntOf,Go.sizeOf,typeInfo,hi]
 ·subst h1
  simp[Instr.sliceAt,run_underlying hu,Instr.slice,Instr.sliceBounds,Instr.sliceBound,asIntOf,Go.sizeOf,typeInfo,hi]
theorem akr(h:cG E pm F kv fp σ a w){o:Oper}{t:TypeId}{x:Operand}{lo hi mx:Option Operand}{sx:SV U}{l hh m:Option Int}{ks:List Key}{r:ch U}(ho:o.op=.slice t x lo hi mx)
  (hx:RS E w F kv fp (bW σ) sx (a.eval x)) (hl:RP l (lo.map a.eval)) (hhi:RP hh (hi.map a.eval)) (hm:RP m (mx.map a.eval)) (hr:sD E (restrict σ.bH ks) σ.aC t sx l hh m=some r) (hp:∀p∈r.pre,p):
  ∃sv ps,r=⟨some sv,[],[],[],ps⟩/\cv E F kv fp (bW σ) a w o sv:=by
 have run:∀v sv,(Instr.sliceAt t (a.eval x) (lo.map a.eval) (hi.map a.eval) (mx.map a.eval)).run E.P w=.ok v w->RS E w F kv fp (bW σ) sv v->cv E F kv fp (bW σ) a w o sv:=fun v sv h1 h2=>
  ⟨v,by unfold execOp;simp only[ho];exact ic h1,h2⟩
 unfold sD at hr
 split at hr
 ·rename_i mm
  obtain⟨km,nm,Be,Bc⟩:=hm.resolve_left (fun e=>by cases e.1)
  cases Be
  split at hr
  ·rename_i hv y n vr se
   obtain⟨kh,nh,hh1,hh2⟩:=hhi.resolve_left (fun e=>by cases e.1)
   cases hh1
   obtain⟨e,i,hu,pg,hs⟩:=nY se
   have yA:=kt hx vr
   have fin:(∃ad n c,a.eval x=.slice ad n c)->mm=0->hv=0->l.getD 0=0->cv E F kv fp (bW σ) a w o (one .e0):=by
    rintro⟨ad,n,c,WX⟩ rfl rfl h3
    refine run (.slice ad 0 0) _ ?_ (gZ ⟨⟨rfl,trivial⟩,.inr ⟨ad,rfl⟩⟩)
    rw[WX,hh2,Bc]
    exact ajL hu pg hl h3
   split at hr
   ·rename_i ps b ha
    cases hr
    refine⟨_,_,rfl,fin ?_ (hp (mm=0) (by simp[ch.cE])) (hp (hv=0) (by simp[ch.cE])) (hp (l.getD 0=0) (by simp[ch.cE]))⟩
    obtain⟨ad,c,h1,_⟩:=(WC h ha (fun q hq=>hp q (by simp[ch.cE,hq])) yA).slice
    exact⟨ad,_,c,h1⟩
   ·split at hr
    ·cases hr
     refine⟨_,_,rfl,fin ?_ (hp (mm=0) (by simp[ch.cE])) (hp (hv=0) (by simp[ch.cE])) (hp (l.getD 0=0) (by simp[ch.cE]))⟩
     obtain⟨ad,h1⟩:=cn yA rfl
     exact⟨ad,_,_,h1⟩
    ·cases hr
  ·cases hr
 ·obtain⟨_,Bc⟩:(none:Option Int)=none/\mx.map a.eval=none:=hm.resolve_right (fun⟨_,_,e,_⟩=>by cases e)
  split at hr
  ·rename_i s hs
   split at hr
   ·rename_i hu
    cases hr
    refine⟨_,_,rfl,run _ _ ?_ (lG (v:=.string _) ⟨rfl,by have:s.size<=9223372036854775807:=(L0 hx hs).2;simp only[ByteArray.size_extract];omega⟩)⟩
    rw[og hx hs,Bc]
    exact ajM hu hl hhi (hp _ (by simp[ch.lit,ch.cE])) (hp _ (by simp[ch.lit,ch.cE])) (hp _ (by simp[ch.lit,ch.cE]))
   ·cases hr
  ·cases hr
  ·split at hr
   ·rename_i τ ys n vr se
    cases hb:Nat.beq n (U.wd τ)<;>simp only[hb,cond_false,cond_true] at hr
    ·cases hr
    ·have hn:=lN hb
     subst hn
     cases hr
     have h1:0<=l.getD 0:=hp _ (by simp[ch.cE])
     have h2:l.getD 0<=hh.getD ys.length:=hp _ (by simp[ch.cE])
     have h3:hh.getD ys.length<=ys.length:=hp _ (by simp[ch.cE])
     obtain⟨e,i,hu,pg,hs⟩:=nY se
     have W_:Rp E w F false _ _ _:=cn (kt hx vr) rfl
     obtain⟨ad,c,hv,hc⟩:=W_.slice
     have oh:=W_.sub (lo:=(l.getD 0).toNat) (hi:=(hh.getD ys.length).toNat) (by omega) (by omega)
     refine⟨_,_,rfl,run _ _ ?_ (gZ ⟨oh.fB,.inr oh⟩)⟩
     rw[hv,Bc,<-hs]
     exact Wd hu pg hl hhi hc h1 h2 h3
   ·rename_i k n vr se
    split at hr
    ·rename_i r0 d he
     cases hb:Nat.beq n (U.wd r0.τ)<;>simp only[hb,cond_false,cond_true] at hr
     ·cases hr
     ·have hn:=lN hb
      subst hn
      cases hr
      have h1:0<=l.getD 0:=hp _ (by simp[ch.cE])
      have h2:l.getD 0<=hh.getD r0.xs.length:=hp _ (by simp[ch.cE])
      have h3:hh.getD r0.xs.length<=r0.xs.length:=hp _ (by simp[ch.cE])
      obtain⟨e,i,hu,pg,hs⟩:=nY se
      have yA:=kt hx vr
      have M1:a.eval x=kv k:=cn yA rfl
      obtain⟨ad,c,hv,hc⟩:=(Ka h (jx he)).slice
      refine⟨_,_,rfl,run (pB (U.wd r0.τ) (l.getD 0).toNat (hh.getD r0.xs.length).toNat (kv k)) _ ?_ (gZ ⟨(by rw[hv];exact⟨rfl,trivial⟩),.inr ⟨rfl,by omega⟩⟩)⟩
      rw[M1,hv,Bc,<-hs]
      exact Wd hu pg hl hhi hc h1 h2 h3
    ·rename_i r0 dead he
     cases hb:Nat.beq n (U.wd r0.τ)<;>simp only[hb,cond_false,cond_true] at hr
     ·cases hr
     ·have hn:=lN hb
      subst hn
      cases hr
      have h1:0<=l.getD 0:=hp _ (by simp[ch.cE])
      have h2:l.getD 0<=hh.getD r0.xs.length:=hp _ (by simp[ch.cE])
      have h3:hh.getD r0.xs.length<=r0.xs.length:=hp _ (by simp[ch.cE])
      obtain⟨e,i,hu,pg,hs⟩:=nY se
      have yA:=kt hx vr
      have M1:a.eval x=kv k:=cn yA rfl
      obtain⟨ad,c,hv,hc⟩:=dU.LD (h.cV k _ (jx he))
      refine⟨_,_,rfl,run (pB (U.wd r0.τ) (l.getD 0).toNat (hh.getD r0.xs.length).toNat (kv k)) _ ?_ (gZ ⟨(by rw[hv];exact⟨rfl,trivial⟩),.inr ⟨rfl,by omega⟩⟩)⟩
      rw[M1,hv,Bc,<-hs]
      exact Wd hu pg hl hhi hc h1 h2 h3
    ·cases hr
   ·cases hr
end AM
