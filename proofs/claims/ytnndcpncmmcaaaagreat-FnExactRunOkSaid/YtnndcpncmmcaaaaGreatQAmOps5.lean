import Derived.Test.YtnndcpncmmcaaaaGreatQAmOps4
namespace AM
set_option linter.unusedVariables false
open Go
variable{U:jO}{E:Env U}{pm:Pm}
variable{F:Nat->Prop}{kv:Key->Value}{fp:Key->List Nat}{σ:ah U}{a:Act}{w:World}{bad:Key->Bool}
theorem vy{α:Type}{as:Array α}{l:List α}(h:as.toList=l):as=l.toArray:=by rw[<-h]
theorem y3{t e:TypeId}(h:E.elem t=some e):E.P.underlying t=some (.slice e):=by
 unfold Env.elem at h
 split at h
 ·rename_i e' hu;cases h;exact hu
 ·cases h
theorem pq{t:TypeId}{m:Nat}(h:(E.elem t).bind E.size=some m):∃e i,E.P.underlying t=some (.slice e)/\E.P.info? e=some i/\i.size=m:=by
 cases he:E.elem t with
 |none=>rw[he] at h;cases h
 |some e=>
  rw[he] at h
  simp only[Option.bind_some,Env.size] at h
  cases hi:E.P.info? e with
  |none=>rw[hi] at h;cases h
  |some i=>rw[hi] at h;simp only[Ef,eZ] at h;exact⟨e,i,y3 he,hi,h⟩
theorem ZY{t e:TypeId}{i:TypeInfo}{b off len cap:Nat}{k:IntKind}{n:Int}(hu:E.P.underlying t=some (.slice e))(hi:E.P.info? e=some i)(h1:0<=n)(h2:n.toNat<len):
  (Instr.indexAt t (.slice (some ⟨b,off,none⟩) len cap) (.int k n)).run E.P w=.ok (.pointer (some ⟨b,off+n.toNat*i.size,none⟩)) w:=by
 have h3:0<=n/\n<(len:Int):=⟨h1,by omega⟩
 simp[Instr.indexAt,asIntOf,run_underlying hu,Go.sizeOf,typeInfo,hi,h3,Addr.add_mid]
theorem ant{o:Oper}{t:TypeId}{x y:Operand}{sx sy:SV U}{τ:U.Ty}{ys:List (U.T τ)}{k:IntKind}{n:Int}{m:Nat}(ho:o.op=.indexAddr t x y)
  (hx:RS E w F kv fp bad sx (a.eval x)) (hc:sd sx=some (.c (.sl τ ys))) (hy:RS E w F kv fp bad sy (a.eval y)) (hl:ie sy=some (.int k n)) (hm:(E.elem t).bind E.size=some m) (hw:m=U.wd τ)
  (h1:0<=n) (h2:n.toNat<ys.length):cA E F kv fp bad a w o (one (.ia (U.enc τ (ys.getD n.toNat (U.dt τ))))):=by
 obtain⟨e,i,hu,hi,hs⟩:=pq hm
 have h3:=pD hy hl
 rcases(bG (bD hx hc) rfl:Rp E w F false _ _ _).inv with⟨h0,_⟩|⟨b,off,cap,vs,h4,hF,zj,hv,hr⟩
 ·rw[h0] at h2;simp at h2
 ·have qt:=dz (d:=U.dt τ) h2
  refine⟨.pointer (some ⟨b,off+n.toNat*U.wd τ,none⟩),?_,fT ⟨⟨rfl,trivial⟩,.inr ⟨b,_,rfl,hF,fun j c hj=> ?_⟩⟩⟩
  ·unfold execOp;simp only[ho,h3,h4]
   rw[<-hw,<-hs]
   exact gF (ZY hu hi h1 h2)
  ·refine⟨vs (n.toNat*U.wd τ+j),?_,hr _ _ j c qt hj⟩
   rw[Ot];exact hv _ (eI qt hj)
theorem anr(h:cd E pm F kv fp σ a w){o:Oper}{t:TypeId}{x y:Operand}{sx sy:SV U}{k:Key}{p:Path}{ks:List Key}{kd:IntKind}{n:Int}{m:Nat}{ps:List Prop}{b:fK U}(ho:o.op=.indexAddr t x y)
  (hx:RS E w F kv fp (aZ σ) sx (a.eval x)) (hc:sd sx=some (.ref k p)) (hy:RS E w F kv fp (aZ σ) sy (a.eval y)) (hl:ie sy=some (.int kd n)) (hm:(E.elem t).bind E.size=some m)
  (ha:p7 (restrict σ.aU ks) σ.ay (.ref k p)=some (ps,b)) (hw:m=U.wd b.τ) (hp:∀q∈ps,q)
  (h1:0<=n) (h2:n.toNat<b.xs.length):cA E F kv fp (aZ σ) a w o (one (.iC k p n.toNat (U.wd b.τ) 0)):=by
 obtain⟨e,i,hu,hi,hs⟩:=pq hm
 have h3:=pD hy hl
 have AB:=bD hx hc
 have hrp:=Z_ h ha hp AB
 have apL:gg (aZ σ) (AC.ref (U:=U) k p)=false:=by
  simp only[p7] at ha
  split at ha
  ·rename_i y d he
   cases fa:eg (restrict σ.aU ks) σ.ay k p<;>simp only[fa,cond_false,cond_true] at ha
   ·cases ha
   ·exact y4 fa he
  ·rename_i y he
   cases fa:eg (restrict σ.aU ks) σ.ay k p<;>simp only[fa,cond_false,cond_true] at ha
   ·cases ha
   ·exact y4 fa he
  ·cases ha
 have iz:=bG AB apL
 rcases hrp.inv with⟨h0,_⟩|⟨b',off,cap,vs,h4,hF,zj,hv,hr⟩
 ·rw[h0] at h2;simp at h2
 ·refine⟨.pointer (some ⟨b',off+n.toNat*U.wd b.τ,none⟩),?_,fT ⟨⟨rfl,trivial⟩,.inr ⟨b',off,b.xs.length,cap,?_,by simp⟩⟩⟩
  ·unfold execOp;simp only[ho,h3,h4]
   rw[<-hw,<-hs]
   exact gF (ZY hu hi h1 h2)
  ·rw[<-h4];exact iz
theorem aoK{s:ByteArray}{n:Nat}(h:n<s.size):s[n]? =some (s.data.toList.getD n 0):=by
 have h':n<s.data.toList.length:=by simpa using h
 rw[gh,gr h']
 simp[h]
 rfl
theorem anq{o:Oper}{t:TypeId}{x y:Operand}{sx sy:SV U}{s:ByteArray}{k:IntKind}{n:Int}(ho:o.op=.index t x y)
  (hx:RS E w F kv fp bad sx (a.eval x)) (hc:ie sx=some (.string s)) (hy:RS E w F kv fp bad sy (a.eval y)) (hl:ie sy=some (.int k n)) (hu:E.P.underlying t=some .string)
  (h1:0<=n) (h2:n.toNat<s.size):cA E F kv fp bad a w o (uX (.int .u8 ((s.data.toList.getD n.toNat 0).toNat:Int))):=by
 refine⟨_,?_,mB (v:=.int .u8 _) ⟨rfl,by have:=(s.data.toList.getD n.toNat 0).toNat_lt;simp only[IntKind.min,IntKind.max,IntKind.signed,IntKind.bits,yN,if_false];omega⟩⟩
 unfold execOp;simp only[ho,pD hx hc,pD hy hl]
 refine gF ?_
 simp only[Instr.index,asIntOf,Sem.run_bind,Sem.run_pure,Result.andThen_ok,run_underlying hu,if_pos h1,aoK h2]
theorem anp{o:Oper}{x:Operand}{t:TypeId}{sx:SV U}{s:ByteArray}{cl:Call}(ho:o.op=.call cl)(fa:cl.callee=.builtin .len)(ib:cl.args.toList=[x])(vi:cl.argTypes.toList=[t])
  (hx:RS E w F kv fp bad sx (a.eval x)) (hc:ie sx=some (.string s)) (hu:E.P.underlying t=some .string):cA E F kv fp bad a w o (uX (.int .i64 s.size)):=by
 refine⟨_,?_,mB (v:=.int .i64 _) ⟨rfl,by have:s.size<=9223372036854775807:=(OX hx hc).2;simp only[IntKind.min,IntKind.max,IntKind.signed,IntKind.bits,if_true];omega⟩⟩
 have ha:cl.args= #[x]:=vy ib
 have ht:cl.argTypes= #[t]:=vy vi
 unfold execOp;simp only[ho]
 simp[resolve,fa,ha,ht,invoke,builtin,Builtin.len_,run_underlying hu,pD hx hc,goInt]
theorem ZR{o:Oper}{x:Operand}{t e:TypeId}{n:Nat}{cl:Call}(ho:o.op=.call cl)(fa:cl.callee=.builtin .len)(ib:cl.args.toList=[x])(vi:cl.argTypes.toList=[t])
  (hx:∃ad c,a.eval x=.slice ad n c) (hu:E.P.underlying t=some (.slice e)) (hmx:n<=maxLen):cA E F kv fp bad a w o (uX (.int .i64 n)):=by
 obtain⟨ad,c,hx⟩:=hx
 unfold maxLen at hmx
 refine⟨_,?_,mB (v:=.int .i64 _) ⟨rfl,by simp only[IntKind.min,IntKind.max,IntKind.signed,IntKind.bits,if_true];omega⟩⟩
 have ha:cl.args= #[x]:=vy ib
 have ht:cl.argTypes= #[t]:=vy vi
 unfold execOp;simp only[ho]
 simp[resolve,fa,ha,ht,invoke,builtin,Builtin.len_,run_underlying hu,hx,goInt]
theorem Rp.slice{w:World}{F:Nat->Prop}{τ:U.Ty}{xs:List (U.T τ)}{v:Value}{fp:List Nat}(h:Rp E w F false (.sl τ xs) v fp):∃ad c,v=.slice ad xs.length c/\(xs.length<=c):=by
 rcases h.inv with⟨h0,ad,c,rfl⟩|⟨b,off,cap,vs,rfl,_,hc,_,_⟩
 ·exact⟨ad,c,by simp[h0],by simp[h0]⟩
 ·exact⟨_,_,rfl,hc⟩
theorem adF{o:Oper}{x y:Operand}{sx sy:SV U}{k:IntKind}{m n:Int}{cl:Call}{b:Bool}(ho:o.op=.call cl)(fa:cl.callee=.builtin (if b then .min else .max))(ib:cl.args.toList=[x,y])
  (hx:RS E w F kv fp bad sx (a.eval x)) (hc:ie sx=some (.int k m)) (hy:RS E w F kv fp bad sy (a.eval y)) (jr:ie sy=some (.int k n)):
  cA E F kv fp bad a w o (uX (.int k (if(if b then n<m else n>m) then n else m))):=by
 have hrm:k.min<=m/\m<=k.max:=(OX hx hc).2
 have hrn:k.min<=n/\n<=k.max:=(OX hy jr).2
 refine⟨_,?_,mB (v:=.int k _) ⟨rfl,by cases b<;>simp only[yN,if_false,if_true]<;>split<;>assumption⟩⟩
 have ha:cl.args= #[x,y]:=vy ib
 unfold execOp;simp only[ho]
 cases b
 ·simp[resolve,fa,ha,invoke,builtin,Builtin.max_,Builtin.max2,pD hx hc,pD hy jr]
 ·simp[resolve,fa,ha,invoke,builtin,Builtin.min_,Builtin.min2,pD hx hc,pD hy jr]
theorem aoO{b:Option Operand}{bs bs':List (SV U)}{l:Option Int}(h:bound b bs=some (l,bs')):
  (b=none/\l=none/\bs'=bs)\/∃y sy k n,b=some y/\bs=sy::bs'/\ie sy=some (.int k n)/\l=some n:=by
 unfold bound at h
 split at h
 ·cases h;exact .inl ⟨rfl,rfl,rfl⟩
 ·rename_i y sy r
  split at h
  ·rename_i k n hn;cases h;exact .inr ⟨y,sy,k,n,rfl,rfl,hn,rfl⟩
  ·cases h
 ·cases h
def Vm(l:Option Int)(v:Option Value):Prop:=(l=none/\v=none)\/∃k n,l=some n/\v=some (.int k n)
theorem amq{t:TypeId}{s:ByteArray}{l h:Option Int}{lv hv:Option Value}(hu:E.P.underlying t=some .string)(hl:Vm l lv)(hh:Vm h hv)
  (h1:0<=l.getD 0) (h2:l.getD 0<=h.getD s.size) (h3:h.getD s.size<=s.size):
  (Instr.sliceAt t (.string s) lv hv none).run E.P w=.ok (.string (s.extract (l.getD 0).toNat (h.getD s.size).toNat)) w:=by
 rcases hl with⟨rfl,rfl⟩|⟨k,n,rfl,rfl⟩<;>rcases hh with⟨rfl,rfl⟩|⟨k',n',rfl,rfl⟩<;>simp only[Vp,J0] at h1 h2 h3⊢
 ·simp[Instr.sliceAt,run_underlying hu,Instr.slice,Instr.sliceBounds]
 ·have h4:0<=n'/\n'<=(s.size:Int):=⟨by omega,h3⟩
  simp[Instr.sliceAt,run_underlying hu,Instr.slice,Instr.sliceBounds,Instr.sliceBound,asIntOf,h4]
 ·have h4:0<=n/\n<=(s.size:Int):=⟨by omega,h2⟩
  simp[Instr.sliceAt,run_underlying hu,Instr.slice,Instr.sliceBounds,Instr.sliceBound,asIntOf,h4]
 ·have h4:0<=n'/\n'<=(s.size:Int):=⟨by omega,h3⟩
  have h5:0<=n/\n<=(n'.toNat:Int):=⟨by omega,by omega⟩
  have h6:0<=n/\n<=max n' 0:=⟨by omega,by omega⟩
  simp[Instr.sliceAt,run_underlying hu,Instr.slice,Instr.sliceBounds,Instr.sliceBound,asIntOf,h4,h5,h6]
theorem ZC{t e:TypeId}{i:TypeInfo}{ad:Option Addr}{n c:Nat}{l h:Option Int}{lv hv:Option Value}(hu:E.P.underlying t=some (.slice e))(hi:E.P.info? e=some i)(hl:Vm l lv)(hh:Vm h hv)
  (hc:n<=c) (h1:0<=l.getD 0) (h2:l.getD 0<=h.getD n) (h3:h.getD n<=n):
  (Instr.sliceAt t (.slice ad n c) lv hv none).run E.P w=.ok (qz i.size (l.getD 0).toNat (h.getD n).toNat (.slice ad n c)) w:=by
 rcases hl with⟨rfl,rfl⟩|⟨k,m,rfl,rfl⟩<;>rcases hh with⟨rfl,rfl⟩|⟨k',m',rfl,rfl⟩<;>simp only[Vp,J0] at h1 h2 h3⊢
 ·simp[Instr.sliceAt,run_underlying hu,Instr.slice,Instr.sliceBounds,Go.sizeOf,typeInfo,hi,qz]
 ·have h4:0<=m'/\m'<=(c:Int):=⟨by omega,by omega⟩
  simp[Instr.sliceAt,run_underlying hu,Instr.slice,Instr.sliceBounds,Instr.sliceBound,asIntOf,h4,Go.sizeOf,typeInfo,hi,qz]
 ·have h4:0<=m/\m<=(n:Int):=⟨by omega,h2⟩
  simp[Instr.sliceAt,run_underlying hu,Instr.slice,Instr.sliceBounds,Instr.sliceBound,asIntOf,h4,Go.sizeOf,typeInfo,hi,qz]
 ·have h4:0<=m'/\m'<=(c:Int):=⟨by omega,by omega⟩
  have h5:0<=m/\m<=(m'.toNat:Int):=⟨by omega,by omega⟩
  have h6:0<=m/\m<=max m' 0:=⟨by omega,by omega⟩
  simp[Instr.sliceAt,run_underlying hu,Instr.slice,Instr.sliceBounds,Instr.sliceBound,asIntOf,h4,h5,h6,Go.sizeOf,typeInfo,hi,qz]
theorem amp{t e:TypeId}{i:TypeInfo}{ad:Option Addr}{n c:Nat}{l:Option Int}{lv:Option Value}{k k':IntKind}(hu:E.P.underlying t=some (.slice e))(hi:E.P.info? e=some i)(hl:Vm l lv)
  (h1:l.getD 0=0):
  (Instr.sliceAt t (.slice ad n c) lv (some (.int k 0)) (some (.int k' 0))).run E.P w=.ok (.slice ad 0 0) w:=by
 rcases hl with⟨rfl,rfl⟩|⟨k,m,rfl,rfl⟩<;>simp only[Vp,J0] at h1⊢
 ·simp[Instr.sliceAt,run_underlying hu,Instr.slice,Instr.sliceBounds,Instr.sliceBound,asIntOf,Go.sizeOf,typeInfo,hi]
 ·subst h1
  simp[Instr.sliceAt,run_underlying hu,Instr.slice,Instr.sliceBounds,Instr.sliceBound,asIntOf,Go.sizeOf,typeInfo,hi]
theorem anj(h:cd E pm F kv fp σ a w){o:Oper}{t:TypeId}{x:Operand}{lo hi mx:Option Operand}{sx:SV U}{l hh m:Option Int}{ks:List Key}{r:bz U}(ho:o.op=.slice t x lo hi mx)
  (hx:RS E w F kv fp (aZ σ) sx (a.eval x)) (hl:Vm l (lo.map a.eval)) (hhi:Vm hh (hi.map a.eval)) (hm:Vm m (mx.map a.eval)) (hr:tY E (restrict σ.aU ks) σ.ay t sx l hh m=some r) (hp:∀p∈r.pre,p):
  ∃sv ps,r=⟨some sv,[],[],[],ps,[]⟩/\cA E F kv fp (aZ σ) a w o sv:=by
 have run:∀v sv,(Instr.sliceAt t (a.eval x) (lo.map a.eval) (hi.map a.eval) (mx.map a.eval)).run E.P w=.ok v w->RS E w F kv fp (aZ σ) sv v->cA E F kv fp (aZ σ) a w o sv:=fun v sv h1 h2=>
  ⟨v,by unfold execOp;simp only[ho];exact gF h1,h2⟩
 unfold tY at hr
 split at hr
 ·rename_i mm
  obtain⟨km,nm,yJ,vH⟩:=hm.resolve_left (fun e=>by cases e.1)
  cases yJ
  split at hr
  ·rename_i hv y n vN pV
   obtain⟨kh,nh,hh1,hh2⟩:=hhi.resolve_left (fun e=>by cases e.1)
   cases hh1
   obtain⟨e,i,hu,od,hs⟩:=pq pV
   have AB:=bD hx vN
   have fin:(∃ad n c,a.eval x=.slice ad n c)->mm=0->hv=0->l.getD 0=0->cA E F kv fp (aZ σ) a w o (one .e0):=by
    rintro⟨ad,n,c,NA⟩ rfl rfl h3
    refine run (.slice ad 0 0) _ ?_ (fT ⟨⟨rfl,trivial⟩,.inr ⟨ad,rfl⟩⟩)
    rw[NA,hh2,vH]
    exact amp hu od hl h3
   split at hr
   ·rename_i ps b ha
    cases hr
    refine⟨_,_,rfl,fin ?_ (hp (mm=0) (by simp[bz.cv])) (hp (hv=0) (by simp[bz.cv])) (hp (l.getD 0=0) (by simp[bz.cv]))⟩
    obtain⟨ad,c,h1,_⟩:=(Z_ h ha (fun q hq=>hp q (by simp[bz.cv,hq])) AB).slice
    exact⟨ad,_,c,h1⟩
   ·split at hr
    ·cases hr
     refine⟨_,_,rfl,fin ?_ (hp (mm=0) (by simp[bz.cv])) (hp (hv=0) (by simp[bz.cv])) (hp (l.getD 0=0) (by simp[bz.cv]))⟩
     obtain⟨ad,h1⟩:=bG AB rfl
     exact⟨ad,_,_,h1⟩
    ·cases hr
  ·cases hr
 ·obtain⟨_,vH⟩:(none:Option Int)=none/\mx.map a.eval=none:=hm.resolve_right (fun⟨_,_,e,_⟩=>by cases e)
  split at hr
  ·rename_i s hs
   split at hr
   ·rename_i hu
    cases hr
    refine⟨_,_,rfl,run _ _ ?_ (mB (v:=.string _) ⟨rfl,by have:s.size<=9223372036854775807:=(OX hx hs).2;simp only[ByteArray.size_extract];omega⟩)⟩
    rw[pD hx hs,vH]
    exact amq hu hl hhi (hp _ (by simp[bz.lit,bz.cv])) (hp _ (by simp[bz.lit,bz.cv])) (hp _ (by simp[bz.lit,bz.cv]))
   ·cases hr
  ·cases hr
  ·split at hr
   ·rename_i τ ys n vN pV
    cases hb:Nat.beq n (U.wd τ)<;>simp only[hb,cond_false,cond_true] at hr
    ·cases hr
    ·have hn:=jp hb
     subst hn
     cases hr
     have h1:0<=l.getD 0:=hp _ (by simp[bz.cv])
     have h2:l.getD 0<=hh.getD ys.length:=hp _ (by simp[bz.cv])
     have h3:hh.getD ys.length<=ys.length:=hp _ (by simp[bz.cv])
     obtain⟨e,i,hu,od,hs⟩:=pq pV
     have hrp:Rp E w F false _ _ _:=bG (bD hx vN) rfl
     obtain⟨ad,c,hv,hc⟩:=hrp.slice
     have nT:=hrp.sub (lo:=(l.getD 0).toNat) (hi:=(hh.getD ys.length).toNat) (by omega) (by omega)
     refine⟨_,_,rfl,run _ _ ?_ (fT ⟨nT.dQ,.inr nT⟩)⟩
     rw[hv,vH,<-hs]
     exact ZC hu od hl hhi hc h1 h2 h3
   ·rename_i k n vN pV
    split at hr
    ·rename_i r0 d he
     cases hb:Nat.beq n (U.wd r0.τ)<;>simp only[hb,cond_false,cond_true] at hr
     ·cases hr
     ·have hn:=jp hb
      subst hn
      cases hr
      have h1:0<=l.getD 0:=hp _ (by simp[bz.cv])
      have h2:l.getD 0<=hh.getD r0.xs.length:=hp _ (by simp[bz.cv])
      have h3:hh.getD r0.xs.length<=r0.xs.length:=hp _ (by simp[bz.cv])
      obtain⟨e,i,hu,od,hs⟩:=pq pV
      have AB:=bD hx vN
      have KG:a.eval x=kv k:=bG AB rfl
      obtain⟨ad,c,hv,hc⟩:=(MX h (fA he)).slice
      refine⟨_,_,rfl,run (qz (U.wd r0.τ) (l.getD 0).toNat (hh.getD r0.xs.length).toNat (kv k)) _ ?_ (fT ⟨(by rw[hv];exact⟨rfl,trivial⟩),.inr ⟨rfl,by omega⟩⟩)⟩
      rw[KG,hv,vH,<-hs]
      exact ZC hu od hl hhi hc h1 h2 h3
    ·rename_i r0 dead he
     cases hb:Nat.beq n (U.wd r0.τ)<;>simp only[hb,cond_false,cond_true] at hr
     ·cases hr
     ·have hn:=jp hb
      subst hn
      cases hr
      have h1:0<=l.getD 0:=hp _ (by simp[bz.cv])
      have h2:l.getD 0<=hh.getD r0.xs.length:=hp _ (by simp[bz.cv])
      have h3:hh.getD r0.xs.length<=r0.xs.length:=hp _ (by simp[bz.cv])
      obtain⟨e,i,hu,od,hs⟩:=pq pV
      have AB:=bD hx vN
      have KG:a.eval x=kv k:=bG AB rfl
      obtain⟨ad,c,hv,hc⟩:=cM.OJ (h.cT k _ (fA he))
      refine⟨_,_,rfl,run (qz (U.wd r0.τ) (l.getD 0).toNat (hh.getD r0.xs.length).toNat (kv k)) _ ?_ (fT ⟨(by rw[hv];exact⟨rfl,trivial⟩),.inr ⟨rfl,by omega⟩⟩)⟩
      rw[KG,hv,vH,<-hs]
      exact ZC hu od hl hhi hc h1 h2 h3
    ·cases hr
   ·cases hr
end AM
