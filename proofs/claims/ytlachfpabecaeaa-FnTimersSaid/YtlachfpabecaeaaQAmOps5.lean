/- THE ABSTRACT MACHINE: indexes, lengths, slices. -/
import Derived.Test.YtlachfpabecaeaaQAmOps4
namespace AM
set_option linter.unusedVariables false
open Go
variable{U:dw}{E:Env U}{pm:Pm}
variable{F:Nat->Prop}{kv:Key->Value}{fp:Key->List Nat}{σ:aa U}{a:Act}{w:World}{bad:Key->Bool}
theorem la{α:Type}{as:Array α}{l:List α}(h:as.toList=l):as=l.toArray:=by rw[<-h]
theorem mO{t e:TypeId}(h:E.elem t=some e):E.P.underlying t=some (.slice e):=by
 unfold Env.elem at h
 split at h
 ·rename_i e' hu;cases h;exact hu
 ·cases h
theorem fM{t:TypeId}{m:Nat}(h:(E.elem t).bind E.size=some m):∃e i,E.P.underlying t=some (.slice e)/\E.P.info? e=some i/\i.size=m:=by
 cases he:E.elem t with
 |none=>rw[he] at h;cases h
 |some e=>
  rw[he] at h
  simp only[Option.bind_some,Env.size] at h
  cases hi:E.P.info? e with
  |none=>rw[hi] at h;cases h
  |some i=>rw[hi] at h;simp only[nG,bH] at h;exact⟨e,i,mO he,hi,h⟩
theorem Aa{t e:TypeId}{i:TypeInfo}{b off len cap:Nat}{k:IntKind}{n:Int}(hu:E.P.underlying t=some (.slice e))(hi:E.P.info? e=some i)(h1:0<=n)(h2:n.toNat<len):
  (Instr.indexAt t (.slice (some ⟨b,off,none⟩) len cap) (.int k n)).run E.P w=.ok (.pointer (some ⟨b,off+n.toNat*i.size,none⟩)) w:=by
 have h3:0<=n/\n<(len:Int):=⟨h1,by omega⟩
 simp[Instr.indexAt,asIntOf,run_underlying hu,Go.sizeOf,typeInfo,hi,h3,Addr.add_mid]
theorem IQ{o:Oper}{t:TypeId}{x y:Operand}{sx sy:SV U}{τ:U.Ty}{ys:List (U.T τ)}{k:IntKind}{n:Int}{m:Nat}(ho:o.op=.indexAddr t x y)
  (hx:RS E w F kv fp bad sx (a.eval x)) (hc:i_ sx=some (.c (.sl τ ys))) (hy:RS E w F kv fp bad sy (a.eval y)) (hl:cq sy=some (.int k n)) (hm:(E.elem t).bind E.size=some m) (hw:m=U.wd τ)
  (h1:0<=n) (h2:n.toNat<ys.length):aB E F kv fp bad a w o (one (.ia (U.enc τ (ys.getD n.toNat (U.bj τ))))):=by
 obtain⟨e,i,hu,hi,hs⟩:=fM hm
 have h3:=fR hy hl
 rcases(aA (du hx hc) rfl:Rp E w F false _ _ _).inv with⟨h0,_⟩|⟨b,off,cap,vs,h4,hF,kx,hv,hr⟩
 ·rw[h0] at h2;simp at h2
 ·have jt:=ba (d:=U.bj τ) h2
  refine⟨.pointer (some ⟨b,off+n.toNat*U.wd τ,none⟩),?_,bY ⟨⟨rfl,trivial⟩,.inr ⟨b,_,rfl,hF,fun j c hj=> ?_⟩⟩⟩
  ·unfold execOp;simp only[ho,h3,h4]
   rw[<-hw,<-hs]
   exact b8 (Aa hu hi h1 h2)
  ·refine⟨vs (n.toNat*U.wd τ+j),?_,hr _ _ j c jt hj⟩
   rw[uD];exact hv _ (bm jt hj)
theorem IN(h:aE E pm F kv fp σ a w){o:Oper}{t:TypeId}{x y:Operand}{sx sy:SV U}{k:Key}{p:Path}{ks:List Key}{kd:IntKind}{n:Int}{m:Nat}{ps:List Prop}{b:fx U}(ho:o.op=.indexAddr t x y)
  (hx:RS E w F kv fp (ay σ) sx (a.eval x)) (hc:i_ sx=some (.ref k p)) (hy:RS E w F kv fp (ay σ) sy (a.eval y)) (hl:cq sy=some (.int kd n)) (hm:(E.elem t).bind E.size=some m)
  (ha:fq (restrict σ.aw ks) σ.ah (.ref k p)=some (ps,b)) (hw:m=U.wd b.τ) (hp:∀q∈ps,q)
  (h1:0<=n) (h2:n.toNat<b.xs.length):aB E F kv fp (ay σ) a w o (one (.dG k p n.toNat (U.wd b.τ) 0)):=by
 obtain⟨e,i,hu,hi,hs⟩:=fM hm
 have h3:=fR hy hl
 have mr:=du hx hc
 have AS:=Al h ha hp mr
 have Ll:cd (ay σ) (AC.ref (U:=U) k p)=false:=by
  simp only[fq] at ha
  split at ha
  ·rename_i y d he
   cases ck:bw (restrict σ.aw ks) σ.ah k p<;>simp only[ck,cond_false,cond_true] at ha
   ·cases ha
   ·exact oW ck he
  ·cases ha
 have eZ:=aA mr Ll
 rcases AS.inv with⟨h0,_⟩|⟨b',off,cap,vs,h4,hF,kx,hv,hr⟩
 ·rw[h0] at h2;simp at h2
 ·refine⟨.pointer (some ⟨b',off+n.toNat*U.wd b.τ,none⟩),?_,bY ⟨⟨rfl,trivial⟩,.inr ⟨b',off,b.xs.length,cap,?_,by simp⟩⟩⟩
  ·unfold execOp;simp only[ho,h3,h4]
   rw[<-hw,<-hs]
   exact b8 (Aa hu hi h1 h2)
  ·rw[<-h4];exact eZ
theorem JV{s:ByteArray}{n:Nat}(h:n<s.size):s[n]? =some (s.data.toList.getD n 0):=by
 have h':n<s.data.toList.length:=by simpa using h
 rw[cB,cF h']
 simp[h]
 rfl
theorem IM{o:Oper}{t:TypeId}{x y:Operand}{sx sy:SV U}{s:ByteArray}{k:IntKind}{n:Int}(ho:o.op=.index t x y)
  (hx:RS E w F kv fp bad sx (a.eval x)) (hc:cq sx=some (.string s)) (hy:RS E w F kv fp bad sy (a.eval y)) (hl:cq sy=some (.int k n)) (hu:E.P.underlying t=some .string)
  (h1:0<=n) (h2:n.toNat<s.size):aB E F kv fp bad a w o (js (.int .u8 ((s.data.toList.getD n.toNat 0).toNat:Int))):=by
 refine⟨_,?_,ez (v:=.int .u8 _) ⟨rfl,by have:=(s.data.toList.getD n.toNat 0).toNat_lt;simp only[IntKind.min,IntKind.max,IntKind.signed,IntKind.bits,mF,if_false];omega⟩⟩
 unfold execOp;simp only[ho,fR hx hc,fR hy hl]
 refine b8 ?_
 simp only[Instr.index,asIntOf,Sem.run_bind,Sem.run_pure,Result.andThen_ok,run_underlying hu,if_pos h1,JV h2]
theorem IL{o:Oper}{x:Operand}{t:TypeId}{sx:SV U}{s:ByteArray}{cl:Call}(ho:o.op=.call cl)(ck:cl.callee=.builtin .len)(dE:cl.args.toList=[x])(mq:cl.argTypes.toList=[t])
  (hx:RS E w F kv fp bad sx (a.eval x)) (hc:cq sx=some (.string s)) (hu:E.P.underlying t=some .string):aB E F kv fp bad a w o (js (.int .i64 s.size)):=by
 refine⟨_,?_,ez (v:=.int .i64 _) ⟨rfl,by have:s.size<=9223372036854775807:=(u0 hx hc).2;simp only[IntKind.min,IntKind.max,IntKind.signed,IntKind.bits,if_true];omega⟩⟩
 have ha:cl.args= #[x]:=la dE
 have ht:cl.argTypes= #[t]:=la mq
 unfold execOp;simp only[ho]
 simp[resolve,ck,ha,ht,invoke,builtin,Builtin.len_,run_underlying hu,fR hx hc,goInt]
theorem zX{o:Oper}{x:Operand}{t e:TypeId}{n:Nat}{cl:Call}(ho:o.op=.call cl)(ck:cl.callee=.builtin .len)(dE:cl.args.toList=[x])(mq:cl.argTypes.toList=[t])
  (hx:∃ad c,a.eval x=.slice ad n c) (hu:E.P.underlying t=some (.slice e)) (E0:n<=maxLen):aB E F kv fp bad a w o (js (.int .i64 n)):=by
 obtain⟨ad,c,hx⟩:=hx
 unfold maxLen at E0
 refine⟨_,?_,ez (v:=.int .i64 _) ⟨rfl,by simp only[IntKind.min,IntKind.max,IntKind.signed,IntKind.bits,if_true];omega⟩⟩
 have ha:cl.args= #[x]:=la dE
 have ht:cl.argTypes= #[t]:=la mq
 unfold execOp;simp only[ho]
 simp[resolve,ck,ha,ht,invoke,builtin,Builtin.len_,run_underlying hu,hx,goInt]
theorem Rp.slice{w:World}{F:Nat->Prop}{τ:U.Ty}{xs:List (U.T τ)}{v:Value}{fp:List Nat}(h:Rp E w F false (.sl τ xs) v fp):∃ad c,v=.slice ad xs.length c/\(xs.length<=c):=by
 rcases h.inv with⟨h0,ad,c,rfl⟩|⟨b,off,cap,vs,rfl,_,hc,_,_⟩
 ·exact⟨ad,c,by simp[h0],by simp[h0]⟩
 ·exact⟨_,_,rfl,hc⟩
theorem DN{o:Oper}{x y:Operand}{sx sy:SV U}{k:IntKind}{m n:Int}{cl:Call}{b:Bool}(ho:o.op=.call cl)(ck:cl.callee=.builtin (if b then .min else .max))(dE:cl.args.toList=[x,y])
  (hx:RS E w F kv fp bad sx (a.eval x)) (hc:cq sx=some (.int k m)) (hy:RS E w F kv fp bad sy (a.eval y)) (ec:cq sy=some (.int k n)):
  aB E F kv fp bad a w o (js (.int k (if(if b then n<m else n>m) then n else m))):=by
 have PU:k.min<=m/\m<=k.max:=(u0 hx hc).2
 have Nm:k.min<=n/\n<=k.max:=(u0 hy ec).2
 refine⟨_,?_,ez (v:=.int k _) ⟨rfl,by cases b<;>simp only[mF,if_false,if_true]<;>split<;>assumption⟩⟩
 have ha:cl.args= #[x,y]:=la dE
 unfold execOp;simp only[ho]
 cases b
 ·simp[resolve,ck,ha,invoke,builtin,Builtin.max_,Builtin.max2,fR hx hc,fR hy ec]
 ·simp[resolve,ck,ha,invoke,builtin,Builtin.min_,Builtin.min2,fR hx hc,fR hy ec]
theorem JZ{b:Option Operand}{bs BQ:List (SV U)}{l:Option Int}(h:oz b bs=some (l,BQ)):
  (b=none/\l=none/\BQ=bs)\/∃y sy k n,b=some y/\bs=sy::BQ/\cq sy=some (.int k n)/\l=some n:=by
 unfold oz at h
 split at h
 ·cases h;exact .inl ⟨rfl,rfl,rfl⟩
 ·rename_i y sy r
  split at h
  ·rename_i k n hn;cases h;exact .inr ⟨y,sy,k,n,rfl,rfl,hn,rfl⟩
  ·cases h
 ·cases h
def yp(l:Option Int)(v:Option Value):Prop:=(l=none/\v=none)\/∃k n,l=some n/\v=some (.int k n)
theorem HY{t:TypeId}{s:ByteArray}{l h:Option Int}{lv hv:Option Value}(hu:E.P.underlying t=some .string)(hl:yp l lv)(hh:yp h hv)
  (h1:0<=l.getD 0) (h2:l.getD 0<=h.getD s.size) (h3:h.getD s.size<=s.size):
  (Instr.sliceAt t (.string s) lv hv none).run E.P w=.ok (.string (s.extract (l.getD 0).toNat (h.getD s.size).toNat)) w:=by
 rcases hl with⟨rfl,rfl⟩|⟨k,n,rfl,rfl⟩<;>rcases hh with⟨rfl,rfl⟩|⟨k',n',rfl,rfl⟩<;>simp only[Ho,yz] at h1 h2 h3⊢
 ·simp[Instr.sliceAt,run_underlying hu,Instr.slice,Instr.sliceBounds]
 ·have h4:0<=n'/\n'<=(s.size:Int):=⟨by omega,h3⟩
  simp[Instr.sliceAt,run_underlying hu,Instr.slice,Instr.sliceBounds,Instr.sliceBound,asIntOf,h4]
 ·have h4:0<=n/\n<=(s.size:Int):=⟨by omega,h2⟩
  simp[Instr.sliceAt,run_underlying hu,Instr.slice,Instr.sliceBounds,Instr.sliceBound,asIntOf,h4]
 ·have h4:0<=n'/\n'<=(s.size:Int):=⟨by omega,h3⟩
  have h5:0<=n/\n<=(n'.toNat:Int):=⟨by omega,by omega⟩
  have h6:0<=n/\n<=max n' 0:=⟨by omega,by omega⟩
  simp[Instr.sliceAt,run_underlying hu,Instr.slice,Instr.sliceBounds,Instr.sliceBound,asIntOf,h4,h5,h6]
theorem zO{t e:TypeId}{i:TypeInfo}{ad:Option Addr}{n c:Nat}{l h:Option Int}{lv hv:Option Value}(hu:E.P.underlying t=some (.slice e))(hi:E.P.info? e=some i)(hl:yp l lv)(hh:yp h hv)
  (hc:n<=c) (h1:0<=l.getD 0) (h2:l.getD 0<=h.getD n) (h3:h.getD n<=n):
  (Instr.sliceAt t (.slice ad n c) lv hv none).run E.P w=.ok (gq i.size (l.getD 0).toNat (h.getD n).toNat (.slice ad n c)) w:=by
 rcases hl with⟨rfl,rfl⟩|⟨k,m,rfl,rfl⟩<;>rcases hh with⟨rfl,rfl⟩|⟨k',m',rfl,rfl⟩<;>simp only[Ho,yz] at h1 h2 h3⊢
 ·simp[Instr.sliceAt,run_underlying hu,Instr.slice,Instr.sliceBounds,Go.sizeOf,typeInfo,hi,gq]
 ·have h4:0<=m'/\m'<=(c:Int):=⟨by omega,by omega⟩
  simp[Instr.sliceAt,run_underlying hu,Instr.slice,Instr.sliceBounds,Instr.sliceBound,asIntOf,h4,Go.sizeOf,typeInfo,hi,gq]
 ·have h4:0<=m/\m<=(n:Int):=⟨by omega,h2⟩
  simp[Instr.sliceAt,run_underlying hu,Instr.slice,Instr.sliceBounds,Instr.sliceBound,asIntOf,h4,Go.sizeOf,typeInfo,hi,gq]
 ·have h4:0<=m'/\m'<=(c:Int):=⟨by omega,by omega⟩
  have h5:0<=m/\m<=(m'.toNat:Int):=⟨by omega,by omega⟩
  have h6:0<=m/\m<=max m' 0:=⟨by omega,by omega⟩
  simp[Instr.sliceAt,run_underlying hu,Instr.slice,Instr.sliceBounds,Instr.sliceBound,asIntOf,h4,h5,h6,Go.sizeOf,typeInfo,hi,gq]
theorem HX{t e:TypeId}{i:TypeInfo}{ad:Option Addr}{n c:Nat}{l:Option Int}{lv:Option Value}{k k':IntKind}(hu:E.P.underlying t=some (.slice e))(hi:E.P.info? e=some i)(hl:yp l lv)
  (h1:l.getD 0=0):
  (Instr.sliceAt t (.slice ad n c) lv (some (.int k 0)) (some (.int k' 0))).run E.P w=.ok (.slice ad 0 0) w:=by
 rcases hl with⟨rfl,rfl⟩|⟨k,m,rfl,rfl⟩<;>simp only[Ho,yz] at h1⊢
 ·simp[Instr.sliceAt,run_underlying hu,Instr.slice,Instr.sliceBounds,Instr.sliceBound,asIntOf,Go.sizeOf,typeInfo,hi]
 ·subst h1
  simp[Instr.sliceAt,run_underlying hu,Instr.slice,Instr.sliceBounds,Instr.sliceBound,asIntOf,Go.sizeOf,typeInfo,hi]
theorem NY{ks:List Key}{tb:fT U}{ah:List Key}{ps:List Prop}{b:fx U}(h:fq tb ah (.e0:AC U)=some (ps,b)):False:=by simp[fq] at h
theorem NV{wd lo hi:Nat}{v:Value}(h:v.oneCell'=true):(gq wd lo hi v).oneCell'=true:=by
 cases v<;>first|rfl|exact h
theorem IG(h:aE E pm F kv fp σ a w){o:Oper}{t:TypeId}{x:Operand}{lo hi mx:Option Operand}{sx:SV U}{l hh m:Option Int}{ks:List Key}{r:az U}(ho:o.op=.slice t x lo hi mx)
  (hx:RS E w F kv fp (ay σ) sx (a.eval x)) (hl:yp l (lo.map a.eval)) (E7:yp hh (hi.map a.eval)) (hm:yp m (mx.map a.eval)) (hr:jc E (restrict σ.aw ks) σ.ah t sx l hh m=some r) (hp:∀p∈r.pre,p):
  ∃sv ps,r=⟨some sv,[],[],[],ps⟩/\aB E F kv fp (ay σ) a w o sv:=by
 have run:∀v sv,(Instr.sliceAt t (a.eval x) (lo.map a.eval) (hi.map a.eval) (mx.map a.eval)).run E.P w=.ok v w->RS E w F kv fp (ay σ) sv v->aB E F kv fp (ay σ) a w o sv:=fun v sv h1 h2=>
  ⟨v,by unfold execOp;simp only[ho];exact b8 h1,h2⟩
 unfold jc at hr
 split at hr
 ·rename_i mm
  obtain⟨km,nm,tV,qe⟩:=hm.resolve_left (fun e=>by cases e.1)
  cases tV
  split at hr
  ·rename_i hv y n kz iT
   obtain⟨kh,nh,OO,ON⟩:=E7.resolve_left (fun e=>by cases e.1)
   cases OO
   obtain⟨e,i,hu,gu,hs⟩:=fM iT
   have mr:=du hx kz
   have fin:(∃ad n c,a.eval x=.slice ad n c)->mm=0->hv=0->l.getD 0=0->aB E F kv fp (ay σ) a w o (one .e0):=by
    rintro⟨ad,n,c,AE⟩ rfl rfl h3
    refine run (.slice ad 0 0) _ ?_ (bY ⟨⟨rfl,trivial⟩,.inr ⟨ad,rfl⟩⟩)
    rw[AE,ON,qe]
    exact HX hu gu hl h3
   split at hr
   ·rename_i ps b ha
    cases hr
    refine⟨_,_,rfl,fin ?_ (hp (mm=0) (by simp[az.aF])) (hp (hv=0) (by simp[az.aF])) (hp (l.getD 0=0) (by simp[az.aF]))⟩
    obtain⟨ad,c,h1,_⟩:=(Al h ha (fun q hq=>hp q (by simp[az.aF,hq])) mr).slice
    exact⟨ad,_,c,h1⟩
   ·split at hr
    ·cases hr
     refine⟨_,_,rfl,fin ?_ (hp (mm=0) (by simp[az.aF])) (hp (hv=0) (by simp[az.aF])) (hp (l.getD 0=0) (by simp[az.aF]))⟩
     obtain⟨ad,h1⟩:=aA mr rfl
     exact⟨ad,_,_,h1⟩
    ·cases hr
  ·cases hr
 ·obtain⟨_,qe⟩:(none:Option Int)=none/\mx.map a.eval=none:=hm.resolve_right (fun⟨_,_,e,_⟩=>by cases e)
  split at hr
  ·rename_i s hs
   split at hr
   ·rename_i hu
    cases hr
    refine⟨_,_,rfl,run _ _ ?_ (ez (v:=.string _) ⟨rfl,by have:s.size<=9223372036854775807:=(u0 hx hs).2;simp only[ByteArray.size_extract];omega⟩)⟩
    rw[fR hx hs,qe]
    exact HY hu hl E7 (hp _ (by simp[az.lit,az.aF])) (hp _ (by simp[az.lit,az.aF])) (hp _ (by simp[az.lit,az.aF]))
   ·cases hr
  ·cases hr
  ·split at hr
   ·rename_i τ ys n kz iT
    cases hb:Nat.beq n (U.wd τ)<;>simp only[hb,cond_false,cond_true] at hr
    ·cases hr
    ·have hn:=eI hb
     subst hn
     cases hr
     have h1:0<=l.getD 0:=hp _ (by simp[az.aF])
     have h2:l.getD 0<=hh.getD ys.length:=hp _ (by simp[az.aF])
     have h3:hh.getD ys.length<=ys.length:=hp _ (by simp[az.aF])
     obtain⟨e,i,hu,gu,hs⟩:=fM iT
     have AS:Rp E w F false _ _ _:=aA (du hx kz) rfl
     obtain⟨ad,c,hv,hc⟩:=AS.slice
     have eE:=AS.sub (lo:=(l.getD 0).toNat) (hi:=(hh.getD ys.length).toNat) (by omega) (by omega)
     refine⟨_,_,rfl,run _ _ ?_ (bY ⟨eE.bn,.inr eE⟩)⟩
     rw[hv,qe,<-hs]
     exact zO hu gu hl E7 hc h1 h2 h3
   ·rename_i k n kz iT
    split at hr
    ·rename_i r0 d he
     cases hb:Nat.beq n (U.wd r0.τ)<;>simp only[hb,cond_false,cond_true] at hr
     ·cases hr
     ·have hn:=eI hb
      subst hn
      cases hr
      have h1:0<=l.getD 0:=hp _ (by simp[az.aF])
      have h2:l.getD 0<=hh.getD r0.xs.length:=hp _ (by simp[az.aF])
      have h3:hh.getD r0.xs.length<=r0.xs.length:=hp _ (by simp[az.aF])
      obtain⟨e,i,hu,gu,hs⟩:=fM iT
      have mr:=du hx kz
      have vr:a.eval x=kv k:=aA mr rfl
      obtain⟨ad,c,hv,hc⟩:=(tu h (cQ he)).slice
      refine⟨_,_,rfl,run (gq (U.wd r0.τ) (l.getD 0).toNat (hh.getD r0.xs.length).toNat (kv k)) _ ?_ (bY ⟨(by rw[hv];exact⟨rfl,trivial⟩),.inr ⟨rfl,by omega⟩⟩)⟩
      rw[vr,hv,qe,<-hs]
      exact zO hu gu hl E7 hc h1 h2 h3
    ·rename_i r0 dead he
     cases hb:Nat.beq n (U.wd r0.τ)<;>simp only[hb,cond_false,cond_true] at hr
     ·cases hr
     ·have hn:=eI hb
      subst hn
      cases hr
      have h1:0<=l.getD 0:=hp _ (by simp[az.aF])
      have h2:l.getD 0<=hh.getD r0.xs.length:=hp _ (by simp[az.aF])
      have h3:hh.getD r0.xs.length<=r0.xs.length:=hp _ (by simp[az.aF])
      obtain⟨e,i,hu,gu,hs⟩:=fM iT
      have mr:=du hx kz
      have vr:a.eval x=kv k:=aA mr rfl
      obtain⟨ad,c,hv,hc⟩:=aU.uK (h.aJ k _ (cQ he))
      refine⟨_,_,rfl,run (gq (U.wd r0.τ) (l.getD 0).toNat (hh.getD r0.xs.length).toNat (kv k)) _ ?_ (bY ⟨(by rw[hv];exact⟨rfl,trivial⟩),.inr ⟨rfl,by omega⟩⟩)⟩
      rw[vr,hv,qe,<-hs]
      exact zO hu gu hl E7 hc h1 h2 h3
    ·cases hr
   ·cases hr
end AM
