import Derived.Test.YtknfcngfhlpaeaaGreatDoorQAmOps4
namespace AM
set_option linter.unusedVariables false
open Go
variable{U:kz}{E:Env U}{pm:Pm}
variable{F:Nat->Prop}{kv:Key->Value}{fp:Key->List Nat}{σ:ak U}{a:Act}{w:World}{bad:Key->Bool}
theorem yn{α:Type}{as:Array α}{l:List α}(h:as.toList=l):as=l.toArray:=by rw[<-h]
theorem CH{t e:TypeId}(h:E.elem t=some e):E.P.underlying t=some (.slice e):=by
 unfold Env.elem at h
 split at h
 ·rename_i e' hu;cases h;exact hu
 ·cases h
theorem oD{t:TypeId}{m:Nat}(h:(E.elem t).bind E.size=some m):∃e i,E.P.underlying t=some (.slice e)/\E.P.info? e=some i/\i.size=m:=by
 cases he:E.elem t with
 |none=>rw[he] at h;cases h
 |some e=>
  rw[he] at h
  simp only[Option.bind_some,Env.size] at h
  cases hi:E.P.info? e with
  |none=>rw[hi] at h;cases h
  |some i=>rw[hi] at h;simp only[D3,fM] at h;exact⟨e,i,CH he,hi,h⟩
theorem WR{t e:TypeId}{i:TypeInfo}{b off len cap:Nat}{k:IntKind}{n:Int}(hu:E.P.underlying t=some (.slice e))(hi:E.P.info? e=some i)(h1:0<=n)(h2:n.toNat<len):
  (Instr.indexAt t (.slice (some ⟨b,off,none⟩) len cap) (.int k n)).run E.P w=.ok (.pointer (some ⟨b,off+n.toNat*i.size,none⟩)) w:=by
 have h3:0<=n/\n<(len:Int):=⟨h1,by omega⟩
 simp[Instr.indexAt,asIntOf,run_underlying hu,Go.sizeOf,typeInfo,hi,h3,Addr.add_mid]
theorem aiu{o:Oper}{t:TypeId}{x y:Operand}{sx sy:SV U}{τ:U.Ty}{ys:List (U.T τ)}{k:IntKind}{n:Int}{m:Nat}(ho:o.op=.indexAddr t x y)
  (hx:RS E w F kv fp bad sx (a.eval x)) (hc:tG sx=some (.c (.sl τ ys))) (hy:RS E w F kv fp bad sy (a.eval y)) (hl:ix sy=some (.int k n)) (hm:(E.elem t).bind E.size=some m) (hw:m=U.wd τ)
  (h1:0<=n) (h2:n.toNat<ys.length):cy E F kv fp bad a w o (one (.ia (U.enc τ (ys.getD n.toNat (U.ee τ))))):=by
 obtain⟨e,i,hu,hi,hs⟩:=oD hm
 have h3:=o6 hy hl
 rcases(ca (kr hx hc) rfl:Rp E w F false _ _ _).inv with⟨h0,_⟩|⟨b,off,cap,vs,h4,hF,yJ,hv,hr⟩
 ·rw[h0] at h2;simp at h2
 ·have uR:=ff (d:=U.ee τ) h2
  refine⟨.pointer (some ⟨b,off+n.toNat*U.wd τ,none⟩),?_,gP ⟨⟨rfl,trivial⟩,.inr ⟨b,_,rfl,hF,fun j c hj=> ?_⟩⟩⟩
  ·unfold execOp;simp only[ho,h3,h4]
   rw[<-hw,<-hs]
   exact gY (WR hu hi h1 h2)
  ·refine⟨vs (n.toNat*U.wd τ+j),?_,hr _ _ j c uR hj⟩
   rw[Ny];exact hv _ (fi uR hj)
theorem ais(h:cG E pm F kv fp σ a w){o:Oper}{t:TypeId}{x y:Operand}{sx sy:SV U}{k:Key}{p:Path}{ks:List Key}{kd:IntKind}{n:Int}{m:Nat}{ps:List Prop}{b:cC U}(ho:o.op=.indexAddr t x y)
  (hx:RS E w F kv fp (bR σ) sx (a.eval x)) (hc:tG sx=some (.ref k p)) (hy:RS E w F kv fp (bR σ) sy (a.eval y)) (hl:ix sy=some (.int kd n)) (hm:(E.elem t).bind E.size=some m)
  (ha:pE (restrict σ.bH ks) σ.aR (.ref k p)=some (ps,b)) (hw:m=U.wd b.τ) (hp:∀q∈ps,q)
  (h1:0<=n) (h2:n.toNat<b.xs.length):cy E F kv fp (bR σ) a w o (one (.kI k p n.toNat (U.wd b.τ) 0)):=by
 obtain⟨e,i,hu,hi,hs⟩:=oD hm
 have h3:=o6 hy hl
 have Aj:=kr hx hc
 have Xv:=W2 h ha hp Aj
 have akp:hJ (bR σ) (AC.ref (U:=U) k p)=false:=by
  simp only[pE] at ha
  split at ha
  ·rename_i y d he
   cases gB:fm (restrict σ.bH ks) σ.aR k p<;>simp only[gB,cond_false,cond_true] at ha
   ·cases ha
   ·exact FM gB he
  ·cases ha
 have nt:=ca Aj akp
 rcases Xv.inv with⟨h0,_⟩|⟨b',off,cap,vs,h4,hF,yJ,hv,hr⟩
 ·rw[h0] at h2;simp at h2
 ·refine⟨.pointer (some ⟨b',off+n.toNat*U.wd b.τ,none⟩),?_,gP ⟨⟨rfl,trivial⟩,.inr ⟨b',off,b.xs.length,cap,?_,by simp⟩⟩⟩
  ·unfold execOp;simp only[ho,h3,h4]
   rw[<-hw,<-hs]
   exact gY (WR hu hi h1 h2)
  ·rw[<-h4];exact nt
theorem ajz{s:ByteArray}{n:Nat}(h:n<s.size):s[n]? =some (s.data.toList.getD n 0):=by
 have h':n<s.data.toList.length:=by simpa using h
 rw[dB,eW h']
 simp[h]
 rfl
theorem air{o:Oper}{t:TypeId}{x y:Operand}{sx sy:SV U}{s:ByteArray}{k:IntKind}{n:Int}(ho:o.op=.index t x y)
  (hx:RS E w F kv fp bad sx (a.eval x)) (hc:ix sx=some (.string s)) (hy:RS E w F kv fp bad sy (a.eval y)) (hl:ix sy=some (.int k n)) (hu:E.P.underlying t=some .string)
  (h1:0<=n) (h2:n.toNat<s.size):cy E F kv fp bad a w o (uQ (.int .u8 ((s.data.toList.getD n.toNat 0).toNat:Int))):=by
 refine⟨_,?_,l4 (v:=.int .u8 _) ⟨rfl,by have:=(s.data.toList.getD n.toNat 0).toNat_lt;simp only[IntKind.min,IntKind.max,IntKind.signed,IntKind.bits,wb,if_false];omega⟩⟩
 unfold execOp;simp only[ho,o6 hx hc,o6 hy hl]
 refine gY ?_
 simp only[Instr.index,asIntOf,Sem.run_bind,Sem.run_pure,Result.andThen_ok,run_underlying hu,if_pos h1,ajz h2]
theorem aiq{o:Oper}{x:Operand}{t:TypeId}{sx:SV U}{s:ByteArray}{cl:Call}(ho:o.op=.call cl)(gB:cl.callee=.builtin .len)(kG:cl.args.toList=[x])(Ai:cl.argTypes.toList=[t])
  (hx:RS E w F kv fp bad sx (a.eval x)) (hc:ix sx=some (.string s)) (hu:E.P.underlying t=some .string):cy E F kv fp bad a w o (uQ (.int .i64 s.size)):=by
 refine⟨_,?_,l4 (v:=.int .i64 _) ⟨rfl,by have:s.size<=9223372036854775807:=(N_ hx hc).2;simp only[IntKind.min,IntKind.max,IntKind.signed,IntKind.bits,if_true];omega⟩⟩
 have ha:cl.args= #[x]:=yn kG
 have ht:cl.argTypes= #[t]:=yn Ai
 unfold execOp;simp only[ho]
 simp[resolve,gB,ha,ht,invoke,builtin,Builtin.len_,run_underlying hu,o6 hx hc,goInt]
theorem WL{o:Oper}{x:Operand}{t e:TypeId}{n:Nat}{cl:Call}(ho:o.op=.call cl)(gB:cl.callee=.builtin .len)(kG:cl.args.toList=[x])(Ai:cl.argTypes.toList=[t])
  (hx:∃ad c,a.eval x=.slice ad n c) (hu:E.P.underlying t=some (.slice e)) (hmx:n<=maxLen):cy E F kv fp bad a w o (uQ (.int .i64 n)):=by
 obtain⟨ad,c,hx⟩:=hx
 unfold maxLen at hmx
 refine⟨_,?_,l4 (v:=.int .i64 _) ⟨rfl,by simp only[IntKind.min,IntKind.max,IntKind.signed,IntKind.bits,if_true];omega⟩⟩
 have ha:cl.args= #[x]:=yn kG
 have ht:cl.argTypes= #[t]:=yn Ai
 unfold execOp;simp only[ho]
 simp[resolve,gB,ha,ht,invoke,builtin,Builtin.len_,run_underlying hu,hx,goInt]
theorem Rp.slice{w:World}{F:Nat->Prop}{τ:U.Ty}{xs:List (U.T τ)}{v:Value}{fp:List Nat}(h:Rp E w F false (.sl τ xs) v fp):∃ad c,v=.slice ad xs.length c/\(xs.length<=c):=by
 rcases h.inv with⟨h0,ad,c,rfl⟩|⟨b,off,cap,vs,rfl,_,hc,_,_⟩
 ·exact⟨ad,c,by simp[h0],by simp[h0]⟩
 ·exact⟨_,_,rfl,hc⟩
theorem aaR{o:Oper}{x y:Operand}{sx sy:SV U}{k:IntKind}{m n:Int}{cl:Call}{b:Bool}(ho:o.op=.call cl)(gB:cl.callee=.builtin (if b then .min else .max))(kG:cl.args.toList=[x,y])
  (hx:RS E w F kv fp bad sx (a.eval x)) (hc:ix sx=some (.int k m)) (hy:RS E w F kv fp bad sy (a.eval y)) (l_:ix sy=some (.int k n)):
  cy E F kv fp bad a w o (uQ (.int k (if(if b then n<m else n>m) then n else m))):=by
 have hrm:k.min<=m/\m<=k.max:=(N_ hx hc).2
 have hrn:k.min<=n/\n<=k.max:=(N_ hy l_).2
 refine⟨_,?_,l4 (v:=.int k _) ⟨rfl,by cases b<;>simp only[wb,if_false,if_true]<;>split<;>assumption⟩⟩
 have ha:cl.args= #[x,y]:=yn kG
 unfold execOp;simp only[ho]
 cases b
 ·simp[resolve,gB,ha,invoke,builtin,Builtin.max_,Builtin.max2,o6 hx hc,o6 hy l_]
 ·simp[resolve,gB,ha,invoke,builtin,Builtin.min_,Builtin.min2,o6 hx hc,o6 hy l_]
theorem ajD{b:Option Operand}{bs YN:List (SV U)}{l:Option Int}(h:Fj b bs=some (l,YN)):
  (b=none/\l=none/\YN=bs)\/∃y sy k n,b=some y/\bs=sy::YN/\ix sy=some (.int k n)/\l=some n:=by
 unfold Fj at h
 split at h
 ·cases h;exact .inl ⟨rfl,rfl,rfl⟩
 ·rename_i y sy r
  split at h
  ·rename_i k n hn;cases h;exact .inr ⟨y,sy,k,n,rfl,rfl,hn,rfl⟩
  ·cases h
 ·cases h
def Tn(l:Option Int)(v:Option Value):Prop:=(l=none/\v=none)\/∃k n,l=some n/\v=some (.int k n)
theorem ahF{t:TypeId}{s:ByteArray}{l h:Option Int}{lv hv:Option Value}(hu:E.P.underlying t=some .string)(hl:Tn l lv)(hh:Tn h hv)
  (h1:0<=l.getD 0) (h2:l.getD 0<=h.getD s.size) (h3:h.getD s.size<=s.size):
  (Instr.sliceAt t (.string s) lv hv none).run E.P w=.ok (.string (s.extract (l.getD 0).toNat (h.getD s.size).toNat)) w:=by
 rcases hl with⟨rfl,rfl⟩|⟨k,n,rfl,rfl⟩<;>rcases hh with⟨rfl,rfl⟩|⟨k',n',rfl,rfl⟩<;>simp only[Nz,DY] at h1 h2 h3⊢
 ·simp[Instr.sliceAt,run_underlying hu,Instr.slice,Instr.sliceBounds]
 ·have h4:0<=n'/\n'<=(s.size:Int):=⟨by omega,h3⟩
  simp[Instr.sliceAt,run_underlying hu,Instr.slice,Instr.sliceBounds,Instr.sliceBound,asIntOf,h4]
 ·have h4:0<=n/\n<=(s.size:Int):=⟨by omega,h2⟩
  simp[Instr.sliceAt,run_underlying hu,Instr.slice,Instr.sliceBounds,Instr.sliceBound,asIntOf,h4]
 ·have h4:0<=n'/\n'<=(s.size:Int):=⟨by omega,h3⟩
  have h5:0<=n/\n<=(n'.toNat:Int):=⟨by omega,by omega⟩
  have h6:0<=n/\n<=max n' 0:=⟨by omega,by omega⟩
  simp[Instr.sliceAt,run_underlying hu,Instr.slice,Instr.sliceBounds,Instr.sliceBound,asIntOf,h4,h5,h6]
theorem WB{t e:TypeId}{i:TypeInfo}{ad:Option Addr}{n c:Nat}{l h:Option Int}{lv hv:Option Value}(hu:E.P.underlying t=some (.slice e))(hi:E.P.info? e=some i)(hl:Tn l lv)(hh:Tn h hv)
  (hc:n<=c) (h1:0<=l.getD 0) (h2:l.getD 0<=h.getD n) (h3:h.getD n<=n):
  (Instr.sliceAt t (.slice ad n c) lv hv none).run E.P w=.ok (p9 i.size (l.getD 0).toNat (h.getD n).toNat (.slice ad n c)) w:=by
 rcases hl with⟨rfl,rfl⟩|⟨k,m,rfl,rfl⟩<;>rcases hh with⟨rfl,rfl⟩|⟨k',m',rfl,rfl⟩<;>simp only[Nz,DY] at h1 h2 h3⊢
 ·simp[Instr.sliceAt,run_underlying hu,Instr.slice,Instr.sliceBounds,Go.sizeOf,typeInfo,hi,p9]
 ·have h4:0<=m'/\m'<=(c:Int):=⟨by omega,by omega⟩
  simp[Instr.sliceAt,run_underlying hu,Instr.slice,Instr.sliceBounds,Instr.sliceBound,asIntOf,h4,Go.sizeOf,typeInfo,hi,p9]
 ·have h4:0<=m/\m<=(n:Int):=⟨by omega,h2⟩
  simp[Instr.sliceAt,run_underlying hu,Instr.slice,Instr.sliceBounds,Instr.sliceBound,asIntOf,h4,Go.sizeOf,typeInfo,hi,p9]
 ·have h4:0<=m'/\m'<=(c:Int):=⟨by omega,by omega⟩
  have h5:0<=m/\m<=(m'.toNat:Int):=⟨by omega,by omega⟩
  have h6:0<=m/\m<=max m' 0:=⟨by omega,by omega⟩
  simp[Instr.sliceAt,run_underlying hu,Instr.slice,Instr.sliceBounds,Instr.sliceBound,asIntOf,h4,h5,h6,Go.sizeOf,typeInfo,hi,p9]
theorem ahE{t e:TypeId}{i:TypeInfo}{ad:Option Addr}{n c:Nat}{l:Option Int}{lv:Option Value}{k k':IntKind}(hu:E.P.underlying t=some (.slice e))(hi:E.P.info? e=some i)(hl:Tn l lv)
  (h1:l.getD 0=0):
  (Instr.sliceAt t (.slice ad n c) lv (some (.int k 0)) (some (.int k' 0))).run E.P w=.ok (.slice ad 0 0) w:=by
 rcases hl with⟨rfl,rfl⟩|⟨k,m,rfl,rfl⟩<;>simp only[Nz,DY] at h1⊢
 ·simp[Instr.sliceAt,run_underlying hu,Instr.slice,Instr.sliceBounds,Instr.sliceBound,asIntOf,Go.sizeOf,typeInfo,hi]
 ·subst h1
  simp[Instr.sliceAt,run_underlying hu,Instr.slice,Instr.sliceBounds,Instr.sliceBound,asIntOf,Go.sizeOf,typeInfo,hi]
theorem ail(h:cG E pm F kv fp σ a w){o:Oper}{t:TypeId}{x:Operand}{lo hi mx:Option Operand}{sx:SV U}{l hh m:Option Int}{ks:List Key}{r:bX U}(ho:o.op=.slice t x lo hi mx)
  (hx:RS E w F kv fp (bR σ) sx (a.eval x)) (hl:Tn l (lo.map a.eval)) (Ye:Tn hh (hi.map a.eval)) (hm:Tn m (mx.map a.eval)) (hr:tM E (restrict σ.bH ks) σ.aR t sx l hh m=some r) (hp:∀p∈r.pre,p):
  ∃sv ps,r=⟨some sv,[],[],[],ps⟩/\cy E F kv fp (bR σ) a w o sv:=by
 have run:∀v sv,(Instr.sliceAt t (a.eval x) (lo.map a.eval) (hi.map a.eval) (mx.map a.eval)).run E.P w=.ok v w->RS E w F kv fp (bR σ) sv v->cy E F kv fp (bR σ) a w o sv:=fun v sv h1 h2=>
  ⟨v,by unfold execOp;simp only[ho];exact gY h1,h2⟩
 unfold tM at hr
 split at hr
 ·rename_i mm
  obtain⟨km,nm,ML,HE⟩:=hm.resolve_left (fun e=>by cases e.1)
  cases ML
  split at hr
  ·rename_i hv y n w6 tt
   obtain⟨kh,nh,hh1,hh2⟩:=Ye.resolve_left (fun e=>by cases e.1)
   cases hh1
   obtain⟨e,i,hu,pa,hs⟩:=oD tt
   have Aj:=kr hx w6
   have fin:(∃ad n c,a.eval x=.slice ad n c)->mm=0->hv=0->l.getD 0=0->cy E F kv fp (bR σ) a w o (one .e0):=by
    rintro⟨ad,n,c,Xj⟩ rfl rfl h3
    refine run (.slice ad 0 0) _ ?_ (gP ⟨⟨rfl,trivial⟩,.inr ⟨ad,rfl⟩⟩)
    rw[Xj,hh2,HE]
    exact ahE hu pa hl h3
   split at hr
   ·rename_i ps b ha
    cases hr
    refine⟨_,_,rfl,fin ?_ (hp (mm=0) (by simp[bX.cE])) (hp (hv=0) (by simp[bX.cE])) (hp (l.getD 0=0) (by simp[bX.cE]))⟩
    obtain⟨ad,c,h1,_⟩:=(W2 h ha (fun q hq=>hp q (by simp[bX.cE,hq])) Aj).slice
    exact⟨ad,_,c,h1⟩
   ·split at hr
    ·cases hr
     refine⟨_,_,rfl,fin ?_ (hp (mm=0) (by simp[bX.cE])) (hp (hv=0) (by simp[bX.cE])) (hp (l.getD 0=0) (by simp[bX.cE]))⟩
     obtain⟨ad,h1⟩:=ca Aj rfl
     exact⟨ad,_,_,h1⟩
    ·cases hr
  ·cases hr
 ·obtain⟨_,HE⟩:(none:Option Int)=none/\mx.map a.eval=none:=hm.resolve_right (fun⟨_,_,e,_⟩=>by cases e)
  split at hr
  ·rename_i s hs
   split at hr
   ·rename_i hu
    cases hr
    refine⟨_,_,rfl,run _ _ ?_ (l4 (v:=.string _) ⟨rfl,by have:s.size<=9223372036854775807:=(N_ hx hs).2;simp only[ByteArray.size_extract];omega⟩)⟩
    rw[o6 hx hs,HE]
    exact ahF hu hl Ye (hp _ (by simp[bX.lit,bX.cE])) (hp _ (by simp[bX.lit,bX.cE])) (hp _ (by simp[bX.lit,bX.cE]))
   ·cases hr
  ·cases hr
  ·split at hr
   ·rename_i τ ys n w6 tt
    cases hb:Nat.beq n (U.wd τ)<;>simp only[hb,cond_false,cond_true] at hr
    ·cases hr
    ·have hn:=mc hb
     subst hn
     cases hr
     have h1:0<=l.getD 0:=hp _ (by simp[bX.cE])
     have h2:l.getD 0<=hh.getD ys.length:=hp _ (by simp[bX.cE])
     have h3:hh.getD ys.length<=ys.length:=hp _ (by simp[bX.cE])
     obtain⟨e,i,hu,pa,hs⟩:=oD tt
     have Xv:Rp E w F false _ _ _:=ca (kr hx w6) rfl
     obtain⟨ad,c,hv,hc⟩:=Xv.slice
     have o8:=Xv.sub (lo:=(l.getD 0).toNat) (hi:=(hh.getD ys.length).toNat) (by omega) (by omega)
     refine⟨_,_,rfl,run _ _ ?_ (gP ⟨o8.fJ,.inr o8⟩)⟩
     rw[hv,HE,<-hs]
     exact WB hu pa hl Ye hc h1 h2 h3
   ·rename_i k n w6 tt
    split at hr
    ·rename_i r0 d he
     cases hb:Nat.beq n (U.wd r0.τ)<;>simp only[hb,cond_false,cond_true] at hr
     ·cases hr
     ·have hn:=mc hb
      subst hn
      cases hr
      have h1:0<=l.getD 0:=hp _ (by simp[bX.cE])
      have h2:l.getD 0<=hh.getD r0.xs.length:=hp _ (by simp[bX.cE])
      have h3:hh.getD r0.xs.length<=r0.xs.length:=hp _ (by simp[bX.cE])
      obtain⟨e,i,hu,pa,hs⟩:=oD tt
      have Aj:=kr hx w6
      have O0:a.eval x=kv k:=ca Aj rfl
      obtain⟨ad,c,hv,hc⟩:=(Me h (jx he)).slice
      refine⟨_,_,rfl,run (p9 (U.wd r0.τ) (l.getD 0).toNat (hh.getD r0.xs.length).toNat (kv k)) _ ?_ (gP ⟨(by rw[hv];exact⟨rfl,trivial⟩),.inr ⟨rfl,by omega⟩⟩)⟩
      rw[O0,hv,HE,<-hs]
      exact WB hu pa hl Ye hc h1 h2 h3
    ·rename_i r0 dead he
     cases hb:Nat.beq n (U.wd r0.τ)<;>simp only[hb,cond_false,cond_true] at hr
     ·cases hr
     ·have hn:=mc hb
      subst hn
      cases hr
      have h1:0<=l.getD 0:=hp _ (by simp[bX.cE])
      have h2:l.getD 0<=hh.getD r0.xs.length:=hp _ (by simp[bX.cE])
      have h3:hh.getD r0.xs.length<=r0.xs.length:=hp _ (by simp[bX.cE])
      obtain⟨e,i,hu,pa,hs⟩:=oD tt
      have Aj:=kr hx w6
      have O0:a.eval x=kv k:=ca Aj rfl
      obtain⟨ad,c,hv,hc⟩:=dK.NM (h.cW k _ (jx he))
      refine⟨_,_,rfl,run (p9 (U.wd r0.τ) (l.getD 0).toNat (hh.getD r0.xs.length).toNat (kv k)) _ ?_ (gP ⟨(by rw[hv];exact⟨rfl,trivial⟩),.inr ⟨rfl,by omega⟩⟩)⟩
      rw[O0,hv,HE,<-hs]
      exact WB hu pa hl Ye hc h1 h2 h3
    ·cases hr
   ·cases hr
end AM
