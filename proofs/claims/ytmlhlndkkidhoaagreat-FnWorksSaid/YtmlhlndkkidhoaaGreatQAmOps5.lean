/- THE ABSTRACT MACHINE: indexes, lengths, slices. -/
import Derived.Test.YtmlhlndkkidhoaaGreatQAmOps4
namespace AM
set_option linter.unusedVariables false
open Go
variable{U:kZ}{E:Env U}{pm:Pm}
variable{F:Nat->Prop}{kv:Key->Value}{fp:Key->List Nat}{σ:ah U}{a:Act}{w:World}{bad:Key->Bool}
theorem yD{α:Type}{as:Array α}{l:List α}(h:as.toList=l):as=l.toArray:=by rw[<-h]
theorem CD{t e:TypeId}(h:E.elem t=some e):E.P.underlying t=some (.slice e):=by
 unfold Env.elem at h
 split at h
 ·rename_i e' hu;cases h;exact hu
 ·cases h
theorem pj{t:TypeId}{m:Nat}(h:(E.elem t).bind E.size=some m):∃e i,E.P.underlying t=some (.slice e)/\E.P.info? e=some i/\i.size=m:=by
 cases he:E.elem t with
 |none=>rw[he] at h;cases h
 |some e=>
  rw[he] at h
  simp only[Option.bind_some,Env.size] at h
  cases hi:E.P.info? e with
  |none=>rw[hi] at h;cases h
  |some i=>rw[hi] at h;simp only[Ek,gx] at h;exact⟨e,i,CD he,hi,h⟩
theorem XT{t e:TypeId}{i:TypeInfo}{b off len cap:Nat}{k:IntKind}{n:Int}(hu:E.P.underlying t=some (.slice e))(hi:E.P.info? e=some i)(h1:0<=n)(h2:n.toNat<len):
  (Instr.indexAt t (.slice (some ⟨b,off,none⟩) len cap) (.int k n)).run E.P w=.ok (.pointer (some ⟨b,off+n.toNat*i.size,none⟩)) w:=by
 have h3:0<=n/\n<(len:Int):=⟨h1,by omega⟩
 simp[Instr.indexAt,asIntOf,run_underlying hu,Go.sizeOf,typeInfo,hi,h3,Addr.add_mid]
theorem amv{o:Oper}{t:TypeId}{x y:Operand}{sx sy:SV U}{τ:U.Ty}{ys:List (U.T τ)}{k:IntKind}{n:Int}{m:Nat}(ho:o.op=.indexAddr t x y)
  (hx:RS E w F kv fp bad sx (a.eval x)) (hc:tT sx=some (.c (.sl τ ys))) (hy:RS E w F kv fp bad sy (a.eval y)) (hl:iR sy=some (.int k n)) (hm:(E.elem t).bind E.size=some m) (hw:m=U.wd τ)
  (h1:0<=n) (h2:n.toNat<ys.length):cB E F kv fp bad a w o (one (.ia (U.enc τ (ys.getD n.toNat (U.e_ τ))))):=by
 obtain⟨e,i,hu,hi,hs⟩:=pj hm
 have h3:=pH hy hl
 rcases(cf (kP hx hc) rfl:Rp E w F false _ _ _).inv with⟨h0,_⟩|⟨b,off,cap,vs,h4,hF,Dd,hv,hr⟩
 ·rw[h0] at h2;simp at h2
 ·have u6:=e9 (d:=U.e_ τ) h2
  refine⟨.pointer (some ⟨b,off+n.toNat*U.wd τ,none⟩),?_,ik ⟨⟨rfl,trivial⟩,.inr ⟨b,_,rfl,hF,fun j c hj=> ?_⟩⟩⟩
  ·unfold execOp;simp only[ho,h3,h4]
   rw[<-hw,<-hs]
   exact iA (XT hu hi h1 h2)
  ·refine⟨vs (n.toNat*U.wd τ+j),?_,hr _ _ j c u6 hj⟩
   rw[Oo];exact hv _ (fJ u6 hj)
theorem amt(h:cE E pm F kv fp σ a w){o:Oper}{t:TypeId}{x y:Operand}{sx sy:SV U}{k:Key}{p:Path}{ks:List Key}{kd:IntKind}{n:Int}{m:Nat}{ps:List Prop}{b:iX U}(ho:o.op=.indexAddr t x y)
  (hx:RS E w F kv fp (bW σ) sx (a.eval x)) (hc:tT sx=some (.ref k p)) (hy:RS E w F kv fp (bW σ) sy (a.eval y)) (hl:iR sy=some (.int kd n)) (hm:(E.elem t).bind E.size=some m)
  (ha:ou (restrict σ.bJ ks) σ.aK (.ref k p)=some (ps,b)) (hw:m=U.wd b.τ) (hp:∀q∈ps,q)
  (h1:0<=n) (h2:n.toNat<b.xs.length):cB E F kv fp (bW σ) a w o (one (.lg k p n.toNat (U.wd b.τ) 0)):=by
 obtain⟨e,i,hu,hi,hs⟩:=pj hm
 have h3:=pH hy hl
 have Az:=kP hx hc
 have YC:=X4 h ha hp Az
 have aou:iG (bW σ) (AC.ref (U:=U) k p)=false:=by
  simp only[ou] at ha
  split at ha
  ·rename_i y d he
   cases iq:fL (restrict σ.bJ ks) σ.aK k p<;>simp only[iq,cond_false,cond_true] at ha
   ·cases ha
   ·exact Gd iq he
  ·cases ha
 have nK:=cf Az aou
 rcases YC.inv with⟨h0,_⟩|⟨b',off,cap,vs,h4,hF,Dd,hv,hr⟩
 ·rw[h0] at h2;simp at h2
 ·refine⟨.pointer (some ⟨b',off+n.toNat*U.wd b.τ,none⟩),?_,ik ⟨⟨rfl,trivial⟩,.inr ⟨b',off,b.xs.length,cap,?_,by simp⟩⟩⟩
  ·unfold execOp;simp only[ho,h3,h4]
   rw[<-hw,<-hs]
   exact iA (XT hu hi h1 h2)
  ·rw[<-h4];exact nK
theorem anD{s:ByteArray}{n:Nat}(h:n<s.size):s[n]? =some (s.data.toList.getD n 0):=by
 have h':n<s.data.toList.length:=by simpa using h
 rw[eY,fo h']
 simp[h]
 rfl
theorem ams{o:Oper}{t:TypeId}{x y:Operand}{sx sy:SV U}{s:ByteArray}{k:IntKind}{n:Int}(ho:o.op=.index t x y)
  (hx:RS E w F kv fp bad sx (a.eval x)) (hc:iR sx=some (.string s)) (hy:RS E w F kv fp bad sy (a.eval y)) (hl:iR sy=some (.int k n)) (hu:E.P.underlying t=some .string)
  (h1:0<=n) (h2:n.toNat<s.size):cB E F kv fp bad a w o (u4 (.int .u8 ((s.data.toList.getD n.toNat 0).toNat:Int))):=by
 refine⟨_,?_,mH (v:=.int .u8 _) ⟨rfl,by have:=(s.data.toList.getD n.toNat 0).toNat_lt;simp only[IntKind.min,IntKind.max,IntKind.signed,IntKind.bits,wx,if_false];omega⟩⟩
 unfold execOp;simp only[ho,pH hx hc,pH hy hl]
 refine iA ?_
 simp only[Instr.index,asIntOf,Sem.run_bind,Sem.run_pure,Result.andThen_ok,run_underlying hu,if_pos h1,anD h2]
theorem amr{o:Oper}{x:Operand}{t:TypeId}{sx:SV U}{s:ByteArray}{cl:Call}(ho:o.op=.call cl)(iq:cl.callee=.builtin .len)(ld:cl.args.toList=[x])(Ay:cl.argTypes.toList=[t])
  (hx:RS E w F kv fp bad sx (a.eval x)) (hc:iR sx=some (.string s)) (hu:E.P.underlying t=some .string):cB E F kv fp bad a w o (u4 (.int .i64 s.size)):=by
 refine⟨_,?_,mH (v:=.int .i64 _) ⟨rfl,by have:s.size<=9223372036854775807:=(O5 hx hc).2;simp only[IntKind.min,IntKind.max,IntKind.signed,IntKind.bits,if_true];omega⟩⟩
 have ha:cl.args= #[x]:=yD ld
 have ht:cl.argTypes= #[t]:=yD Ay
 unfold execOp;simp only[ho]
 simp[resolve,iq,ha,ht,invoke,builtin,Builtin.len_,run_underlying hu,pH hx hc,goInt]
theorem XO{o:Oper}{x:Operand}{t e:TypeId}{n:Nat}{cl:Call}(ho:o.op=.call cl)(iq:cl.callee=.builtin .len)(ld:cl.args.toList=[x])(Ay:cl.argTypes.toList=[t])
  (hx:∃ad c,a.eval x=.slice ad n c) (hu:E.P.underlying t=some (.slice e)) (hmx:n<=maxLen):cB E F kv fp bad a w o (u4 (.int .i64 n)):=by
 obtain⟨ad,c,hx⟩:=hx
 unfold maxLen at hmx
 refine⟨_,?_,mH (v:=.int .i64 _) ⟨rfl,by simp only[IntKind.min,IntKind.max,IntKind.signed,IntKind.bits,if_true];omega⟩⟩
 have ha:cl.args= #[x]:=yD ld
 have ht:cl.argTypes= #[t]:=yD Ay
 unfold execOp;simp only[ho]
 simp[resolve,iq,ha,ht,invoke,builtin,Builtin.len_,run_underlying hu,hx,goInt]
theorem Rp.slice{w:World}{F:Nat->Prop}{τ:U.Ty}{xs:List (U.T τ)}{v:Value}{fp:List Nat}(h:Rp E w F false (.sl τ xs) v fp):∃ad c,v=.slice ad xs.length c/\(xs.length<=c):=by
 rcases h.inv with⟨h0,ad,c,rfl⟩|⟨b,off,cap,vs,rfl,_,hc,_,_⟩
 ·exact⟨ad,c,by simp[h0],by simp[h0]⟩
 ·exact⟨_,_,rfl,hc⟩
theorem acv{o:Oper}{x y:Operand}{sx sy:SV U}{k:IntKind}{m n:Int}{cl:Call}{b:Bool}(ho:o.op=.call cl)(iq:cl.callee=.builtin (if b then .min else .max))(ld:cl.args.toList=[x,y])
  (hx:RS E w F kv fp bad sx (a.eval x)) (hc:iR sx=some (.int k m)) (hy:RS E w F kv fp bad sy (a.eval y)) (l4:iR sy=some (.int k n)):
  cB E F kv fp bad a w o (u4 (.int k (if(if b then n<m else n>m) then n else m))):=by
 have hrm:k.min<=m/\m<=k.max:=(O5 hx hc).2
 have hrn:k.min<=n/\n<=k.max:=(O5 hy l4).2
 refine⟨_,?_,mH (v:=.int k _) ⟨rfl,by cases b<;>simp only[wx,if_false,if_true]<;>split<;>assumption⟩⟩
 have ha:cl.args= #[x,y]:=yD ld
 unfold execOp;simp only[ho]
 cases b
 ·simp[resolve,iq,ha,invoke,builtin,Builtin.max_,Builtin.max2,pH hx hc,pH hy l4]
 ·simp[resolve,iq,ha,invoke,builtin,Builtin.min_,Builtin.min2,pH hx hc,pH hy l4]
theorem anI{b:Option Operand}{bs ZA:List (SV U)}{l:Option Int}(h:FL b bs=some (l,ZA)):
  (b=none/\l=none/\ZA=bs)\/∃y sy k n,b=some y/\bs=sy::ZA/\iR sy=some (.int k n)/\l=some n:=by
 unfold FL at h
 split at h
 ·cases h;exact .inl ⟨rfl,rfl,rfl⟩
 ·rename_i y sy r
  split at h
  ·rename_i k n hn;cases h;exact .inr ⟨y,sy,k,n,rfl,rfl,hn,rfl⟩
  ·cases h
 ·cases h
def VG(l:Option Int)(v:Option Value):Prop:=(l=none/\v=none)\/∃k n,l=some n/\v=some (.int k n)
theorem alI{t:TypeId}{s:ByteArray}{l h:Option Int}{lv hv:Option Value}(hu:E.P.underlying t=some .string)(hl:VG l lv)(hh:VG h hv)
  (h1:0<=l.getD 0) (h2:l.getD 0<=h.getD s.size) (h3:h.getD s.size<=s.size):
  (Instr.sliceAt t (.string s) lv hv none).run E.P w=.ok (.string (s.extract (l.getD 0).toNat (h.getD s.size).toNat)) w:=by
 rcases hl with⟨rfl,rfl⟩|⟨k,n,rfl,rfl⟩<;>rcases hh with⟨rfl,rfl⟩|⟨k',n',rfl,rfl⟩<;>simp only[Tp,FU] at h1 h2 h3⊢
 ·simp[Instr.sliceAt,run_underlying hu,Instr.slice,Instr.sliceBounds]
 ·have h4:0<=n'/\n'<=(s.size:Int):=⟨by omega,h3⟩
  simp[Instr.sliceAt,run_underlying hu,Instr.slice,Instr.sliceBounds,Instr.sliceBound,asIntOf,h4]
 ·have h4:0<=n/\n<=(s.size:Int):=⟨by omega,h2⟩
  simp[Instr.sliceAt,run_underlying hu,Instr.slice,Instr.sliceBounds,Instr.sliceBound,asIntOf,h4]
 ·have h4:0<=n'/\n'<=(s.size:Int):=⟨by omega,h3⟩
  have h5:0<=n/\n<=(n'.toNat:Int):=⟨by omega,by omega⟩
  have h6:0<=n/\n<=max n' 0:=⟨by omega,by omega⟩
  simp[Instr.sliceAt,run_underlying hu,Instr.slice,Instr.sliceBounds,Instr.sliceBound,asIntOf,h4,h5,h6]
theorem XF{t e:TypeId}{i:TypeInfo}{ad:Option Addr}{n c:Nat}{l h:Option Int}{lv hv:Option Value}(hu:E.P.underlying t=some (.slice e))(hi:E.P.info? e=some i)(hl:VG l lv)(hh:VG h hv)
  (hc:n<=c) (h1:0<=l.getD 0) (h2:l.getD 0<=h.getD n) (h3:h.getD n<=n):
  (Instr.sliceAt t (.slice ad n c) lv hv none).run E.P w=.ok (qo i.size (l.getD 0).toNat (h.getD n).toNat (.slice ad n c)) w:=by
 rcases hl with⟨rfl,rfl⟩|⟨k,m,rfl,rfl⟩<;>rcases hh with⟨rfl,rfl⟩|⟨k',m',rfl,rfl⟩<;>simp only[Tp,FU] at h1 h2 h3⊢
 ·simp[Instr.sliceAt,run_underlying hu,Instr.slice,Instr.sliceBounds,Go.sizeOf,typeInfo,hi,qo]
 ·have h4:0<=m'/\m'<=(c:Int):=⟨by omega,by omega⟩
  simp[Instr.sliceAt,run_underlying hu,Instr.slice,Instr.sliceBounds,Instr.sliceBound,asIntOf,h4,Go.sizeOf,typeInfo,hi,qo]
 ·have h4:0<=m/\m<=(n:Int):=⟨by omega,h2⟩
  simp[Instr.sliceAt,run_underlying hu,Instr.slice,Instr.sliceBounds,Instr.sliceBound,asIntOf,h4,Go.sizeOf,typeInfo,hi,qo]
 ·have h4:0<=m'/\m'<=(c:Int):=⟨by omega,by omega⟩
  have h5:0<=m/\m<=(m'.toNat:Int):=⟨by omega,by omega⟩
  have h6:0<=m/\m<=max m' 0:=⟨by omega,by omega⟩
  simp[Instr.sliceAt,run_underlying hu,Instr.slice,Instr.sliceBounds,Instr.sliceBound,asIntOf,h4,h5,h6,Go.sizeOf,typeInfo,hi,qo]
theorem alH{t e:TypeId}{i:TypeInfo}{ad:Option Addr}{n c:Nat}{l:Option Int}{lv:Option Value}{k k':IntKind}(hu:E.P.underlying t=some (.slice e))(hi:E.P.info? e=some i)(hl:VG l lv)
  (h1:l.getD 0=0):
  (Instr.sliceAt t (.slice ad n c) lv (some (.int k 0)) (some (.int k' 0))).run E.P w=.ok (.slice ad 0 0) w:=by
 rcases hl with⟨rfl,rfl⟩|⟨k,m,rfl,rfl⟩<;>simp only[Tp,FU] at h1⊢
 ·simp[Instr.sliceAt,run_underlying hu,Instr.slice,Instr.sliceBounds,Instr.sliceBound,asIntOf,Go.sizeOf,typeInfo,hi]
 ·subst h1
  simp[Instr.sliceAt,run_underlying hu,Instr.slice,Instr.sliceBounds,Instr.sliceBound,asIntOf,Go.sizeOf,typeInfo,hi]
theorem at5{ks:List Key}{tb:pQ U}{aK:List Key}{ps:List Prop}{b:iX U}(h:ou tb aK (.e0:AC U)=some (ps,b)):False:=by simp[ou] at h
theorem at2{wd lo hi:Nat}{v:Value}(h:v.oneCell'=true):(qo wd lo hi v).oneCell'=true:=by
 cases v<;>first|rfl|exact h
theorem amm(h:cE E pm F kv fp σ a w){o:Oper}{t:TypeId}{x:Operand}{lo hi mx:Option Operand}{sx:SV U}{l hh m:Option Int}{ks:List Key}{r:cd U}(ho:o.op=.slice t x lo hi mx)
  (hx:RS E w F kv fp (bW σ) sx (a.eval x)) (hl:VG l (lo.map a.eval)) (hhi:VG hh (hi.map a.eval)) (hm:VG m (mx.map a.eval)) (hr:ub E (restrict σ.bJ ks) σ.aK t sx l hh m=some r) (hp:∀p∈r.pre,p):
  ∃sv ps,r=⟨some sv,[],[],[],ps⟩/\cB E F kv fp (bW σ) a w o sv:=by
 have run:∀v sv,(Instr.sliceAt t (a.eval x) (lo.map a.eval) (hi.map a.eval) (mx.map a.eval)).run E.P w=.ok v w->RS E w F kv fp (bW σ) sv v->cB E F kv fp (bW σ) a w o sv:=fun v sv h1 h2=>
  ⟨v,by unfold execOp;simp only[ho];exact iA h1,h2⟩
 unfold ub at hr
 split at hr
 ·rename_i mm
  obtain⟨km,nm,Ns,H3⟩:=hm.resolve_left (fun e=>by cases e.1)
  cases Ns
  split at hr
  ·rename_i hv y n xc tF
   obtain⟨kh,nh,hh1,hh2⟩:=hhi.resolve_left (fun e=>by cases e.1)
   cases hh1
   obtain⟨e,i,hu,pN,hs⟩:=pj tF
   have Az:=kP hx xc
   have fin:(∃ad n c,a.eval x=.slice ad n c)->mm=0->hv=0->l.getD 0=0->cB E F kv fp (bW σ) a w o (one .e0):=by
    rintro⟨ad,n,c,Yo⟩ rfl rfl h3
    refine run (.slice ad 0 0) _ ?_ (ik ⟨⟨rfl,trivial⟩,.inr ⟨ad,rfl⟩⟩)
    rw[Yo,hh2,H3]
    exact alH hu pN hl h3
   split at hr
   ·rename_i ps b ha
    cases hr
    refine⟨_,_,rfl,fin ?_ (hp (mm=0) (by simp[cd.cG])) (hp (hv=0) (by simp[cd.cG])) (hp (l.getD 0=0) (by simp[cd.cG]))⟩
    obtain⟨ad,c,h1,_⟩:=(X4 h ha (fun q hq=>hp q (by simp[cd.cG,hq])) Az).slice
    exact⟨ad,_,c,h1⟩
   ·split at hr
    ·cases hr
     refine⟨_,_,rfl,fin ?_ (hp (mm=0) (by simp[cd.cG])) (hp (hv=0) (by simp[cd.cG])) (hp (l.getD 0=0) (by simp[cd.cG]))⟩
     obtain⟨ad,h1⟩:=cf Az rfl
     exact⟨ad,_,_,h1⟩
    ·cases hr
  ·cases hr
 ·obtain⟨_,H3⟩:(none:Option Int)=none/\mx.map a.eval=none:=hm.resolve_right (fun⟨_,_,e,_⟩=>by cases e)
  split at hr
  ·rename_i s hs
   split at hr
   ·rename_i hu
    cases hr
    refine⟨_,_,rfl,run _ _ ?_ (mH (v:=.string _) ⟨rfl,by have:s.size<=9223372036854775807:=(O5 hx hs).2;simp only[ByteArray.size_extract];omega⟩)⟩
    rw[pH hx hs,H3]
    exact alI hu hl hhi (hp _ (by simp[cd.lit,cd.cG])) (hp _ (by simp[cd.lit,cd.cG])) (hp _ (by simp[cd.lit,cd.cG]))
   ·cases hr
  ·cases hr
  ·split at hr
   ·rename_i τ ys n xc tF
    cases hb:Nat.beq n (U.wd τ)<;>simp only[hb,cond_false,cond_true] at hr
    ·cases hr
    ·have hn:=mM hb
     subst hn
     cases hr
     have h1:0<=l.getD 0:=hp _ (by simp[cd.cG])
     have h2:l.getD 0<=hh.getD ys.length:=hp _ (by simp[cd.cG])
     have h3:hh.getD ys.length<=ys.length:=hp _ (by simp[cd.cG])
     obtain⟨e,i,hu,pN,hs⟩:=pj tF
     have YC:Rp E w F false _ _ _:=cf (kP hx xc) rfl
     obtain⟨ad,c,hv,hc⟩:=YC.slice
     have pK:=YC.sub (lo:=(l.getD 0).toNat) (hi:=(hh.getD ys.length).toNat) (by omega) (by omega)
     refine⟨_,_,rfl,run _ _ ?_ (ik ⟨pK.gq,.inr pK⟩)⟩
     rw[hv,H3,<-hs]
     exact XF hu pN hl hhi hc h1 h2 h3
   ·rename_i k n xc tF
    split at hr
    ·rename_i r0 d he
     cases hb:Nat.beq n (U.wd r0.τ)<;>simp only[hb,cond_false,cond_true] at hr
     ·cases hr
     ·have hn:=mM hb
      subst hn
      cases hr
      have h1:0<=l.getD 0:=hp _ (by simp[cd.cG])
      have h2:l.getD 0<=hh.getD r0.xs.length:=hp _ (by simp[cd.cG])
      have h3:hh.getD r0.xs.length<=r0.xs.length:=hp _ (by simp[cd.cG])
      obtain⟨e,i,hu,pN,hs⟩:=pj tF
      have Az:=kP hx xc
      have PH:a.eval x=kv k:=cf Az rfl
      obtain⟨ad,c,hv,hc⟩:=(MW h (jS he)).slice
      refine⟨_,_,rfl,run (qo (U.wd r0.τ) (l.getD 0).toNat (hh.getD r0.xs.length).toNat (kv k)) _ ?_ (ik ⟨(by rw[hv];exact⟨rfl,trivial⟩),.inr ⟨rfl,by omega⟩⟩)⟩
      rw[PH,hv,H3,<-hs]
      exact XF hu pN hl hhi hc h1 h2 h3
    ·rename_i r0 dead he
     cases hb:Nat.beq n (U.wd r0.τ)<;>simp only[hb,cond_false,cond_true] at hr
     ·cases hr
     ·have hn:=mM hb
      subst hn
      cases hr
      have h1:0<=l.getD 0:=hp _ (by simp[cd.cG])
      have h2:l.getD 0<=hh.getD r0.xs.length:=hp _ (by simp[cd.cG])
      have h3:hh.getD r0.xs.length<=r0.xs.length:=hp _ (by simp[cd.cG])
      obtain⟨e,i,hu,pN,hs⟩:=pj tF
      have Az:=kP hx xc
      have PH:a.eval x=kv k:=cf Az rfl
      obtain⟨ad,c,hv,hc⟩:=eo.OC (h.di k _ (jS he))
      refine⟨_,_,rfl,run (qo (U.wd r0.τ) (l.getD 0).toNat (hh.getD r0.xs.length).toNat (kv k)) _ ?_ (ik ⟨(by rw[hv];exact⟨rfl,trivial⟩),.inr ⟨rfl,by omega⟩⟩)⟩
      rw[PH,hv,H3,<-hs]
      exact XF hu pN hl hhi hc h1 h2 h3
    ·cases hr
   ·cases hr
end AM
