import Derived.Test.YtnndcpncmmcaaaaGreatQAmOps1
namespace AM
set_option linter.unusedVariables false
open Go
variable{U:jO}{E:Env U}{pm:Pm}
theorem aog{P:Program}{w:World}{t:TypeId}(hu:P.underlying t=some .bool)(d:Nat)(a b:Bool):(Op.equalIn (d+1) t (.bool a) (.bool b)).run P w=.ok (a==b) w:=by
 unfold Op.equalIn
 rw[Sem.run_bind,run_underlying hu]
 rfl
theorem aof{P:Program}{w:World}{t:TypeId}(hu:P.underlying t=some .bool)(a b:Bool):(Op.equal t (.bool a) (.bool b)).run P w=.ok (a==b) w:=
 aog hu 9999 a b
theorem al6{k:IntKind}{a b:Int}(h:k.min<=a/\a<=k.max):k.min<=a.tmod b/\a.tmod b<=k.max:=by
 have hm:k.min<=0/\0<=k.max:=by cases k<;>decide
 rcases Int.le_total 0 a with ha|ha
 ·have h1:=Int.tmod_nonneg b ha
  have h2:a.tmod b<=a:=by
   have:=Int.natAbs_tmod a b
   have h3:(a.tmod b).natAbs<=a.natAbs:=by rw[this];exact Nat.mod_le _ _
   omega
  omega
 ·have h1:a.tmod b<=0:=by
   have:=Int.tmod_nonneg b (a:= -a) (by omega)
   rw[Int.neg_tmod] at this;omega
  have h2:a<=a.tmod b:=by
   have:=Int.natAbs_tmod a b
   have h3:(a.tmod b).natAbs<=a.natAbs:=by rw[this];exact Nat.mod_le _ _
   omega
  omega
theorem al5{k:IntKind}{a:Int}(m:Nat)(h:k.min<=a/\a<=k.max):k.min<=a.fdiv (2^m)/\a.fdiv (2^m)<=k.max:=by
 have hm:k.min<=0/\0<=k.max:=by cases k<;>decide
 have hp:(0:Int)<2^m:=Int.pow_pos (by decide)
 have h1:(1:Int)<=2^m:=hp
 rw[Int.fdiv_eq_ediv_of_nonneg _ (Int.le_of_lt hp)]
 rcases Int.le_total 0 a with ha|ha
 ·have:=Int.ediv_nonneg ha (Int.le_of_lt hp)
  have:=Int.ediv_le_self (2^m) ha
  omega
 ·have h2:a/2^m<=0:=Int.ediv_le_of_le_mul hp (by omega)
  have h3:a<=a/2^m:=by
   rw[Int.le_ediv_iff_mul_le hp]
   have:=Int.mul_le_mul_of_nonpos_left ha h1
   omega
  omega
theorem anR{w:World}{t:TypeId}{op:BinOp}{x y v:Value}{ps:List Prop}(h:C8 E t op x y=some (ps,v))(hp:∀p∈ps,p)(hx:fu x):
  (binOp op t x y).run E.P w=.ok v w/\fu v/\(∀cs,x≠ .agg cs)/\x≠ .nilIface:=by
 unfold C8 at h
 split at h
 ·rename_i k a k' b
  have hxr:k.min<=a/\a<=k.max:=hx.2
  refine⟨?_,?_,(fun _=>by simp),by simp⟩
  ·cases op<;>simp only at h
   case shl=>
    cases h
    have hb:¬b<0:=by have:=hp (0<=b) (by simp);omega
    simp[binOp,Op.shift,hb]
   case shr=>
    cases h
    have hb:¬b<0:=by have:=hp (0<=b) (by simp);omega
    simp[binOp,Op.shift,hb]
   all_goals
    by_cases hk:k=k'
    ·subst hk
     simp only[decide_true,cond_true] at h
     first
      |(cases h;done)
      |(cases h;simp[binOp,Op.intArith,Op.intCmp,Op.intBits];done)
      |(cases h;have hb:b≠0:=hp _ (by simp);simp[binOp,Op.intDiv,hb];done)
    ·simp[hk] at h
  ·cases op<;>simp only at h
   case shl=>cases h;exact⟨rfl,wrap_within _ _⟩
   case shr=>cases h;exact⟨rfl,al5 _ hxr⟩
   all_goals
    by_cases hk:k=k'
    ·subst hk
     simp only[decide_true,cond_true] at h
     first|(cases h;done)|(cases h;exact⟨rfl,trivial⟩)|(cases h;exact⟨rfl,wrap_within _ _⟩)|(cases h;exact⟨rfl,al6 hxr⟩)
    ·simp[hk] at h
 ·rename_i a b
  refine⟨?_,?_,(fun _=>by simp),by simp⟩
  ·cases op<;>simp only at h
   case add=>
    cases h
    have hb:a.size+b.size<=4611686018427387904:=hp _ (by simp)
    simp[binOp,Op.stringOp]
    omega
   all_goals first|(cases h;done)|(cases h;simp[binOp,Op.stringOp];done)
  ·cases op<;>simp only at h
   case add=>
    cases h
    have hb:a.size+b.size<=4611686018427387904:=hp _ (by simp)
    exact⟨rfl,by simp only[ByteArray.size_append];omega⟩
   all_goals first|(cases h;done)|(cases h;exact⟨rfl,trivial⟩)
 ·rename_i a b
  split at h
  ·rename_i hu
   refine⟨?_,?_,(fun _=>by simp),by simp⟩
   ·cases op<;>simp only at h<;>first|(cases h;done)|(cases h;simp[binOp,aof hu];done)
   ·cases op<;>simp only at h<;>first|(cases h;done)|(cases h;exact⟨rfl,trivial⟩)
  ·cases h
 ·cases h
section
variable{F:Nat->Prop}{kv:Key->Value}{fp:Key->List Nat}{σ:ah U}{a:Act}{w:World}
def cA(E:Env U)(F:Nat->Prop)(kv:Key->Value)(fp:Key->List Nat)(bad:Key->Bool)(a:Act)(w:World)(o:Oper)(sv:SV U):Prop:=
 ∃v,(execOp a.eval o).run E.P w=.ok (.value v) w/\RS E w F kv fp bad sv v
variable{bad:Key->Bool}
theorem anm{o:Oper}{x:Operand}{sx:SV U}(ho:o.op=.move x)(hx:RS E w F kv fp bad sx (a.eval x)):cA E F kv fp bad a w o sx:=
 ⟨a.eval x,by unfold execOp;simp only[ho];rfl,hx⟩
theorem anG{o:Oper}{x:Operand}{sx:SV U}(ho:o.op=.assign x)(hx:RS E w F kv fp bad sx (a.eval x)):cA E F kv fp bad a w o sx:=
 ⟨a.eval x,by unfold execOp;simp only[ho];rfl,hx⟩
theorem adE{o:Oper}{c x y:Operand}{sc sx:SV U}{t:Bool}(ho:o.op=.pick c x y)(hc:RS E w F kv fp bad sc (a.eval c))(hl:ie sc=some (.bool t))
  (hx:RS E w F kv fp bad sx (a.eval (if t then x else y))):cA E F kv fp bad a w o sx:=by
 refine⟨a.eval (if t then x else y),?_,hx⟩
 have:=pD hc hl
 unfold execOp;simp only[ho,this]
 cases t<;>simp[asBool]
theorem ani{o:Oper}{op:UnOp}{t:TypeId}{x:Operand}{sx:SV U}{u v:Value}(ho:o.op=.unOp op t x)(hx:RS E w F kv fp bad sx (a.eval x))(hl:ie sx=some u)
  (hv:IC op u=some v):cA E F kv fp bad a w o (uX v):=by
 have h1:=pD hx hl
 obtain⟨h2,h3⟩:=anQ (P:=E.P) (w:=w) hv
 exact⟨v,by unfold execOp;simp only[ho,h1];exact gF h2,mB h3⟩
theorem anF{o:Oper}{op:BinOp}{t t':TypeId}{x y:Operand}{sx sy:SV U}{u u' v:Value}{ps:List Prop}(ho:o.op=.binOp op t x y t')
  (hx:RS E w F kv fp bad sx (a.eval x)) (hl:ie sx=some u) (hy:RS E w F kv fp bad sy (a.eval y)) (zh:ie sy=some u')
  (hv:C8 E t op u u'=some (ps,v)) (hp:∀p∈ps,p):cA E F kv fp bad a w o (uX v):=by
 have h1:=pD hx hl
 have H5:=pD hy zh
 obtain⟨h2,h3,h4,h5⟩:=anR (w:=w) hv hp (OX hx hl)
 refine⟨v,?_,mB h3⟩
 unfold execOp;simp only[ho,h1,H5]
 exact gF (by rw[Sem.run_bind,aoi h4 h5];exact h2)
theorem aoe{P:Program}{w:World}{t e:TypeId}(hu:P.underlying t=some (.slice e))(x:Value)(hx:∃a m k,x=.slice a m k)(n c:Nat):(Op.equal t x (.slice none n c)).run P w=.ok (tv x) w:=by
 obtain⟨a,m,k,rfl⟩:=hx
 have:∀d,(Op.equalIn (d+1) t (.slice a m k) (.slice none n c)).run P w=.ok (tv (.slice a m k)) w:=by
  intro d
  unfold Op.equalIn
  rw[Sem.run_bind,run_underlying hu]
  cases a<;>rfl
 exact this 9999
theorem anl{o:Oper}{t t' e:TypeId}{x:Operand}{n c:Nat}{b:Bool}{τ:U.Ty}{xs:List (U.T τ)}(ho:o.op=.binOp .eql t x (.const (.slice none n c)) t')
  (hx:RS E w F kv fp bad (.v ⟨false,[.kn b τ xs]⟩) (a.eval x)) (hu:E.P.underlying t=some (.slice e)):cA E F kv fp bad a w o (uX (.bool b)):=by
 obtain⟨h1,h2⟩:=Rk (bD (y:=.kn b τ xs) hx rfl) rfl
 have h3:∃ad m k,a.eval x=.slice ad m k:=by
  rcases h1.inv with⟨_,ad,c,hv⟩|⟨b,off,cap,vs,hv,_⟩
  ·exact⟨_,_,_,hv⟩
  ·exact⟨_,_,_,hv⟩
 refine⟨.bool b,?_,mB (v:=.bool b) ⟨rfl,trivial⟩⟩
 obtain⟨ad,m,k,h4⟩:=h3
 have h5:=aoe (P:=E.P) (w:=w) hu (.slice ad m k) ⟨_,_,_,rfl⟩ n c
 rw[h4] at h2
 rw[h2] at h5
 unfold execOp;simp only[ho,h4]
 refine gF ?_
 have h6:a.eval (.const (.slice none n c))=.slice none n c:=rfl
 rw[h6,Sem.run_bind]
 have h7:(eqGuard .eql t x (.const (.slice none n c)) (.slice ad m k) (.slice none n c)).run E.P w=.ok () w:=rfl
 rw[h7]
 show Sem.run E.P (do let r←Op.equal t (Value.slice ad m k) (Value.slice none n c);pure (Value.bool r)) w=_
 rw[Sem.run_bind,h5]
 rfl
theorem anz{o:Oper}{x:Operand}{i:Nat}{l:List (AV U)}{y:AV U}(ho:o.op=.extract x i)(hx:RS E w F kv fp bad (.tX l) (a.eval x))(hy:l[i]? =some y):
  cA E F kv fp bad a w o (.v y):=by
 obtain⟨vs,h1,h2,h3⟩:=hx
 have hi:i<vs.length:=by
  rw[<-h2]
  rcases lR i l.length with h|h
  ·exact h
  ·rw[lU h] at hy;cases hy
 have hv:vs[i]? =some vs[i]:=gr hi
 refine⟨vs[i],?_,h3 i y _ hy hv⟩
 unfold execOp;simp only[ho,h1]
 exact gF (by simp[Instr.extract,hv])
theorem adS{t:TypeId}{f:Nat}{o:Nat}{ft:TypeId}(h:E.Ug t f=some (o,ft)):∃fs fd,E.P.underlying t=some (.struct fs)/\fs[f]? =some fd/\fd.offset=o/\fd.type=ft:=by
 unfold Env.Ug at h
 split at h
 ·rename_i fs hu
  cases hf:fs[f]? with
  |none=>rw[hf] at h;cases h
  |some fd=>rw[hf] at h;simp only[Ef,eZ,kG] at h;exact⟨fs,fd,hu,hf,h.1,h.2⟩
 ·cases h
theorem Z9{t:TypeId}{f o:Nat}{ft:TypeId}{b off n:Nat}(h:E.Ug t f=some (o,ft))(hn:E.size ft=some (n+1)):
  (Instr.fieldAt t (.pointer (some ⟨b,off,none⟩)) f).run E.P w=.ok (.pointer (some ⟨b,off+o,none⟩)) w:=by
 obtain⟨fs,fd,hu,hf,h1,h2⟩:=adS h
 unfold Env.size at hn
 cases hi:E.P.info? ft with
 |none=>rw[hi] at hn;cases hn
 |some i=>
  rw[hi] at hn
  simp only[Ef,eZ] at hn
  have cO:¬i.size=0:=by omega
  simp[Instr.fieldAt,run_underlying hu,hf,Instr.sureAddr,fieldPlace,Go.sizeOf,typeInfo,h2,hi,cO,Addr.add_mid,h1]
theorem bG{x:AC U}{v:Value}(h:RD E w F kv fp bad x v)(hb:gg bad x=false):RA E w F kv fp x v:=by
 rcases h.2 with h|h
 ·rw[hb] at h;cases h
 ·exact h
theorem anu{o:Oper}{t:TypeId}{x:Operand}{f:Nat}{sx:SV U}{cs:List U.C}{off:Nat}{ft:TypeId}{n:Nat}(ho:o.op=.fieldAddr t x f)(hx:RS E w F kv fp bad sx (a.eval x))
  (hc:sd sx=some (.ia cs)) (hf:E.Ug t f=some (off,ft)) (hn:E.size ft=some (n+1)):cA E F kv fp bad a w o (one (.ia (cs.drop off))):=by
 obtain⟨b,oo,h1,h2,h3⟩:=bG (bD hx hc) rfl
 refine⟨.pointer (some ⟨b,oo+off,none⟩),?_,fT ⟨⟨rfl,trivial⟩,.inr ⟨b,oo+off,rfl,h2,fun j c hj=> ?_⟩⟩⟩
 ·unfold execOp;simp only[ho,h1];exact gF (Z9 hf hn)
 ·rw[Eo] at hj
  obtain⟨u,h4,h5⟩:=h3 _ c hj
  exact⟨u,by rw[Ot];exact h4,h5⟩
theorem anw{o:Oper}{t:TypeId}{x:Operand}{f:Nat}{sx:SV U}{k:Key}{i off:Nat}{ft:TypeId}{n:Nat}(ho:o.op=.fieldAddr t x f)(hx:RS E w F kv fp bad sx (a.eval x))
  (hc:sd sx=some (.ji k i)) (hf:E.Ug t f=some (off,ft)) (hn:E.size ft=some (n+1)):cA E F kv fp bad a w o (one (.ji k (i+off))):=by
 obtain⟨b,h1,h2⟩:=bG (bD hx hc) rfl
 refine⟨.pointer (some ⟨b,i+off,none⟩),?_,fT ⟨⟨rfl,trivial⟩,.inr ⟨b,h1,rfl⟩⟩⟩
 unfold execOp;simp only[ho,h2];exact gF (Z9 hf hn)
theorem anv{o:Oper}{t:TypeId}{x:Operand}{f:Nat}{sx:SV U}{k:Key}{p:Path}{i wd oo off:Nat}{ft:TypeId}{n:Nat}(ho:o.op=.fieldAddr t x f)(hx:RS E w F kv fp bad sx (a.eval x))
  (hc:sd sx=some (.iC k p i wd oo)) (hb:gg bad (AC.iC (U:=U) k p i wd oo)=false) (hf:E.Ug t f=some (off,ft)) (hn:E.size ft=some (n+1)):cA E F kv fp bad a w o (one (.iC k p i wd (oo+off))):=by
 obtain⟨b,o',n',c',h1,h2⟩:=bG (bD hx hc) hb
 refine⟨.pointer (some ⟨b,o'+(i*wd+oo)+off,none⟩),?_,fT ⟨⟨rfl,trivial⟩,.inr ⟨b,o',n',c',h1,?_⟩⟩⟩
 ·unfold execOp;simp only[ho,h2];exact gF (Z9 hf hn)
 ·simp only[Ot]
end
end AM
