import Derived.Test.YtknfcngfhlpaeaaGreatDoorQAmOps5
namespace AM
set_option linter.unusedVariables false
open Go
variable{U:kz}{E:Env U}{pm:Pm}
variable{F F':Nat->Prop}{kv:Key->Value}{fp:Key->List Nat}{σ:ak U}{a:Act}{w w':World}{bad:Key->Bool}
theorem H8{α:Type}{l r:List α}{d:α}{n:Nat}(h:n<l.length):(l++r).getD n d=l.getD n d:=by
 rw[dB,dB,wg h]
theorem Mf{α:Type}{l r:List α}{d:α}{n:Nat}(h:l.length<=n):(l++r).getD n d=r.getD (n-l.length) d:=by
 rw[dB,dB,ya h]
theorem FJ{α:Type}{n k:Nat}{d:α}:(List.replicate n d).getD k d=d:=by
 rw[dB,zdz];split<;>rfl
variable(E) in
def eg(w:World)(F:Nat->Prop)(deep:Bool)(τ:U.Ty)(xs:List (U.T τ))(vs:List Value)(fl:List (List Nat)):Prop:=
 vs.length=xs.length*U.wd τ/\fl.length=xs.length*U.wd τ/\
 ∀(i:Nat)(x:U.T τ)(j:Nat)(c:U.C),xs[i]? =some x->(U.enc τ x)[j]? =some c->Rp E w F deep c (vs.getD (i*U.wd τ+j) undef) (fl.getD (i*U.wd τ+j) [])
theorem eg.nil{deep:Bool}{τ:U.Ty}:eg E w F deep τ [] [] []:=⟨by simp,by simp,fun i x j c hx=>by simp at hx⟩
theorem eg.append{deep:Bool}{τ:U.Ty}{xs ys:List (U.T τ)}{vs us:List Value}{fl gl:List (List Nat)}(h:eg E w F deep τ xs vs fl)(h':eg E w F deep τ ys us gl):
  eg E w F deep τ (xs++ys) (vs++us) (fl++gl):=by
 obtain⟨h1,h2,h3⟩:=h
 obtain⟨JB,SF,h3'⟩:=h'
 refine⟨by simp[h1,JB,x_],by simp[h2,SF,x_],fun i x j c hx hj=> ?_⟩
 by_cases hi:i<xs.length
 ·rw[wg hi] at hx
  have:=fi hx hj
  rw[H8 (by omega),H8 (by omega)]
  exact h3 i x j c hx hj
 ·rw[ya (by omega)] at hx
  have:=fi hx hj
  have he:i*U.wd τ+j-xs.length*U.wd τ=(i-xs.length)*U.wd τ+j:=by
   have:xs.length*U.wd τ+(i-xs.length)*U.wd τ=i*U.wd τ:=by rw[<-x_];congr 1;omega
   omega
  have Yf:xs.length*U.wd τ<=i*U.wd τ+j:=by
   have:xs.length*U.wd τ<=i*U.wd τ:=ze _ (by omega)
   omega
  rw[Mf (by omega),Mf (by omega),h1,h2,he]
  exact h3' _ x j c hx hj
theorem eg.fC{deep:Bool}{τ:U.Ty}{xs:List (U.T τ)}{vs:List Value}{fl:List (List Nat)}(h:eg E w F deep τ xs vs fl)
  (hF:∀b,F b->F' b/\w'.heap[b]? =w.heap[b]?) (An:∀b∈fl.flatten,w'.heap[b]? =w.heap[b]?):eg E w' F' deep τ xs vs fl:=by
 refine⟨h.1,h.2.1,fun i x j c hx hj=>(h.2.2 i x j c hx hj).fC hF (fun b hb=>An b ?_)⟩
 have fU:i*U.wd τ+j<fl.length:=by rw[h.2.1];exact fi hx hj
 rw[dB,eW fU] at hb
 exact VW.2 ⟨_,DU fU,hb⟩
theorem eg.kB{deep:Bool}{τ:U.Ty}{xs:List (U.T τ)}{vs:List Value}{fl:List (List Nat)}(h:eg E w F deep τ xs vs fl)
  (hF:∀b,F b->F' b) (An:∀b∈fl.flatten,F' b):eg E w F' false τ xs vs (List.replicate (xs.length*U.wd τ) []):=by
 refine⟨h.1,by simp,fun i x j c hx hj=> ?_⟩
 have fU:i*U.wd τ+j<fl.length:=by rw[h.2.1];exact fi hx hj
 have:=(h.2.2 i x j c hx hj).kB hF (fun b hb=>An b (by
  rw[dB,eW fU] at hb
  exact VW.2 ⟨_,DU fU,hb⟩))
 rw[FJ];exact this
theorem ym{α:Type}(n:Nat):(List.replicate n ([]:List α)).flatten=[]:=by
 induction n with
 |zero=>rfl
 |succ n ih=>simp[List.replicate_succ,ih]
theorem eg.fJ{deep:Bool}{τ:U.Ty}{xs:List (U.T τ)}{vs:List Value}{fl:List (List Nat)}(h:eg E w F deep τ xs vs fl):∀v∈vs,v.oneCell'=true:=by
 intro v hv
 obtain⟨n,hn,rfl⟩:=qD hv
 have hw:=U.kp τ
 have hi:n/U.wd τ<xs.length:=(Nat.div_lt_iff_lt_mul hw).2 (by rw[<-h.1];exact hn)
 have hj:n%U.wd τ<U.wd τ:=Nat.mod_lt _ hw
 have:=h.2.2 (n/U.wd τ) xs[n/U.wd τ] (n%U.wd τ) ((U.enc τ xs[n/U.wd τ])[n%U.wd τ]'(by rw[U.cY];exact hj)) (eW hi) (eW _)
 have he:n/U.wd τ*U.wd τ+n%U.wd τ=n:=by rw[Q6];exact Nat.div_add_mod n _
 rw[he,dB,eW hn] at this
 exact this.fJ.1
theorem eo.rows{deep:Bool}{x:cC U}{v:Value}{l:List Nat}(h:eo E w F deep x v l):
  (x.xs=[]/\(∃ad,v=.slice ad 0 0)/\l=[])\/
  ∃(b cap:Nat)(cur:Array Value)(vs:List Value)(fl:List (List Nat)),v=.slice (some ⟨b,0,none⟩) x.xs.length cap/\w.heap[b]? =some (.cells cur (E.tid x.τ) (0,0))/\x.xs.length<=cap/\cap<=maxLen/\
   cur.size=cap*U.wd x.τ/\cur.toList.take (x.xs.length*U.wd x.τ)=vs/\eg E w F deep x.τ x.xs vs fl/\l=b::fl.flatten:=by
 rcases h with h|⟨b,cap,cur,vs,gr,h1,h2,h3,h4,h5,h6,h7,h8⟩
 ·exact .inl h
 ·have hle:x.xs.length*U.wd x.τ<=cap*U.wd x.τ:=ze _ h3
  refine .inr ⟨b,cap,cur,_,(List.range (x.xs.length*U.wd x.τ)).map gr,h1,h2,h3,h4,h5,rfl,⟨by simp;omega,by simp,fun i y j c hx hj=> ?_⟩,by rw[h8,LV]⟩
  have fU:=fi hx hj
  have:=h7 i y j c hx hj
  rw[dB,oT,if_pos fU,JE,h6 _ fU,dB,mw,KL fU]
  exact this
theorem eo.mU{deep:Bool}{τ:U.Ty}{xs:List (U.T τ)}{b cap:Nat}{cur:Array Value}{vs:List Value}{fl:List (List Nat)}(h2:w.heap[b]? =some (.cells cur (E.tid τ) (0,0)))(h3:xs.length<=cap)(h4:cap<=maxLen)
  (h5:cur.size=cap*U.wd τ) (h6:cur.toList.take (xs.length*U.wd τ)=vs) (h7:eg E w F deep τ xs vs fl):eo E w F deep ⟨τ,xs⟩ (.slice (some ⟨b,0,none⟩) xs.length cap) (b::fl.flatten):=by
 have hle:xs.length*U.wd τ<=cap*U.wd τ:=ze _ h3
 refine .inr ⟨b,cap,cur,fun n=>vs.getD n undef,fun n=>fl.getD n [],rfl,h2,h3,h4,h5,fun i hi=> ?_,h7.2.2,?_⟩
 ·show cur[i]? =some (vs.getD i undef)
  have pa:i<xs.length*U.wd τ:=hi
  rw[<-h6,dB,oT,if_pos pa,JE]
  rw[ZG (by omega)]
  rfl
 ·congr 1
  rw[LV]
  congr 1
  refine QO fun n=> ?_
  rw[mw]
  by_cases hn:n<xs.length*U.wd τ
  ·rw[KL hn,D3,dB,eW (by rw[h7.2.1];exact hn)]
   rfl
  ·rw[nb (by rw[h7.2.1];omega),nb (by simp;omega)]
   rfl
theorem eo.NJ{x:cC U}{v:Value}{l:List Nat}(h:eo E w F true x v l):Rp E w F true (.sl x.τ x.xs) v l:=by
 obtain⟨τ,xs⟩:=x
 rcases h with⟨h1,⟨ad,h2⟩,h3⟩|⟨b,cap,cur,vs,gr,h1,h2,h3,h4,h5,h6,h7,h8⟩
 ·simp only at h1;subst h1 h2 h3;exact .nil _ _ _ _ (fun _=>rfl)
 ·subst h1 h8;exact .own τ xs b cap cur vs gr h2 h3 h4 h5 h6 h7
theorem Rp.F9{w:World}{F:Nat->Prop}{τ:U.Ty}{xs:List (U.T τ)}{v:Value}{l:List Nat}(h:Rp E w F true (.sl τ xs) v l):eo E w F true ⟨τ,xs⟩ v l:=by
 generalize hc:Cell.sl τ xs=c at h
 generalize hm:true=m at h
 cases h with
 |lit=>cases hc
 |nil m El a c h=>cases hc;cases h hm.symm;exact .inl ⟨rfl,⟨a,rfl⟩,rfl⟩
 |shr=>cases hm
 |own El xs' b cap cur vs gr hb yJ hmx hs hv hr=>cases hc;exact .inr ⟨b,cap,cur,vs,gr,rfl,hb,yJ,hmx,hs,hv,hr,rfl⟩
theorem eo.take{deep:Bool}{x:cC U}{v:Value}{l:List Nat}(h:eo E w F deep x v l){wd hi:Nat}(hh:hi<=x.xs.length):
  ∃l',eo E w F deep ⟨x.τ,x.xs.take hi⟩ (p9 wd 0 hi v) l'/\l'.Sublist l:=by
 obtain⟨τ,xs⟩:=x
 simp only at hh
 rcases h with⟨h1,⟨ad,h2⟩,h3⟩|⟨b,cap,cur,vs,gr,h1,h2,h3,h4,h5,h6,h7,h8⟩
 ·simp only at h1;subst h1 h2 h3
  simp only[ig] at hh
  have:hi=0:=by omega
  subst this
  exact⟨[],.inl ⟨rfl,⟨ad,by simp[p9]⟩,rfl⟩,Tr _⟩
 ·simp only at h1 h2 h3 h5 h6 h7 h8
  subst h1 h8
  have hlen:(xs.take hi).length=hi:=by simp;omega
  have hle:hi*U.wd τ<=xs.length*U.wd τ:=ze _ hh
  refine⟨b::(List.range (hi*U.wd τ)).flatMap gr,.inr ⟨b,cap,cur,vs,gr,?_,h2,by simp only[hlen];omega,h4,h5,fun i pa=>h6 i (by simp only[hlen] at pa;omega),fun i y j c hx hj=> ?_,by simp only[hlen]⟩,?_⟩
  ·simp only[hlen,p9,Nat.sub_zero,Nat.zero_mul,Value.slice.injEq,and_true]
   split<;>simp[Addr.add]
  ·simp only at hx
   rw[oT] at hx
   split at hx
   ·exact h7 i y j c hx hj
   ·cases hx
  ·refine List.Sublist.cons_cons _ ?_
   have:List.range (xs.length*U.wd τ)=List.range (hi*U.wd τ)++(List.range (xs.length*U.wd τ-hi*U.wd τ)).map (·+hi*U.wd τ):=by
    have:=List.range_add (n:=hi*U.wd τ) (m:=xs.length*U.wd τ-hi*U.wd τ)
    rw[show hi*U.wd τ+(xs.length*U.wd τ-hi*U.wd τ)=xs.length*U.wd τ by omega] at this
    rw[this]
    congr 1
    refine LW fun a _=> ?_
    omega
   rw[this,Nj]
   exact zer _ _
end AM
