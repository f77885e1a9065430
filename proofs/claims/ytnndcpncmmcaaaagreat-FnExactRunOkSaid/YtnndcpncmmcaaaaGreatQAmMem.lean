import Derived.Test.YtnndcpncmmcaaaaGreatQAmOps5
namespace AM
set_option linter.unusedVariables false
open Go
variable{U:jO}{E:Env U}{pm:Pm}
variable{F F':Nat->Prop}{kv:Key->Value}{fp:Key->List Nat}{σ:ah U}{a:Act}{w w':World}{bad:Key->Bool}
theorem lD{α:Type}{l r:List α}{d:α}{n:Nat}(h:n<l.length):(l++r).getD n d=l.getD n d:=by
 rw[gh,gh,u_ h]
theorem nq{α:Type}{l r:List α}{d:α}{n:Nat}(h:l.length<=n):(l++r).getD n d=r.getD (n-l.length) d:=by
 rw[gh,gh,va h]
theorem kA{α:Type}{n k:Nat}{d:α}:(List.replicate n d).getD k d=d:=by
 rw[gh,zdz];split<;>rfl
variable(E) in
def dD(w:World)(F:Nat->Prop)(deep:Bool)(τ:U.Ty)(xs:List (U.T τ))(vs:List Value)(fl:List (List Nat)):Prop:=
 vs.length=xs.length*U.wd τ/\fl.length=xs.length*U.wd τ/\
 ∀(i:Nat)(x:U.T τ)(j:Nat)(c:U.C),xs[i]? =some x->(U.enc τ x)[j]? =some c->Rp E w F deep c (vs.getD (i*U.wd τ+j) undef) (fl.getD (i*U.wd τ+j) [])
theorem dD.nil{deep:Bool}{τ:U.Ty}:dD E w F deep τ [] [] []:=⟨by simp,by simp,fun i x j c hx=>by simp at hx⟩
theorem dD.append{deep:Bool}{τ:U.Ty}{xs ys:List (U.T τ)}{vs us:List Value}{fl gl:List (List Nat)}(h:dD E w F deep τ xs vs fl)(h':dD E w F deep τ ys us gl):
  dD E w F deep τ (xs++ys) (vs++us) (fl++gl):=by
 obtain⟨h1,h2,h3⟩:=h
 obtain⟨H5,Uc,h3'⟩:=h'
 refine⟨by simp[h1,H5,ta],by simp[h2,Uc,ta],fun i x j c hx hj=> ?_⟩
 by_cases hi:i<xs.length
 ·rw[u_ hi] at hx
  have:=eI hx hj
  rw[lD (by omega),lD (by omega)]
  exact h3 i x j c hx hj
 ·rw[va (by omega)] at hx
  have:=eI hx hj
  have he:i*U.wd τ+j-xs.length*U.wd τ=(i-xs.length)*U.wd τ+j:=by
   have:xs.length*U.wd τ+(i-xs.length)*U.wd τ=i*U.wd τ:=by rw[<-ta];congr 1;omega
   omega
  have TU:xs.length*U.wd τ<=i*U.wd τ+j:=by
   have:xs.length*U.wd τ<=i*U.wd τ:=u9 _ (by omega)
   omega
  rw[nq (by omega),nq (by omega),h1,h2,he]
  exact h3' _ x j c hx hj
theorem dD.cI{deep:Bool}{τ:U.Ty}{xs:List (U.T τ)}{vs:List Value}{fl:List (List Nat)}(h:dD E w F deep τ xs vs fl)
  (hF:∀b,F b->F' b/\w'.heap[b]? =w.heap[b]?) (Ek:∀b∈fl.flatten,w'.heap[b]? =w.heap[b]?):dD E w' F' deep τ xs vs fl:=by
 refine⟨h.1,h.2.1,fun i x j c hx hj=>(h.2.2 i x j c hx hj).cI hF (fun b hb=>Ek b ?_)⟩
 have fx:i*U.wd τ+j<fl.length:=by rw[h.2.1];exact eI hx hj
 rw[gh,gr fx] at hb
 exact X3.2 ⟨_,N6 fx,hb⟩
theorem dD.i_{deep:Bool}{τ:U.Ty}{xs:List (U.T τ)}{vs:List Value}{fl:List (List Nat)}(h:dD E w F deep τ xs vs fl)
  (hF:∀b,F b->F' b) (Ek:∀b∈fl.flatten,F' b):dD E w F' false τ xs vs (List.replicate (xs.length*U.wd τ) []):=by
 refine⟨h.1,by simp,fun i x j c hx hj=> ?_⟩
 have fx:i*U.wd τ+j<fl.length:=by rw[h.2.1];exact eI hx hj
 have:=(h.2.2 i x j c hx hj).i_ hF (fun b hb=>Ek b (by
  rw[gh,gr fx] at hb
  exact X3.2 ⟨_,N6 fx,hb⟩))
 rw[kA];exact this
theorem yY{α:Type}(n:Nat):(List.replicate n ([]:List α)).flatten=[]:=by
 induction n with
 |zero=>rfl
 |succ n ih=>simp[List.replicate_succ,ih]
theorem dD.dQ{deep:Bool}{τ:U.Ty}{xs:List (U.T τ)}{vs:List Value}{fl:List (List Nat)}(h:dD E w F deep τ xs vs fl):∀v∈vs,v.oneCell'=true:=by
 intro v hv
 obtain⟨n,hn,rfl⟩:=zG hv
 have hw:=U.ka τ
 have hi:n/U.wd τ<xs.length:=(Nat.div_lt_iff_lt_mul hw).2 (by rw[<-h.1];exact hn)
 have hj:n%U.wd τ<U.wd τ:=Nat.mod_lt _ hw
 have:=h.2.2 (n/U.wd τ) xs[n/U.wd τ] (n%U.wd τ) ((U.enc τ xs[n/U.wd τ])[n%U.wd τ]'(by rw[U.cP];exact hj)) (gr hi) (gr _)
 have he:n/U.wd τ*U.wd τ+n%U.wd τ=n:=by rw[RR];exact Nat.div_add_mod n _
 rw[he,gh,gr hn] at this
 exact this.dQ.1
theorem cF.rows{deep:Bool}{x:fK U}{v:Value}{l:List Nat}(h:cF E w F deep x v l):
  (x.xs=[]/\(∃ad,v=.slice ad 0 0)/\l=[])\/
  ∃(b cap:Nat)(cur:Array Value)(vs:List Value)(fl:List (List Nat)),v=.slice (some ⟨b,0,none⟩) x.xs.length cap/\w.heap[b]? =some (.cells cur (E.tid x.τ) (0,0))/\x.xs.length<=cap/\cap<=maxLen/\
   cur.size=cap*U.wd x.τ/\cur.toList.take (x.xs.length*U.wd x.τ)=vs/\dD E w F deep x.τ x.xs vs fl/\l=b::fl.flatten:=by
 rcases h with h|⟨b,cap,cur,vs,dH,h1,h2,h3,h4,h5,h6,h7,h8⟩
 ·exact .inl h
 ·have hle:x.xs.length*U.wd x.τ<=cap*U.wd x.τ:=u9 _ h3
  refine .inr ⟨b,cap,cur,_,(List.range (x.xs.length*U.wd x.τ)).map dH,h1,h2,h3,h4,h5,rfl,⟨by simp;omega,by simp,fun i y j c hx hj=> ?_⟩,by rw[h8,J']⟩
  have fx:=eI hx hj
  have:=h7 i y j c hx hj
  rw[gh,mP,if_pos fx,Eg,h6 _ fx,gh,mE,JZ fx]
  exact this
theorem cF.jm{deep:Bool}{τ:U.Ty}{xs:List (U.T τ)}{b cap:Nat}{cur:Array Value}{vs:List Value}{fl:List (List Nat)}(h2:w.heap[b]? =some (.cells cur (E.tid τ) (0,0)))(h3:xs.length<=cap)(h4:cap<=maxLen)
  (h5:cur.size=cap*U.wd τ) (h6:cur.toList.take (xs.length*U.wd τ)=vs) (h7:dD E w F deep τ xs vs fl):cF E w F deep ⟨τ,xs⟩ (.slice (some ⟨b,0,none⟩) xs.length cap) (b::fl.flatten):=by
 have hle:xs.length*U.wd τ<=cap*U.wd τ:=u9 _ h3
 refine .inr ⟨b,cap,cur,fun n=>vs.getD n undef,fun n=>fl.getD n [],rfl,h2,h3,h4,h5,fun i hi=> ?_,h7.2.2,?_⟩
 ·show cur[i]? =some (vs.getD i undef)
  have od:i<xs.length*U.wd τ:=hi
  rw[<-h6,gh,mP,if_pos od,Eg]
  rw[zdk (by omega)]
  rfl
 ·congr 1
  rw[J']
  congr 1
  refine Ow fun n=> ?_
  rw[mE]
  by_cases hn:n<xs.length*U.wd τ
  ·rw[JZ hn,Ef,gh,gr (by rw[h7.2.1];exact hn)]
   rfl
  ·rw[lU (by rw[h7.2.1];omega),lU (by simp;omega)]
   rfl
theorem cF.MK{x:fK U}{v:Value}{l:List Nat}(h:cF E w F true x v l):Rp E w F true (.sl x.τ x.xs) v l:=by
 obtain⟨τ,xs⟩:=x
 rcases h with⟨h1,⟨ad,h2⟩,h3⟩|⟨b,cap,cur,vs,dH,h1,h2,h3,h4,h5,h6,h7,h8⟩
 ·simp only at h1;subst h1 h2 h3;exact .nil _ _ _ _ (fun _=>rfl)
 ·subst h1 h8;exact .own τ xs b cap cur vs dH h2 h3 h4 h5 h6 h7
theorem Rp.ud{w:World}{F:Nat->Prop}{τ:U.Ty}{xs:List (U.T τ)}{v:Value}{l:List Nat}(h:Rp E w F true (.sl τ xs) v l):cF E w F true ⟨τ,xs⟩ v l:=by
 generalize hc:Cell.sl τ xs=c at h
 generalize hm:true=m at h
 cases h with
 |lit=>cases hc
 |nil m s8 a c h=>cases hc;cases h hm.symm;exact .inl ⟨rfl,⟨a,rfl⟩,rfl⟩
 |shr=>cases hm
 |own s8 xs' b cap cur vs dH hb zj hmx hs hv hr=>cases hc;exact .inr ⟨b,cap,cur,vs,dH,rfl,hb,zj,hmx,hs,hv,hr,rfl⟩
theorem cF.take{deep:Bool}{x:fK U}{v:Value}{l:List Nat}(h:cF E w F deep x v l){wd hi:Nat}(hh:hi<=x.xs.length):
  ∃l',cF E w F deep ⟨x.τ,x.xs.take hi⟩ (qz wd 0 hi v) l'/\l'.Sublist l:=by
 obtain⟨τ,xs⟩:=x
 simp only at hh
 rcases h with⟨h1,⟨ad,h2⟩,h3⟩|⟨b,cap,cur,vs,dH,h1,h2,h3,h4,h5,h6,h7,h8⟩
 ·simp only at h1;subst h1 h2 h3
  simp only[ii] at hh
  have:hi=0:=by omega
  subst this
  exact⟨[],.inl ⟨rfl,⟨ad,by simp[qz]⟩,rfl⟩,Ou _⟩
 ·simp only at h1 h2 h3 h5 h6 h7 h8
  subst h1 h8
  have hlen:(xs.take hi).length=hi:=by simp;omega
  have hle:hi*U.wd τ<=xs.length*U.wd τ:=u9 _ hh
  refine⟨b::(List.range (hi*U.wd τ)).flatMap dH,.inr ⟨b,cap,cur,vs,dH,?_,h2,by simp only[hlen];omega,h4,h5,fun i od=>h6 i (by simp only[hlen] at od;omega),fun i y j c hx hj=> ?_,by simp only[hlen]⟩,?_⟩
  ·simp only[hlen,qz,Nat.sub_zero,Nat.zero_mul,Value.slice.injEq,and_true]
   split<;>simp[Addr.add]
  ·simp only at hx
   rw[mP] at hx
   split at hx
   ·exact h7 i y j c hx hj
   ·cases hx
  ·refine List.Sublist.cons_cons _ ?_
   have:List.range (xs.length*U.wd τ)=List.range (hi*U.wd τ)++(List.range (xs.length*U.wd τ-hi*U.wd τ)).map (·+hi*U.wd τ):=by
    have:=List.range_add (n:=hi*U.wd τ) (m:=xs.length*U.wd τ-hi*U.wd τ)
    rw[show hi*U.wd τ+(xs.length*U.wd τ-hi*U.wd τ)=xs.length*U.wd τ by omega] at this
    rw[this]
    congr 1
    refine Lp fun a _=> ?_
    omega
   rw[this,N3]
   exact zer _ _
end AM
