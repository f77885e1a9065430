import Derived.Test.YtmcepppejchhkaaGreatDoorQAmOps5
namespace AM
set_option linter.unusedVariables false
open Go
variable{U:lQ}{E:Env U}{pm:Pm}
variable{F F':Nat->Prop}{kv:Key->Value}{fp:Key->List Nat}{σ:ak U}{a:Act}{w w':World}{bad:Key->Bool}
theorem K3{α:Type}{l r:List α}{d:α}{n:Nat}(h:n<l.length):(l++r).getD n d=l.getD n d:=by
 rw[eV,eV,zY h]
theorem Pw{α:Type}{l r:List α}{d:α}{n:Nat}(h:l.length<=n):(l++r).getD n d=r.getD (n-l.length) d:=by
 rw[eV,eV,z_ h]
theorem H3{α:Type}{n k:Nat}{d:α}:(List.replicate n d).getD k d=d:=by
 rw[eV,zdz];split<;>rfl
variable(E) in
def e9(w:World)(F:Nat->Prop)(deep:Bool)(τ:U.Ty)(xs:List (U.T τ))(vs:List Value)(fl:List (List Nat)):Prop:=
 vs.length=xs.length*U.wd τ/\fl.length=xs.length*U.wd τ/\
 ∀(i:Nat)(x:U.T τ)(j:Nat)(c:U.C),xs[i]? =some x->(U.enc τ x)[j]? =some c->Rp E w F deep c (vs.getD (i*U.wd τ+j) undef) (fl.getD (i*U.wd τ+j) [])
theorem e9.nil{deep:Bool}{τ:U.Ty}:e9 E w F deep τ [] [] []:=⟨by simp,by simp,fun i x j c hx=>by simp at hx⟩
theorem e9.append{deep:Bool}{τ:U.Ty}{xs ys:List (U.T τ)}{vs us:List Value}{fl gl:List (List Nat)}(h:e9 E w F deep τ xs vs fl)(h':e9 E w F deep τ ys us gl):
  e9 E w F deep τ (xs++ys) (vs++us) (fl++gl):=by
 obtain⟨h1,h2,h3⟩:=h
 obtain⟨MG,Ow,h3'⟩:=h'
 refine⟨by simp[h1,MG,xT],by simp[h2,Ow,xT],fun i x j c hx hj=> ?_⟩
 by_cases hi:i<xs.length
 ·rw[zY hi] at hx
  have:=fS hx hj
  rw[K3 (by omega),K3 (by omega)]
  exact h3 i x j c hx hj
 ·rw[z_ (by omega)] at hx
  have:=fS hx hj
  have he:i*U.wd τ+j-xs.length*U.wd τ=(i-xs.length)*U.wd τ+j:=by
   have:xs.length*U.wd τ+(i-xs.length)*U.wd τ=i*U.wd τ:=by rw[<-xT];congr 1;omega
   omega
  have hge:xs.length*U.wd τ<=i*U.wd τ+j:=by
   have:xs.length*U.wd τ<=i*U.wd τ:=Be _ (by omega)
   omega
  rw[Pw (by omega),Pw (by omega),h1,h2,he]
  exact h3' _ x j c hx hj
theorem e9.gv{deep:Bool}{τ:U.Ty}{xs:List (U.T τ)}{vs:List Value}{fl:List (List Nat)}(h:e9 E w F deep τ xs vs fl)
  (hF:∀b,F b->F' b/\w'.heap[b]? =w.heap[b]?) (Cj:∀b∈fl.flatten,w'.heap[b]? =w.heap[b]?):e9 E w' F' deep τ xs vs fl:=by
 refine⟨h.1,h.2.1,fun i x j c hx hj=>(h.2.2 i x j c hx hj).gv hF (fun b hb=>Cj b ?_)⟩
 have gy:i*U.wd τ+j<fl.length:=by rw[h.2.1];exact fS hx hj
 rw[eV,fE gy] at hb
 exact ZC.2 ⟨_,D5 gy,hb⟩
theorem e9.lT{deep:Bool}{τ:U.Ty}{xs:List (U.T τ)}{vs:List Value}{fl:List (List Nat)}(h:e9 E w F deep τ xs vs fl)
  (hF:∀b,F b->F' b) (Cj:∀b∈fl.flatten,F' b):e9 E w F' false τ xs vs (List.replicate (xs.length*U.wd τ) []):=by
 refine⟨h.1,by simp,fun i x j c hx hj=> ?_⟩
 have gy:i*U.wd τ+j<fl.length:=by rw[h.2.1];exact fS hx hj
 have:=(h.2.2 i x j c hx hj).lT hF (fun b hb=>Cj b (by
  rw[eV,fE gy] at hb
  exact ZC.2 ⟨_,D5 gy,hb⟩))
 rw[H3];exact this
theorem An{α:Type}(n:Nat):(List.replicate n ([]:List α)).flatten=[]:=by
 induction n with
 |zero=>rfl
 |succ n ih=>simp[List.replicate_succ,ih]
theorem e9.gF{deep:Bool}{τ:U.Ty}{xs:List (U.T τ)}{vs:List Value}{fl:List (List Nat)}(h:e9 E w F deep τ xs vs fl):∀v∈vs,v.oneCell'=true:=by
 intro v hv
 obtain⟨n,hn,rfl⟩:=sT hv
 have hw:=U.lq τ
 have hi:n/U.wd τ<xs.length:=(Nat.div_lt_iff_lt_mul hw).2 (by rw[<-h.1];exact hn)
 have hj:n%U.wd τ<U.wd τ:=Nat.mod_lt _ hw
 have:=h.2.2 (n/U.wd τ) xs[n/U.wd τ] (n%U.wd τ) ((U.enc τ xs[n/U.wd τ])[n%U.wd τ]'(by rw[U.dG];exact hj)) (fE hi) (fE _)
 have he:n/U.wd τ*U.wd τ+n%U.wd τ=n:=by rw[UL];exact Nat.div_add_mod n _
 rw[he,eV,fE hn] at this
 exact this.gF.1
theorem fe.rows{deep:Bool}{x:iE U}{v:Value}{l:List Nat}(h:fe E w F deep x v l):
  (x.xs=[]/\(∃ad,v=.slice ad 0 0)/\l=[])\/
  ∃(b cap:Nat)(cur:Array Value)(vs:List Value)(fl:List (List Nat)),v=.slice (some ⟨b,0,none⟩) x.xs.length cap/\w.heap[b]? =some (.cells cur (E.tid x.τ) (0,0))/\x.xs.length<=cap/\cap<=maxLen/\
   cur.size=cap*U.wd x.τ/\cur.toList.take (x.xs.length*U.wd x.τ)=vs/\e9 E w F deep x.τ x.xs vs fl/\l=b::fl.flatten:=by
 rcases h with h|⟨b,cap,cur,vs,ie,h1,h2,h3,h4,h5,h6,h7,h8⟩
 ·exact .inl h
 ·have hle:x.xs.length*U.wd x.τ<=cap*U.wd x.τ:=Be _ h3
  refine .inr ⟨b,cap,cur,_,(List.range (x.xs.length*U.wd x.τ)).map ie,h1,h2,h3,h4,h5,rfl,⟨by simp;omega,by simp,fun i y j c hx hj=> ?_⟩,by rw[h8,Pa]⟩
  have gy:=fS hx hj
  have:=h7 i y j c hx hj
  rw[eV,qy,if_pos gy,MK,h6 _ gy,eV,nS,NU gy]
  exact this
theorem fe.og{deep:Bool}{τ:U.Ty}{xs:List (U.T τ)}{b cap:Nat}{cur:Array Value}{vs:List Value}{fl:List (List Nat)}(h2:w.heap[b]? =some (.cells cur (E.tid τ) (0,0)))(h3:xs.length<=cap)(h4:cap<=maxLen)
  (h5:cur.size=cap*U.wd τ) (h6:cur.toList.take (xs.length*U.wd τ)=vs) (h7:e9 E w F deep τ xs vs fl):fe E w F deep ⟨τ,xs⟩ (.slice (some ⟨b,0,none⟩) xs.length cap) (b::fl.flatten):=by
 have hle:xs.length*U.wd τ<=cap*U.wd τ:=Be _ h3
 refine .inr ⟨b,cap,cur,fun n=>vs.getD n undef,fun n=>fl.getD n [],rfl,h2,h3,h4,h5,fun i hi=> ?_,h7.2.2,?_⟩
 ·show cur[i]? =some (vs.getD i undef)
  have qH:i<xs.length*U.wd τ:=hi
  rw[<-h6,eV,qy,if_pos qH,MK]
  rw[zdk (by omega)]
  rfl
 ·congr 1
  rw[Pa]
  congr 1
  refine Uu fun n=> ?_
  rw[nS]
  by_cases hn:n<xs.length*U.wd τ
  ·rw[NU hn,Gj,eV,fE (by rw[h7.2.1];exact hn)]
   rfl
  ·rw[ot (by rw[h7.2.1];omega),ot (by simp;omega)]
   rfl
theorem fe.Q6{x:iE U}{v:Value}{l:List Nat}(h:fe E w F true x v l):Rp E w F true (.sl x.τ x.xs) v l:=by
 obtain⟨τ,xs⟩:=x
 rcases h with⟨h1,⟨ad,h2⟩,h3⟩|⟨b,cap,cur,vs,ie,h1,h2,h3,h4,h5,h6,h7,h8⟩
 ·simp only at h1;subst h1 h2 h3;exact .nil _ _ _ _ (fun _=>rfl)
 ·subst h1 h8;exact .own τ xs b cap cur vs ie h2 h3 h4 h5 h6 h7
theorem Rp.Io{w:World}{F:Nat->Prop}{τ:U.Ty}{xs:List (U.T τ)}{v:Value}{l:List Nat}(h:Rp E w F true (.sl τ xs) v l):fe E w F true ⟨τ,xs⟩ v l:=by
 generalize hc:Cell.sl τ xs=c at h
 generalize hm:true=m at h
 cases h with
 |lit=>cases hc
 |nil m GI a c h=>cases hc;cases h hm.symm;exact .inl ⟨rfl,⟨a,rfl⟩,rfl⟩
 |shr=>cases hm
 |own GI xs' b cap cur vs ie hb AE hmx hs hv hr=>cases hc;exact .inr ⟨b,cap,cur,vs,ie,rfl,hb,AE,hmx,hs,hv,hr,rfl⟩
theorem fe.take{deep:Bool}{x:iE U}{v:Value}{l:List Nat}(h:fe E w F deep x v l){wd hi:Nat}(hh:hi<=x.xs.length):
  ∃l',fe E w F deep ⟨x.τ,x.xs.take hi⟩ (rY wd 0 hi v) l'/\l'.Sublist l:=by
 obtain⟨τ,xs⟩:=x
 simp only at hh
 rcases h with⟨h1,⟨ad,h2⟩,h3⟩|⟨b,cap,cur,vs,ie,h1,h2,h3,h4,h5,h6,h7,h8⟩
 ·simp only at h1;subst h1 h2 h3
  simp only[fz] at hh
  have:hi=0:=by omega
  subst this
  exact⟨[],.inl ⟨rfl,⟨ad,by simp[rY]⟩,rfl⟩,W_ _⟩
 ·simp only at h1 h2 h3 h5 h6 h7 h8
  subst h1 h8
  have hlen:(xs.take hi).length=hi:=by simp;omega
  have hle:hi*U.wd τ<=xs.length*U.wd τ:=Be _ hh
  refine⟨b::(List.range (hi*U.wd τ)).flatMap ie,.inr ⟨b,cap,cur,vs,ie,?_,h2,by simp only[hlen];omega,h4,h5,fun i qH=>h6 i (by simp only[hlen] at qH;omega),fun i y j c hx hj=> ?_,by simp only[hlen]⟩,?_⟩
  ·simp only[hlen,rY,Nat.sub_zero,Nat.zero_mul,Value.slice.injEq,and_true]
   split<;>simp[Addr.add]
  ·simp only at hx
   rw[qy] at hx
   split at hx
   ·exact h7 i y j c hx hj
   ·cases hx
  ·refine List.Sublist.cons_cons _ ?_
   have:List.range (xs.length*U.wd τ)=List.range (hi*U.wd τ)++(List.range (xs.length*U.wd τ-hi*U.wd τ)).map (·+hi*U.wd τ):=by
    have:=List.range_add (n:=hi*U.wd τ) (m:=xs.length*U.wd τ-hi*U.wd τ)
    rw[show hi*U.wd τ+(xs.length*U.wd τ-hi*U.wd τ)=xs.length*U.wd τ by omega] at this
    rw[this]
    congr 1
    refine Pb fun a _=> ?_
    omega
   rw[this,Ur]
   exact zer _ _
end AM
