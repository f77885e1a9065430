/- THE ABSTRACT MACHINE: rows of cells, what is owned as rows, what is taken over. -/
import Derived.Test.YtlachfpabecaeaaQAmOps5
namespace AM
set_option linter.unusedVariables false
open Go
variable{U:dw}{E:Env U}{pm:Pm}
variable{F F':Nat->Prop}{kv:Key->Value}{fp:Key->List Nat}{σ:aa U}{a:Act}{w w':World}{bad:Key->Bool}
theorem qD{α:Type}{l r:List α}{d:α}{n:Nat}(h:n<l.length):(l++r).getD n d=l.getD n d:=by
 rw[cB,cB,j7 h]
theorem tv{α:Type}{l r:List α}{d:α}{n:Nat}(h:l.length<=n):(l++r).getD n d=r.getD (n-l.length) d:=by
 rw[cB,cB,kT h]
theorem oT{α:Type}{n k:Nat}{d:α}:(List.replicate n d).getD k d=d:=by
 rw[cB,GA];split<;>rfl
variable(E) in
def aO(w:World)(F:Nat->Prop)(deep:Bool)(τ:U.Ty)(xs:List (U.T τ))(vs:List Value)(fl:List (List Nat)):Prop:=
 vs.length=xs.length*U.wd τ/\fl.length=xs.length*U.wd τ/\
 ∀(i:Nat)(x:U.T τ)(j:Nat)(c:U.C),xs[i]? =some x->(U.enc τ x)[j]? =some c->Rp E w F deep c (vs.getD (i*U.wd τ+j) undef) (fl.getD (i*U.wd τ+j) [])
theorem aO.nil{deep:Bool}{τ:U.Ty}:aO E w F deep τ [] [] []:=⟨by simp,by simp,fun i x j c hx=>by simp at hx⟩
theorem aO.append{deep:Bool}{τ:U.Ty}{xs ys:List (U.T τ)}{vs us:List Value}{fl gl:List (List Nat)}(h:aO E w F deep τ xs vs fl)(h':aO E w F deep τ ys us gl):
  aO E w F deep τ (xs++ys) (vs++us) (fl++gl):=by
 obtain⟨h1,h2,h3⟩:=h
 obtain⟨rI,yc,G6⟩:=h'
 refine⟨by simp[h1,rI,j8],by simp[h2,yc,j8],fun i x j c hx hj=> ?_⟩
 by_cases hi:i<xs.length
 ·rw[j7 hi] at hx
  have:=bm hx hj
  rw[qD (by omega),qD (by omega)]
  exact h3 i x j c hx hj
 ·rw[kT (by omega)] at hx
  have:=bm hx hj
  have he:i*U.wd τ+j-xs.length*U.wd τ=(i-xs.length)*U.wd τ+j:=by
   have:xs.length*U.wd τ+(i-xs.length)*U.wd τ=i*U.wd τ:=by rw[<-j8];congr 1;omega
   omega
  have Bm:xs.length*U.wd τ<=i*U.wd τ+j:=by
   have:xs.length*U.wd τ<=i*U.wd τ:=kS _ (by omega)
   omega
  rw[tv (by omega),tv (by omega),h1,h2,he]
  exact G6 _ x j c hx hj
theorem aO.bu{deep:Bool}{τ:U.Ty}{xs:List (U.T τ)}{vs:List Value}{fl:List (List Nat)}(h:aO E w F deep τ xs vs fl)
  (hF:∀b,F b->F' b/\w'.heap[b]? =w.heap[b]?) (rc:∀b∈fl.flatten,w'.heap[b]? =w.heap[b]?):aO E w' F' deep τ xs vs fl:=by
 refine⟨h.1,h.2.1,fun i x j c hx hj=>(h.2.2 i x j c hx hj).bu hF (fun b hb=>rc b ?_)⟩
 have bU:i*U.wd τ+j<fl.length:=by rw[h.2.1];exact bm hx hj
 rw[cB,cF bU] at hb
 exact zr.2 ⟨_,wQ bU,hb⟩
theorem aO.dy{deep:Bool}{τ:U.Ty}{xs:List (U.T τ)}{vs:List Value}{fl:List (List Nat)}(h:aO E w F deep τ xs vs fl)
  (hF:∀b,F b->F' b) (rc:∀b∈fl.flatten,F' b):aO E w F' false τ xs vs (List.replicate (xs.length*U.wd τ) []):=by
 refine⟨h.1,by simp,fun i x j c hx hj=> ?_⟩
 have bU:i*U.wd τ+j<fl.length:=by rw[h.2.1];exact bm hx hj
 have:=(h.2.2 i x j c hx hj).dy hF (fun b hb=>rc b (by
  rw[cB,cF bU] at hb
  exact zr.2 ⟨_,wQ bU,hb⟩))
 rw[oT];exact this
theorem k_{α:Type}(n:Nat):(List.replicate n ([]:List α)).flatten=[]:=by
 induction n with
 |zero=>rfl
 |succ n ih=>simp[List.replicate_succ,ih]
theorem aO.bn{deep:Bool}{τ:U.Ty}{xs:List (U.T τ)}{vs:List Value}{fl:List (List Nat)}(h:aO E w F deep τ xs vs fl):∀v∈vs,v.oneCell'=true:=by
 intro v hv
 obtain⟨n,hn,rfl⟩:=nJ hv
 have hw:=U.dq τ
 have hi:n/U.wd τ<xs.length:=(Nat.div_lt_iff_lt_mul hw).2 (by rw[<-h.1];exact hn)
 have hj:n%U.wd τ<U.wd τ:=Nat.mod_lt _ hw
 have:=h.2.2 (n/U.wd τ) xs[n/U.wd τ] (n%U.wd τ) ((U.enc τ xs[n/U.wd τ])[n%U.wd τ]'(by rw[U.aK];exact hj)) (cF hi) (cF _)
 have he:n/U.wd τ*U.wd τ+n%U.wd τ=n:=by rw[yr];exact Nat.div_add_mod n _
 rw[he,cB,cF hn] at this
 exact this.bn.1
theorem aZ.rows{deep:Bool}{x:fx U}{v:Value}{l:List Nat}(h:aZ E w F deep x v l):
  (x.xs=[]/\(∃ad,v=.slice ad 0 0)/\l=[])\/
  ∃(b cap:Nat)(cur:Array Value)(vs:List Value)(fl:List (List Nat)),v=.slice (some ⟨b,0,none⟩) x.xs.length cap/\w.heap[b]? =some (.cells cur (E.tid x.τ) (0,0))/\x.xs.length<=cap/\cap<=maxLen/\
   cur.size=cap*U.wd x.τ/\cur.toList.take (x.xs.length*U.wd x.τ)=vs/\aO E w F deep x.τ x.xs vs fl/\l=b::fl.flatten:=by
 rcases h with h|⟨b,cap,cur,vs,bM,h1,h2,h3,h4,h5,h6,h7,h8⟩
 ·exact .inl h
 ·have hle:x.xs.length*U.wd x.τ<=cap*U.wd x.τ:=kS _ h3
  refine .inr ⟨b,cap,cur,_,(List.range (x.xs.length*U.wd x.τ)).map bM,h1,h2,h3,h4,h5,rfl,⟨by simp;omega,by simp,fun i y j c hx hj=> ?_⟩,by rw[h8,tj]⟩
  have bU:=bm hx hj
  have:=h7 i y j c hx hj
  rw[cB,fg,if_pos bU,rK,h6 _ bU,cB,eW,sB bU]
  exact this
theorem aZ.er{deep:Bool}{τ:U.Ty}{xs:List (U.T τ)}{b cap:Nat}{cur:Array Value}{vs:List Value}{fl:List (List Nat)}(h2:w.heap[b]? =some (.cells cur (E.tid τ) (0,0)))(h3:xs.length<=cap)(h4:cap<=maxLen)
  (h5:cur.size=cap*U.wd τ) (h6:cur.toList.take (xs.length*U.wd τ)=vs) (h7:aO E w F deep τ xs vs fl):aZ E w F deep ⟨τ,xs⟩ (.slice (some ⟨b,0,none⟩) xs.length cap) (b::fl.flatten):=by
 have hle:xs.length*U.wd τ<=cap*U.wd τ:=kS _ h3
 refine .inr ⟨b,cap,cur,fun n=>vs.getD n undef,fun n=>fl.getD n [],rfl,h2,h3,h4,h5,fun i hi=> ?_,h7.2.2,?_⟩
 ·show cur[i]? =some (vs.getD i undef)
  have gu:i<xs.length*U.wd τ:=hi
  rw[<-h6,cB,fg,if_pos gu,rK]
  rw[CA (by omega)]
  rfl
 ·congr 1
  rw[tj]
  congr 1
  refine wR fun n=> ?_
  rw[eW]
  by_cases hn:n<xs.length*U.wd τ
  ·rw[sB hn,nG,cB,cF (by rw[h7.2.1];exact hn)]
   rfl
  ·rw[fb (by rw[h7.2.1];omega),fb (by simp;omega)]
   rfl
theorem aZ.tn{x:fx U}{v:Value}{l:List Nat}(h:aZ E w F true x v l):Rp E w F true (.sl x.τ x.xs) v l:=by
 obtain⟨τ,xs⟩:=x
 rcases h with⟨h1,⟨ad,h2⟩,h3⟩|⟨b,cap,cur,vs,bM,h1,h2,h3,h4,h5,h6,h7,h8⟩
 ·simp only at h1;subst h1 h2 h3;exact .nil _ _ _ _ (fun _=>rfl)
 ·subst h1 h8;exact .own τ xs b cap cur vs bM h2 h3 h4 h5 h6 h7
theorem Rp.kp{w:World}{F:Nat->Prop}{τ:U.Ty}{xs:List (U.T τ)}{v:Value}{l:List Nat}(h:Rp E w F true (.sl τ xs) v l):aZ E w F true ⟨τ,xs⟩ v l:=by
 generalize hc:Cell.sl τ xs=c at h
 generalize hm:true=m at h
 cases h with
 |lit=>cases hc
 |nil m nZ a c h=>cases hc;cases h hm.symm;exact .inl ⟨rfl,⟨a,rfl⟩,rfl⟩
 |shr=>cases hm
 |own nZ xs' b cap cur vs bM hb kx E0 hs hv hr=>cases hc;exact .inr ⟨b,cap,cur,vs,bM,rfl,hb,kx,E0,hs,hv,hr,rfl⟩
theorem aZ.take{deep:Bool}{x:fx U}{v:Value}{l:List Nat}(h:aZ E w F deep x v l){wd hi:Nat}(hh:hi<=x.xs.length):
  ∃l',aZ E w F deep ⟨x.τ,x.xs.take hi⟩ (gq wd 0 hi v) l'/\l'.Sublist l:=by
 obtain⟨τ,xs⟩:=x
 simp only at hh
 rcases h with⟨h1,⟨ad,h2⟩,h3⟩|⟨b,cap,cur,vs,bM,h1,h2,h3,h4,h5,h6,h7,h8⟩
 ·simp only at h1;subst h1 h2 h3
  simp only[j9] at hh
  have:hi=0:=by omega
  subst this
  exact⟨[],.inl ⟨rfl,⟨ad,by simp[gq]⟩,rfl⟩,yu _⟩
 ·simp only at h1 h2 h3 h5 h6 h7 h8
  subst h1 h8
  have hlen:(xs.take hi).length=hi:=by simp;omega
  have hle:hi*U.wd τ<=xs.length*U.wd τ:=kS _ hh
  refine⟨b::(List.range (hi*U.wd τ)).flatMap bM,.inr ⟨b,cap,cur,vs,bM,?_,h2,by simp only[hlen];omega,h4,h5,fun i gu=>h6 i (by simp only[hlen] at gu;omega),fun i y j c hx hj=> ?_,by simp only[hlen]⟩,?_⟩
  ·simp only[hlen,gq,Nat.sub_zero,Nat.zero_mul,Value.slice.injEq,and_true]
   split<;>simp[Addr.add]
  ·simp only at hx
   rw[fg] at hx
   split at hx
   ·exact h7 i y j c hx hj
   ·cases hx
  ·refine List.Sublist.cons_cons _ ?_
   have:List.range (xs.length*U.wd τ)=List.range (hi*U.wd τ)++(List.range (xs.length*U.wd τ-hi*U.wd τ)).map (·+hi*U.wd τ):=by
    have:=List.range_add (n:=hi*U.wd τ) (m:=xs.length*U.wd τ-hi*U.wd τ)
    rw[show hi*U.wd τ+(xs.length*U.wd τ-hi*U.wd τ)=xs.length*U.wd τ by omega] at this
    rw[this]
    congr 1
    refine uE fun a _=> ?_
    omega
   rw[this,BY]
   exact Hi _ _
end AM
