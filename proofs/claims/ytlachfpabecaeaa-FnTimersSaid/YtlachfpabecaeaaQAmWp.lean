/- THE ABSTRACT MACHINE: regions and code: its weakest precondition is the model's. -/
import Derived.Test.YtlachfpabecaeaaQAmRename
import Derived.Deep.LoopGhost
namespace AM
set_option linter.unusedVariables false
open Go
variable{U:dw}{E:Env U}{pm:Pm}
variable{F F':Nat->Prop}{kv kv':Key->Value}{fp fp':Key->List Nat}{σ τ:aa U}{a:Act}{w w':World}
theorem Jg{ops:List Oper}{items:List (Item U)}(jR:items.map (·.o)=ops)(hN:∀k,Names σ k->(k.1∈mc ops\/k.1=1000000)->1024<=k.2){i:Nat}{it:Item U}(rH:items[i]? =some it)
  (g4:hO (it.o.dst.getD 1000000) it.r (kB 0 (items.take i) [])=true) (g5:jY it.o it.r=true) {k:Key} (hk:k∈aM it.o it.r):¬Names (T (fun k=>decide (k<i)) 0 items σ) k:=by
 intro gR
 have vI:∃j,k=(it.o.dst.getD 1000000,j)/\j<1024/\it.r.aM≠[]:=by
  simp only[aM,eV] at hk
  obtain⟨⟨j,e⟩,hj,rfl⟩:=hk
  unfold jY at g5
  have:=qc.1 g5 _ hj
  exact⟨j,rfl,Nat.blt_eq▸this,(fun e=>by rw[e] at hj;cases hj)⟩
 obtain⟨j,rfl,hj,aX⟩:=vI
 rcases Ao gR with gR|⟨m,x,hm,mb,hx⟩
 ·have jv:it.o∈ops:=by
   rw[<-jR]
   exact eV.2 ⟨it,n6 rH,rfl⟩
  have:=hN _ gR (by
   cases hd:it.o.dst with
   |none=>exact .inr rfl
   |some d=>
    refine .inl ?_
    simp only[yz,mc,fC]
    exact⟨it.o,jv,by simp[hd]⟩)
  simp only at this
  omega
 ·simp only[kO,decide_eq_true_eq] at mb
  unfold hO at g4
  have KV:it.r.aM.isEmpty=false:=by cases ha:it.r.aM with
   |nil=>exact absurd ha aX
   |cons _ _=>rfl
  rw[KV,sA,qc] at g4
  have jv:eY m x∈kB 0 (items.take i) []:=uZ.2 (.inr ⟨m,x,by rw[fg,if_pos mb];exact hm,by simp⟩)
  have:=g4 _ jv
  simp only[l6,eY] at this
  rw[<-n7,jI] at this
  exact this ⟨_,fV _ (fD _ hx),by simp⟩
theorem H7(hE:E.Good){ops:Array Oper}{items:List (Item U)}{σ:aa U}(cx:yo E ops.toList 0 items σ [])(jR:items.map (·.o)=ops.toList)
  (hN:∀k,Names σ k->(k.1∈mc ops.toList\/k.1=1000000)->1024<=k.2) {Q:Exit->Act->World->Prop} (iu:∀F kv fp a w,aE E pm F kv fp (jW items σ) a w->Q .normal a w):
  ∀(n i:Nat)(F:Nat->Prop)(kv:Key->Value)(fp:Key->List Nat)(a:Act)(w:World),i+n=ops.size->aE E pm F kv fp (T (fun k=>decide (k<i)) 0 items σ) a w->Go.wpOps E.P ops Q (List.range' i n) a w:=by
 have hlen:items.length=ops.size:=by simpa using congrArg List.length jR
 intro n
 induction n with
 |zero=>
  intro i F kv fp a w hi hs
  refine iu F kv fp a w ?_
  rw[<-tc (D:=fun k=>decide (k<i)) (j:=0) (fun k hk=>by simp;omega)]
  exact hs
 |succ n ih=>
  intro i F kv fp a w hi hs
  rw[List.range'_succ,wpOps_cons]
  obtain⟨it,rH⟩:∃it,items[i]? =some it:=⟨_,cF (by omega)⟩
  have B_:ops[i]? =some it.o:=by
   have:(items.map (·.o))[i]? =some it.o:=by rw[eW,rH];rfl
   rw[jR] at this
   simpa using this
  obtain⟨lm,vz⟩:=cx.yJ rH
  refine DQ hE hs B_ lm ?_ (fun F' kv' fp' a' w' cZ=>ih (i+1) F' kv' fp' a' w' (by omega) ?_)
  ·rcases vz with⟨g1,g2,g3⟩|⟨g1,g2,g3,g4,g5⟩
   ·exact .inl ⟨g1,g2⟩
   ·exact .inr ⟨g1,g2,g3,fun k hk=>Jg jR hN rH g4 g5 hk⟩
  ·refine cZ.congr ?_
   have h1:=wv (D:=fun k=>decide (k<i)) (i:=i) (it:=it) (items:=items) (j:=0) (σ:=σ) rH (by simp) (fun m y hm GW mb=>by simp at mb;omega)
   refine h1.trans ?_
   rw[xA (D':=fun k=>decide (k<i+1))]
   ·exact me.refl _
   ·intro k hk
    simp only[kO]
    rw[B0]
    simp only[qi,decide_eq_true_eq,uC]
    omega
structure aS(W:List Nat)(σ τ:aa U):Prop where
 n:τ.n=σ.n
 get:∀s v,s∉W->σ.get s=some (.v v)->(SV.v v).keys=[]->τ.get s=some (.v v)
 fn:∀s p,s∉W->σ.get s=some (.fn p)->τ.get s=some (.fn p)
theorem aS.refl(W:List Nat)(σ:aa U):aS W σ σ:=⟨rfl,fun _ _ _ h _=>h,fun _ _ _ h=>h⟩
theorem aS.trans{W:List Nat}{σ τ ρ:aa U}(h:aS W σ τ)(k:aS W τ ρ):aS W σ ρ:=
 ⟨k.n.trans h.n,fun s v hs hg hk=>k.get s v hs (h.get s v hs hg hk) hk,fun s p hs hg=>k.fn s p hs (h.fn s p hs hg)⟩
theorem aS.mono{W W':List Nat}{σ τ:aa U}(h:aS W σ τ)(hw:∀s,s∈W->s∈W'):aS W' σ τ:=
 ⟨h.n,fun s v hs hg hk=>h.get s v (fun e=>hs (hw s e)) hg hk,fun s p hs hg=>h.fn s p (fun e=>hs (hw s e)) hg⟩
theorem z_{x:SV U}(h:x.keys=[]):∀y∈x.mE,y.keys=[]:=by
 intro y hy
 rw[Hn]
 intro k hk
 have:k∈x.keys:=SV.mem_keys.2 ⟨y,hy,hk⟩
 rw[h] at this
 cases this
theorem DG{bad:Key->Bool}{σ:aa U}{x:SV U}(h:x.keys=[]):xF bad σ x=true:=by
 unfold xF SV.sF
 rw[l6,<-n7,jI]
 rintro⟨y,hy,h2⟩
 have hk:=z_ h y hy
 rw[hk] at h2
 cases y<;>simp_all[AC.keys]
theorem qy(bad:Key->Bool)(W:List Nat)(σ:aa U):aS W σ (gB bad σ):=
 ⟨rfl,fun s v _ hg hk=>uT.2 ⟨hg,DG hk,by simp⟩,fun s p _ hg=>uT.2 ⟨hg,DG rfl,by simp⟩⟩
theorem J8{o:Oper}{r:az U}{σ:aa U}{W:List Nat}(h:∀d,o.dst=some d->d∈W):aS W σ (AM.apply o r σ):=by
 have g:∀s x,s∉W->σ.get s=some x->(AM.apply o r σ).get s=some x:=by
  intro s x hs hg
  rw[oR]
  cases hd:o.dst with
  |none=>exact hg
  |some d=>
   have:d≠s:=fun e=>hs (e▸h d hd)
   simp only[this,if_false];exact hg
 exact⟨rfl,fun s v hs hg _=>g s _ hs hg,fun s p hs hg=>g s _ hs hg⟩
theorem D7{W:List Nat}:∀{items:List (Item U)}{σ:aa U},(∀it∈items,∀d,it.o.dst=some d->d∈W)->aS W σ (jW items σ)
 |[],σ,_=>aS.refl _ _
 |it::r,σ,h=>(J8 (h it gp)).trans (D7 fun x hx=>h x (d_ _ hx))
theorem AC.rN{f:Key->Key}{x:AC U}(h:x.keys=[]):x.iK f=x:=by
 cases x<;>first|rfl|simp[AC.keys] at h
theorem Ih(l:List (Key×Key))(W:List Nat)(σ:aa U):aS W σ (rename l σ):=by
 refine⟨rfl,fun s v _ hg hk=> ?_,fun s p _ hg=> ?_⟩
 rotate_left
 ·have xX:look σ.au s=some (.fn p):=hg
  refine(xf (g:=SV.iK (jM l)) (l:=σ.au) (s:=s)).trans ?_
  rw[xX]
  rfl
 show look (σ.au.map fun(s,v)=>(s,v.map (SV.iK (jM l)))) s=_
 have:=xf (g:=SV.iK (jM l)) (l:=σ.au) (s:=s)
 refine this.trans ?_
 have xX:look σ.au s=some (.v v):=hg
 rw[xX]
 simp only[Option.map,SV.iK]
 have:v.cs.map (AC.iK (jM l))=v.cs:=by
  conv=>rhs;rw[<-List.map_id v.cs]
  exact uE fun y hy=>AC.rN (z_ hk y hy)
 rw[this]
theorem Dh(l:List (Key×Key))(W:List Nat)(σ:aa U):aS W σ (gA l σ):=by
 unfold gA
 simp only[bV]
 split
 ·exact aS.refl _ _
 ·exact(qy _ _ _).trans (Ih _ _ _)
theorem Dj(d:Nat)(W:List Nat)(σ:aa U):aS W σ (gU d σ):=by
 unfold gU
 split
 ·exact Dh _ _ _
 ·exact aS.refl _ _
theorem H6(k:Key)(W:List Nat)(σ:aa U):aS W σ (kf k σ):=by
 unfold kf
 split
 ·exact Dh _ _ _
 ·exact aS.refl _ _
theorem w7(W:List Nat):∀(l:List Key)(τ:aa U),aS W τ (ke l τ)
 |[],τ=>aS.refl _ _
 |k::l,τ=>(H6 k W τ).trans (w7 W l _)
theorem H4(ops:List Oper)(W:List Nat)(σ:aa U):aS W σ (settle ops σ):=by
 unfold settle
 have:∀(l:List Nat)(τ:aa U),aS W τ (l.foldl (fun σ d=>gU d σ) τ):=by
  intro l
  induction l with
  |nil=>exact fun τ=>aS.refl _ _
  |cons d l ih=>exact fun τ=>(Dj d W τ).trans (ih _)
 exact((qy _ _ _).trans (this _ _)).trans (w7 _ _ _)
theorem Ji{k0:Key}{c:U.C}{x:AC U}(h:x.keys=[]):pu k0 c x=x:=by
 cases x<;>first|rfl|(simp[AC.keys] at h)
theorem DZ(k0:Key)(W:List Nat)(σ:aa U):aS W σ (dM k0 σ):=by
 unfold dM
 split
 rotate_left
 ·exact aS.refl _ _
 refine⟨rfl,fun s v _ hg hk=> ?_,fun s p _ hg=> ?_⟩
 ·show look (σ.au.map _) s=_
  rw[uW]
  have hg:look σ.au s=some (.v v):=hg
  rw[hg]
  have:∀c:U.C,v.cs.map (pu k0 c)=v.cs:=by
   intro c
   refine(uE fun x hx=>Ji ?_).trans (List.map_id _)
   exact z_ hk x (by simpa[SV.mE] using hx)
  simp only[nG,sk,this]
 ·show look (σ.au.map _) s=_
  rw[uW]
  have hg:look σ.au s=some (.fn p):=hg
  rw[hg];rfl
theorem xm(W:List Nat):∀(l:List Nat)(σ:aa U),aS W σ (gg l σ)
 |[],σ=>aS.refl _ _
 |s::l,σ=>by
  refine aS.trans (τ:=hU s σ) ?_ (xm W l _)
  unfold hU
  split
  ·exact DZ _ _ _
  ·exact aS.refl _ _
theorem xo(W:List Nat):∀(l:List Key)(σ:aa U),aS W σ (gH l σ)
 |[],σ=>aS.refl _ _
 |s::l,σ=>aS.trans (τ:=dM s σ) (DZ _ _ _) (xo W l _)
theorem H2(W:List Nat)(k:Key)(σ:aa U):aS W σ (mI k σ):=by
 unfold mI
 split
 ·exact⟨rfl,fun _ _ _ h _=>h,fun _ _ _ h=>h⟩
 ·exact aS.refl _ _
theorem Df(W:List Nat):∀(l:List Key)(σ:aa U),aS W σ (l.foldl (fun σ k=>mI k σ) σ)
 |[],σ=>aS.refl _ _
 |k::l,σ=>aS.trans (H2 W k σ) (Df W l _)
theorem Dd(W:List Nat)(l:List Key)(σ:aa U):aS W σ (sH l σ):=by
 cases l with
 |nil=>exact aS.refl _ _
 |cons k l=>exact aS.trans (Df W (k::l) σ) (qy _ _ _)
theorem Ij{ops:List Oper}{items:List (Item U)}(jR:items.map (·.o)=ops){E':Env U}{σ:aa U}:aS (mc ops) σ (settle ops (jW items (nk E' ops σ))):=by
 refine((((qy _ _ _).trans (xm _ _ _)).trans (xo _ _ _)).trans (D7 fun it rH d hd=> ?_)).trans (H4 _ _ _)
 subst jR
 exact fC.2 ⟨it.o,eV.2 ⟨it,rH,rfl⟩,by simp[hd]⟩
theorem Ii(hE:E.Good)(h:aE E pm F kv fp σ a w){id:Nat}{ops:Array Oper}{draw:Bool}{K:aa U->Prop}(hw:j_ E ops.toList draw σ K){Q:Exit->Act->World->Prop}
  (hQ:∀dR F kv fp a' w',K dR->aS (mc ops.toList) σ dR->aE E pm F kv fp dR a' w'->Q .normal a' w'):(Code.region id ops draw).wp E.P Q a w:=by
 unfold j_ at hw
 obtain⟨items,jR,cx,hk⟩:=zK hw
 rw[bV] at hk
 split at hk
 ·rename_i hd
  have iu:∀F kv fp a w,aE E pm F kv fp (jW items (nk E ops.toList σ)) a w->Q .normal a w:=by
   intro F kv fp a w hs
   obtain⟨kv',fp',cZ⟩:=H3 hs ops.toList
   exact hQ _ F kv' fp' a w hk (Ij jR) cZ
  have hlen:items.length=ops.size:=by simpa using congrArg List.length jR
  obtain⟨F,kv,fp,h0⟩:=JB h E ops.toList
  cases draw with
  |false=>
   refine wp_region ?_
   rw[List.range_eq_range']
   refine H7 hE cx jR (fun k hk hd=>D6 hk hd) iu _ 0 F kv fp a w (by omega) ?_
   rw[p7 (fun k hk=>by simp)]
   exact h0
  |true=>
   refine wp_region_any hE.ok.mixed ?_
   simp only[Gu,sA] at hd
   refine JE hE cx jR hd (fun k hk hd=>D6 hk hd) iu _ _ F kv fp a w.drew ?_ (by simp) (fun j hj=> ?_) ?_
   ·rw[p7 (fun k hk=>by
     simp only[uG,Array.getElem?_replicate]
     split<;>rfl)]
    exact h0.drew
   ·exfalso
    simp only[uG,Array.getElem?_replicate] at hj
    split at hj<;>simp at hj
   ·simp
 ·exact hk.elim
end AM
