/- THE ABSTRACT MACHINE: regions and code: its weakest precondition is the model's. -/
import Derived.Test.YtlachfpabecaeaaQAmRename
import Derived.Deep.LoopGhost
namespace AM
set_option linter.unusedVariables false
open Go
variable{U:dh}{E:Env U}{pm:Pm}
variable{F F':Nat->Prop}{kv kv':Key->Value}{fp fp':Key->List Nat}{σ τ:aa U}{a:Act}{w w':World}
theorem IT{ops:List Oper}{items:List (Item U)}(jo:items.map (·.o)=ops)(hN:∀k,Names σ k->(k.1∈ll ops\/k.1=1000000)->1024<=k.2){i:Nat}{it:Item U}(qm:items[i]? =some it)
  (g4:gF (it.o.dst.getD 1000000) it.r (jU 0 (items.take i) [])=true) (g5:jv it.o it.r=true) {k:Key} (hk:k∈aQ it.o it.r):¬Names (T (fun k=>decide (k<i)) 0 items σ) k:=by
 intro gi
 have uB:∃j,k=(it.o.dst.getD 1000000,j)/\j<1024/\it.r.aQ≠[]:=by
  simp only[aQ,ez] at hk
  obtain⟨⟨j,e⟩,hj,rfl⟩:=hk
  unfold jv at g5
  have:=qp.1 g5 _ hj
  exact⟨j,rfl,Nat.blt_eq▸this,(fun e=>by rw[e] at hj;cases hj)⟩
 obtain⟨j,rfl,hj,a_⟩:=uB
 rcases zb gi with gi|⟨m,x,hm,lj,hx⟩
 ·have iU:it.o∈ops:=by
   rw[<-jo]
   exact ez.2 ⟨it,np qm,rfl⟩
  have:=hN _ gi (by
   cases hd:it.o.dst with
   |none=>exact .inr rfl
   |some d=>
    refine .inl ?_
    simp only[xk,ll,eY]
    exact⟨it.o,iU,by simp[hd]⟩)
  simp only at this
  omega
 ·simp only[ke,decide_eq_true_eq] at lj
  unfold gF at g4
  have Ky:it.r.aQ.isEmpty=false:=by cases ha:it.r.aQ with
   |nil=>exact absurd ha a_
   |cons _ _=>rfl
  rw[Ky,rh,qp] at g4
  have iU:eF m x∈jU 0 (items.take i) []:=tJ.2 (.inr ⟨m,x,by rw[eP,if_pos lj];exact hm,by simp⟩)
  have:=g4 _ iU
  simp only[k_,eF] at this
  rw[<-nq,jg] at this
  exact this ⟨_,fy _ (eZ _ hx),by simp⟩
theorem HG(hE:E.Good){ops:Array Oper}{items:List (Item U)}{σ:aa U}(cu:xe E ops.toList 0 items σ [])(jo:items.map (·.o)=ops.toList)
  (hN:∀k,Names σ k->(k.1∈ll ops.toList\/k.1=1000000)->1024<=k.2) {Q:Exit->Act->World->Prop} (gZ:∀F kv fp a w,aC E pm F kv fp (jt items σ) a w->Q .normal a w):
  ∀(n i:Nat)(F:Nat->Prop)(kv:Key->Value)(fp:Key->List Nat)(a:Act)(w:World),i+n=ops.size->aC E pm F kv fp (T (fun k=>decide (k<i)) 0 items σ) a w->Go.wpOps E.P ops Q (List.range' i n) a w:=by
 have hlen:items.length=ops.size:=by simpa using congrArg List.length jo
 intro n
 induction n with
 |zero=>
  intro i F kv fp a w hi hs
  refine gZ F kv fp a w ?_
  rw[<-rY (D:=fun k=>decide (k<i)) (j:=0) (fun k hk=>by simp;omega)]
  exact hs
 |succ n ih=>
  intro i F kv fp a w hi hs
  rw[List.range'_succ,wpOps_cons]
  obtain⟨it,qm⟩:∃it,items[i]? =some it:=⟨_,cE (by omega)⟩
  have BU:ops[i]? =some it.o:=by
   have:(items.map (·.o))[i]? =some it.o:=by rw[eC,qm];rfl
   rw[jo] at this
   simpa using this
  obtain⟨kG,BT⟩:=cu.xv qm
  refine Dz hE hs BU kG ?_ (fun F' kv' fp' a' w' cO=>ih (i+1) F' kv' fp' a' w' (by omega) ?_)
  ·rcases BT with⟨g1,g2,g3⟩|⟨g1,g2,g3,g4,g5⟩
   ·exact .inl ⟨g1,g2⟩
   ·exact .inr ⟨g1,g2,g3,fun k hk=>IT jo hN qm g4 g5 hk⟩
  ·refine cO.congr ?_
   have h1:=vf (D:=fun k=>decide (k<i)) (i:=i) (it:=it) (items:=items) (j:=0) (σ:=σ) qm (by simp) (fun m y hm Gs lj=>by simp at lj;omega)
   refine h1.trans ?_
   rw[wx (D':=fun k=>decide (k<i+1))]
   ·exact lm.refl _
   ·intro k hk
    simp only[ke]
    rw[Cl]
    simp only[qo,decide_eq_true_eq,te]
    omega
structure aV(W:List Nat)(σ τ:aa U):Prop where
 n:τ.n=σ.n
 get:∀s v,s∉W->σ.get s=some (.v v)->(SV.v v).keys=[]->τ.get s=some (.v v)
 fn:∀s p,s∉W->σ.get s=some (.fn p)->τ.get s=some (.fn p)
theorem aV.refl(W:List Nat)(σ:aa U):aV W σ σ:=⟨rfl,fun _ _ _ h _=>h,fun _ _ _ h=>h⟩
theorem aV.trans{W:List Nat}{σ τ ρ:aa U}(h:aV W σ τ)(k:aV W τ ρ):aV W σ ρ:=
 ⟨k.n.trans h.n,fun s v hs hg hk=>k.get s v hs (h.get s v hs hg hk) hk,fun s p hs hg=>k.fn s p hs (h.fn s p hs hg)⟩
theorem aV.mono{W W':List Nat}{σ τ:aa U}(h:aV W σ τ)(hw:∀s,s∈W->s∈W'):aV W' σ τ:=
 ⟨h.n,fun s v hs hg hk=>h.get s v (fun e=>hs (hw s e)) hg hk,fun s p hs hg=>h.fn s p (fun e=>hs (hw s e)) hg⟩
theorem yU{x:SV U}(h:x.keys=[]):∀y∈x.lM,y.keys=[]:=by
 intro y hy
 rw[G0]
 intro k hk
 have:k∈x.keys:=SV.mem_keys.2 ⟨y,hy,hk⟩
 rw[h] at this
 cases this
theorem Dp{bad:Key->Bool}{σ:aa U}{x:SV U}(h:x.keys=[]):wC bad σ x=true:=by
 unfold wC SV.rq
 rw[k_,<-nq,jg]
 rintro⟨y,hy,h2⟩
 have hk:=yU h y hy
 rw[hk] at h2
 cases y<;>simp_all[AC.keys]
theorem pK(bad:Key->Bool)(W:List Nat)(σ:aa U):aV W σ (fZ bad σ):=
 ⟨rfl,fun s v _ hg hk=>tD.2 ⟨hg,Dp hk,by simp⟩,fun s p _ hg=>tD.2 ⟨hg,Dp rfl,by simp⟩⟩
theorem JJ{o:Oper}{r:aw U}{σ:aa U}{W:List Nat}(h:∀d,o.dst=some d->d∈W):aV W σ (AM.apply o r σ):=by
 have g:∀s x,s∉W->σ.get s=some x->(AM.apply o r σ).get s=some x:=by
  intro s x hs hg
  rw[nS]
  cases hd:o.dst with
  |none=>exact hg
  |some d=>
   have:d≠s:=fun e=>hs (e▸h d hd)
   simp only[this,if_false];exact hg
 exact⟨rfl,fun s v hs hg _=>g s _ hs hg,fun s p hs hg=>g s _ hs hg⟩
theorem DQ{W:List Nat}:∀{items:List (Item U)}{σ:aa U},(∀it∈items,∀d,it.o.dst=some d->d∈W)->aV W σ (jt items σ)
 |[],σ,_=>aV.refl _ _
 |it::r,σ,h=>(JJ (h it e_)).trans (DQ fun x hx=>h x (c9 _ hx))
theorem AC.qx{f:Key->Key}{x:AC U}(h:x.keys=[]):x.ib f=x:=by
 cases x<;>first|rfl|simp[AC.keys] at h
theorem HS(l:List (Key×Key))(W:List Nat)(σ:aa U):aV W σ (rename l σ):=by
 refine⟨rfl,fun s v _ hg hk=> ?_,fun s p _ hg=> ?_⟩
 rotate_left
 ·have wS:look σ.ap s=some (.fn p):=hg
  refine(v8 (g:=SV.ib (jk l)) (l:=σ.ap) (s:=s)).trans ?_
  rw[wS]
  rfl
 show look (σ.ap.map fun(s,v)=>(s,v.map (SV.ib (jk l)))) s=_
 have:=v8 (g:=SV.ib (jk l)) (l:=σ.ap) (s:=s)
 refine this.trans ?_
 have wS:look σ.ap s=some (.v v):=hg
 rw[wS]
 simp only[Option.map,SV.ib]
 have:v.cs.map (AC.ib (jk l))=v.cs:=by
  conv=>rhs;rw[<-List.map_id v.cs]
  exact th fun y hy=>AC.qx (yU hk y hy)
 rw[this]
theorem C0(l:List (Key×Key))(W:List Nat)(σ:aa U):aV W σ (fY l σ):=by
 unfold fY
 simp only[bY]
 split
 ·exact aV.refl _ _
 ·exact(pK _ _ _).trans (HS _ _ _)
theorem C5(d:Nat)(W:List Nat)(σ:aa U):aV W σ (gn d σ):=by
 unfold gn
 split
 ·exact C0 _ _ _
 ·exact aV.refl _ _
theorem HF(k:Key)(W:List Nat)(σ:aa U):aV W σ (jF k σ):=by
 unfold jF
 split
 ·exact C0 _ _ _
 ·exact aV.refl _ _
theorem vU(W:List Nat):∀(l:List Key)(τ:aa U),aV W τ (jE l τ)
 |[],τ=>aV.refl _ _
 |k::l,τ=>(HF k W τ).trans (vU W l _)
theorem HD(ops:List Oper)(W:List Nat)(σ:aa U):aV W σ (settle ops σ):=by
 unfold settle
 have:∀(l:List Nat)(τ:aa U),aV W τ (l.foldl (fun σ d=>gn d σ) τ):=by
  intro l
  induction l with
  |nil=>exact fun τ=>aV.refl _ _
  |cons d l ih=>exact fun τ=>(C5 d W τ).trans (ih _)
 exact((pK _ _ _).trans (this _ _)).trans (vU _ _ _)
theorem IV{k0:Key}{c:U.C}{x:AC U}(h:x.keys=[]):ov k0 c x=x:=by
 cases x<;>first|rfl|(simp[AC.keys] at h)
theorem DI(k0:Key)(W:List Nat)(σ:aa U):aV W σ (dz k0 σ):=by
 unfold dz
 split
 rotate_left
 ·exact aV.refl _ _
 refine⟨rfl,fun s v _ hg hk=> ?_,fun s p _ hg=> ?_⟩
 ·show look (σ.ap.map _) s=_
  rw[tG]
  have hg:look σ.ap s=some (.v v):=hg
  rw[hg]
  have:∀c:U.C,v.cs.map (ov k0 c)=v.cs:=by
   intro c
   refine(th fun x hx=>IV ?_).trans (List.map_id _)
   exact yU hk x (by simpa[SV.lM] using hx)
  simp only[mP,qY,this]
 ·show look (σ.ap.map _) s=_
  rw[tG]
  have hg:look σ.ap s=some (.fn p):=hg
  rw[hg];rfl
theorem wg(W:List Nat):∀(l:List Nat)(σ:aa U),aV W σ (fE l σ)
 |[],σ=>aV.refl _ _
 |s::l,σ=>by
  refine aV.trans (τ:=gG s σ) ?_ (wg W l _)
  unfold gG
  split
  ·exact DI _ _ _
  ·exact aV.refl _ _
theorem wi(W:List Nat):∀(l:List Key)(σ:aa U),aV W σ (gb l σ)
 |[],σ=>aV.refl _ _
 |s::l,σ=>aV.trans (τ:=dz s σ) (DI _ _ _) (wi W l _)
theorem HB(W:List Nat)(k:Key)(σ:aa U):aV W σ (lU k σ):=by
 unfold lU
 split
 ·exact⟨rfl,fun _ _ _ h _=>h,fun _ _ _ h=>h⟩
 ·exact aV.refl _ _
theorem CY(W:List Nat):∀(l:List Key)(σ:aa U),aV W σ (l.foldl (fun σ k=>lU k σ) σ)
 |[],σ=>aV.refl _ _
 |k::l,σ=>aV.trans (HB W k σ) (CY W l _)
theorem CW(W:List Nat)(l:List Key)(σ:aa U):aV W σ (rr l σ):=by
 cases l with
 |nil=>exact aV.refl _ _
 |cons k l=>exact aV.trans (CY W (k::l) σ) (pK _ _ _)
theorem HU{ops:List Oper}{items:List (Item U)}(jo:items.map (·.o)=ops){E':Env U}{σ:aa U}:aV (ll ops) σ (settle ops (jt items (mz E' ops σ))):=by
 refine((((pK _ _ _).trans (wg _ _ _)).trans (wi _ _ _)).trans (DQ fun it qm d hd=> ?_)).trans (HD _ _ _)
 subst jo
 exact eY.2 ⟨it.o,ez.2 ⟨it,qm,rfl⟩,by simp[hd]⟩
theorem HT(hE:E.Good)(h:aC E pm F kv fp σ a w){id:Nat}{ops:Array Oper}{draw:Bool}{K:aa U->Prop}(hw:jB E ops.toList draw σ K){Q:Exit->Act->World->Prop}
  (hQ:∀dD F kv fp a' w',K dD->aV (ll ops.toList) σ dD->aC E pm F kv fp dD a' w'->Q .normal a' w'):(Code.region id ops draw).wp E.P Q a w:=by
 unfold jB at hw
 obtain⟨items,jo,cu,hk⟩:=yB hw
 rw[bY] at hk
 split at hk
 ·rename_i hd
  have gZ:∀F kv fp a w,aC E pm F kv fp (jt items (mz E ops.toList σ)) a w->Q .normal a w:=by
   intro F kv fp a w hs
   obtain⟨kv',fp',cO⟩:=HC hs ops.toList
   exact hQ _ F kv' fp' a w hk (HU jo) cO
  have hlen:items.length=ops.size:=by simpa using congrArg List.length jo
  obtain⟨F,kv,fp,h0⟩:=Jc h E ops.toList
  cases draw with
  |false=>
   refine wp_region ?_
   rw[List.range_eq_range']
   refine HG hE cu jo (fun k hk hd=>DP hk hd) gZ _ 0 F kv fp a w (by omega) ?_
   rw[ph (fun k hk=>by simp)]
   exact h0
  |true=>
   refine wp_region_any hE.ok.mixed ?_
   simp only[Og,rh] at hd
   refine Jf hE cu jo hd (fun k hk hd=>DP hk hd) gZ _ _ F kv fp a w.drew ?_ (by simp) (fun j hj=> ?_) ?_
   ·rw[ph (fun k hk=>by
     simp only[tm,Array.getElem?_replicate]
     split<;>rfl)]
    exact h0.drew
   ·exfalso
    simp only[tm,Array.getElem?_replicate] at hj
    split at hj<;>simp at hj
   ·simp
 ·exact hk.elim
end AM
