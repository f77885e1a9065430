import Derived.Test.YtmcepppejchhkaaGreatDoorQAmRename
import Derived.Deep.LoopGhost
namespace AM
set_option linter.unusedVariables false
open Go
variable{U:lQ}{E:Env U}{pm:Pm}
variable{F F':Nat->Prop}{kv kv':Key->Value}{fp fp':Key->List Nat}{σ τ:ak U}{a:Act}{w w':World}
theorem amp{ops:List Oper}{items:List (Item U)}(xr:items.map (·.o)=ops)(hN:∀k,Names σ k->(k.1∈B3 ops\/k.1=1000000)->1024<=k.2){i:Nat}{it:Item U}(ME:items[i]? =some it)
  (g4:tD (it.o.dst.getD 1000000) it.r (yZ 0 (items.take i) [])=true) (g5:xD it.o it.r=true) {k:Key} (hk:k∈dZ it.o it.r):¬Names (T (fun k=>decide (k<i)) 0 items σ) k:=by
 intro vS
 have Sy:∃j,k=(it.o.dst.getD 1000000,j)/\j<1024/\it.r.dZ≠[]:=by
  simp only[dZ,mz] at hk
  obtain⟨⟨j,e⟩,hj,rfl⟩:=hk
  unfold xD at g5
  have:=sP.1 g5 _ hj
  exact⟨j,rfl,Nat.blt_eq▸this,(fun e=>by rw[e] at hj;cases hj)⟩
 obtain⟨j,rfl,hj,fc⟩:=Sy
 rcases aaH vS with vS|⟨m,x,hm,B0,hx⟩
 ·have E7:it.o∈ops:=by
   rw[<-xr]
   exact mz.2 ⟨it,GK ME,rfl⟩
  have:=hN _ vS (by
   cases hd:it.o.dst with
   |none=>exact .inr rfl
   |some d=>
    refine .inl ?_
    simp only[Gi,B3,o8]
    exact⟨it.o,E7,by simp[hd]⟩)
  simp only at this
  omega
 ·simp only[vB,decide_eq_true_eq] at B0
  unfold tD at g4
  have hie:it.r.dZ.isEmpty=false:=by cases ha:it.r.dZ with
   |nil=>exact absurd ha fc
   |cons _ _=>rfl
  rw[hie,GJ,sP] at g4
  have E7:oz m x∈yZ 0 (items.take i) []:=Rz.2 (.inr ⟨m,x,by rw[qy,if_pos B0];exact hm,by simp⟩)
  have:=g4 _ E7
  simp only[qK,oz] at this
  rw[<-wI,vD] at this
  exact this ⟨_,rW _ (qM _ hx),by simp⟩
theorem alf(hE:E.Good){ops:Array Oper}{items:List (Item U)}{σ:ak U}(jz:W6 E ops.toList 0 items σ [])(xr:items.map (·.o)=ops.toList)
  (hN:∀k,Names σ k->(k.1∈B3 ops.toList\/k.1=1000000)->1024<=k.2) {Q:Exit->Act->World->Prop} (sn:∀F kv fp a w,cR E pm F kv fp (xx items σ) a w->Q .normal a w):
  ∀(n i:Nat)(F:Nat->Prop)(kv:Key->Value)(fp:Key->List Nat)(a:Act)(w:World),i+n=ops.size->cR E pm F kv fp (T (fun k=>decide (k<i)) 0 items σ) a w->Go.wpOps E.P ops Q (List.range' i n) a w:=by
 have hlen:items.length=ops.size:=by simpa using congrArg List.length xr
 intro n
 induction n with
 |zero=>
  intro i F kv fp a w hi hs
  refine sn F kv fp a w ?_
  rw[<-O8 (D:=fun k=>decide (k<i)) (j:=0) (fun k hk=>by simp;omega)]
  exact hs
 |succ n ih=>
  intro i F kv fp a w hi hs
  rw[List.range'_succ,wpOps_cons]
  obtain⟨it,ME⟩:∃it,items[i]? =some it:=⟨_,fE (by omega)⟩
  have hoi:ops[i]? =some it.o:=by
   have:(items.map (·.o))[i]? =some it.o:=by rw[nS,ME];rfl
   rw[xr] at this
   simpa using this
  obtain⟨AD,Uz⟩:=jz.Xi ME
  refine adF hE hs hoi AD ?_ (fun F' kv' fp' a' w' kE=>ih (i+1) F' kv' fp' a' w' (by omega) ?_)
  ·rcases Uz with⟨g1,g2,g3⟩|⟨g1,g2,g3,g4,g5⟩
   ·exact .inl ⟨g1,g2⟩
   ·exact .inr ⟨g1,g2,g3,fun k hk=>amp xr hN ME g4 g5 hk⟩
  ·refine kE.congr ?_
   have h1:=Uj (D:=fun k=>decide (k<i)) (i:=i) (it:=it) (items:=items) (j:=0) (σ:=σ) ME (by simp) (fun m y hm him B0=>by simp at B0;omega)
   refine h1.trans ?_
   rw[Vy (D':=fun k=>decide (k<i+1))]
   ·exact B5.refl _
   ·intro k hk
    simp only[vB]
    rw[Gd]
    simp only[Gc,decide_eq_true_eq,HQ]
    omega
structure eH(W:List Nat)(σ τ:ak U):Prop where
 n:τ.n=σ.n
 get:∀s v,s∉W->σ.get s=some (.v v)->(SV.v v).keys=[]->τ.get s=some (.v v)
 fn:∀s p,s∉W->σ.get s=some (.fn p)->τ.get s=some (.fn p)
theorem eH.refl(W:List Nat)(σ:ak U):eH W σ σ:=⟨rfl,fun _ _ _ h _=>h,fun _ _ _ h=>h⟩
theorem eH.trans{W:List Nat}{σ τ ρ:ak U}(h:eH W σ τ)(k:eH W τ ρ):eH W σ ρ:=
 ⟨k.n.trans h.n,fun s v hs hg hk=>k.get s v hs (h.get s v hs hg hk) hk,fun s p hs hg=>k.fn s p hs (h.fn s p hs hg)⟩
theorem eH.mono{W W':List Nat}{σ τ:ak U}(h:eH W σ τ)(hw:∀s,s∈W->s∈W'):eH W' σ τ:=
 ⟨h.n,fun s v hs hg hk=>h.get s v (fun e=>hs (hw s e)) hg hk,fun s p hs hg=>h.fn s p (fun e=>hs (hw s e)) hg⟩
theorem aas{x:SV U}(h:x.keys=[]):∀y∈x.Cu,y.keys=[]:=by
 intro y hy
 rw[zdm]
 intro k hk
 have:k∈x.keys:=SV.mem_keys.2 ⟨y,hy,hk⟩
 rw[h] at this
 cases this
theorem adv{bad:Key->Bool}{σ:ak U}{x:SV U}(h:x.keys=[]):Xj bad σ x=true:=by
 unfold Xj SV.N4
 rw[qK,<-wI,vD]
 rintro⟨y,hy,h2⟩
 have hk:=aas h y hy
 rw[hk] at h2
 cases y<;>simp_all[AC.keys]
theorem KY(bad:Key->Bool)(W:List Nat)(σ:ak U):eH W σ (uk bad σ):=
 ⟨rfl,fun s v _ hg hk=>Ru.2 ⟨hg,adv hk,by simp⟩,fun s p _ hg=>Ru.2 ⟨hg,adv rfl,by simp⟩⟩
theorem ang{o:Oper}{r:cq U}{σ:ak U}{W:List Nat}(h:∀d,o.dst=some d->d∈W):eH W σ (AM.apply o r σ):=by
 have g:∀s x,s∉W->σ.get s=some x->(AM.apply o r σ).get s=some x:=by
  intro s x hs hg
  rw[H2]
  cases hd:o.dst with
  |none=>exact hg
  |some d=>
   have:d≠s:=fun e=>hs (e▸h d hd)
   simp only[this,if_false];exact hg
 exact⟨rfl,fun s v hs hg _=>g s _ hs hg,fun s p hs hg=>g s _ hs hg⟩
theorem adV{W:List Nat}:∀{items:List (Item U)}{σ:ak U},(∀it∈items,∀d,it.o.dst=some d->d∈W)->eH W σ (xx items σ)
 |[],σ,_=>eH.refl _ _
 |it::r,σ,h=>(ang (h it iH)).trans (adV fun x hx=>h x (fF _ hx))
theorem AC.M1{f:Key->Key}{x:AC U}(h:x.keys=[]):x.u_ f=x:=by
 cases x<;>first|rfl|simp[AC.keys] at h
theorem alr(l:List (Key×Key))(W:List Nat)(σ:ak U):eH W σ (rename l σ):=by
 refine⟨rfl,fun s v _ hg hk=> ?_,fun s p _ hg=> ?_⟩
 rotate_left
 ·have Wf:look σ.bG s=some (.fn p):=hg
  refine(Vf (g:=SV.u_ (xj l)) (l:=σ.bG) (s:=s)).trans ?_
  rw[Wf]
  rfl
 show look (σ.bG.map fun(s,v)=>(s,v.map (SV.u_ (xj l)))) s=_
 have:=Vf (g:=SV.u_ (xj l)) (l:=σ.bG) (s:=s)
 refine this.trans ?_
 have Wf:look σ.bG s=some (.v v):=hg
 rw[Wf]
 simp only[Option.map,SV.u_]
 have:v.cs.map (AC.u_ (xj l))=v.cs:=by
  conv=>rhs;rw[<-List.map_id v.cs]
  exact Pb fun y hy=>AC.M1 (aas hk y hy)
 rw[this]
theorem ac'(l:List (Key×Key))(W:List Nat)(σ:ak U):eH W σ (sd l σ):=by
 unfold sd
 simp only[iw]
 split
 ·exact eH.refl _ _
 ·exact(KY _ _ _).trans (alr _ _ _)
theorem ada(d:Nat)(W:List Nat)(σ:ak U):eH W σ (s7 d σ):=by
 unfold s7
 split
 ·exact ac' _ _ _
 ·exact eH.refl _ _
theorem ale(k:Key)(W:List Nat)(σ:ak U):eH W σ (yf k σ):=by
 unfold yf
 split
 ·exact ac' _ _ _
 ·exact eH.refl _ _
theorem U7(W:List Nat):∀(l:List Key)(τ:ak U),eH W τ (ye l τ)
 |[],τ=>eH.refl _ _
 |k::l,τ=>(ale k W τ).trans (U7 W l _)
theorem alc(ops:List Oper)(W:List Nat)(σ:ak U):eH W σ (settle ops σ):=by
 unfold settle
 have:∀(l:List Nat)(τ:ak U),eH W τ (l.foldl (fun σ d=>s7 d σ) τ):=by
  intro l
  induction l with
  |nil=>exact fun τ=>eH.refl _ _
  |cons d l ih=>exact fun τ=>(ada d W τ).trans (ih _)
 exact((KY _ _ _).trans (this _ _)).trans (U7 _ _ _)
theorem amr{k0:Key}{c:U.C}{x:AC U}(h:x.keys=[]):IF k0 c x=x:=by
 cases x<;>first|rfl|(simp[AC.keys] at h)
theorem adN(k0:Key)(W:List Nat)(σ:ak U):eH W σ (mi k0 σ):=by
 unfold mi
 split
 rotate_left
 ·exact eH.refl _ _
 refine⟨rfl,fun s v _ hg hk=> ?_,fun s p _ hg=> ?_⟩
 ·show look (σ.bG.map _) s=_
  rw[Rw]
  have hg:look σ.bG s=some (.v v):=hg
  rw[hg]
  have:∀c:U.C,v.cs.map (IF k0 c)=v.cs:=by
   intro c
   refine(Pb fun x hx=>amr ?_).trans (List.map_id _)
   exact aas hk x (by simpa[SV.Cu] using hx)
  simp only[Gj,Nx,this]
 ·show look (σ.bG.map _) s=_
  rw[Rw]
  have hg:look σ.bG s=some (.fn p):=hg
  rw[hg];rfl
theorem Vm(W:List Nat):∀(l:List Nat)(σ:ak U),eH W σ (ri l σ)
 |[],σ=>eH.refl _ _
 |s::l,σ=>by
  refine eH.trans (τ:=tF s σ) ?_ (Vm W l _)
  unfold tF
  split
  ·exact adN _ _ _
  ·exact eH.refl _ _
theorem Vo(W:List Nat):∀(l:List Key)(σ:ak U),eH W σ (su l σ)
 |[],σ=>eH.refl _ _
 |s::l,σ=>eH.trans (τ:=mi s σ) (adN _ _ _) (Vo W l _)
theorem ala(W:List Nat)(k:Key)(σ:ak U):eH W σ (Et k σ):=by
 unfold Et
 split
 ·exact⟨rfl,fun _ _ _ h _=>h,fun _ _ _ h=>h⟩
 ·exact eH.refl _ _
theorem ac8(W:List Nat):∀(l:List Key)(σ:ak U),eH W σ (l.foldl (fun σ k=>Et k σ) σ)
 |[],σ=>eH.refl _ _
 |k::l,σ=>eH.trans (ala W k σ) (ac8 W l _)
theorem ac6(W:List Nat)(l:List Key)(σ:ak U):eH W σ (N5 l σ):=by
 cases l with
 |nil=>exact eH.refl _ _
 |cons k l=>exact eH.trans (ac8 W (k::l) σ) (KY _ _ _)
theorem alu{ops:List Oper}{items:List (Item U)}(xr:items.map (·.o)=ops){E':Env U}{σ:ak U}:eH (B3 ops) σ (settle ops (xx items (Fq E' ops σ))):=by
 refine((((KY _ _ _).trans (Vm _ _ _)).trans (Vo _ _ _)).trans (adV fun it ME d hd=> ?_)).trans (alc _ _ _)
 subst xr
 exact o8.2 ⟨it.o,mz.2 ⟨it,ME,rfl⟩,by simp[hd]⟩
theorem als(hE:E.Good)(h:cR E pm F kv fp σ a w){id:Nat}{ops:Array Oper}{draw:Bool}{K:ak U->Prop}(hw:xV E ops.toList draw σ K){Q:Exit->Act->World->Prop}
  (hQ:∀my F kv fp a' w',K my->eH (B3 ops.toList) σ my->cR E pm F kv fp my a' w'->Q .normal a' w'):(Code.region id ops draw).wp E.P Q a w:=by
 unfold xV at hw
 obtain⟨items,xr,jz,hk⟩:=aab hw
 rw[iw] at hk
 split at hk
 ·rename_i hd
  have sn:∀F kv fp a w,cR E pm F kv fp (xx items (Fq E ops.toList σ)) a w->Q .normal a w:=by
   intro F kv fp a w hs
   obtain⟨kv',fp',kE⟩:=alb hs ops.toList
   exact hQ _ F kv' fp' a w hk (alu xr) kE
  have hlen:items.length=ops.size:=by simpa using congrArg List.length xr
  obtain⟨F,kv,fp,h0⟩:=amK h E ops.toList
  cases draw with
  |false=>
   refine wp_region ?_
   rw[List.range_eq_range']
   refine alf hE jz xr (fun k hk hd=>adU hk hd) sn _ 0 F kv fp a w (by omega) ?_
   rw[Kf (fun k hk=>by simp)]
   exact h0
  |true=>
   refine wp_region_any hE.ok.mixed ?_
   simp only[zfa,GJ] at hd
   refine amN hE jz xr hd (fun k hk hd=>adU hk hd) sn _ _ F kv fp a w.drew ?_ (by simp) (fun j hj=> ?_) ?_
   ·rw[Kf (fun k hk=>by
     simp only[QZ,Array.getElem?_replicate]
     split<;>rfl)]
    exact h0.drew
   ·exfalso
    simp only[QZ,Array.getElem?_replicate] at hj
    split at hj<;>simp at hj
   ·simp
 ·exact hk.elim
end AM
