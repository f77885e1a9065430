import Derived.Test.YtknfcngfhlpaeaaGreatDoorQAmRename
import Derived.Deep.LoopGhost
namespace AM
set_option linter.unusedVariables false
open Go
variable{U:kz}{E:Env U}{pm:Pm}
variable{F F':Nat->Prop}{kv kv':Key->Value}{fp fp':Key->List Nat}{σ τ:ak U}{a:Act}{w w':World}
theorem aiW{ops:List Oper}{items:List (Item U)}(vC:items.map (·.o)=ops)(hN:∀k,Names σ k->(k.1∈zY ops\/k.1=1000000)->1024<=k.2){i:Nat}{it:Item U}(Jz:items[i]? =some it)
  (g4:rz (it.o.dst.getD 1000000) it.r (xc 0 (items.take i) [])=true) (g5:vQ it.o it.r=true) {k:Key} (hk:k∈dk it.o it.r):¬Names (T (fun k=>decide (k<i)) 0 items σ) k:=by
 intro tW
 have Pc:∃j,k=(it.o.dst.getD 1000000,j)/\j<1024/\it.r.dk≠[]:=by
  simp only[dk,kW] at hk
  obtain⟨⟨j,e⟩,hj,rfl⟩:=hk
  unfold vQ at g5
  have:=sh.1 g5 _ hj
  exact⟨j,rfl,Nat.blt_eq▸this,(fun e=>by rw[e] at hj;cases hj)⟩
 obtain⟨j,rfl,hj,d_⟩:=Pc
 rcases W5 tW with tW|⟨m,x,hm,zX,hx⟩
 ·have C6:it.o∈ops:=by
   rw[<-vC]
   exact kW.2 ⟨it,Em Jz,rfl⟩
  have:=hN _ tW (by
   cases hd:it.o.dst with
   |none=>exact .inr rfl
   |some d=>
    refine .inl ?_
    simp only[DY,zY,nF]
    exact⟨it.o,C6,by simp[hd]⟩)
  simp only at this
  omega
 ·simp only[tH,decide_eq_true_eq] at zX
  unfold rz at g4
  have hie:it.r.dk.isEmpty=false:=by cases ha:it.r.dk with
   |nil=>exact absurd ha d_
   |cons _ _=>rfl
  rw[hie,Fw,sh] at g4
  have C6:nk m x∈xc 0 (items.take i) []:=N9.2 (.inr ⟨m,x,by rw[oT,if_pos zX];exact hm,by simp⟩)
  have:=g4 _ C6
  simp only[pc,nk] at this
  rw[<-uO,tI] at this
  exact this ⟨_,pP _ (pd _ hx),by simp⟩
theorem ahN(hE:E.Good){ops:Array Oper}{items:List (Item U)}{σ:ak U}(iM:Tl E ops.toList 0 items σ [])(vC:items.map (·.o)=ops.toList)
  (hN:∀k,Names σ k->(k.1∈zY ops.toList\/k.1=1000000)->1024<=k.2) {Q:Exit->Act->World->Prop} (qk:∀F kv fp a w,cG E pm F kv fp (vJ items σ) a w->Q .normal a w):
  ∀(n i:Nat)(F:Nat->Prop)(kv:Key->Value)(fp:Key->List Nat)(a:Act)(w:World),i+n=ops.size->cG E pm F kv fp (T (fun k=>decide (k<i)) 0 items σ) a w->Go.wpOps E.P ops Q (List.range' i n) a w:=by
 have hlen:items.length=ops.size:=by simpa using congrArg List.length vC
 intro n
 induction n with
 |zero=>
  intro i F kv fp a w hi hs
  refine qk F kv fp a w ?_
  rw[<-LS (D:=fun k=>decide (k<i)) (j:=0) (fun k hk=>by simp;omega)]
  exact hs
 |succ n ih=>
  intro i F kv fp a w hi hs
  rw[List.range'_succ,wpOps_cons]
  obtain⟨it,Jz⟩:∃it,items[i]? =some it:=⟨_,eW (by omega)⟩
  have Zh:ops[i]? =some it.o:=by
   have:(items.map (·.o))[i]? =some it.o:=by rw[mw,Jz];rfl
   rw[vC] at this
   simpa using this
  obtain⟨yI,QV⟩:=iM.TD Jz
  refine aaU hE hs Zh yI ?_ (fun F' kv' fp' a' w' jK=>ih (i+1) F' kv' fp' a' w' (by omega) ?_)
  ·rcases QV with⟨g1,g2,g3⟩|⟨g1,g2,g3,g4,g5⟩
   ·exact .inl ⟨g1,g2⟩
   ·exact .inr ⟨g1,g2,g3,fun k hk=>aiW vC hN Jz g4 g5 hk⟩
  ·refine jK.congr ?_
   have h1:=QE (D:=fun k=>decide (k<i)) (i:=i) (it:=it) (items:=items) (j:=0) (σ:=σ) Jz (by simp) (fun m y hm him zX=>by simp at zX;omega)
   refine h1.trans ?_
   rw[RT (D':=fun k=>decide (k<i+1))]
   ·exact z_.refl _
   ·intro k hk
    simp only[tH]
    rw[DX]
    simp only[DW,decide_eq_true_eq,Fv]
    omega
structure dH(W:List Nat)(σ τ:ak U):Prop where
 n:τ.n=σ.n
 get:∀s v,s∉W->σ.get s=some (.v v)->(SV.v v).keys=[]->τ.get s=some (.v v)
 fn:∀s p,s∉W->σ.get s=some (.fn p)->τ.get s=some (.fn p)
theorem dH.refl(W:List Nat)(σ:ak U):dH W σ σ:=⟨rfl,fun _ _ _ h _=>h,fun _ _ _ h=>h⟩
theorem dH.trans{W:List Nat}{σ τ ρ:ak U}(h:dH W σ τ)(k:dH W τ ρ):dH W σ ρ:=
 ⟨k.n.trans h.n,fun s v hs hg hk=>k.get s v hs (h.get s v hs hg hk) hk,fun s p hs hg=>k.fn s p hs (h.fn s p hs hg)⟩
theorem dH.mono{W W':List Nat}{σ τ:ak U}(h:dH W σ τ)(hw:∀s,s∈W->s∈W'):dH W' σ τ:=
 ⟨h.n,fun s v hs hg hk=>h.get s v (fun e=>hs (hw s e)) hg hk,fun s p hs hg=>h.fn s p (fun e=>hs (hw s e)) hg⟩
theorem WQ{x:SV U}(h:x.keys=[]):∀y∈x.Ax,y.keys=[]:=by
 intro y hy
 rw[zdm]
 intro k hk
 have:k∈x.keys:=SV.mem_keys.2 ⟨y,hy,hk⟩
 rw[h] at this
 cases this
theorem aaK{bad:Key->Bool}{σ:ak U}{x:SV U}(h:x.keys=[]):TE bad σ x=true:=by
 unfold TE SV.KZ
 rw[pc,<-uO,tI]
 rintro⟨y,hy,h2⟩
 have hk:=WQ h y hy
 rw[hk] at h2
 cases y<;>simp_all[AC.keys]
theorem H5(bad:Key->Bool)(W:List Nat)(σ:ak U):dH W σ (sn bad σ):=
 ⟨rfl,fun s v _ hg hk=>N4.2 ⟨hg,aaK hk,by simp⟩,fun s p _ hg=>N4.2 ⟨hg,aaK rfl,by simp⟩⟩
theorem ajM{o:Oper}{r:bX U}{σ:ak U}{W:List Nat}(h:∀d,o.dst=some d->d∈W):dH W σ (AM.apply o r σ):=by
 have g:∀s x,s∉W->σ.get s=some x->(AM.apply o r σ).get s=some x:=by
  intro s x hs hg
  rw[FI]
  cases hd:o.dst with
  |none=>exact hg
  |some d=>
   have:d≠s:=fun e=>hs (e▸h d hd)
   simp only[this,if_false];exact hg
 exact⟨rfl,fun s v hs hg _=>g s _ hs hg,fun s p hs hg=>g s _ hs hg⟩
theorem aa'{W:List Nat}:∀{items:List (Item U)}{σ:ak U},(∀it∈items,∀d,it.o.dst=some d->d∈W)->dH W σ (vJ items σ)
 |[],σ,_=>dH.refl _ _
 |it::r,σ,h=>(ajM (h it gS)).trans (aa' fun x hx=>h x (e8 _ hx))
theorem AC.JY{f:Key->Key}{x:AC U}(h:x.keys=[]):x.te f=x:=by
 cases x<;>first|rfl|simp[AC.keys] at h
theorem ahY(l:List (Key×Key))(W:List Nat)(σ:ak U):dH W σ (rename l σ):=by
 refine⟨rfl,fun s v _ hg hk=> ?_,fun s p _ hg=> ?_⟩
 rotate_left
 ·have Sx:look σ.bx s=some (.fn p):=hg
  refine(Rx (g:=SV.te (vu l)) (l:=σ.bx) (s:=s)).trans ?_
  rw[Sx]
  rfl
 show look (σ.bx.map fun(s,v)=>(s,v.map (SV.te (vu l)))) s=_
 have:=Rx (g:=SV.te (vu l)) (l:=σ.bx) (s:=s)
 refine this.trans ?_
 have Sx:look σ.bx s=some (.v v):=hg
 rw[Sx]
 simp only[Option.map,SV.te]
 have:v.cs.map (AC.te (vu l))=v.cs:=by
  conv=>rhs;rw[<-List.map_id v.cs]
  exact LW fun y hy=>AC.JY (WQ hk y hy)
 rw[this]
theorem aap(l:List (Key×Key))(W:List Nat)(σ:ak U):dH W σ (qb l σ):=by
 unfold qb
 simp only[gI]
 split
 ·exact dH.refl _ _
 ·exact(H5 _ _ _).trans (ahY _ _ _)
theorem aar(d:Nat)(W:List Nat)(σ:ak U):dH W σ (qP d σ):=by
 unfold qP
 split
 ·exact aap _ _ _
 ·exact dH.refl _ _
theorem ahM(k:Key)(W:List Nat)(σ:ak U):dH W σ (wB k σ):=by
 unfold wB
 split
 ·exact aap _ _ _
 ·exact dH.refl _ _
theorem Rm(W:List Nat):∀(l:List Key)(τ:ak U),dH W τ (wA l τ)
 |[],τ=>dH.refl _ _
 |k::l,τ=>(ahM k W τ).trans (Rm W l _)
theorem ahK(ops:List Oper)(W:List Nat)(σ:ak U):dH W σ (settle ops σ):=by
 unfold settle
 have:∀(l:List Nat)(τ:ak U),dH W τ (l.foldl (fun σ d=>qP d σ) τ):=by
  intro l
  induction l with
  |nil=>exact fun τ=>dH.refl _ _
  |cons d l ih=>exact fun τ=>(aar d W τ).trans (ih _)
 exact((H5 _ _ _).trans (this _ _)).trans (Rm _ _ _)
theorem aiY{k0:Key}{c:U.C}{x:AC U}(h:x.keys=[]):Gp k0 c x=x:=by
 cases x<;>first|rfl|(simp[AC.keys] at h)
theorem aa2(k0:Key)(W:List Nat)(σ:ak U):dH W σ (kP k0 σ):=by
 unfold kP
 split
 rotate_left
 ·exact dH.refl _ _
 refine⟨rfl,fun s v _ hg hk=> ?_,fun s p _ hg=> ?_⟩
 ·show look (σ.bx.map _) s=_
  rw[N6]
  have hg:look σ.bx s=some (.v v):=hg
  rw[hg]
  have:∀c:U.C,v.cs.map (Gp k0 c)=v.cs:=by
   intro c
   refine(LW fun x hx=>aiY ?_).trans (List.map_id _)
   exact WQ hk x (by simpa[SV.Ax] using hx)
  simp only[D3,Kp,this]
 ·show look (σ.bx.map _) s=_
  rw[N6]
  have hg:look σ.bx s=some (.fn p):=hg
  rw[hg];rfl
theorem RG(W:List Nat):∀(l:List Nat)(σ:ak U),dH W σ (px l σ)
 |[],σ=>dH.refl _ _
 |s::l,σ=>by
  refine dH.trans (τ:=rB s σ) ?_ (RG W l _)
  unfold rB
  split
  ·exact aa2 _ _ _
  ·exact dH.refl _ _
theorem RI(W:List Nat):∀(l:List Key)(σ:ak U),dH W σ (qm l σ)
 |[],σ=>dH.refl _ _
 |s::l,σ=>dH.trans (τ:=kP s σ) (aa2 _ _ _) (RI W l _)
theorem ahI(W:List Nat)(k:Key)(σ:ak U):dH W σ (Cx k σ):=by
 unfold Cx
 split
 ·exact⟨rfl,fun _ _ _ h _=>h,fun _ _ _ h=>h⟩
 ·exact dH.refl _ _
theorem aan(W:List Nat):∀(l:List Key)(σ:ak U),dH W σ (l.foldl (fun σ k=>Cx k σ) σ)
 |[],σ=>dH.refl _ _
 |k::l,σ=>dH.trans (ahI W k σ) (aan W l _)
theorem aal(W:List Nat)(l:List Key)(σ:ak U):dH W σ (K3 l σ):=by
 cases l with
 |nil=>exact dH.refl _ _
 |cons k l=>exact dH.trans (aan W (k::l) σ) (H5 _ _ _)
theorem ah0{ops:List Oper}{items:List (Item U)}(vC:items.map (·.o)=ops){E':Env U}{σ:ak U}:dH (zY ops) σ (settle ops (vJ items (Dh E' ops σ))):=by
 refine((((H5 _ _ _).trans (RG _ _ _)).trans (RI _ _ _)).trans (aa' fun it Jz d hd=> ?_)).trans (ahK _ _ _)
 subst vC
 exact nF.2 ⟨it.o,kW.2 ⟨it,Jz,rfl⟩,by simp[hd]⟩
theorem ahZ(hE:E.Good)(h:cG E pm F kv fp σ a w){id:Nat}{ops:Array Oper}{draw:Bool}{K:ak U->Prop}(hw:wh E ops.toList draw σ K){Q:Exit->Act->World->Prop}
  (hQ:∀kV F kv fp a' w',K kV->dH (zY ops.toList) σ kV->cG E pm F kv fp kV a' w'->Q .normal a' w'):(Code.region id ops draw).wp E.P Q a w:=by
 unfold wh at hw
 obtain⟨items,vC,iM,hk⟩:=Wx hw
 rw[gI] at hk
 split at hk
 ·rename_i hd
  have qk:∀F kv fp a w,cG E pm F kv fp (vJ items (Dh E ops.toList σ)) a w->Q .normal a w:=by
   intro F kv fp a w hs
   obtain⟨kv',fp',jK⟩:=ahJ hs ops.toList
   exact hQ _ F kv' fp' a w hk (ah0 vC) jK
  have hlen:items.length=ops.size:=by simpa using congrArg List.length vC
  obtain⟨F,kv,fp,h0⟩:=ajf h E ops.toList
  cases draw with
  |false=>
   refine wp_region ?_
   rw[List.range_eq_range']
   refine ahN hE iM vC (fun k hk hd=>aa9 hk hd) qk _ 0 F kv fp a w (by omega) ?_
   rw[Hz (fun k hk=>by simp)]
   exact h0
  |true=>
   refine wp_region_any hE.ok.mixed ?_
   simp only[Y4,Fw] at hd
   refine aji hE iM vC hd (fun k hk hd=>aa9 hk hd) qk _ _ F kv fp a w.drew ?_ (by simp) (fun j hj=> ?_) ?_
   ·rw[Hz (fun k hk=>by
     simp only[NB,Array.getElem?_replicate]
     split<;>rfl)]
    exact h0.drew
   ·exfalso
    simp only[NB,Array.getElem?_replicate] at hj
    split at hj<;>simp at hj
   ·simp
 ·exact hk.elim
end AM
