/- THE ABSTRACT MACHINE: regions and code: its weakest precondition is the model's. -/
import Derived.Test.YtmlhlndkkidhoaaGreatQAmRename
import Derived.Deep.LoopGhost
namespace AM
set_option linter.unusedVariables false
open Go
variable{U:kZ}{E:Env U}{pm:Pm}
variable{F F':Nat->Prop}{kv kv':Key->Value}{fp fp':Key->List Nat}{σ τ:ah U}{a:Act}{w w':World}
theorem amX{ops:List Oper}{items:List (Item U)}(vU:items.map (·.o)=ops)(hN:∀k,Names σ k->(k.1∈An ops\/k.1=1000000)->1024<=k.2){i:Nat}{it:Item U}(Kc:items[i]? =some it)
  (g4:rR (it.o.dst.getD 1000000) it.r (xm 0 (items.take i) [])=true) (g5:wa it.o it.r=true) {k:Key} (hk:k∈dG it.o it.r):¬Names (T (fun k=>decide (k<i)) 0 items σ) k:=by
 intro uk
 have PV:∃j,k=(it.o.dst.getD 1000000,j)/\j<1024/\it.r.dG≠[]:=by
  simp only[dG,lB] at hk
  obtain⟨⟨j,e⟩,hj,rfl⟩:=hk
  unfold wa at g5
  have:=rh.1 g5 _ hj
  exact⟨j,rfl,Nat.blt_eq▸this,(fun e=>by rw[e] at hj;cases hj)⟩
 obtain⟨j,rfl,hj,eO⟩:=PV
 rcases X7 uk with uk|⟨m,x,hm,Al,hx⟩
 ·have C3:it.o∈ops:=by
   rw[<-vU]
   exact lB.2 ⟨it,EM Kc,rfl⟩
  have:=hN _ uk (by
   cases hd:it.o.dst with
   |none=>exact .inr rfl
   |some d=>
    refine .inl ?_
    simp only[FU,An,nT]
    exact⟨it.o,C3,by simp[hd]⟩)
  simp only at this
  omega
 ·simp only[tY,decide_eq_true_eq] at Al
  unfold rR at g4
  have hie:it.r.dG.isEmpty=false:=by cases ha:it.r.dG with
   |nil=>exact absurd ha eO
   |cons _ _=>rfl
  rw[hie,FT,rh] at g4
  have C3:nG m x∈xm 0 (items.take i) []:=O4.2 (.inr ⟨m,x,by rw[oJ,if_pos Al];exact hm,by simp⟩)
  have:=g4 _ C3
  simp only[ql,nG] at this
  rw[<-yi,tZ] at this
  exact this ⟨_,qC _ (pS _ hx),by simp⟩
theorem alQ(hE:E.Good){ops:Array Oper}{items:List (Item U)}{σ:ah U}(je:VD E ops.toList 0 items σ [])(vU:items.map (·.o)=ops.toList)
  (hN:∀k,Names σ k->(k.1∈An ops.toList\/k.1=1000000)->1024<=k.2) {Q:Exit->Act->World->Prop} (qP:∀F kv fp a w,cE E pm F kv fp (v5 items σ) a w->Q .normal a w):
  ∀(n i:Nat)(F:Nat->Prop)(kv:Key->Value)(fp:Key->List Nat)(a:Act)(w:World),i+n=ops.size->cE E pm F kv fp (T (fun k=>decide (k<i)) 0 items σ) a w->Go.wpOps E.P ops Q (List.range' i n) a w:=by
 have hlen:items.length=ops.size:=by simpa using congrArg List.length vU
 intro n
 induction n with
 |zero=>
  intro i F kv fp a w hi hs
  refine qP F kv fp a w ?_
  rw[<-MA (D:=fun k=>decide (k<i)) (j:=0) (fun k hk=>by simp;omega)]
  exact hs
 |succ n ih=>
  intro i F kv fp a w hi hs
  rw[List.range'_succ,wpOps_cons]
  obtain⟨it,Kc⟩:∃it,items[i]? =some it:=⟨_,fo (by omega)⟩
  have hoi:ops[i]? =some it.o:=by
   have:(items.map (·.o))[i]? =some it.o:=by rw[nk,Kc];rfl
   rw[vU] at this
   simpa using this
  obtain⟨yW,hok⟩:=je.VT Kc
  refine acy hE hs hoi yW ?_ (fun F' kv' fp' a' w' j0=>ih (i+1) F' kv' fp' a' w' (by omega) ?_)
  ·rcases hok with⟨g1,g2,g3⟩|⟨g1,g2,g3,g4,g5⟩
   ·exact .inl ⟨g1,g2⟩
   ·exact .inr ⟨g1,g2,g3,fun k hk=>amX vU hN Kc g4 g5 hk⟩
  ·refine j0.congr ?_
   have h1:=SY (D:=fun k=>decide (k<i)) (i:=i) (it:=it) (items:=items) (j:=0) (σ:=σ) Kc (by simp) (fun m y hm him Al=>by simp at Al;omega)
   refine h1.trans ?_
   rw[Um (D':=fun k=>decide (k<i+1))]
   ·exact Ap.refl _
   ·intro k hk
    simp only[tY]
    rw[H2]
    simp only[Ee,decide_eq_true_eq,Lx]
    omega
structure ej(W:List Nat)(σ τ:ah U):Prop where
 n:τ.n=σ.n
 get:∀s v,s∉W->σ.get s=some (.v v)->(SV.v v).keys=[]->τ.get s=some (.v v)
 fn:∀s p,s∉W->σ.get s=some (.fn p)->τ.get s=some (.fn p)
theorem ej.refl(W:List Nat)(σ:ah U):ej W σ σ:=⟨rfl,fun _ _ _ h _=>h,fun _ _ _ h=>h⟩
theorem ej.trans{W:List Nat}{σ τ ρ:ah U}(h:ej W σ τ)(k:ej W τ ρ):ej W σ ρ:=
 ⟨k.n.trans h.n,fun s v hs hg hk=>k.get s v hs (h.get s v hs hg hk) hk,fun s p hs hg=>k.fn s p hs (h.fn s p hs hg)⟩
theorem ej.mono{W W':List Nat}{σ τ:ah U}(h:ej W σ τ)(hw:∀s,s∈W->s∈W'):ej W' σ τ:=
 ⟨h.n,fun s v hs hg hk=>h.get s v (fun e=>hs (hw s e)) hg hk,fun s p hs hg=>h.fn s p (fun e=>hs (hw s e)) hg⟩
theorem XS{x:SV U}(h:x.keys=[]):∀y∈x.AQ,y.keys=[]:=by
 intro y hy
 rw[zdm]
 intro k hk
 have:k∈x.keys:=SV.mem_keys.2 ⟨y,hy,hk⟩
 rw[h] at this
 cases this
theorem acm{bad:Key->Bool}{σ:ah U}{x:SV U}(h:x.keys=[]):Uv bad σ x=true:=by
 unfold Uv SV.LI
 rw[ql,<-yi,tZ]
 rintro⟨y,hy,h2⟩
 have hk:=XS h y hy
 rw[hk] at h2
 cases y<;>simp_all[AC.keys]
theorem Iz(bad:Key->Bool)(W:List Nat)(σ:ah U):ej W σ (qG bad σ):=
 ⟨rfl,fun s v _ hg hk=>OY.2 ⟨hg,acm hk,by simp⟩,fun s p _ hg=>OY.2 ⟨hg,acm rfl,by simp⟩⟩
theorem anS{o:Oper}{r:cd U}{σ:ah U}{W:List Nat}(h:∀d,o.dst=some d->d∈W):ej W σ (AM.apply o r σ):=by
 have g:∀s x,s∉W->σ.get s=some x->(AM.apply o r σ).get s=some x:=by
  intro s x hs hg
  rw[Ga]
  cases hd:o.dst with
  |none=>exact hg
  |some d=>
   have:d≠s:=fun e=>hs (e▸h d hd)
   simp only[this,if_false];exact hg
 exact⟨rfl,fun s v hs hg _=>g s _ hs hg,fun s p hs hg=>g s _ hs hg⟩
theorem acR{W:List Nat}:∀{items:List (Item U)}{σ:ah U},(∀it∈items,∀d,it.o.dst=some d->d∈W)->ej W σ (v5 items σ)
 |[],σ,_=>ej.refl _ _
 |it::r,σ,h=>(anS (h it gj)).trans (acR fun x hx=>h x (cA _ hx))
theorem AC.KB{f:Key->Key}{x:AC U}(h:x.keys=[]):x.tt f=x:=by
 cases x<;>first|rfl|simp[AC.keys] at h
theorem al1(l:List (Key×Key))(W:List Nat)(σ:ah U):ej W σ (rename l σ):=by
 refine⟨rfl,fun s v _ hg hk=> ?_,fun s p _ hg=> ?_⟩
 rotate_left
 ·have UX:look σ.bz s=some (.fn p):=hg
  refine(TV (g:=SV.tt (vM l)) (l:=σ.bz) (s:=s)).trans ?_
  rw[UX]
  rfl
 show look (σ.bz.map fun(s,v)=>(s,v.map (SV.tt (vM l)))) s=_
 have:=TV (g:=SV.tt (vM l)) (l:=σ.bz) (s:=s)
 refine this.trans ?_
 have UX:look σ.bz s=some (.v v):=hg
 rw[UX]
 simp only[Option.map,SV.tt]
 have:v.cs.map (AC.tt (vM l))=v.cs:=by
  conv=>rhs;rw[<-List.map_id v.cs]
  exact Ob fun y hy=>AC.KB (XS hk y hy)
 rw[this]
theorem abZ(l:List (Key×Key))(W:List Nat)(σ:ah U):ej W σ (qF l σ):=by
 unfold qF
 simp only[h_]
 split
 ·exact ej.refl _ _
 ·exact(Iz _ _ _).trans (al1 _ _ _)
theorem ab1(d:Nat)(W:List Nat)(σ:ah U):ej W σ (ru d σ):=by
 unfold ru
 split
 ·exact abZ _ _ _
 ·exact ej.refl _ _
theorem alP(k:Key)(W:List Nat)(σ:ah U):ej W σ (wJ k σ):=by
 unfold wJ
 split
 ·exact abZ _ _ _
 ·exact ej.refl _ _
theorem TM(W:List Nat):∀(l:List Key)(τ:ah U),ej W τ (wI l τ)
 |[],τ=>ej.refl _ _
 |k::l,τ=>(alP k W τ).trans (TM W l _)
theorem alN(ops:List Oper)(W:List Nat)(σ:ah U):ej W σ (settle ops σ):=by
 unfold settle
 have:∀(l:List Nat)(τ:ah U),ej W τ (l.foldl (fun σ d=>ru d σ) τ):=by
  intro l
  induction l with
  |nil=>exact fun τ=>ej.refl _ _
  |cons d l ih=>exact fun τ=>(ab1 d W τ).trans (ih _)
 exact((Iz _ _ _).trans (this _ _)).trans (TM _ _ _)
theorem amZ{k0:Key}{c:U.C}{x:AC U}(h:x.keys=[]):GQ k0 c x=x:=by
 cases x<;>first|rfl|(simp[AC.keys] at h)
theorem acI(k0:Key)(W:List Nat)(σ:ah U):ej W σ (ln k0 σ):=by
 unfold ln
 split
 rotate_left
 ·exact ej.refl _ _
 refine⟨rfl,fun s v _ hg hk=> ?_,fun s p _ hg=> ?_⟩
 ·show look (σ.bz.map _) s=_
  rw[O1]
  have hg:look σ.bz s=some (.v v):=hg
  rw[hg]
  have:∀c:U.C,v.cs.map (GQ k0 c)=v.cs:=by
   intro c
   refine(Ob fun x hx=>amZ ?_).trans (List.map_id _)
   exact XS hk x (by simpa[SV.AQ] using hx)
  simp only[Ek,K9,this]
 ·show look (σ.bz.map _) s=_
  rw[O1]
  have hg:look σ.bz s=some (.fn p):=hg
  rw[hg];rfl
theorem Ua(W:List Nat):∀(l:List Nat)(σ:ah U),ej W σ (qa l σ)
 |[],σ=>ej.refl _ _
 |s::l,σ=>by
  refine ej.trans (τ:=rT s σ) ?_ (Ua W l _)
  unfold rT
  split
  ·exact acI _ _ _
  ·exact ej.refl _ _
theorem Uc(W:List Nat):∀(l:List Key)(σ:ah U),ej W σ (qR l σ)
 |[],σ=>ej.refl _ _
 |s::l,σ=>ej.trans (τ:=ln s σ) (acI _ _ _) (Uc W l _)
theorem alL(W:List Nat)(k:Key)(σ:ah U):ej W σ (Cq k σ):=by
 unfold Cq
 split
 ·exact⟨rfl,fun _ _ _ h _=>h,fun _ _ _ h=>h⟩
 ·exact ej.refl _ _
theorem abX(W:List Nat):∀(l:List Key)(σ:ah U),ej W σ (l.foldl (fun σ k=>Cq k σ) σ)
 |[],σ=>ej.refl _ _
 |k::l,σ=>ej.trans (alL W k σ) (abX W l _)
theorem abV(W:List Nat)(l:List Key)(σ:ah U):ej W σ (LJ l σ):=by
 cases l with
 |nil=>exact ej.refl _ _
 |cons k l=>exact ej.trans (abX W (k::l) σ) (Iz _ _ _)
theorem al3{ops:List Oper}{items:List (Item U)}(vU:items.map (·.o)=ops){E':Env U}{σ:ah U}:ej (An ops) σ (settle ops (v5 items (Dq E' ops σ))):=by
 refine((((Iz _ _ _).trans (Ua _ _ _)).trans (Uc _ _ _)).trans (acR fun it Kc d hd=> ?_)).trans (alN _ _ _)
 subst vU
 exact nT.2 ⟨it.o,lB.2 ⟨it,Kc,rfl⟩,by simp[hd]⟩
theorem al2(hE:E.Good)(h:cE E pm F kv fp σ a w){id:Nat}{ops:Array Oper}{draw:Bool}{K:ah U->Prop}(hw:wD E ops.toList draw σ K){Q:Exit->Act->World->Prop}
  (hQ:∀lz F kv fp a' w',K lz->ej (An ops.toList) σ lz->cE E pm F kv fp lz a' w'->Q .normal a' w'):(Code.region id ops draw).wp E.P Q a w:=by
 unfold wD at hw
 obtain⟨items,vU,je,hk⟩:=XB hw
 rw[h_] at hk
 split at hk
 ·rename_i hd
  have qP:∀F kv fp a w,cE E pm F kv fp (v5 items (Dq E ops.toList σ)) a w->Q .normal a w:=by
   intro F kv fp a w hs
   obtain⟨kv',fp',j0⟩:=alM hs ops.toList
   exact hQ _ F kv' fp' a w hk (al3 vU) j0
  have hlen:items.length=ops.size:=by simpa using congrArg List.length vU
  obtain⟨F,kv,fp,h0⟩:=anh h E ops.toList
  cases draw with
  |false=>
   refine wp_region ?_
   rw[List.range_eq_range']
   refine alQ hE je vU (fun k hk hd=>acQ hk hd) qP _ 0 F kv fp a w (by omega) ?_
   rw[HW (fun k hk=>by simp)]
   exact h0
  |true=>
   refine wp_region_any hE.ok.mixed ?_
   simp only[zfa,FT] at hd
   refine ank hE je vU hd (fun k hk hd=>acQ hk hd) qP _ _ F kv fp a w.drew ?_ (by simp) (fun j hj=> ?_) ?_
   ·rw[HW (fun k hk=>by
     simp only[Ot,Array.getElem?_replicate]
     split<;>rfl)]
    exact h0.drew
   ·exfalso
    simp only[Ot,Array.getElem?_replicate] at hj
    split at hj<;>simp at hj
   ·simp
 ·exact hk.elim
end AM
