/- THE ABSTRACT MACHINE: regions and code: its weakest precondition is the model's. -/
import Derived.Test.YtpkdgcookaobfaaGreatDoorQAmRename
import Derived.Deep.LoopGhost
namespace AM
set_option linter.unusedVariables false
open Go
variable{U:lz}{E:Env U}{pm:Pm}
variable{F F':Nat->Prop}{kv kv':Key->Value}{fp fp':Key->List Nat}{σ τ:ak U}{a:Act}{w w':World}
theorem al0{ops:List Oper}{items:List (Item U)}(w7:items.map (·.o)=ops)(hN:∀k,Names σ k->(k.1∈BI ops\/k.1=1000000)->1024<=k.2){i:Nat}{it:Item U}(Ml:items[i]? =some it)
  (g4:tc (it.o.dst.getD 1000000) it.r (yw 0 (items.take i) [])=true) (g5:xg it.o it.r=true) {k:Key} (hk:k∈dR it.o it.r):¬Names (T (fun k=>decide (k<i)) 0 items σ) k:=by
 intro vy
 have Ss:∃j,k=(it.o.dst.getD 1000000,j)/\j<1024/\it.r.dR≠[]:=by
  simp only[dR,mf] at hk
  obtain⟨⟨j,e⟩,hj,rfl⟩:=hk
  unfold xg at g5
  have:=sC.1 g5 _ hj
  exact⟨j,rfl,Nat.blt_eq▸this,(fun e=>by rw[e] at hj;cases hj)⟩
 obtain⟨j,rfl,hj,eZ⟩:=Ss
 rcases aan vy with vy|⟨m,x,hm,BH,hx⟩
 ·have EK:it.o∈ops:=by
   rw[<-w7]
   exact mf.2 ⟨it,Gl Ml,rfl⟩
  have:=hN _ vy (by
   cases hd:it.o.dst with
   |none=>exact .inr rfl
   |some d=>
    refine .inl ?_
    simp only[FR,BI,oQ]
    exact⟨it.o,EK,by simp[hd]⟩)
  simp only at this
  omega
 ·simp only[vk,decide_eq_true_eq] at BH
  unfold tc at g4
  have hie:it.r.dR.isEmpty=false:=by cases ha:it.r.dR with
   |nil=>exact absurd ha eZ
   |cons _ _=>rfl
  rw[hie,Gk,sC] at g4
  have EK:ol m x∈yw 0 (items.take i) []:=Rq.2 (.inr ⟨m,x,by rw[qn,if_pos BH];exact hm,by simp⟩)
  have:=g4 _ EK
  simp only[ru,ol] at this
  rw[<-wu,vm] at this
  exact this ⟨_,sD _ (rv _ hx),by simp⟩
theorem akQ(hE:E.Good){ops:Array Oper}{items:List (Item U)}{σ:ak U}(jn:WK E ops.toList 0 items σ [])(w7:items.map (·.o)=ops.toList)
  (hN:∀k,Names σ k->(k.1∈BI ops.toList\/k.1=1000000)->1024<=k.2) {Q:Exit->Act->World->Prop} (rY:∀F kv fp a w,cM E pm F kv fp (xb items σ) a w->Q .normal a w):
  ∀(n i:Nat)(F:Nat->Prop)(kv:Key->Value)(fp:Key->List Nat)(a:Act)(w:World),i+n=ops.size->cM E pm F kv fp (T (fun k=>decide (k<i)) 0 items σ) a w->Go.wpOps E.P ops Q (List.range' i n) a w:=by
 have hlen:items.length=ops.size:=by simpa using congrArg List.length w7
 intro n
 induction n with
 |zero=>
  intro i F kv fp a w hi hs
  refine rY F kv fp a w ?_
  rw[<-OW (D:=fun k=>decide (k<i)) (j:=0) (fun k hk=>by simp;omega)]
  exact hs
 |succ n ih=>
  intro i F kv fp a w hi hs
  rw[List.range'_succ,wpOps_cons]
  obtain⟨it,Ml⟩:∃it,items[i]? =some it:=⟨_,fw (by omega)⟩
  have hoi:ops[i]? =some it.o:=by
   have:(items.map (·.o))[i]? =some it.o:=by rw[nT,Ml];rfl
   rw[w7] at this
   simpa using this
  obtain⟨Ab,hok⟩:=jn.WX Ml
  refine adl hE hs hoi Ab ?_ (fun F' kv' fp' a' w' kl=>ih (i+1) F' kv' fp' a' w' (by omega) ?_)
  ·rcases hok with⟨g1,g2,g3⟩|⟨g1,g2,g3,g4,g5⟩
   ·exact .inl ⟨g1,g2⟩
   ·exact .inr ⟨g1,g2,g3,fun k hk=>al0 w7 hN Ml g4 g5 hk⟩
  ·refine kl.congr ?_
   have h1:=TZ (D:=fun k=>decide (k<i)) (i:=i) (it:=it) (items:=items) (j:=0) (σ:=σ) Ml (by simp) (fun m y hm him BH=>by simp at BH;omega)
   refine h1.trans ?_
   rw[Vo (D':=fun k=>decide (k<i+1))]
   ·exact BJ.refl _
   ·intro k hk
    simp only[vk]
    rw[FJ]
    simp only[FI,decide_eq_true_eq,J5]
    omega
structure eD(W:List Nat)(σ τ:ak U):Prop where
 n:τ.n=σ.n
 get:∀s v,s∉W->σ.get s=some (.v v)->(SV.v v).keys=[]->τ.get s=some (.v v)
 fn:∀s p,s∉W->σ.get s=some (.fn p)->τ.get s=some (.fn p)
theorem eD.refl(W:List Nat)(σ:ak U):eD W σ σ:=⟨rfl,fun _ _ _ h _=>h,fun _ _ _ h=>h⟩
theorem eD.trans{W:List Nat}{σ τ ρ:ak U}(h:eD W σ τ)(k:eD W τ ρ):eD W σ ρ:=
 ⟨k.n.trans h.n,fun s v hs hg hk=>k.get s v hs (h.get s v hs hg hk) hk,fun s p hs hg=>k.fn s p hs (h.fn s p hs hg)⟩
theorem eD.mono{W W':List Nat}{σ τ:ak U}(h:eD W σ τ)(hw:∀s,s∈W->s∈W'):eD W' σ τ:=
 ⟨h.n,fun s v hs hg hk=>h.get s v (fun e=>hs (hw s e)) hg hk,fun s p hs hg=>h.fn s p (fun e=>hs (hw s e)) hg⟩
theorem Z'{x:SV U}(h:x.keys=[]):∀y∈x.Ca,y.keys=[]:=by
 intro y hy
 rw[zdm]
 intro k hk
 have:k∈x.keys:=SV.mem_keys.2 ⟨y,hy,hk⟩
 rw[h] at this
 cases this
theorem ac_{bad:Key->Bool}{σ:ak U}{x:SV U}(h:x.keys=[]):WY bad σ x=true:=by
 unfold WY SV.NN
 rw[ru,<-wu,vm]
 rintro⟨y,hy,h2⟩
 have hk:=Z' h y hy
 rw[hk] at h2
 cases y<;>simp_all[AC.keys]
theorem KB(bad:Key->Bool)(W:List Nat)(σ:ak U):eD W σ (tT bad σ):=
 ⟨rfl,fun s v _ hg hk=>Rk.2 ⟨hg,ac_ hk,by simp⟩,fun s p _ hg=>Rk.2 ⟨hg,ac_ rfl,by simp⟩⟩
theorem amQ{o:Oper}{r:cn U}{σ:ak U}{W:List Nat}(h:∀d,o.dst=some d->d∈W):eD W σ (AM.apply o r σ):=by
 have g:∀s x,s∉W->σ.get s=some x->(AM.apply o r σ).get s=some x:=by
  intro s x hs hg
  rw[HO]
  cases hd:o.dst with
  |none=>exact hg
  |some d=>
   have:d≠s:=fun e=>hs (e▸h d hd)
   simp only[this,if_false];exact hg
 exact⟨rfl,fun s v hs hg _=>g s _ hs hg,fun s p hs hg=>g s _ hs hg⟩
theorem adB{W:List Nat}:∀{items:List (Item U)}{σ:ak U},(∀it∈items,∀d,it.o.dst=some d->d∈W)->eD W σ (xb items σ)
 |[],σ,_=>eD.refl _ _
 |it::r,σ,h=>(amQ (h it iy)).trans (adB fun x hx=>h x (fA _ hx))
theorem AC.ML{f:Key->Key}{x:AC U}(h:x.keys=[]):x.uM f=x:=by
 cases x<;>first|rfl|simp[AC.keys] at h
theorem ak1(l:List (Key×Key))(W:List Nat)(σ:ak U):eD W σ (rename l σ):=by
 refine⟨rfl,fun s v _ hg hk=> ?_,fun s p _ hg=> ?_⟩
 rotate_left
 ·have V4:look σ.bM s=some (.fn p):=hg
  refine(U7 (g:=SV.uM (wU l)) (l:=σ.bM) (s:=s)).trans ?_
  rw[V4]
  rfl
 show look (σ.bM.map fun(s,v)=>(s,v.map (SV.uM (wU l)))) s=_
 have:=U7 (g:=SV.uM (wU l)) (l:=σ.bM) (s:=s)
 refine this.trans ?_
 have V4:look σ.bM s=some (.v v):=hg
 rw[V4]
 simp only[Option.map,SV.uM]
 have:v.cs.map (AC.uM (wU l))=v.cs:=by
  conv=>rhs;rw[<-List.map_id v.cs]
  exact O1 fun y hy=>AC.ML (Z' hk y hy)
 rw[this]
theorem acP(l:List (Key×Key))(W:List Nat)(σ:ak U):eD W σ (rQ l σ):=by
 unfold rQ
 simp only[im]
 split
 ·exact eD.refl _ _
 ·exact(KB _ _ _).trans (ak1 _ _ _)
theorem acR(d:Nat)(W:List Nat)(σ:ak U):eD W σ (sM d σ):=by
 unfold sM
 split
 ·exact acP _ _ _
 ·exact eD.refl _ _
theorem akP(k:Key)(W:List Nat)(σ:ak U):eD W σ (xJ k σ):=by
 unfold xJ
 split
 ·exact acP _ _ _
 ·exact eD.refl _ _
theorem UX(W:List Nat):∀(l:List Key)(τ:ak U),eD W τ (xI l τ)
 |[],τ=>eD.refl _ _
 |k::l,τ=>(akP k W τ).trans (UX W l _)
theorem akN(ops:List Oper)(W:List Nat)(σ:ak U):eD W σ (settle ops σ):=by
 unfold settle
 have:∀(l:List Nat)(τ:ak U),eD W τ (l.foldl (fun σ d=>sM d σ) τ):=by
  intro l
  induction l with
  |nil=>exact fun τ=>eD.refl _ _
  |cons d l ih=>exact fun τ=>(acR d W τ).trans (ih _)
 exact((KB _ _ _).trans (this _ _)).trans (UX _ _ _)
theorem al2{k0:Key}{c:U.C}{x:AC U}(h:x.keys=[]):Ir k0 c x=x:=by
 cases x<;>first|rfl|(simp[AC.keys] at h)
theorem adt(k0:Key)(W:List Nat)(σ:ak U):eD W σ (l7 k0 σ):=by
 unfold l7
 split
 rotate_left
 ·exact eD.refl _ _
 refine⟨rfl,fun s v _ hg hk=> ?_,fun s p _ hg=> ?_⟩
 ·show look (σ.bM.map _) s=_
  rw[Rm]
  have hg:look σ.bM s=some (.v v):=hg
  rw[hg]
  have:∀c:U.C,v.cs.map (Ir k0 c)=v.cs:=by
   intro c
   refine(O1 fun x hx=>al2 ?_).trans (List.map_id _)
   exact Z' hk x (by simpa[SV.Ca] using hx)
  simp only[FT,Nf,this]
 ·show look (σ.bM.map _) s=_
  rw[Rm]
  have hg:look σ.bM s=some (.fn p):=hg
  rw[hg];rfl
theorem Vc(W:List Nat):∀(l:List Nat)(σ:ak U),eD W σ (qV l σ)
 |[],σ=>eD.refl _ _
 |s::l,σ=>by
  refine eD.trans (τ:=tf s σ) ?_ (Vc W l _)
  unfold tf
  split
  ·exact adt _ _ _
  ·exact eD.refl _ _
theorem Ve(W:List Nat):∀(l:List Key)(σ:ak U),eD W σ (sa l σ)
 |[],σ=>eD.refl _ _
 |s::l,σ=>eD.trans (τ:=l7 s σ) (adt _ _ _) (Ve W l _)
theorem akL(W:List Nat)(k:Key)(σ:ak U):eD W σ (D6 k σ):=by
 unfold D6
 split
 ·exact⟨rfl,fun _ _ _ h _=>h,fun _ _ _ h=>h⟩
 ·exact eD.refl _ _
theorem acN(W:List Nat):∀(l:List Key)(σ:ak U),eD W σ (l.foldl (fun σ k=>D6 k σ) σ)
 |[],σ=>eD.refl _ _
 |k::l,σ=>eD.trans (akL W k σ) (acN W l _)
theorem acL(W:List Nat)(l:List Key)(σ:ak U):eD W σ (NO l σ):=by
 cases l with
 |nil=>exact eD.refl _ _
 |cons k l=>exact eD.trans (acN W (k::l) σ) (KB _ _ _)
theorem ak3{ops:List Oper}{items:List (Item U)}(w7:items.map (·.o)=ops){E':Env U}{σ:ak U}:eD (BI ops) σ (settle ops (xb items (E0 E' ops σ))):=by
 refine((((KB _ _ _).trans (Vc _ _ _)).trans (Ve _ _ _)).trans (adB fun it Ml d hd=> ?_)).trans (akN _ _ _)
 subst w7
 exact oQ.2 ⟨it.o,mf.2 ⟨it,Ml,rfl⟩,by simp[hd]⟩
theorem ak2(hE:E.Good)(h:cM E pm F kv fp σ a w){id:Nat}{ops:Array Oper}{draw:Bool}{K:ak U->Prop}(hw:xB E ops.toList draw σ K){Q:Exit->Act->World->Prop}
  (hQ:∀me F kv fp a' w',K me->eD (BI ops.toList) σ me->cM E pm F kv fp me a' w'->Q .normal a' w'):(Code.region id ops draw).wp E.P Q a w:=by
 unfold xB at hw
 obtain⟨items,w7,jn,hk⟩:=ZT hw
 rw[im] at hk
 split at hk
 ·rename_i hd
  have rY:∀F kv fp a w,cM E pm F kv fp (xb items (E0 E ops.toList σ)) a w->Q .normal a w:=by
   intro F kv fp a w hs
   obtain⟨kv',fp',kl⟩:=akM hs ops.toList
   exact hQ _ F kv' fp' a w hk (ak3 w7) kl
  have hlen:items.length=ops.size:=by simpa using congrArg List.length w7
  obtain⟨F,kv,fp,h0⟩:=amj h E ops.toList
  cases draw with
  |false=>
   refine wp_region ?_
   rw[List.range_eq_range']
   refine akQ hE jn w7 (fun k hk hd=>adA hk hd) rY _ 0 F kv fp a w (by omega) ?_
   rw[J1 (fun k hk=>by simp)]
   exact h0
  |true=>
   refine wp_region_any hE.ok.mixed ?_
   simp only[zfa,Gk] at hd
   refine amm hE jn w7 hd (fun k hk hd=>adA hk hd) rY _ _ F kv fp a w.drew ?_ (by simp) (fun j hj=> ?_) ?_
   ·rw[J1 (fun k hk=>by
     simp only[QR,Array.getElem?_replicate]
     split<;>rfl)]
    exact h0.drew
   ·exfalso
    simp only[QR,Array.getElem?_replicate] at hj
    split at hj<;>simp at hj
   ·simp
 ·exact hk.elim
end AM
