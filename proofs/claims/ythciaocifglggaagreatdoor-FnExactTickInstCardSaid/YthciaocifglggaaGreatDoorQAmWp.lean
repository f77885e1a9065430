import Derived.Test.YthciaocifglggaaGreatDoorQAmRename
import Derived.Deep.LoopGhost
namespace AM
set_option linter.unusedVariables false
open Go
variable{U:kz}{E:Env U}{pm:Pm}
variable{F F':Nat->Prop}{kv kv':Key->Value}{fp fp':Key->List Nat}{σ τ:af U}{a:Act}{w w':World}
theorem ak2{ops:List Oper}{items:List (Item U)}(uk:items.map (·.o)=ops)(hN:∀k,Names σ k->(k.1∈yn ops\/k.1=1000000)->1024<=k.2){i:Nat}{it:Item U}(HD:items[i]? =some it)
  (g4:qu (it.o.dst.getD 1000000) it.r (vv 0 (items.take i) [])=true) (g5:uA it.o it.r=true) {k:Key} (hk:k∈du it.o it.r):¬Names (T (fun k=>decide (k<i)) 0 items σ) k:=by
 intro sM
 have Nf:∃j,k=(it.o.dst.getD 1000000,j)/\j<1024/\it.r.du≠[]:=by
  simp only[du,lH] at hk
  obtain⟨⟨j,e⟩,hj,rfl⟩:=hk
  unfold uA at g5
  have:=As.1 g5 _ hj
  exact⟨j,rfl,Nat.blt_eq▸this,(fun e=>by rw[e] at hj;cases hj)⟩
 obtain⟨j,rfl,hj,et⟩:=Nf
 rcases WG sM with sM|⟨m,x,hm,ym,hx⟩
 ·have Bb:it.o∈ops:=by
   rw[<-uk]
   exact lH.2 ⟨it,Cs HD,rfl⟩
  have:=hN _ sM (by
   cases hd:it.o.dst with
   |none=>exact .inr rfl
   |some d=>
    refine .inl ?_
    simp only[Ds,yn,nl]
    exact⟨it.o,Bb,by simp[hd]⟩)
  simp only at this
  omega
 ·simp only[tW,decide_eq_true_eq] at ym
  unfold qu at g4
  have hie:it.r.du.isEmpty=false:=by cases ha:it.r.du with
   |nil=>exact absurd ha et
   |cons _ _=>rfl
  rw[hie,Hv,As] at g4
  have Bb:mF m x∈vv 0 (items.take i) []:=LZ.2 (.inr ⟨m,x,by rw[nF,if_pos ym];exact hm,by simp⟩)
  have:=g4 _ Bb
  simp only[rj,mF] at this
  rw[<-uK,sA] at this
  exact this ⟨_,pw _ (oq _ hx),by simp⟩
theorem ajU(hE:E.Good){ops:Array Oper}{items:List (Item U)}{σ:af U}(iV:RO E ops.toList 0 items σ [])(uk:items.map (·.o)=ops.toList)
  (hN:∀k,Names σ k->(k.1∈yn ops.toList\/k.1=1000000)->1024<=k.2) {Q:Exit->Act->World->Prop} (pN:∀F kv fp a w,cG E pm F kv fp (uw items σ) a w->Q .normal a w):
  ∀(n i:Nat)(F:Nat->Prop)(kv:Key->Value)(fp:Key->List Nat)(a:Act)(w:World),i+n=ops.size->cG E pm F kv fp (T (fun k=>decide (k<i)) 0 items σ) a w->Go.wpOps E.P ops Q (List.range' i n) a w:=by
 have hlen:items.length=ops.size:=by simpa using congrArg List.length uk
 intro n
 induction n with
 |zero=>
  intro i F kv fp a w hi hs
  refine pN F kv fp a w ?_
  rw[<-JW (D:=fun k=>decide (k<i)) (j:=0) (fun k hk=>by simp;omega)]
  exact hs
 |succ n ih=>
  intro i F kv fp a w hi hs
  rw[List.range'_succ,wpOps_cons]
  obtain⟨it,HD⟩:∃it,items[i]? =some it:=⟨_,gg (by omega)⟩
  have Zd:ops[i]? =some it.o:=by
   have:(items.map (·.o))[i]? =some it.o:=by rw[lZ,HD];rfl
   rw[uk] at this
   simpa using this
  obtain⟨w7,OQ⟩:=iV.R7 HD
  refine aaX hE hs Zd w7 ?_ (fun F' kv' fp' a' w' jG=>ih (i+1) F' kv' fp' a' w' (by omega) ?_)
  ·rcases OQ with⟨g1,g2,g3⟩|⟨g1,g2,g3,g4,g5⟩
   ·exact .inl ⟨g1,g2⟩
   ·exact .inr ⟨g1,g2,g3,fun k hk=>ak2 uk hN HD g4 g5 hk⟩
  ·refine jG.congr ?_
   have h1:=OD (D:=fun k=>decide (k<i)) (i:=i) (it:=it) (items:=items) (j:=0) (σ:=σ) HD (by simp) (fun m y hm him ym=>by simp at ym;omega)
   refine h1.trans ?_
   rw[PP (D':=fun k=>decide (k<i+1))]
   ·exact yo.refl _
   ·intro k hk
    simp only[tW]
    rw[FG]
    simp only[B3,decide_eq_true_eq,FF]
    omega
structure dT(W:List Nat)(σ τ:af U):Prop where
 n:τ.n=σ.n
 get:∀s v,s∉W->σ.get s=some (.v v)->(SV.v v).keys=[]->τ.get s=some (.v v)
 fn:∀s p,s∉W->σ.get s=some (.fn p)->τ.get s=some (.fn p)
theorem dT.refl(W:List Nat)(σ:af U):dT W σ σ:=⟨rfl,fun _ _ _ h _=>h,fun _ _ _ h=>h⟩
theorem dT.trans{W:List Nat}{σ τ ρ:af U}(h:dT W σ τ)(k:dT W τ ρ):dT W σ ρ:=
 ⟨k.n.trans h.n,fun s v hs hg hk=>k.get s v hs (h.get s v hs hg hk) hk,fun s p hs hg=>k.fn s p hs (h.fn s p hs hg)⟩
theorem dT.mono{W W':List Nat}{σ τ:af U}(h:dT W σ τ)(hw:∀s,s∈W->s∈W'):dT W' σ τ:=
 ⟨h.n,fun s v hs hg hk=>h.get s v (fun e=>hs (hw s e)) hg hk,fun s p hs hg=>h.fn s p (fun e=>hs (hw s e)) hg⟩
theorem Wq{x:SV U}(h:x.keys=[]):∀y∈x.yL,y.keys=[]:=by
 intro y hy
 rw[zdm]
 intro k hk
 have:k∈x.keys:=SV.mem_keys.2 ⟨y,hy,hk⟩
 rw[h] at this
 cases this
theorem aaN{bad:Key->Bool}{σ:af U}{x:SV U}(h:x.keys=[]):R8 bad σ x=true:=by
 unfold R8 SV.I9
 rw[rj,<-uK,sA]
 rintro⟨y,hy,h2⟩
 have hk:=Wq h y hy
 rw[hk] at h2
 cases y<;>simp_all[AC.keys]
theorem F6(bad:Key->Bool)(W:List Nat)(σ:af U):dT W σ (rm bad σ):=
 ⟨rfl,fun s v _ hg hk=>LU.2 ⟨hg,aaN hk,by simp⟩,fun s p _ hg=>LU.2 ⟨hg,aaN rfl,by simp⟩⟩
theorem alU{o:Oper}{r:ch U}{σ:af U}{W:List Nat}(h:∀d,o.dst=some d->d∈W):dT W σ (AM.apply o r σ):=by
 have g:∀s x,s∉W->σ.get s=some x->(AM.apply o r σ).get s=some x:=by
  intro s x hs hg
  rw[DC]
  cases hd:o.dst with
  |none=>exact hg
  |some d=>
   have:d≠s:=fun e=>hs (e▸h d hd)
   simp only[this,if_false];exact hg
 exact⟨rfl,fun s v hs hg _=>g s _ hs hg,fun s p hs hg=>g s _ hs hg⟩
theorem abb{W:List Nat}:∀{items:List (Item U)}{σ:af U},(∀it∈items,∀d,it.o.dst=some d->d∈W)->dT W σ (uw items σ)
 |[],σ,_=>dT.refl _ _
 |it::r,σ,h=>(alU (h it dw)).trans (abb fun x hx=>h x (bi _ hx))
theorem AC.HU{f:Key->Key}{x:AC U}(h:x.keys=[]):x.rV f=x:=by
 cases x<;>first|rfl|simp[AC.keys] at h
theorem aj5(l:List (Key×Key))(W:List Nat)(σ:af U):dT W σ (rename l σ):=by
 refine⟨rfl,fun s v _ hg hk=> ?_,fun s p _ hg=> ?_⟩
 rotate_left
 ·have Qy:look σ.bp s=some (.fn p):=hg
  refine(Pw (g:=SV.rV (uc l)) (l:=σ.bp) (s:=s)).trans ?_
  rw[Qy]
  rfl
 show look (σ.bp.map fun(s,v)=>(s,v.map (SV.rV (uc l)))) s=_
 have:=Pw (g:=SV.rV (uc l)) (l:=σ.bp) (s:=s)
 refine this.trans ?_
 have Qy:look σ.bp s=some (.v v):=hg
 rw[Qy]
 simp only[Option.map,SV.rV]
 have:v.cs.map (AC.rV (uc l))=v.cs:=by
  conv=>rhs;rw[<-List.map_id v.cs]
  exact J1 fun y hy=>AC.HU (Wq hk y hy)
 rw[this]
theorem aas(l:List (Key×Key))(W:List Nat)(σ:af U):dT W σ (pD l σ):=by
 unfold pD
 simp only[gT]
 split
 ·exact dT.refl _ _
 ·exact(F6 _ _ _).trans (aj5 _ _ _)
theorem aau(d:Nat)(W:List Nat)(σ:af U):dT W σ (p_ d σ):=by
 unfold p_
 split
 ·exact aas _ _ _
 ·exact dT.refl _ _
theorem ajT(k:Key)(W:List Nat)(σ:af U):dT W σ (uX k σ):=by
 unfold uX
 split
 ·exact aas _ _ _
 ·exact dT.refl _ _
theorem Pl(W:List Nat):∀(l:List Key)(τ:af U),dT W τ (uW l τ)
 |[],τ=>dT.refl _ _
 |k::l,τ=>(ajT k W τ).trans (Pl W l _)
theorem ajR(ops:List Oper)(W:List Nat)(σ:af U):dT W σ (settle ops σ):=by
 unfold settle
 have:∀(l:List Nat)(τ:af U),dT W τ (l.foldl (fun σ d=>p_ d σ) τ):=by
  intro l
  induction l with
  |nil=>exact fun τ=>dT.refl _ _
  |cons d l ih=>exact fun τ=>(aau d W τ).trans (ih _)
 exact((F6 _ _ _).trans (this _ _)).trans (Pl _ _ _)
theorem ak4{k0:Key}{c:U.C}{x:AC U}(h:x.keys=[]):Eb k0 c x=x:=by
 cases x<;>first|rfl|(simp[AC.keys] at h)
theorem aa5(k0:Key)(W:List Nat)(σ:af U):dT W σ (kU k0 σ):=by
 unfold kU
 split
 rotate_left
 ·exact dT.refl _ _
 refine⟨rfl,fun s v _ hg hk=> ?_,fun s p _ hg=> ?_⟩
 ·show look (σ.bp.map _) s=_
  rw[LW]
  have hg:look σ.bp s=some (.v v):=hg
  rw[hg]
  have:∀c:U.C,v.cs.map (Eb k0 c)=v.cs:=by
   intro c
   refine(J1 fun x hx=>ak4 ?_).trans (List.map_id _)
   exact Wq hk x (by simpa[SV.yL] using hx)
  simp only[B5,Ir,this]
 ·show look (σ.bp.map _) s=_
  rw[LW]
  have hg:look σ.bp s=some (.fn p):=hg
  rw[hg];rfl
theorem PD(W:List Nat):∀(l:List Nat)(σ:af U),dT W σ (oN l σ)
 |[],σ=>dT.refl _ _
 |s::l,σ=>by
  refine dT.trans (τ:=qv s σ) ?_ (PD W l _)
  unfold qv
  split
  ·exact aa5 _ _ _
  ·exact dT.refl _ _
theorem PF(W:List Nat):∀(l:List Key)(σ:af U),dT W σ (pR l σ)
 |[],σ=>dT.refl _ _
 |s::l,σ=>dT.trans (τ:=kU s σ) (aa5 _ _ _) (PF W l _)
theorem ajP(W:List Nat)(k:Key)(σ:af U):dT W σ (AF k σ):=by
 unfold AF
 split
 ·exact⟨rfl,fun _ _ _ h _=>h,fun _ _ _ h=>h⟩
 ·exact dT.refl _ _
theorem aaq(W:List Nat):∀(l:List Key)(σ:af U),dT W σ (l.foldl (fun σ k=>AF k σ) σ)
 |[],σ=>dT.refl _ _
 |k::l,σ=>dT.trans (ajP W k σ) (aaq W l _)
theorem aao(W:List Nat)(l:List Key)(σ:af U):dT W σ (Ja l σ):=by
 cases l with
 |nil=>exact dT.refl _ _
 |cons k l=>exact dT.trans (aaq W (k::l) σ) (F6 _ _ _)
theorem aj7{ops:List Oper}{items:List (Item U)}(uk:items.map (·.o)=ops){E':Env U}{σ:af U}:dT (yn ops) σ (settle ops (uw items (Bt E' ops σ))):=by
 refine((((F6 _ _ _).trans (PD _ _ _)).trans (PF _ _ _)).trans (abb fun it HD d hd=> ?_)).trans (ajR _ _ _)
 subst uk
 exact nl.2 ⟨it.o,lH.2 ⟨it,HD,rfl⟩,by simp[hd]⟩
theorem aj6(hE:E.Good)(h:cG E pm F kv fp σ a w){id:Nat}{ops:Array Oper}{draw:Bool}{K:af U->Prop}(hw:uM E ops.toList draw σ K){Q:Exit->Act->World->Prop}
  (hQ:∀kY F kv fp a' w',K kY->dT (yn ops.toList) σ kY->cG E pm F kv fp kY a' w'->Q .normal a' w'):(Code.region id ops draw).wp E.P Q a w:=by
 unfold uM at hw
 obtain⟨items,uk,iV,hk⟩:=V_ hw
 rw[gT] at hk
 split at hk
 ·rename_i hd
  have pN:∀F kv fp a w,cG E pm F kv fp (uw items (Bt E ops.toList σ)) a w->Q .normal a w:=by
   intro F kv fp a w hs
   obtain⟨kv',fp',jG⟩:=ajQ hs ops.toList
   exact hQ _ F kv' fp' a w hk (aj7 uk) jG
  have hlen:items.length=ops.size:=by simpa using congrArg List.length uk
  obtain⟨F,kv,fp,h0⟩:=alm h E ops.toList
  cases draw with
  |false=>
   refine wp_region ?_
   rw[List.range_eq_range']
   refine ajU hE iV uk (fun k hk hd=>aba hk hd) pN _ 0 F kv fp a w (by omega) ?_
   rw[Fz (fun k hk=>by simp)]
   exact h0
  |true=>
   refine wp_region_any hE.ok.mixed ?_
   simp only[Zt,Hv] at hd
   refine alp hE iV uk hd (fun k hk hd=>aba hk hd) pN _ _ F kv fp a w.drew ?_ (by simp) (fun j hj=> ?_) ?_
   ·rw[Fz (fun k hk=>by
     simp only[Lr,Array.getElem?_replicate]
     split<;>rfl)]
    exact h0.drew
   ·exfalso
    simp only[Lr,Array.getElem?_replicate] at hj
    split at hj<;>simp at hj
   ·simp
 ·exact hk.elim
end AM
