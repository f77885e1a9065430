import Derived.Test.YtnndcpncmmcaaaaGreatQAmRename
import Derived.Deep.LoopGhost
namespace AM
set_option linter.unusedVariables false
open Go
variable{U:jO}{E:Env U}{pm:Pm}
variable{F F':Nat->Prop}{kv kv':Key->Value}{fp fp':Key->List Nat}{σ τ:ah U}{a:Act}{w w':World}
theorem an2{ops:List Oper}{items:List (Item U)}(vG:items.map (·.o)=ops)(hN:∀k,Names σ k->(k.1∈As ops\/k.1=1000000)->1024<=k.2){i:Nat}{it:Item U}(J6:items[i]? =some it)
  (g4:rJ (it.o.dst.getD 1000000) it.r (wY 0 (items.take i) [])=true) (g5:vY it.o it.r=true) {k:Key} (hk:k∈ct it.o it.r):¬Names (T (fun k=>decide (k<i)) 0 items σ) k:=by
 intro ol
 have P8:∃j,k=(it.o.dst.getD 1000000,j)/\j<1024/\it.r.ct≠[]:=by
  simp only[ct,jX] at hk
  obtain⟨⟨j,e⟩,hj,rfl⟩:=hk
  unfold vY at g5
  have:=FU.1 g5 _ hj
  exact⟨j,rfl,Nat.blt_eq▸this,(fun e=>by rw[e] at hj;cases hj)⟩
 obtain⟨j,rfl,hj,cO⟩:=P8
 rcases aac ol with ol|⟨m,x,hm,Ar,hx⟩
 ·have pa:it.o∈ops:=by
   rw[<-vG]
   exact jX.2 ⟨it,Ep J6,rfl⟩
  have:=hN _ ol (by
   cases hd:it.o.dst with
   |none=>exact .inr rfl
   |some d=>
    refine .inl ?_
    simp only[J0,As,ln]
    exact⟨it.o,pa,by simp[hd]⟩)
  simp only at this
  omega
 ·simp only[oz,decide_eq_true_eq] at Ar
  unfold rJ at g4
  have hie:it.r.ct.isEmpty=false:=by cases ha:it.r.ct with
   |nil=>exact absurd ha cO
   |cons _ _=>rfl
  rw[hie,JY,FU] at g4
  have pa:nO m x∈wY 0 (items.take i) []:=OW.2 (.inr ⟨m,x,by rw[mP,if_pos Ar];exact hm,by simp⟩)
  have:=g4 _ pa
  simp only[sS,nO] at this
  rw[<-Al,tW] at this
  exact this ⟨_,oE _ (pA _ hx),by simp⟩
theorem amA(hE:E.Good){ops:Array Oper}{items:List (Item U)}{σ:ah U}(fw:Vk E ops.toList 0 items σ [])(vG:items.map (·.o)=ops.toList)
  (hN:∀k,Names σ k->(k.1∈As ops.toList\/k.1=1000000)->1024<=k.2) {Q:Exit->Act->World->Prop} (sZ:∀F kv fp a w,cd E pm F kv fp (vR items σ) a w->Q .normal a w):
  ∀(n i:Nat)(F:Nat->Prop)(kv:Key->Value)(fp:Key->List Nat)(a:Act)(w:World),i+n=ops.size->cd E pm F kv fp (T (fun k=>decide (k<i)) 0 items σ) a w->Go.wpOps E.P ops Q (List.range' i n) a w:=by
 have hlen:items.length=ops.size:=by simpa using congrArg List.length vG
 intro n
 induction n with
 |zero=>
  intro i F kv fp a w hi hs
  refine sZ F kv fp a w ?_
  rw[<-MF (D:=fun k=>decide (k<i)) (j:=0) (fun k hk=>by simp;omega)]
  exact hs
 |succ n ih=>
  intro i F kv fp a w hi hs
  rw[List.range'_succ,wpOps_cons]
  obtain⟨it,J6⟩:∃it,items[i]? =some it:=⟨_,gr (by omega)⟩
  have hoi:ops[i]? =some it.o:=by
   have:(items.map (·.o))[i]? =some it.o:=by rw[mE,J6];rfl
   rw[vG] at this
   simpa using this
  obtain⟨zi,hok⟩:=fw.Vx J6
  refine adJ hE hs hoi zi ?_ (fun F' kv' fp' a' w' ky=>ih (i+1) F' kv' fp' a' w' (by omega) ?_)
  ·rcases hok with⟨g1,g2,g3⟩|⟨g1,g2,g3,g4,g5⟩
   ·exact .inl ⟨g1,g2⟩
   ·exact .inr ⟨g1,g2,g3,fun k hk=>an2 vG hN J6 g4 g5 hk⟩
  ·refine ky.congr ?_
   have h1:=Rg (D:=fun k=>decide (k<i)) (i:=i) (it:=it) (items:=items) (j:=0) (σ:=σ) J6 (by simp) (fun m y hm him Ar=>by simp at Ar;omega)
   refine h1.trans ?_
   rw[Sp (D':=fun k=>decide (k<i+1))]
   ·exact Au.refl _
   ·intro k hk
    simp only[oz]
    rw[HT]
    simp only[Ee,decide_eq_true_eq,Oq]
    omega
structure cX(W:List Nat)(σ τ:ah U):Prop where
 n:τ.n=σ.n
 get:∀s v,s∉W->σ.get s=some (.v v)->(SV.v v).keys=[]->τ.get s=some (.v v)
 fn:∀s p,s∉W->σ.get s=some (.fn p)->τ.get s=some (.fn p)
theorem cX.refl(W:List Nat)(σ:ah U):cX W σ σ:=⟨rfl,fun _ _ _ h _=>h,fun _ _ _ h=>h⟩
theorem cX.trans{W:List Nat}{σ τ ρ:ah U}(h:cX W σ τ)(k:cX W τ ρ):cX W σ ρ:=
 ⟨k.n.trans h.n,fun s v hs hg hk=>k.get s v hs (h.get s v hs hg hk) hk,fun s p hs hg=>k.fn s p hs (h.fn s p hs hg)⟩
theorem cX.mono{W W':List Nat}{σ τ:ah U}(h:cX W σ τ)(hw:∀s,s∈W->s∈W'):cX W' σ τ:=
 ⟨h.n,fun s v hs hg hk=>h.get s v (fun e=>hs (hw s e)) hg hk,fun s p hs hg=>h.fn s p (fun e=>hs (hw s e)) hg⟩
theorem ZX{x:SV U}(h:x.keys=[]):∀y∈x.xE,y.keys=[]:=by
 intro y hy
 rw[zdm]
 intro k hk
 have:k∈x.keys:=SV.mem_keys.2 ⟨y,hy,hk⟩
 rw[h] at this
 cases this
theorem adx{bad:Key->Bool}{σ:ah U}{x:SV U}(h:x.keys=[]):SU bad σ x=true:=by
 unfold SU SV.Lx
 rw[sS,<-Al,tW]
 rintro⟨y,hy,h2⟩
 have hk:=ZX h y hy
 rw[hk] at h2
 cases y<;>simp_all[AC.keys]
theorem F9(bad:Key->Bool)(W:List Nat)(σ:ah U):cX W σ (sM bad σ):=
 ⟨rfl,fun s v _ hg hk=>OR.2 ⟨hg,adx hk,by simp⟩,fun s p _ hg=>OR.2 ⟨hg,adx rfl,by simp⟩⟩
theorem aoY{o:Oper}{r:bz U}{σ:ah U}{W:List Nat}(h:∀d,o.dst=some d->d∈W):cX W σ (AM.apply o r σ):=by
 have g:∀s x,s∉W->σ.get s=some x->(AM.apply o r σ).get s=some x:=by
  intro s x hs hg
  rw[yX]
  cases hd:o.dst with
  |none=>exact hg
  |some d=>
   have:d≠s:=fun e=>hs (e▸h d hd)
   simp only[this,if_false];exact hg
 exact⟨rfl,fun s v hs hg _=>g s _ hs hg,fun s p hs hg=>g s _ hs hg⟩
theorem adZ{W:List Nat}:∀{items:List (Item U)}{σ:ah U},(∀it∈items,∀d,it.o.dst=some d->d∈W)->cX W σ (vR items σ)
 |[],σ,_=>cX.refl _ _
 |it::r,σ,h=>(aoY (h it cH)).trans (adZ fun x hx=>h x (aJ _ hx))
theorem AC.Kh{f:Key->Key}{x:AC U}(h:x.keys=[]):x.rB f=x:=by
 cases x<;>first|rfl|simp[AC.keys] at h
theorem amM(l:List (Key×Key))(W:List Nat)(σ:ah U):cX W σ (rename l σ):=by
 refine⟨rfl,fun s v _ hg hk=> ?_,fun s p _ hg=> ?_⟩
 rotate_left
 ·have NP:look σ.bw s=some (.fn p):=hg
  refine(Sb (g:=SV.rB (vw l)) (l:=σ.bw) (s:=s)).trans ?_
  rw[NP]
  rfl
 show look (σ.bw.map fun(s,v)=>(s,v.map (SV.rB (vw l)))) s=_
 have:=Sb (g:=SV.rB (vw l)) (l:=σ.bw) (s:=s)
 refine this.trans ?_
 have NP:look σ.bw s=some (.v v):=hg
 rw[NP]
 simp only[Option.map,SV.rB]
 have:v.cs.map (AC.rB (vw l))=v.cs:=by
  conv=>rhs;rw[<-List.map_id v.cs]
  exact Lp fun y hy=>AC.Kh (ZX hk y hy)
 rw[this]
theorem ac_(l:List (Key×Key))(W:List Nat)(σ:ah U):cX W σ (qD l σ):=by
 unfold qD
 simp only[fc]
 split
 ·exact cX.refl _ _
 ·exact(F9 _ _ _).trans (amM _ _ _)
theorem adb(d:Nat)(W:List Nat)(σ:ah U):cX W σ (rr d σ):=by
 unfold rr
 split
 ·exact ac_ _ _ _
 ·exact cX.refl _ _
theorem amz(k:Key)(W:List Nat)(σ:ah U):cX W σ (wx k σ):=by
 unfold wx
 split
 ·exact ac_ _ _ _
 ·exact cX.refl _ _
theorem ZE(W:List Nat):∀(l:List Key)(τ:ah U),cX W τ (ww l τ)
 |[],τ=>cX.refl _ _
 |k::l,τ=>(amz k W τ).trans (ZE W l _)
theorem amx(ops:List Oper)(W:List Nat)(σ:ah U):cX W σ (settle ops σ):=by
 unfold settle
 have:∀(l:List Nat)(τ:ah U),cX W τ (l.foldl (fun σ d=>rr d σ) τ):=by
  intro l
  induction l with
  |nil=>exact fun τ=>cX.refl _ _
  |cons d l ih=>exact fun τ=>(adb d W τ).trans (ih _)
 exact((F9 _ _ _).trans (this _ _)).trans (ZE _ _ _)
theorem an5{k0:Key}{c:U.C}{x:AC U}(h:x.keys=[]):EG k0 c x=x:=by
 cases x<;>first|rfl|(simp[AC.keys] at h)
theorem adR(k0:Key)(W:List Nat)(σ:ah U):cX W σ (kO k0 σ):=by
 unfold kO
 split
 rotate_left
 ·exact cX.refl _ _
 refine⟨rfl,fun s v _ hg hk=> ?_,fun s p _ hg=> ?_⟩
 ·show look (σ.bw.map _) s=_
  rw[OU]
  have hg:look σ.bw s=some (.v v):=hg
  rw[hg]
  have:∀c:U.C,v.cs.map (EG k0 c)=v.cs:=by
   intro c
   refine(Lp fun x hx=>an5 ?_).trans (List.map_id _)
   exact ZX hk x (by simpa[SV.xE] using hx)
  simp only[Ef,K3,this]
 ·show look (σ.bw.map _) s=_
  rw[OU]
  have hg:look σ.bw s=some (.fn p):=hg
  rw[hg];rfl
theorem Z2(W:List Nat):∀(l:List Nat)(σ:ah U),cX W σ (pW l σ)
 |[],σ=>cX.refl _ _
 |s::l,σ=>by
  refine cX.trans (τ:=rK s σ) ?_ (Z2 W l _)
  unfold rK
  split
  ·exact adR _ _ _
  ·exact cX.refl _ _
theorem Z4(W:List Nat):∀(l:List Key)(σ:ah U),cX W σ (qW l σ)
 |[],σ=>cX.refl _ _
 |s::l,σ=>cX.trans (τ:=kO s σ) (adR _ _ _) (Z4 W l _)
theorem amv(W:List Nat)(k:Key)(σ:ah U):cX W σ (CJ k σ):=by
 unfold CJ
 split
 ·exact⟨rfl,fun _ _ _ h _=>h,fun _ _ _ h=>h⟩
 ·exact cX.refl _ _
theorem ac7(W:List Nat):∀(l:List Key)(σ:ah U),cX W σ (l.foldl (fun σ k=>CJ k σ) σ)
 |[],σ=>cX.refl _ _
 |k::l,σ=>cX.trans (amv W k σ) (ac7 W l _)
theorem amt(W:List Nat)(l:List Key)(σ:ah U):cX W σ (Ly l σ):=by
 cases l with
 |nil=>exact cX.refl _ _
 |cons k l=>exact cX.trans (ac7 W (k::l) σ) (F9 _ _ _)
theorem anN(W:List Nat)(k:Key)(σ:ah U):cX W σ (C5 k σ):=by
 unfold C5
 split
 ·exact⟨rfl,fun _ _ _ h _=>h,fun _ _ _ h=>h⟩
 ·exact cX.refl _ _
theorem adH(W:List Nat):∀(l:List Key)(σ:ah U),cX W σ (l.foldl (fun σ k=>C5 k σ) σ)
 |[],σ=>cX.refl _ _
 |k::l,σ=>cX.trans (anN W k σ) (adH W l _)
theorem anL(W:List Nat)(l:List Key)(σ:ah U):cX W σ (LO l σ):=by
 cases l with
 |nil=>exact cX.refl _ _
 |cons k l=>exact cX.trans (adH W (k::l) σ) (F9 _ _ _)
theorem amR(W:List Nat)(k:Key)(σ:ah U):cX W σ (Ih k σ):=by
 unfold Ih
 split
 ·split
  ·split
   ·rw[fc]
    split
    ·exact cX.refl _ _
    ·exact⟨rfl,fun _ _ _ h _=>h,fun _ _ _ h=>h⟩
   ·exact cX.refl _ _
  ·exact cX.refl _ _
 ·exact cX.refl _ _
theorem adk(W:List Nat):∀(l:List Key)(σ:ah U),cX W σ (l.foldl (fun σ k=>Ih k σ) σ)
 |[],σ=>cX.refl _ _
 |k::l,σ=>cX.trans (amR W k σ) (adk W l _)
theorem amO(W:List Nat)(l:List Key)(σ:ah U):cX W σ (LD l σ):=by
 cases l with
 |nil=>exact cX.refl _ _
 |cons k l=>exact cX.trans (adk W (k::l) σ) (F9 _ _ _)
theorem amT{ops:List Oper}{items:List (Item U)}(vG:items.map (·.o)=ops){E':Env U}{σ:ah U}:cX (As ops) σ (settle ops (vR items (DC E' ops σ))):=by
 refine((((F9 _ _ _).trans (Z2 _ _ _)).trans (Z4 _ _ _)).trans (adZ fun it J6 d hd=> ?_)).trans (amx _ _ _)
 subst vG
 exact ln.2 ⟨it.o,jX.2 ⟨it,J6,rfl⟩,by simp[hd]⟩
theorem amS(hE:E.Good)(h:cd E pm F kv fp σ a w){id:Nat}{ops:Array Oper}{draw:Bool}{K:ah U->Prop}(hw:wq E ops.toList draw σ K){Q:Exit->Act->World->Prop}
  (hQ:∀lK F kv fp a' w',K lK->cX (As ops.toList) σ lK->cd E pm F kv fp lK a' w'->Q .normal a' w'):(Code.region id ops draw).wp E.P Q a w:=by
 unfold wq at hw
 obtain⟨items,vG,fw,hk⟩:=Zy hw
 rw[fc] at hk
 split at hk
 ·rename_i hd
  have sZ:∀F kv fp a w,cd E pm F kv fp (vR items (DC E ops.toList σ)) a w->Q .normal a w:=by
   intro F kv fp a w hs
   obtain⟨kv',fp',ky⟩:=amw hs ops.toList
   exact hQ _ F kv' fp' a w hk (amT vG) ky
  have hlen:items.length=ops.size:=by simpa using congrArg List.length vG
  obtain⟨F,kv,fp,h0⟩:=aoo h E ops.toList
  cases draw with
  |false=>
   refine wp_region ?_
   rw[List.range_eq_range']
   refine amA hE fw vG (fun k hk hd=>adX hk hd) sZ _ 0 F kv fp a w (by omega) ?_
   rw[HO (fun k hk=>by simp)]
   exact h0
  |true=>
   refine wp_region_any hE.ok.mixed ?_
   simp only[zfa,JY] at hd
   refine aor hE fw vG hd (fun k hk hd=>adX hk hd) sZ _ _ F kv fp a w.drew ?_ (by simp) (fun j hj=> ?_) ?_
   ·rw[HO (fun k hk=>by
     simp only[Oy,Array.getElem?_replicate]
     split<;>rfl)]
    exact h0.drew
   ·exfalso
    simp only[Oy,Array.getElem?_replicate] at hj
    split at hj<;>simp at hj
   ·simp
 ·exact hk.elim
end AM
