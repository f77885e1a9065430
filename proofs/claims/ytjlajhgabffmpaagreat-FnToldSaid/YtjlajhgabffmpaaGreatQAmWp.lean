/- THE ABSTRACT MACHINE: regions and code: its weakest precondition is the model's. -/
import Derived.Test.YtjlajhgabffmpaaGreatQAmRename
import Derived.Deep.LoopGhost
namespace AM
set_option linter.unusedVariables false
open Go
variable{U:lu}{E:Env U}{pm:Pm}
variable{F F':Nat->Prop}{kv kv':Key->Value}{fp fp':Key->List Nat}{σ τ:ai U}{a:Act}{w w':World}
theorem ak_{ops:List Oper}{items:List (Item U)}(w4:items.map (·.o)=ops)(hN:∀k,Names σ k->(k.1∈BB ops\/k.1=1000000)->1024<=k.2){i:Nat}{it:Item U}(Ml:items[i]? =some it)
  (g4:sW (it.o.dst.getD 1000000) it.r (yo 0 (items.take i) [])=true) (g5:xe it.o it.r=true) {k:Key} (hk:k∈eo it.o it.r):¬Names (T (fun k=>decide (k<i)) 0 items σ) k:=by
 intro vv
 have Su:∃j,k=(it.o.dst.getD 1000000,j)/\j<1024/\it.r.eo≠[]:=by
  simp only[eo,l_] at hk
  obtain⟨⟨j,e⟩,hj,rfl⟩:=hk
  unfold xe at g5
  have:=sk.1 g5 _ hj
  exact⟨j,rfl,Nat.blt_eq▸this,(fun e=>by rw[e] at hj;cases hj)⟩
 obtain⟨j,rfl,hj,fg⟩:=Su
 rcases Z5 vv with vv|⟨m,x,hm,Bz,hx⟩
 ·have EA:it.o∈ops:=by
   rw[<-w4]
   exact l_.2 ⟨it,Gn Ml,rfl⟩
  have:=hN _ vv (by
   cases hd:it.o.dst with
   |none=>exact .inr rfl
   |some d=>
    refine .inl ?_
    simp only[Gm,BB,ow]
    exact⟨it.o,EA,by simp[hd]⟩)
  simp only at this
  omega
 ·simp only[vf,decide_eq_true_eq] at Bz
  unfold sW at g4
  have hie:it.r.eo.isEmpty=false:=by cases ha:it.r.eo with
   |nil=>exact absurd ha fg
   |cons _ _=>rfl
  rw[hie,Gl,sk] at g4
  have EA:n_ m x∈yo 0 (items.take i) []:=Rx.2 (.inr ⟨m,x,by rw[qa,if_pos Bz];exact hm,by simp⟩)
  have:=g4 _ EA
  simp only[ra,n_] at this
  rw[<-wl,vg] at this
  exact this ⟨_,sh _ (rb _ hx),by simp⟩
theorem aj3(hE:E.Good){ops:Array Oper}{items:List (Item U)}{σ:ai U}(jz:WB E ops.toList 0 items σ [])(w4:items.map (·.o)=ops.toList)
  (hN:∀k,Names σ k->(k.1∈BB ops.toList\/k.1=1000000)->1024<=k.2) {Q:Exit->Act->World->Prop} (rO:∀F kv fp a w,cQ E pm F kv fp (xa items σ) a w->Q .normal a w):
  ∀(n i:Nat)(F:Nat->Prop)(kv:Key->Value)(fp:Key->List Nat)(a:Act)(w:World),i+n=ops.size->cQ E pm F kv fp (T (fun k=>decide (k<i)) 0 items σ) a w->Go.wpOps E.P ops Q (List.range' i n) a w:=by
 have hlen:items.length=ops.size:=by simpa using congrArg List.length w4
 intro n
 induction n with
 |zero=>
  intro i F kv fp a w hi hs
  refine rO F kv fp a w ?_
  rw[<-O2 (D:=fun k=>decide (k<i)) (j:=0) (fun k hk=>by simp;omega)]
  exact hs
 |succ n ih=>
  intro i F kv fp a w hi hs
  rw[List.range'_succ,wpOps_cons]
  obtain⟨it,Ml⟩:∃it,items[i]? =some it:=⟨_,fH (by omega)⟩
  have hoi:ops[i]? =some it.o:=by
   have:(items.map (·.o))[i]? =some it.o:=by rw[nO,Ml];rfl
   rw[w4] at this
   simpa using this
  obtain⟨z9,hok⟩:=jz.WQ Ml
  refine acU hE hs hoi z9 ?_ (fun F' kv' fp' a' w' ky=>ih (i+1) F' kv' fp' a' w' (by omega) ?_)
  ·rcases hok with⟨g1,g2,g3⟩|⟨g1,g2,g3,g4,g5⟩
   ·exact .inl ⟨g1,g2⟩
   ·exact .inr ⟨g1,g2,g3,fun k hk=>ak_ w4 hN Ml g4 g5 hk⟩
  ·refine ky.congr ?_
   have h1:=Ua (D:=fun k=>decide (k<i)) (i:=i) (it:=it) (items:=items) (j:=0) (σ:=σ) Ml (by simp) (fun m y hm him Bz=>by simp at Bz;omega)
   refine h1.trans ?_
   rw[Vl (D':=fun k=>decide (k<i+1))]
   ·exact BD.refl _
   ·intro k hk
    simp only[vf]
    rw[FM]
    simp only[FL,decide_eq_true_eq,JU]
    omega
structure eV(W:List Nat)(σ τ:ai U):Prop where
 n:τ.n=σ.n
 get:∀s v,s∉W->σ.get s=some (.v v)->(SV.v v).keys=[]->τ.get s=some (.v v)
 fn:∀s p,s∉W->σ.get s=some (.fn p)->τ.get s=some (.fn p)
theorem eV.refl(W:List Nat)(σ:ai U):eV W σ σ:=⟨rfl,fun _ _ _ h _=>h,fun _ _ _ h=>h⟩
theorem eV.trans{W:List Nat}{σ τ ρ:ai U}(h:eV W σ τ)(k:eV W τ ρ):eV W σ ρ:=
 ⟨k.n.trans h.n,fun s v hs hg hk=>k.get s v hs (h.get s v hs hg hk) hk,fun s p hs hg=>k.fn s p hs (h.fn s p hs hg)⟩
theorem eV.mono{W W':List Nat}{σ τ:ai U}(h:eV W σ τ)(hw:∀s,s∈W->s∈W'):eV W' σ τ:=
 ⟨h.n,fun s v hs hg hk=>h.get s v (fun e=>hs (hw s e)) hg hk,fun s p hs hg=>h.fn s p (fun e=>hs (hw s e)) hg⟩
theorem ZQ{x:SV U}(h:x.keys=[]):∀y∈x.B7,y.keys=[]:=by
 intro y hy
 rw[zdm]
 intro k hk
 have:k∈x.keys:=SV.mem_keys.2 ⟨y,hy,hk⟩
 rw[h] at this
 cases this
theorem acJ{bad:Key->Bool}{σ:ai U}{x:SV U}(h:x.keys=[]):WR bad σ x=true:=by
 unfold WR SV.NW
 rw[ra,<-wl,vg]
 rintro⟨y,hy,h2⟩
 have hk:=ZQ h y hy
 rw[hk] at h2
 cases y<;>simp_all[AC.keys]
theorem Kt(bad:Key->Bool)(W:List Nat)(σ:ai U):eV W σ (tM bad σ):=
 ⟨rfl,fun s v _ hg hk=>Rs.2 ⟨hg,acJ hk,by simp⟩,fun s p _ hg=>Rs.2 ⟨hg,acJ rfl,by simp⟩⟩
theorem al3{o:Oper}{r:cm U}{σ:ai U}{W:List Nat}(h:∀d,o.dst=some d->d∈W):eV W σ (AM.apply o r σ):=by
 have g:∀s x,s∉W->σ.get s=some x->(AM.apply o r σ).get s=some x:=by
  intro s x hs hg
  rw[HF]
  cases hd:o.dst with
  |none=>exact hg
  |some d=>
   have:d≠s:=fun e=>hs (e▸h d hd)
   simp only[this,if_false];exact hg
 exact⟨rfl,fun s v hs hg _=>g s _ hs hg,fun s p hs hg=>g s _ hs hg⟩
theorem ac_{W:List Nat}:∀{items:List (Item U)}{σ:ai U},(∀it∈items,∀d,it.o.dst=some d->d∈W)->eV W σ (xa items σ)
 |[],σ,_=>eV.refl _ _
 |it::r,σ,h=>(al3 (h it gB)).trans (ac_ fun x hx=>h x (cI _ hx))
theorem AC.ML{f:Key->Key}{x:AC U}(h:x.keys=[]):x.uB f=x:=by
 cases x<;>first|rfl|simp[AC.keys] at h
theorem akc(l:List (Key×Key))(W:List Nat)(σ:ai U):eV W σ (rename l σ):=by
 refine⟨rfl,fun s v _ hg hk=> ?_,fun s p _ hg=> ?_⟩
 rotate_left
 ·have VZ:look σ.bI s=some (.fn p):=hg
  refine(U4 (g:=SV.uB (wS l)) (l:=σ.bI) (s:=s)).trans ?_
  rw[VZ]
  rfl
 show look (σ.bI.map fun(s,v)=>(s,v.map (SV.uB (wS l)))) s=_
 have:=U4 (g:=SV.uB (wS l)) (l:=σ.bI) (s:=s)
 refine this.trans ?_
 have VZ:look σ.bI s=some (.v v):=hg
 rw[VZ]
 simp only[Option.map,SV.uB]
 have:v.cs.map (AC.uB (wS l))=v.cs:=by
  conv=>rhs;rw[<-List.map_id v.cs]
  exact QK fun y hy=>AC.ML (ZQ hk y hy)
 rw[this]
theorem acj(l:List (Key×Key))(W:List Nat)(σ:ai U):eV W σ (rF l σ):=by
 unfold rF
 simp only[iu]
 split
 ·exact eV.refl _ _
 ·exact(Kt _ _ _).trans (akc _ _ _)
theorem acm(d:Nat)(W:List Nat)(σ:ai U):eV W σ (sB d σ):=by
 unfold sB
 split
 ·exact acj _ _ _
 ·exact eV.refl _ _
theorem aj2(k:Key)(W:List Nat)(σ:ai U):eV W σ (xF k σ):=by
 unfold xF
 split
 ·exact acj _ _ _
 ·exact eV.refl _ _
theorem US(W:List Nat):∀(l:List Key)(τ:ai U),eV W τ (xE l τ)
 |[],τ=>eV.refl _ _
 |k::l,τ=>(aj2 k W τ).trans (US W l _)
theorem aj0(ops:List Oper)(W:List Nat)(σ:ai U):eV W σ (settle ops σ):=by
 unfold settle
 have:∀(l:List Nat)(τ:ai U),eV W τ (l.foldl (fun σ d=>sB d σ) τ):=by
  intro l
  induction l with
  |nil=>exact fun τ=>eV.refl _ _
  |cons d l ih=>exact fun τ=>(acm d W τ).trans (ih _)
 exact((Kt _ _ _).trans (this _ _)).trans (US _ _ _)
theorem alb{k0:Key}{c:U.C}{x:AC U}(h:x.keys=[]):Ii k0 c x=x:=by
 cases x<;>first|rfl|(simp[AC.keys] at h)
theorem ac3(k0:Key)(W:List Nat)(σ:ai U):eV W σ (lW k0 σ):=by
 unfold lW
 split
 rotate_left
 ·exact eV.refl _ _
 refine⟨rfl,fun s v _ hg hk=> ?_,fun s p _ hg=> ?_⟩
 ·show look (σ.bI.map _) s=_
  rw[Ru]
  have hg:look σ.bI s=some (.v v):=hg
  rw[hg]
  have:∀c:U.C,v.cs.map (Ii k0 c)=v.cs:=by
   intro c
   refine(QK fun x hx=>alb ?_).trans (List.map_id _)
   exact ZQ hk x (by simpa[SV.B7] using hx)
  simp only[FR,Np,this]
 ·show look (σ.bI.map _) s=_
  rw[Ru]
  have hg:look σ.bI s=some (.fn p):=hg
  rw[hg];rfl
theorem U_(W:List Nat):∀(l:List Nat)(σ:ai U),eV W σ (qG l σ)
 |[],σ=>eV.refl _ _
 |s::l,σ=>by
  refine eV.trans (τ:=sY s σ) ?_ (U_ W l _)
  unfold sY
  split
  ·exact ac3 _ _ _
  ·exact eV.refl _ _
theorem Vb(W:List Nat):∀(l:List Key)(σ:ai U),eV W σ (rR l σ)
 |[],σ=>eV.refl _ _
 |s::l,σ=>eV.trans (τ:=lW s σ) (ac3 _ _ _) (Vb W l _)
theorem ajY(W:List Nat)(k:Key)(σ:ai U):eV W σ (DX k σ):=by
 unfold DX
 split
 ·exact⟨rfl,fun _ _ _ h _=>h,fun _ _ _ h=>h⟩
 ·exact eV.refl _ _
theorem ach(W:List Nat):∀(l:List Key)(σ:ai U),eV W σ (l.foldl (fun σ k=>DX k σ) σ)
 |[],σ=>eV.refl _ _
 |k::l,σ=>eV.trans (ajY W k σ) (ach W l _)
theorem acf(W:List Nat)(l:List Key)(σ:ai U):eV W σ (NX l σ):=by
 cases l with
 |nil=>exact eV.refl _ _
 |cons k l=>exact eV.trans (ach W (k::l) σ) (Kt _ _ _)
theorem ake{ops:List Oper}{items:List (Item U)}(w4:items.map (·.o)=ops){E':Env U}{σ:ai U}:eV (BB ops) σ (settle ops (xa items (EZ E' ops σ))):=by
 refine((((Kt _ _ _).trans (U_ _ _ _)).trans (Vb _ _ _)).trans (ac_ fun it Ml d hd=> ?_)).trans (aj0 _ _ _)
 subst w4
 exact ow.2 ⟨it.o,l_.2 ⟨it,Ml,rfl⟩,by simp[hd]⟩
theorem akd(hE:E.Good)(h:cQ E pm F kv fp σ a w){id:Nat}{ops:Array Oper}{draw:Bool}{K:ai U->Prop}(hw:xy E ops.toList draw σ K){Q:Exit->Act->World->Prop}
  (hQ:∀l9 F kv fp a' w',K l9->eV (BB ops.toList) σ l9->cQ E pm F kv fp l9 a' w'->Q .normal a' w'):(Code.region id ops draw).wp E.P Q a w:=by
 unfold xy at hw
 obtain⟨items,w4,jz,hk⟩:=Zz hw
 rw[iu] at hk
 split at hk
 ·rename_i hd
  have rO:∀F kv fp a w,cQ E pm F kv fp (xa items (EZ E ops.toList σ)) a w->Q .normal a w:=by
   intro F kv fp a w hs
   obtain⟨kv',fp',ky⟩:=ajZ hs ops.toList
   exact hQ _ F kv' fp' a w hk (ake w4) ky
  have hlen:items.length=ops.size:=by simpa using congrArg List.length w4
  obtain⟨F,kv,fp,h0⟩:=alw h E ops.toList
  cases draw with
  |false=>
   refine wp_region ?_
   rw[List.range_eq_range']
   refine aj3 hE jz w4 (fun k hk hd=>ac' hk hd) rO _ 0 F kv fp a w (by omega) ?_
   rw[JQ (fun k hk=>by simp)]
   exact h0
  |true=>
   refine wp_region_any hE.ok.mixed ?_
   simp only[WG,Gl] at hd
   refine alz hE jz w4 hd (fun k hk hd=>ac' hk hd) rO _ _ F kv fp a w.drew ?_ (by simp) (fun j hj=> ?_) ?_
   ·rw[JQ (fun k hk=>by
     simp only[QY,Array.getElem?_replicate]
     split<;>rfl)]
    exact h0.drew
   ·exfalso
    simp only[QY,Array.getElem?_replicate] at hj
    split at hj<;>simp at hj
   ·simp
 ·exact hk.elim
end AM
