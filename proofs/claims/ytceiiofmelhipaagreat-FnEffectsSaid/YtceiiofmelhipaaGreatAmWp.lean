/- THE ABSTRACT MACHINE: regions and code: its weakest precondition is the model's. -/
import Derived.Test.YtceiiofmelhipaaGreatAmRename
import Derived.Deep.LoopGhost
namespace AM
set_option linter.unusedVariables false
open Go
variable{U:Uni}{E:Env U}{pm:Pm}
variable{F F':Nat→Prop}{kv kv':Key→Value}{fp fp':Key→List Nat}{σ τ:AState U}{a:Act}{w w':World}
theorem qafj{ops:List Oper}{items:List (Item U)}(hmap:items.map (·.o)=ops)(hN:∀k,Names σ k→(k.1∈dsts ops∨k.1=1000000)→1024≤k.2){i:Nat}{it:Item U}(hit:items[i]? =some it)
  (g4:freshOk (it.o.dst.getD 1000000) it.r (endR 0 (items.take i) [])=true) (g5:addsOk it.o it.r=true) {k:Key} (hk:k∈adds it.o it.r):¬Names (T (fun k=>decide (k<i)) 0 items σ) k:=by
 intro hnm
 have hka:∃j,k=(it.o.dst.getD 1000000,j)∧j<1024∧it.r.adds≠[]:=by
  simp only[adds,zaz] at hk
  obtain⟨⟨j,e⟩,hj,rfl⟩:=hk
  unfold addsOk at g5
  have:=zcb.1 g5 _ hj
  exact⟨j,rfl,Nat.blt_eq▸this,(fun e=>by rw[e] at hj;cases hj)⟩
 obtain⟨j,rfl,hj,hne⟩:=hka
 rcases qaan hnm with hnm|⟨m,x,hm,hDm,hx⟩
 ·have hmem:it.o∈ops:=by
   rw[←hmap]
   exact zaz.2 ⟨it,zbl hit,rfl⟩
  have:=hN _ hnm (by
   cases hd:it.o.dst with
   |none=>exact .inr rfl
   |some d=>
    refine .inl ?_
    simp only[zcj,dsts,zat]
    exact⟨it.o,hmem,by simp[hd]⟩)
  simp only at this
  omega
 ·simp only[zbw,decide_eq_true_eq] at hDm
  unfold freshOk at g4
  have hie:it.r.adds.isEmpty=false:=by cases ha:it.r.adds with
   |nil=>exact absurd ha hne
   |cons _ _=>rfl
  rw[hie,zcw,zcb] at g4
  have hmem:recOf m x∈endR 0 (items.take i) []:=qadl.2 (.inr ⟨m,x,by rw[zan,if_pos hDm];exact hm,by simp⟩)
  have:=g4 _ hmem
  simp only[zbd,recOf] at this
  rw[←zbj,zbb] at this
  exact this ⟨_,zar _ (zas _ hx),by simp⟩
theorem qalt(hE:E.Good){ops:Array Oper}{items:List (Item U)}{σ:AState U}(hrun:Run E ops.toList 0 items σ [])(hmap:items.map (·.o)=ops.toList)
  (hN:∀k,Names σ k→(k.1∈dsts ops.toList∨k.1=1000000)→1024≤k.2) {Q:Exit→Act→World→Prop} (hfin:∀F kv fp a w,Sim E pm F kv fp (endS items σ) a w→Q .normal a w):
  ∀(n i:Nat)(F:Nat→Prop)(kv:Key→Value)(fp:Key→List Nat)(a:Act)(w:World),i+n=ops.size→Sim E pm F kv fp (T (fun k=>decide (k<i)) 0 items σ) a w→Go.wpOps E.P ops Q (List.range' i n) a w:=by
 have hlen:items.length=ops.size:=by simpa using congrArg List.length hmap
 intro n
 induction n with
 |zero=>
  intro i F kv fp a w hi hs
  refine hfin F kv fp a w ?_
  rw[←T_all (D:=fun k=>decide (k<i)) (j:=0) (fun k hk=>by simp;omega)]
  exact hs
 |succ n ih=>
  intro i F kv fp a w hi hs
  rw[List.range'_succ,wpOps_cons]
  obtain⟨it,hit⟩:∃it,items[i]? =some it:=⟨_,zad (by omega)⟩
  have hoi:ops[i]? =some it.o:=by
   have:(items.map (·.o))[i]? =some it.o:=by rw[zal,hit];rfl
   rw[hmap] at this
   simpa using this
  obtain⟨hdst,hok⟩:=hrun.ok_at hit
  refine qage hE hs hoi hdst ?_ (fun F' kv' fp' a' w' hs'=>ih (i+1) F' kv' fp' a' w' (by omega) ?_)
  ·rcases hok with⟨g1,g2,g3⟩|⟨g1,g2,g3,g4,g5⟩
   ·exact .inl ⟨g1,g2⟩
   ·exact .inr ⟨g1,g2,g3,fun k hk=>qafj hmap hN hit g4 g5 hk⟩
  ·refine hs'.congr ?_
   have h1:=T_more (D:=fun k=>decide (k<i)) (i:=i) (it:=it) (items:=items) (j:=0) (σ:=σ) hit (by simp) (fun m y hm him hDm=>by simp at hDm;omega)
   refine h1.trans ?_
   rw[qaal (D':=fun k=>decide (k<i+1))]
   ·exact Eqv.refl _
   ·intro k hk
    simp only[zbw]
    rw[zcm]
    simp only[zcn,decide_eq_true_eq,zdn]
    omega
structure Keep(W:List Nat)(σ τ:AState U):Prop where
 n:τ.n=σ.n
 get:∀s v,s∉W→σ.get s=some (.v v)→(SV.v v).keys=[]→τ.get s=some (.v v)
 fn:∀s p,s∉W→σ.get s=some (.fn p)→τ.get s=some (.fn p)
theorem Keep.refl(W:List Nat)(σ:AState U):Keep W σ σ:=⟨rfl,fun _ _ _ h _=>h,fun _ _ _ h=>h⟩
theorem Keep.trans{W:List Nat}{σ τ ρ:AState U}(h:Keep W σ τ)(k:Keep W τ ρ):Keep W σ ρ:=
 ⟨k.n.trans h.n,fun s v hs hg hk=>k.get s v hs (h.get s v hs hg hk) hk,fun s p hs hg=>k.fn s p hs (h.fn s p hs hg)⟩
theorem Keep.mono{W W':List Nat}{σ τ:AState U}(h:Keep W σ τ)(hw:∀s,s∈W→s∈W'):Keep W' σ τ:=
 ⟨h.n,fun s v hs hg hk=>h.get s v (fun e=>hs (hw s e)) hg hk,fun s p hs hg=>h.fn s p (fun e=>hs (hw s e)) hg⟩
theorem qagk{x:SV U}(h:x.keys=[]):∀y∈x.acs,y.keys=[]:=by
 intro y hy
 rw[zdm]
 intro k hk
 have:k∈x.keys:=SV.mem_keys.2 ⟨y,hy,hk⟩
 rw[h] at this
 cases this
theorem qajj{bad:Key→Bool}{σ:AState U}{x:SV U}(h:x.keys=[]):okV bad σ x=true:=by
 unfold okV SV.stale
 rw[zbd,←zbj,zbb]
 rintro⟨y,hy,h2⟩
 have hk:=qagk h y hy
 rw[hk] at h2
 cases y<;>simp_all[AC.keys]
theorem qake(bad:Key→Bool)(W:List Nat)(σ:AState U):Keep W σ (purge bad σ):=
 ⟨rfl,fun s v _ hg hk=>qakd.2 ⟨hg,qajj hk,by simp⟩,fun s p _ hg=>qakd.2 ⟨hg,qajj rfl,by simp⟩⟩
theorem qabd{o:Oper}{r:Rslt U}{σ:AState U}{W:List Nat}(h:∀d,o.dst=some d→d∈W):Keep W σ (AM.apply o r σ):=by
 have g:∀s x,s∉W→σ.get s=some x→(AM.apply o r σ).get s=some x:=by
  intro s x hs hg
  rw[qafu]
  cases hd:o.dst with
  |none=>exact hg
  |some d=>
   have:d≠s:=fun e=>hs (e▸h d hd)
   simp only[this,if_false];exact hg
 exact⟨rfl,fun s v hs hg _=>g s _ hs hg,fun s p hs hg=>g s _ hs hg⟩
theorem qadm{W:List Nat}:∀{items:List (Item U)}{σ:AState U},(∀it∈items,∀d,it.o.dst=some d→d∈W)→Keep W σ (endS items σ)
 |[],σ,_=>Keep.refl _ _
 |it::r,σ,h=>(qabd (h it zab)).trans (qadm fun x hx=>h x (zaa _ hx))
theorem AC.ren_nokeys{f:Key→Key}{x:AC U}(h:x.keys=[]):x.ren f=x:=by
 cases x<;>first|rfl|simp[AC.keys] at h
theorem qakv(l:List (Key×Key))(W:List Nat)(σ:AState U):Keep W σ (rename l σ):=by
 refine⟨rfl,fun s v _ hg hk=> ?_,fun s p _ hg=> ?_⟩
 rotate_left
 ·have hg':look σ.slots s=some (.fn p):=hg
  refine(qahf (g:=SV.ren (renF l)) (l:=σ.slots) (s:=s)).trans ?_
  rw[hg']
  rfl
 show look (σ.slots.map fun(s,v)=>(s,v.map (SV.ren (renF l)))) s=_
 have:=qahf (g:=SV.ren (renF l)) (l:=σ.slots) (s:=s)
 refine this.trans ?_
 have hg':look σ.slots s=some (.v v):=hg
 rw[hg']
 simp only[Option.map,SV.ren]
 have:v.cs.map (AC.ren (renF l))=v.cs:=by
  conv=>rhs;rw[←List.map_id v.cs]
  exact zcr fun y hy=>AC.ren_nokeys (qagk hk y hy)
 rw[this]
theorem qamd(l:List (Key×Key))(W:List Nat)(σ:AState U):Keep W σ (settleBy l σ):=by
 unfold settleBy
 simp only[zah]
 split
 ·exact Keep.refl _ _
 ·exact(qake _ _ _).trans (qakv _ _ _)
theorem qalx(d:Nat)(W:List Nat)(σ:AState U):Keep W σ (settle1 d σ):=by
 unfold settle1
 split
 ·exact qamd _ _ _
 ·exact Keep.refl _ _
theorem qalz(k:Key)(W:List Nat)(σ:AState U):Keep W σ (settleB k σ):=by
 unfold settleB
 split
 ·exact qamd _ _ _
 ·exact Keep.refl _ _
theorem qamb(W:List Nat):∀(l:List Key)(τ:AState U),Keep W τ (settleBs l τ)
 |[],τ=>Keep.refl _ _
 |k::l,τ=>(qalz k W τ).trans (qamb W l _)
theorem qamh(ops:List Oper)(W:List Nat)(σ:AState U):Keep W σ (settle ops σ):=by
 unfold settle
 have:∀(l:List Nat)(τ:AState U),Keep W τ (l.foldl (fun σ d=>settle1 d σ) τ):=by
  intro l
  induction l with
  |nil=>exact fun τ=>Keep.refl _ _
  |cons d l ih=>exact fun τ=>(qalx d W τ).trans (ih _)
 exact((qake _ _ _).trans (this _ _)).trans (qamb _ _ _)
theorem qaey{k0:Key}{c:U.C}{x:AC U}(h:x.keys=[]):frAC k0 c x=x:=by
 cases x<;>first|rfl|(simp[AC.keys] at h)
theorem qafa(k0:Key)(W:List Nat)(σ:AState U):Keep W σ (freezeK k0 σ):=by
 unfold freezeK
 split
 rotate_left
 ·exact Keep.refl _ _
 refine⟨rfl,fun s v _ hg hk=> ?_,fun s p _ hg=> ?_⟩
 ·show look (σ.slots.map _) s=_
  rw[qahe]
  have hg:look σ.slots s=some (.v v):=hg
  rw[hg]
  have:∀c:U.C,v.cs.map (frAC k0 c)=v.cs:=by
   intro c
   refine(zcr fun x hx=>qaey ?_).trans (List.map_id _)
   exact qagk hk x (by simpa[SV.acs] using hx)
  simp only[zcd,frSV,this]
 ·show look (σ.slots.map _) s=_
  rw[qahe]
  have hg:look σ.slots s=some (.fn p):=hg
  rw[hg];rfl
theorem qafg(W:List Nat):∀(l:List Nat)(σ:AState U),Keep W σ (freezes l σ)
 |[],σ=>Keep.refl _ _
 |s::l,σ=>by
  refine Keep.trans (τ:=freeze1 s σ) ?_ (qafg W l _)
  unfold freeze1
  split
  ·exact qafa _ _ _
  ·exact Keep.refl _ _
theorem qafd(W:List Nat):∀(l:List Key)(σ:AState U),Keep W σ (freezeKs l σ)
 |[],σ=>Keep.refl _ _
 |s::l,σ=>Keep.trans (τ:=freezeK s σ) (qafa _ _ _) (qafd W l _)
theorem qaks{ops:List Oper}{items:List (Item U)}(hmap:items.map (·.o)=ops){E':Env U}{σ:AState U}:Keep (dsts ops) σ (settle ops (endS items (enterF E' ops σ))):=by
 refine((((qake _ _ _).trans (qafg _ _ _)).trans (qafd _ _ _)).trans (qadm fun it hit d hd=> ?_)).trans (qamh _ _ _)
 subst hmap
 exact zat.2 ⟨it.o,zaz.2 ⟨it,hit,rfl⟩,by simp[hd]⟩
theorem qakt(hE:E.Good)(h:Sim E pm F kv fp σ a w){id:Nat}{ops:Array Oper}{draw:Bool}{K:AState U→Prop}(hw:wpRegion E ops.toList draw σ K){Q:Exit→Act→World→Prop}
  (hQ:∀σ' F kv fp a' w',K σ'→Keep (dsts ops.toList) σ σ'→Sim E pm F kv fp σ' a' w'→Q .normal a' w'):(Code.region id ops draw).wp E.P Q a w:=by
 unfold wpRegion at hw
 obtain⟨items,hmap,hrun,hk⟩:=qans hw
 rw[zah] at hk
 split at hk
 ·rename_i hd
  have hfin:∀F kv fp a w,Sim E pm F kv fp (endS items (enterF E ops.toList σ)) a w→Q .normal a w:=by
   intro F kv fp a w hs
   obtain⟨kv',fp',hs'⟩:=qami hs ops.toList
   exact hQ _ F kv' fp' a w hk (qaks hmap) hs'
  have hlen:items.length=ops.size:=by simpa using congrArg List.length hmap
  obtain⟨F,kv,fp,h0⟩:=qads h E ops.toList
  cases draw with
  |false=>
   refine wp_region ?_
   rw[List.range_eq_range']
   refine qalt hE hrun hmap (fun k hk hd=>qadr hk hd) hfin _ 0 F kv fp a w (by omega) ?_
   rw[T_none (fun k hk=>by simp)]
   exact h0
  |true=>
   refine wp_region_any hE.ok.mixed ?_
   simp only[zfa,zcw] at hd
   refine qadf hE hrun hmap hd (fun k hk hd=>qadr hk hd) hfin _ _ F kv fp a w.drew ?_ (by simp) (fun j hj=> ?_) ?_
   ·rw[T_none (fun k hk=>by
     simp only[zby,Array.getElem?_replicate]
     split<;>rfl)]
    exact h0.drew
   ·exfalso
    simp only[zby,Array.getElem?_replicate] at hj
    split at hj<;>simp at hj
   ·simp
 ·exact hk.elim
end AM
