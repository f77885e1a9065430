import Derived.Test.YtnndcpncmmcaaaaGreatQAmRename
import Derived.Test.YtnndcpncmmcaaaaGreatQAmSh
namespace AM
set_option linter.unusedVariables false
open Go
variable{U:jO}{E:Env U}{pm:Pm}
variable{F F':Nat->Prop}{kv kv':Key->Value}{fp fp':Key->List Nat}{σ τ:ah U}{a:Act}{w w':World}
theorem CU{β:Type}(k k':Key)(v:Option β)(l:List (Key×Option β)):cm ((k,v)::l) k'=if k=k' then v else cm l k':=by
 simp only[cm]
 by_cases h:k=k'
 ·rw[lM.2 h,if_pos h];rfl
 ·rw[wA.2 h,if_neg h];rfl
theorem ZK(f:Nat->List Nat):∀(N:Nat),List.Perm ((List.range N).flatMap f) ((List.range N).flatMap (fun n=>(f n).take 1)++(List.range N).flatMap (fun n=>(f n).drop 1))
 |0=>by simp
 |N+1=>by
  rw[List.range_succ,N3,N3,N3]
  simp only[tV,Vo,sI]
  refine((ZK f N).append_right _).trans ?_
  have e:f N=(f N).take 1++(f N).drop 1:=(HS 1 (f N)).symm
  generalize (List.range N).flatMap (fun n=>(f n).take 1)=A
  generalize (List.range N).flatMap (fun n=>(f n).drop 1)=B
  rw[show A++B++f N=A++B++((f N).take 1++(f N).drop 1) by rw[<-e]]
  generalize (f N).take 1=C
  generalize (f N).drop 1=D
  rw[qc,qc]
  refine List.Perm.append_left _ ?_
  rw[<-qc,<-qc]
  exact List.Perm.append_right _ List.perm_append_comm
theorem mA.perm{a:fK U}{v:Value}{l lo:List Nat}(h:mA E w F none a v l lo):∃l',cF E w F true a v l'/\List.Perm l' (l++lo):=by
 rcases h with⟨h1,h2,rfl,rfl⟩|⟨b,cap,cur,vs,dH,rfl,hb,hc,hm,hs,hv,hr,hd,rfl,rfl⟩
 ·exact⟨[],.inl ⟨h1,h2,rfl⟩,by simp⟩
 ·exact⟨_,.inr ⟨b,cap,cur,vs,dH,rfl,hb,hc,hm,hs,fun i hi=>(hv i hi).1,fun i x j c hx hj=>hr i x j c (by simp) hx hj,rfl⟩,List.Perm.cons _ (ZK dH _)⟩
theorem cF.lock{x:fK U}{v:Value}{l:List Nat}(h:cF E w F true x v l):∃l1 lo,mA E w F none x v l1 lo/\List.Perm l (l1++lo):=by
 rcases h with⟨h1,h2,rfl⟩|⟨b,cap,cur,vs,dH,rfl,hb,hc,hm,hs,hv,hr,rfl⟩
 ·exact⟨[],[],.inl ⟨h1,h2,rfl,rfl⟩,by simp⟩
 ·refine⟨_,_,.inr ⟨b,cap,cur,vs,dH,rfl,hb,hc,hm,hs,fun n hn=>⟨hv n hn,?_⟩,fun i y j c _ hy hj=>hr i y j c hy hj,fun i j hi=>(by cases hi),rfl,rfl⟩,List.Perm.cons _ (ZK dH _)⟩
  obtain⟨i,y,j,c,rfl,_,_,hy,hj⟩:=ZH hn
  exact(hr i y j c hy hj).dQ
theorem anM(h:cd E pm F kv fp σ a w)(k0:Key):∃F' fp',cd E pm F' kv fp' (C5 k0 σ) a w:=by
 unfold C5
 split
 rotate_left
 ·exact⟨F,fp,h⟩
 rename_i ar he
 have eF:∀k e,cm ((k0,some (eX.li ar))::σ.iZ) k=some e->(k=k0/\e=eX.li ar)\/(k≠k0/\σ.aU k=some e):=by
  intro k e hk
  simp only[cm] at hk
  cases hq:fU k0 k<;>simp only[hq,cond_true,cond_false] at hk
  ·exact .inr ⟨fun e=>(wA.1 hq) e.symm,hk⟩
  ·cases hk;exact .inl ⟨(lM.1 hq).symm,rfl⟩
 obtain⟨l1,lo,ht0,IJ⟩:=cF.lock (h.cT k0 _ he:cF E w F true ar (kv k0) (fp k0))
 have hn:(l1++lo).Nodup:=IJ.nodup_iff.1 (h.nodup k0 _ he)
 rw[nH] at hn
 have hm:∀b,b∈fp k0↔b∈l1\/b∈lo:=fun b=>by rw[IJ.mem_iff,gA]
 let F':Nat->Prop:=fun c=>F c\/c∈lo
 let fp':Key->List Nat:=bx fp k0 l1
 have yK:∀k,k≠k0->fp' k=fp k:=fun k hk=>kf hk
 have TV:fp' k0=l1:=gW
 have hF:∀b,F b->F' b:=fun b hb=> .inl hb
 have hF2:∀b,F' b->F b\/b∈fp k0:=fun b hb=>hb.imp id fun g=>(hm b).2 (.inr g)
 have nT:∀b∈fp' k0,b∈fp k0/\¬F' b:=fun b hb=>by
  rw[TV] at hb
  have js:=(hm b).2 (.inl hb)
  exact⟨js,fun g=>g.elim (h.cU k0 _ b he js).1 fun g=>hn.2.2 b hb b g rfl⟩
 have oB:(fp' k0).Nodup:=by rw[TV];exact hn.1
 have mF:∀b,F b->F' b/\w.heap[b]? =w.heap[b]? :=fun b hb=>⟨hF b hb,rfl⟩
 have nd:∀k,mz w w kv kv fp fp' (aZ σ) (aZ ({σ with iZ:=(k0,some (eX.li ar))::σ.iZ,ay:=k0::σ.ay}:ah U)) k:=by
  intro k
  refine⟨rfl,?_⟩
  by_cases hk:k=k0
  ·left
   subst hk
   simp[aZ,qd]
  ·cases hb:aZ σ k
   ·right;exact⟨rfl,yK k hk,fun _ _=> .of rfl⟩
   ·left
    simp only[aZ,Ee] at hb⊢
    rcases hb with hb|hb
    ·left;rw[Rs,hb,Bool.or_true]
    ·right
     show(cm ((k0,some (eX.li ar))::σ.iZ) k).isNone=true
     have hq:fU k0 k=false:=wA.2 fun e=>hk e.symm
     simp only[cm,hq,cond_false]
     exact hb
 have mT:∀k e b,σ.aU k=some e->k≠k0->b∈fp k->¬F' b:=fun k e b GF hk hb aI=>by
  rcases hF2 b aI with g|g
  ·exact(h.cU k e b GF hb).1 g
  ·exact h.apart k k0 e _ b hk GF he hb g
 obtain⟨tk,ht⟩:=h.bQ
 have HY:∀k,k≠k0->bx tk k0 lo k=tk k:=fun k hk=>kf hk
 have hts:bx tk k0 lo k0=lo:=gW
 have aeF:∀b∈lo,¬F b:=fun b hb=>(h.cU k0 _ b he ((hm b).2 (.inr hb))).1
 refine⟨F',fp',⟨h.size,h.defers,fun s x hx=>(h.bw s x hx).move (fun k _=>nd k) mF,fun k e hk=> ?_,fun k k' e e' b cO h1 h2 hb=> ?_,fun k e hk=> ?_,fun k e b hk hb=> ?_,fun b hb=> ?_,fun b hb=> ?_,h.upto,h.HW,h.lay.cI mF,⟨bx tk k0 lo,?_,?_,?_,?_⟩⟩⟩
 ·rcases eF k e hk with⟨rfl,rfl⟩|⟨cO,GF⟩
  ·trivial
  ·rw[yK k cO]
   have h1:=h.cT k e GF
   cases e with
   |arr a d=>exact cF.cI h1 mF (fun _ _=>rfl)
   |part a d=>exact cM.cI h1 mF (fun _ _=>rfl)
   |box cs=>
    obtain⟨b,cur,e',g1,g2,g3,g4⟩:=h1
    exact⟨b,cur,e',g1,g2,g3,g4.move (fun _ _ k _=>nd k) mF⟩
   |nA x i y=>
    obtain⟨g1,g2,g3,b,n,c,u,g4,g5,g6,g7⟩:=h1
    exact⟨cM.cI g1 mF (fun _ _=>rfl),g2,g3,b,n,c,u,g4,g5,g6,g7.move (fun k _=>nd k) mF⟩
   |li x=>trivial
   |Dw x i=>trivial
   |fz x=>trivial
 ·rcases eF k e h1 with⟨rfl,_⟩|⟨n1,g1⟩
  ·rcases eF k' e' h2 with⟨rfl,_⟩|⟨n2,g2⟩
   ·exact absurd rfl cO
   ·rw[yK k' n2]
    exact h.apart _ k' _ _ b cO he g2 (nT b hb).1
  ·rw[yK k n1] at hb
   rcases eF k' e' h2 with⟨rfl,_⟩|⟨n2,g2⟩
   ·exact fun aI=>h.apart k _ _ _ b cO g1 he hb (nT b aI).1
   ·rw[yK k' n2]
    exact h.apart k k' _ _ b cO g1 g2 hb
 ·rcases eF k e hk with⟨rfl,_⟩|⟨n1,g1⟩
  ·exact oB
  ·rw[yK k n1];exact h.nodup k e g1
 ·rcases eF k e hk with⟨rfl,_⟩|⟨n1,g1⟩
  ·obtain⟨g1,g2⟩:=nT b hb
   exact⟨g2,(h.cU _ _ b he g1).2⟩
  ·rw[yK k n1] at hb
   exact⟨mT k e b g1 n1 hb,(h.cU k e b g1 hb).2⟩
 ·rcases hF2 b hb with g|g
  ·exact h.lT b g
  ·exact(h.cU k0 _ b he g).2.2
 ·rcases hF2 b hb with g|g
  ·exact h.ny b g
  ·exact .inr (h.cU k0 _ b he g).2.1
 ·intro k e hk hl
  rcases eF k e hk with⟨rfl,rfl⟩|⟨cO,GF⟩
  ·rw[TV,hts]
   exact mA.cI ht0 mF (fun _ _=>rfl) (fun _ _=>rfl)
  ·rw[yK k cO,HY k cO]
   exact(ht.str k e GF hl).cI mF (fun _ _=>rfl) (fun _ _=>rfl)
 ·intro k e hk hl
  rcases eF k e hk with⟨rfl,rfl⟩|⟨cO,GF⟩
  ·rw[hts];exact hn.2.1
  ·rw[HY k cO];exact ht.nodup k e GF hl
 ·intro k k' e e' b cO h1 h2 hl zh hb
  rcases eF k e h1 with⟨rfl,rfl⟩|⟨n1,g1⟩
  ·rcases eF k' e' h2 with⟨rfl,_⟩|⟨n2,g2⟩
   ·exact absurd rfl cO
   ·rw[hts] at hb
    rw[HY k' n2]
    exact fun aI=>aeF b hb (ht.own k' e' b g2 zh aI).1
  ·rw[HY k n1] at hb
   rcases eF k' e' h2 with⟨rfl,rfl⟩|⟨n2,g2⟩
   ·rw[hts]
    exact fun aI=>aeF b aI (ht.own k e b g1 hl hb).1
   ·rw[HY k' n2]
    exact ht.apart k k' e e' b cO g1 g2 hl zh hb
 ·intro k e b hk hl hb
  rcases eF k e hk with⟨rfl,rfl⟩|⟨n1,g1⟩
  ·rw[hts] at hb
   exact⟨.inr hb,(h.cU _ _ b he ((hm b).2 (.inr hb))).2.1⟩
  ·rw[HY k n1] at hb
   have:=ht.own k e b g1 hl hb
   exact⟨.inl this.1,this.2⟩
theorem adG:∀{l:List Key}{σ:ah U}{F:Nat->Prop}{fp:Key->List Nat},cd E pm F kv fp σ a w->∃F' fp',cd E pm F' kv fp' (l.foldl (fun σ k=>C5 k σ) σ) a w
 |[],_,F,fp,h=>⟨F,fp,h⟩
 |k::l,σ,F,fp,h=>by
  obtain⟨F1,K4,h1⟩:=anM h k
  exact adG (l:=l) h1
theorem anK{l:List Key}(h:cd E pm F kv fp σ a w)(hc:ej E w F kv fp σ a):∃F' fp',cd E pm F' kv fp' (LO l σ) a w/\ej E w F' kv fp' (LO l σ) a:=by
 cases l with
 |nil=>exact⟨F,fp,h,hc⟩
 |cons k l=>
  obtain⟨F1,K4,h1⟩:=adG (l:=k::l) h
  exact⟨F1,K4,CR h1 _,MT h1 _⟩
theorem cM.fill{x b0:fK U}{v u:Value}{l l2:List Nat}{i b n c:Nat}{y:U.T x.τ}(h:cM E w F (fun j=>Nat.beq j i) x v l)(hw:U.wd x.τ=1)(hi:i<x.xs.length)
  (hv:v=.slice (some ⟨b,0,none⟩) n c) (hu:w.cell? ⟨b,i,none⟩=some u) (hr2:Rp E w F true (.sl b0.τ b0.xs) u l2) (hy:U.dec x.τ [.sl b0.τ b0.xs]=some y):
  ∃l',cF E w F true ⟨x.τ,x.xs.set i y⟩ v l'/\List.Perm l' (l++l2):=by
 have hey:U.enc x.τ y=[.sl b0.τ b0.xs]:=U.jn _ _ _ hy
 rcases h with⟨g,_⟩|⟨b',cap,cur,vs,dH,Eh,hb,hc,hm,hs,HX,hr,hd,rfl⟩
 ·rw[g] at hi;simp at hi
 rw[hv] at Eh
 simp only[Value.slice.injEq,eZ,Addr.mk.injEq,and_true] at Eh
 obtain⟨rfl,rfl,rfl⟩:=Eh
 subst hv
 have hlen:(x.xs.set i y).length=x.xs.length:=zF
 have hiw:i<x.xs.length*U.wd x.τ:=by rw[hw,Nat.mul_one];exact hi
 have hvi:vs i=u:=by
  have h1:=(HX i hiw).1
  have h2:w.cell? ⟨b,i,none⟩=cur[i]? :=by simp[World.cell?,hb]
  rw[h2,h1] at hu
  cases hu;rfl
 let dV:Nat->List Nat:=fun m=>if m=i then l2 else dH m
 have hfi:dH i=[]:=by
  have:=hd i 0 (by simp) (by rw[hw];exact Nat.one_pos)
  simpa[hw] using this
 refine⟨b::(List.range (x.xs.length*U.wd x.τ)).flatMap dV,.inr ⟨b,c,cur,vs,dV,?_,hb,?_,hm,hs,fun m sY=> ?_,fun i' z j c' hz hj=> ?_,?_⟩,?_⟩
 ·rw[show(fK.mk x.τ (x.xs.set i y)).xs.length=x.xs.length from hlen]
 ·rw[show(fK.mk x.τ (x.xs.set i y)).xs.length=x.xs.length from hlen];exact hc
 ·rw[show(fK.mk x.τ (x.xs.set i y)).xs.length=x.xs.length from hlen] at sY
  exact(HX m sY).1
 ·have LS:(x.xs.set i y)[i']? =some z:=hz
  have pg:(U.enc x.τ z)[j]? =some c':=hj
  rw[Ov] at LS
  show Rp E w F true c' (vs (i'*U.wd x.τ+j)) (dV (i'*U.wd x.τ+j))
  have LZ:j<1:=by
   rw[<-hw,<-U.cP x.τ z]
   rcases lR j (U.enc x.τ z).length with g|g
   ·exact g
   ·rw[lU g] at pg;cases pg
  have hj0:j=0:=by omega
  subst hj0
  by_cases hii:i=i'
  ·subst hii
   rw[if_pos rfl,if_pos hi] at LS
   cases LS
   rw[hey] at pg
   simp only[sT,eZ] at pg
   subst pg
   rw[hw,Nat.mul_one,Aj,hvi]
   simp only[dV,if_pos]
   exact hr2
  ·rw[if_neg hii] at LS
   have h1:=hr i' z 0 c' (by rw[<-Al,Oq];exact fun e=>hii e.symm) LS pg
   rw[hw,Nat.mul_one,Aj] at h1⊢
   simp only[dV,if_neg (Ne.symm hii)]
   exact h1
 ·rw[show(fK.mk x.τ (x.xs.set i y)).xs.length=x.xs.length from hlen]
 ·refine List.Perm.cons _ ((MV dV hiw).trans ?_)
  have e1:dV i=l2:=by simp[dV]
  have e2:((List.range (x.xs.length*U.wd x.τ)).flatMap fun m=>if m=i then[] else dV m)=(List.range (x.xs.length*U.wd x.τ)).flatMap dH:=mq fun m _=>by
   by_cases VP:m=i
   ·subst VP;rw[if_pos rfl,hfi]
   ·rw[if_neg VP];simp only[dV,if_neg VP]
  rw[e1,e2]
  exact List.perm_append_comm
theorem amQ(h:cd E pm F kv fp σ a w)(k0:Key):∃fp',cd E pm F kv fp' (Ih k0 σ) a w:=by
 unfold Ih
 split
 rotate_left
 ·exact⟨fp,h⟩
 rename_i ar i t he
 split
 rotate_left
 ·exact⟨fp,h⟩
 rename_i b0 sR
 split
 rotate_left
 ·exact⟨fp,h⟩
 rename_i y hy
 rw[fc]
 split
 ·exact⟨fp,h⟩
 rename_i hkt
 rw[lM] at hkt
 obtain⟨g1,g2,g3,b,n,c,u,g4,g5,g6,g7⟩:=(h.cT k0 _ he:lm E w F kv fp (aZ σ) (.nA ar i (.ref t [])) (kv k0) (fp k0))
 have hu:u=kv t:=by
  have:=bG g7 rfl
  simp only[RA,mg] at this
  exact this
 have hot:cF E w F true b0 (kv t) (fp t):=h.cT t _ sR
 obtain⟨l',kz,IJ⟩:=g1.fill (b0:=b0) g2 g3 g4 g6 (by rw[hu];exact hot.rp) hy
 have pa:∀b,b∈l'↔b∈fp k0\/b∈fp t:=fun b=>by rw[IJ.mem_iff,gA]
 have oB:l'.Nodup:=by
  rw[IJ.nodup_iff,nH]
  exact⟨h.nodup _ _ he,h.nodup _ _ sR,fun x hx z hz e=>h.apart k0 t _ _ x hkt he sR hx (e▸hz)⟩
 let lK:ah U:={σ with iZ:=(k0,some (eX.arr ⟨ar.τ,ar.xs.set i y⟩ true))::(t,none)::σ.iZ,ay:=k0::σ.ay}
 have eF:∀k e,lK.aU k=some e->(k=k0/\e=eX.arr ⟨ar.τ,ar.xs.set i y⟩ true)\/(k≠k0/\k≠t/\σ.aU k=some e):=by
  intro k e hk
  replace hk:=(CU _ _ _ _).symm.trans hk
  split at hk
  ·rename_i e1;cases hk;exact .inl ⟨e1.symm,rfl⟩
  ·rename_i e1
   rw[CU] at hk
   split at hk
   ·cases hk
   ·rename_i e2;exact .inr ⟨Ne.symm e1,Ne.symm e2,hk⟩
 let fp':Key->List Nat:=bx fp k0 l'
 have yK:∀k,k≠k0->fp' k=fp k:=fun k hk=>kf hk
 have TV:fp' k0=l':=gW
 have mF:∀b,F b->F b/\w.heap[b]? =w.heap[b]? :=fun b hb=>⟨hb,rfl⟩
 have nd:∀k,mz w w kv kv fp fp' (aZ σ) (aZ lK) k:=by
  intro k
  refine⟨rfl,?_⟩
  by_cases hk:k=k0
  ·left;subst hk;simp[aZ,lK,qd]
  ·by_cases eS:k=t
   ·left
    subst eS
    have:lK.aU k=none:=by
     show cm _ k=none
     rw[CU,if_neg (Ne.symm hk),CU,if_pos rfl]
    simp[aZ,this]
   ·cases hb:aZ σ k
    ·right;exact⟨rfl,yK k hk,fun _ _=> .of rfl⟩
    ·left
     have e1:lK.aU k=σ.aU k:=by
      show cm _ k=cm σ.iZ k
      rw[CU,if_neg (Ne.symm hk),CU,if_neg (Ne.symm eS)]
     simp only[aZ,Ee] at hb⊢
     rw[e1]
     rcases hb with hb|hb
     ·left;show(k0::σ.ay).any _=true;rw[Rs,hb,Bool.or_true]
     ·exact .inr hb
 refine⟨fp',⟨h.size,h.defers,fun s x hx=>(h.bw s x hx).move (fun k _=>nd k) mF,fun k e hk=> ?_,fun k k' e e' b cO h1 h2 hb=> ?_,fun k e hk=> ?_,fun k e b hk hb=> ?_,h.lT,h.ny,h.upto,h.HW,h.lay,h.bQ.imp fun tk ht=>ht.cI (fun k e hk hl=>by
   rcases eF k e hk with⟨rfl,rfl⟩|⟨cO,_,GF⟩
   ·cases hl
   ·exact⟨GF,rfl,yK k cO,fun _ _=>rfl⟩) mF⟩⟩
 ·rcases eF k e hk with⟨rfl,rfl⟩|⟨cO,_,GF⟩
  ·rw[TV];exact kz
  ·rw[yK k cO]
   have h1:=h.cT k e GF
   cases e with
   |arr a d=>exact h1
   |part a d=>exact h1
   |box cs=>
    obtain⟨b,cur,e',g1,g2,g3,g4⟩:=h1
    exact⟨b,cur,e',g1,g2,g3,g4.move (fun _ _ k _=>nd k) mF⟩
   |nA x i y=>
    obtain⟨g1,g2,g3,b,n,c,u,g4,g5,g6,g7⟩:=h1
    exact⟨g1,g2,g3,b,n,c,u,g4,g5,g6,g7.move (fun k _=>nd k) mF⟩
   |li x=>trivial
   |Dw x i=>trivial
   |fz x=>trivial
 ·rcases eF k e h1 with⟨rfl,_⟩|⟨n1,n3,q1⟩
  ·rcases eF k' e' h2 with⟨rfl,_⟩|⟨n2,n4,g2⟩
   ·exact absurd rfl cO
   ·rw[yK k' n2]
    rw[TV] at hb
    rcases(pa b).1 hb with hb|hb
    ·exact h.apart _ k' _ _ b cO he g2 hb
    ·exact h.apart _ k' _ _ b (Ne.symm n4) sR g2 hb
  ·rw[yK k n1] at hb
   rcases eF k' e' h2 with⟨e2,_⟩|⟨n2,n4,g2⟩
   ·rw[e2,TV]
    rw[e2] at cO
    intro aI
    rcases(pa b).1 aI with aI|aI
    ·exact h.apart k k0 _ _ b cO q1 he hb aI
    ·exact h.apart k t _ _ b n3 q1 sR hb aI
   ·rw[yK k' n2]
    exact h.apart k k' _ _ b cO q1 g2 hb
 ·rcases eF k e hk with⟨rfl,_⟩|⟨n1,_,g1⟩
  ·rw[TV];exact oB
  ·rw[yK k n1];exact h.nodup k e g1
 ·rcases eF k e hk with⟨rfl,_⟩|⟨n1,_,g1⟩
  ·rw[TV] at hb
   rcases(pa b).1 hb with hb|hb
   ·exact h.cU _ _ b he hb
   ·exact h.cU _ _ b sR hb
  ·rw[yK k n1] at hb
   exact h.cU k e b g1 hb
theorem ZJ:∀{l:List Key}{σ:ah U}{fp:Key->List Nat},cd E pm F kv fp σ a w->∃fp',cd E pm F kv fp' (l.foldl (fun σ k=>Ih k σ) σ) a w
 |[],_,fp,h=>⟨fp,h⟩
 |k::l,σ,fp,h=>by
  obtain⟨K4,h1⟩:=amQ h k
  exact ZJ (l:=l) h1
theorem amP(h:cd E pm F kv fp σ a w):∃fp',cd E pm F kv fp' (F6 σ) a w:=by
 unfold F6
 split
 ·exact⟨fp,h⟩
 ·obtain⟨K4,h1⟩:=ZJ (l:=LP σ) h
  exact⟨K4,CR h1 _⟩
theorem amN{l:List Key}(h:cd E pm F kv fp σ a w)(hc:ej E w F kv fp σ a):∃fp',cd E pm F kv fp' (LD l σ) a w/\ej E w F kv fp' (LD l σ) a:=by
 cases l with
 |nil=>exact⟨fp,h,hc⟩
 |cons k l=>
  obtain⟨K4,h1⟩:=ZJ (l:=k::l) h
  exact⟨K4,CR h1 _,MT h1 _⟩
theorem cM.any{dead:Nat->Bool}{x:fK U}{v:Value}{l:List Nat}(h:cM E w F dead x v l):cM E w F' dead x v l:=by
 rcases h with h|⟨b,cap,cur,vs,dH,rfl,hb,hc,hm,hs,hv,hr,hd,rfl⟩
 ·exact .inl h
 ·exact .inr ⟨b,cap,cur,vs,dH,rfl,hb,hc,hm,hs,hv,fun i x j c hi hx hj=>(hr i x j c hi hx hj).oV (fun _ _=>rfl),hd,rfl⟩
theorem RD.plain{bad bad':Key->Bool}{x:AC U}{v:Value}(h:RD E w F kv fp bad x v)(hp:Ax x=true):RD E w F' kv fp' bad' x v:=by
 unfold Ax at hp
 refine⟨h.1,?_⟩
 rcases h with⟨_,h⟩
 split at hp
 ·right
  rcases h with h|h
  ·cases h
  ·simp only[RA] at h⊢
   cases h with
   |lit _ _ h=>exact .lit _ _ h
 ·right
  rcases h with h|h
  ·simp[gg] at h
  ·exact h
 ·right
  rcases h with h|h
  ·cases h
  ·exact h
 ·right
  rcases h with h|h
  ·cases h
  ·exact h
 ·cases hp
theorem F7(hf:KZ σ=true){k:Key}{e:eX U}(h:(unlock σ).aU k=some e):∃e0,σ.aU k=some e0/\OE e0=some e:=by
 unfold unlock at h
 rw[hf,cond_true] at h
 have h1:=yV h
 obtain⟨⟨k',e'⟩,hm,hp⟩:=jX.1 h1
 simp only[kG] at hp
 obtain⟨rfl,he⟩:=hp
 cases e' with
 |none=>cases he
 |some e'=>
  have h2:=OS MQ.1 hm
  rw[OO (by simp)] at h2
  exact⟨e',h2,he⟩
theorem R7{e0 e:eX U}(h:OE e0=some e):e.wk=false:=by
 unfold OE at h
 split at h
 ·cases h;rfl
 ·cases h;rfl
 ·cases h;rfl
 ·rw[fc] at h;split at h<;>cases h;rfl
 ·rw[fc] at h;split at h<;>cases h;rfl
 ·cases h
open Classical in
theorem al_(h:cd E pm F kv fp σ a w)(hl:∀p∈E.CE,¬pm.W p.1/\p.1<pm.w0.heap.size):∃F' fp',cd E pm F' kv fp' (unlock σ) a w:=by
 cases hf:KZ σ with
 |false=>exact⟨F,fp,by unfold unlock;rw[hf,cond_false];exact h⟩
 |true=>
  obtain⟨tk,ht⟩:=h.bQ
  let F':Nat->Prop:=fun b=>F b/\∀k x,σ.aU k=some (.li x)->b∉tk k
  have hex:∀k x,σ.aU k=some (.li x)->∃l',cF E w F true x (kv k) l'/\List.Perm l' (fp k++tk k):=fun k x hk=>mA.perm (ht.str k _ hk rfl)
  have ox:∀k,∃l',∀x,σ.aU k=some (.li x)->cF E w F true x (kv k) l'/\List.Perm l' (fp k++tk k):=fun k=>by
   by_cases hk:∃x,σ.aU k=some (.li x)
   ·obtain⟨x,hx⟩:=hk
    obtain⟨l',g⟩:=hex k x hx
    refine⟨l',fun y hy=> ?_⟩
    rw[hx] at hy
    cases hy
    exact g
   ·exact⟨[],fun x hx=>absurd ⟨x,hx⟩ hk⟩
  let fp':Key->List Nat:=fun k=>if∃x,σ.aU k=some (.li x) then Classical.choose (ox k) else fp k
  have hf1:∀k x,σ.aU k=some (.li x)->cF E w F true x (kv k) (fp' k)/\List.Perm (fp' k) (fp k++tk k):=fun k x hk=>by
   have e:fp' k=Classical.choose (ox k):=if_pos ⟨x,hk⟩
   rw[e]
   exact Classical.choose_spec (ox k) x hk
  have hf2:∀k,(∀x,σ.aU k≠some (.li x))->fp' k=fp k:=fun k hk=>if_neg (fun⟨x,hx⟩=>hk x hx)
  have pa:∀k e b,σ.aU k=some e->b∈fp' k->b∈fp k\/(∃x,e=.li x/\b∈tk k):=fun k e b hk hb=>by
   by_cases hx:∃x,σ.aU k=some (.li x)
   ·obtain⟨x,hx⟩:=hx
    rw[hk] at hx
    cases hx
    rw[(hf1 k x hk).2.mem_iff,gA] at hb
    exact hb.imp id fun g=>⟨x,rfl,g⟩
   ·rw[hf2 k (fun x E3=>hx ⟨x,E3⟩)] at hb
    exact .inl hb
  have hn:(unlock σ).n=σ.n:=by unfold unlock;rw[hf];rfl
  have hs0:∀s,(unlock σ).get s=none:=fun s=>by unfold unlock;rw[hf];rfl
  have hd0:(unlock σ).ay=[]:=by unfold unlock;rw[hf];rfl
  refine⟨F',fp',⟨by rw[hn];exact h.size,h.defers,fun s x hx=>(by rw[hs0] at hx;cases hx),fun k e hk=> ?_,fun k k' e e' b cO h1 h2 hb=> ?_,fun k e hk=> ?_,fun k e b hk hb=> ?_,fun b hb=>h.lT b hb.1,fun b hb=>h.ny b hb.1,h.upto,by rw[hn];exact h.HW,fun p hp=> ?_,tk,?_,?_,?_,?_⟩⟩
  ·obtain⟨e0,iX,hu⟩:=F7 hf hk
   have h1:=h.cT k e0 iX
   unfold OE at hu
   split at hu
   ·cases hu
    exact(hf1 k _ iX).1.any
   ·cases hu
    rw[hf2 k (fun x hx=>by rw[iX] at hx;cases hx)]
    exact cF.any h1
   ·cases hu
    rw[hf2 k (fun x hx=>by rw[iX] at hx;cases hx)]
    exact cM.any h1
   ·rw[fc] at hu
    split at hu
    ·rename_i wl
     cases hu
     rw[hf2 k (fun x hx=>by rw[iX] at hx;cases hx)]
     obtain⟨g1,g2,g3,b,n,c,u,g4,g5,g6,g7⟩:=h1
     exact⟨cM.any g1,g2,g3,b,n,c,u,g4,g5,g6,g7.plain wl⟩
    ·cases hu
   ·rw[fc] at hu
    split at hu
    ·rename_i wl
     cases hu
     rw[hf2 k (fun x hx=>by rw[iX] at hx;cases hx)]
     obtain⟨b,cur,e',g1,g2,g3,g4⟩:=h1
     exact⟨b,cur,e',g1,g2,g3,g4.1,fun i x v hx hv=>(g4.2 i x v hx hv).plain (FU.1 wl x (Ep hx))⟩
    ·cases hu
   ·cases hu
  ·obtain⟨e0,iX,_⟩:=F7 hf h1
   obtain⟨e1,L5,_⟩:=F7 hf h2
   intro aI
   rcases pa k e0 b iX hb with g|⟨x,rfl,g⟩
   ·rcases pa k' e1 b L5 aI with g'|⟨x',rfl,g'⟩
    ·exact h.apart k k' _ _ b cO iX L5 g g'
    ·exact(h.cU k e0 b iX g).1 (ht.own k' _ b L5 rfl g').1
   ·rcases pa k' e1 b L5 aI with g'|⟨x',rfl,g'⟩
    ·exact(h.cU k' e1 b L5 g').1 (ht.own k _ b iX rfl g).1
    ·exact ht.apart k k' _ _ b cO iX L5 rfl rfl g g'
  ·obtain⟨e0,iX,_⟩:=F7 hf hk
   by_cases hx:∃x,σ.aU k=some (.li x)
   ·obtain⟨x,hx⟩:=hx
    rw[(hf1 k x hx).2.nodup_iff,nH]
    exact⟨h.nodup k _ hx,ht.nodup k _ hx rfl,fun b hb c hc e=>(h.cU k _ b hx hb).1 (ht.own k _ b hx rfl (e▸hc)).1⟩
   ·rw[hf2 k (fun x E3=>hx ⟨x,E3⟩)]
    exact h.nodup k e0 iX
  ·obtain⟨e0,iX,_⟩:=F7 hf hk
   rcases pa k e0 b iX hb with g|⟨x,rfl,g⟩
   ·have:=h.cU k e0 b iX g
    exact⟨fun g'=>this.1 g'.1,this.2⟩
   ·have:=ht.own k _ b iX rfl g
    exact⟨fun g'=>g'.2 k x iX g,this.2,h.lT b this.1⟩
  ·obtain⟨g1,g2⟩:=h.lay p hp
   refine⟨⟨g1,fun k x hk hb=> ?_⟩,g2⟩
   have:=(ht.own k _ p.1 hk rfl hb).2
   have h2:=hl p hp
   rcases this with g|g
   ·exact h2.1 g
   ·omega
  ·intro k e hk pT
   obtain⟨e0,iX,hu⟩:=F7 hf hk
   rw[R7 hu] at pT;cases pT
  ·intro k e hk pT
   obtain⟨e0,iX,hu⟩:=F7 hf hk
   rw[R7 hu] at pT;cases pT
  ·intro k k' e e' b _ hk _ pT
   obtain⟨e0,iX,hu⟩:=F7 hf hk
   rw[R7 hu] at pT;cases pT
  ·intro k e b hk pT
   obtain⟨e0,iX,hu⟩:=F7 hf hk
   rw[R7 hu] at pT;cases pT
theorem an_(h:cd E pm F kv fp σ a w)(hl:∀p∈E.CE,¬pm.W p.1/\p.1<pm.w0.heap.size)(rs:List ResultVar):∃F' fp',cd E pm F' kv fp' (I2 rs σ) a w:=by
 unfold I2
 split
 ·obtain⟨F1,K4,h1⟩:=al_ (CR h (fun _=>false)) hl
  obtain⟨fp2,h2⟩:=amP h1
  exact⟨F1,fp2,h2⟩
 ·exact⟨F,fp,CR h _⟩
end AM
