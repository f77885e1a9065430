import Derived.Test.YtnndcpncmmcaaaaGreatQAmOps9
import Derived.Test.YtnndcpncmmcaaaaGreatQAmPart2
namespace AM
set_option linter.unusedVariables false
open Go
variable{U:jO}{E:Env U}{pm:Pm}
variable{F F':Nat->Prop}{kv:Key->Value}{fp:Key->List Nat}{σ s8:ah U}{a:Act}{w w':World}{bad:Key->Bool}
def lays(o:Oper)(r:bz U):List (Key×Option (eX U)):=kX (o.dst.getD 1000000) r.ct++r.fM.map (fun(k,e)=>(k,some e))++r.gH.map (fun k=>(k,none))
theorem yZ(o:Oper)(r:bz U)(σ:ah U)(k:Key):(AM.apply o r σ).aU k=if(lays o r).any (fun p=>fU p.1 k) then cm (lays o r) k else σ.aU k:=by
 show cm (lays o r++σ.iZ) k=_
 rw[CV]
 rfl
theorem cd.conv(h:cd E pm F kv fp σ a w){k:Key}{e1 e2:eX U}(h1:σ.aU k=some e1)(hn:s8.n=σ.n)(hs:∀s,s8.get s=σ.get s)(hd:∀k,s8.ay.any (fU k)=σ.ay.any (fU k))
  (ho:∀k',k'≠k->s8.aU k'=σ.aU k') (h2:s8.aU k=some e2) (hl:e2.wk=false) (hR:lm E w F kv fp (aZ σ) e1 (kv k) (fp k)->lm E w F kv fp (aZ σ) e2 (kv k) (fp k)):cd E pm F kv fp s8 a w:=by
 have hb:aZ s8=aZ σ:=by
  funext k'
  unfold aZ
  rw[hd]
  by_cases hk:k'=k
  ·subst hk;rw[h1,h2];rfl
  ·rw[ho k' hk]
 have hold:∀k' e,s8.aU k'=some e->∃e',σ.aU k'=some e':=fun k' e he=>by
  by_cases hk:k'=k
  ·subst hk;exact⟨_,h1⟩
  ·exact⟨e,by rw[<-ho k' hk];exact he⟩
 refine⟨by rw[hn];exact h.size,h.defers,fun s x hx=> ?_,fun k' e he=> ?_,fun k1 k2 e e' b cO g1 g2=> ?_,fun k' e he=> ?_,fun k' e b he=> ?_,h.lT,h.ny,h.upto,by rw[hn];exact h.HW,h.lay,h.bQ.imp fun tk ht=>ht.cI (fun k' e he pT=> ?_) (fun b hb=>⟨hb,rfl⟩)⟩
 ·rw[hb];exact h.bw s x (by rw[<-hs];exact hx)
 ·rw[hb]
  by_cases hk:k'=k
  ·subst hk;rw[h2] at he;cases he;exact hR (h.cT _ _ h1)
  ·exact h.cT k' e (by rw[<-ho k' hk];exact he)
 ·obtain⟨x,q1⟩:=hold k1 e g1
  obtain⟨y,q2⟩:=hold k2 e' g2
  exact h.apart k1 k2 x y b cO q1 q2
 ·obtain⟨x,q1⟩:=hold k' e he
  exact h.nodup k' x q1
 ·obtain⟨x,q1⟩:=hold k' e he
  exact h.cU k' x b q1
 ·by_cases hk:k'=k
  ·subst hk;rw[h2] at he;cases he;rw[hl] at pT;cases pT
  ·exact⟨by rw[<-ho k' hk];exact he,rfl,rfl,fun _ _=>rfl⟩
theorem ad8{x b:fK U}{i:Nat}(h:FC x i=some b):U.enc x.τ (x.xs.getD i (U.dt x.τ))=[.sl b.τ b.xs]:=by
 unfold FC at h
 split at h
 ·rename_i τ ys e
  cases h;exact e
 ·cases h
theorem mq{α β:Type}{l:List α}{f g:α->List β}(h:∀x∈l,f x=g x):l.flatMap f=l.flatMap g:=by
 rw[J',J',Lp h]
theorem MV{α:Type}(f:Nat->List α):∀{N i:Nat},i<N->List.Perm ((List.range N).flatMap f) (f i++(List.range N).flatMap fun n=>if n=i then[] else f n)
 |0,i,h=>by omega
 |N+1,i,h=>by
  rw[List.range_succ,N3,N3]
  simp only[tV,Vo,sI]
  by_cases hi:i=N
  ·subst hi
   rw[if_pos rfl,sI]
   have e:(List.range i).flatMap (fun n=>if n=i then[] else f n)=(List.range i).flatMap f:=mq fun n hn=>if_neg (by have:=oh.1 hn;omega)
   rw[e]
   exact List.perm_append_comm
  ·rw[if_neg (Ne.symm hi),<-qc]
   exact(MV f (by omega:i<N)).append_right _
theorem ama(h:cd E pm F kv fp σ a w){o:Oper}(hd:∀d,o.dst=some d->d<σ.n){t:TypeId}{x:Operand}{k:Key}{i wd:Nat}{x0 b:fK U}{sx:SV U}(ho:o.op=.load t x)
  (hx:RD E w F kv fp (aZ σ) (.iC k [] i wd 0) (a.eval x)) (ol:Names σ k) (hs:E.size t=some 1) {g:Bool} (hg:E.isAgg t=some g)
  (he:σ.aU k=some (.arr x0 true)) (s9:wd=U.wd x0.τ) (hw2:wd=1) (yL:FC x0 i=some b) (hi:i<x0.xs.length) (jq:¬Names σ (o.dst.getD 1000000,0)) {ps:List Prop}
  {next:Act->World->Prop} {Q:Exit->Act->World->Prop}
  (hn:∀F kv fp a' w',cd E pm F kv fp (AM.apply o ⟨some (.v ⟨g,[.ref (o.dst.getD 1000000,0) []]⟩),[(0,.arr b true)],[],[(k,.nA x0 i (.ref (o.dst.getD 1000000,0) []))],ps,[]⟩ σ) a' w'->next a' w'):o.wp E.P a w next Q:=by
 have mH:U.wd x0.τ=1:=by rw[<-s9,hw2]
 have u6:=ad8 yL
 have kz:cF E w F true x0 (kv k) (fp k):=h.cT k _ he
 obtain⟨bb,cap,us,gl,l',e1,e2,e3,e4,e5,e6,e7,e8⟩:=(cF.part kz).out (h.nodup k _ he) (i:=i) (off:=0) (n:=1) hi rfl (by omega)
 obtain⟨u,rfl⟩:∃u,us=[u]:=by match us,e2 with|[u],_=>exact⟨u,rfl⟩
 obtain⟨l1,rfl⟩:∃l1,gl=[l1]:=by match gl,e3 with|[l1],_=>exact⟨l1,rfl⟩
 obtain⟨b2,o2,n2,c2,iz,LX⟩:=bG hx (by simp[gg])
 simp only[mg] at iz
 rw[e1] at iz
 simp only[Value.slice.injEq,eZ,Addr.mk.injEq,and_true] at iz
 obtain⟨⟨r1,r2⟩,_,_⟩:=iz
 rw[r1,r2,oz,Aj] at LX
 have TW:=e4 0 u rfl
 obtain⟨v,NA,Nz⟩:=MW (us:=[u]) (b:=bb) (off:=i*wd) hs hg (by cases g<;>rfl) rfl (fun j u' kM=>by
  have:=e4 j u' kM
  rw[<-s9,Aj] at this
  exact this)
 have fB:Rp E w F true (.sl b.τ b.xs) u l1:=by
  have:=e5 0 (.sl b.τ b.xs) (by rw[u6];rfl)
  simpa using this
 let D:eV U:=[(0,.arr b true,u,l1)]
 have RB:=h.split (o:=o) hd D k _ (.nA x0 i (.ref (o.dst.getD 1000000,0) [])) he (.v ⟨g,[.ref (o.dst.getD 1000000,0) []]⟩) ps v l' (by simp[D]) ?_ ol ?_ ?_ ?_ (by simpa[D,eV.bl] using e7) (by simpa[D,eV.bl] using e8) rfl (fun s hs=>by rw[g_.1 hs];rfl)
 ·obtain⟨kv',fp',la⟩:=RB
  refine pC (v:=v) ?_ (hn F kv' fp' _ _ la)
  unfold execOp;simp only[ho,LX];exact gF NA
 ·intro s hs;rw[g_.1 hs];exact jq
 ·intro kv' fp' bad hk
  have:=hk (0,.arr b true,u,l1) (by simp[D])
  exact⟨[u],⟨rfl,fun i x u' E3 kM=>by
   cases i with
   |zero=>
    simp only[sT,eZ] at E3 kM
    subst E3 kM
    exact⟨fB.dQ,.inr this.symm⟩
   |succ i=>simp at E3⟩,Nz⟩
 ·intro s hs kv fp bad
  rw[g_.1 hs]
  exact fB.ud
 ·intro kv' fp' bad hk
  have:=hk (0,.arr b true,u,l1) (by simp[D])
  have hf:(fun j=>Nat.beq j i||(fun _=>false) j)=fun j=>Nat.beq j i:=by funext j;simp
  rw[hf] at e6
  have rj:bb∈l':=by
   rcases e6 with⟨g,_⟩|⟨b3,atl,atj,vs3,atg,g1,_,_,_,_,_,_,_,g9⟩
   ·rw[g] at hi;simp at hi
   ·rw[e1] at g1
    simp only[Value.slice.injEq,eZ,Addr.mk.injEq,and_true] at g1
    rw[g9,g1.1];simp
  refine⟨e6,mH,hi,bb,_,cap,u,e1,rj,?_,fB.dQ,.inr this.symm⟩
  have:=e4 0 u rfl
  rw[mH,Nat.mul_one] at this
  simpa using this
theorem amb(h:cd E pm F kv fp σ a w){o:Oper}(hd:∀d,o.dst=some d->d<σ.n){t:TypeId}{x:Operand}{k:Key}{i wd:Nat}{x0 b:fK U}(ho:o.op=.load t x)
  (hx:RD E w F kv fp (aZ σ) (.iC k [] i wd 0) (a.eval x)) (ol:Names σ k) (hs:E.size t=some 1) (hg:E.isAgg t=some false)
  (he:σ.aU k=some (.li x0)) (s9:wd=U.wd x0.τ) (hw2:wd=1) (yL:FC x0 i=some b) (hi:i<x0.xs.length) (jq:¬Names σ (o.dst.getD 1000000,0)) {ps:List Prop}
  {next:Act->World->Prop} {Q:Exit->Act->World->Prop}
  (hn:∀F kv fp a' w',cd E pm F kv fp (AM.apply o ⟨some (one (.ref (o.dst.getD 1000000,0) [])),[(0,.fz b)],[],[(k,.Dw x0 i)],ps,[]⟩ σ) a' w'->next a' w'):o.wp E.P a w next Q:=by
 have mH:U.wd x0.τ=1:=by rw[<-s9,hw2]
 have u6:=ad8 yL
 obtain⟨tk,ht⟩:=h.bQ
 rcases ht.str k _ he rfl with⟨h0,_⟩|⟨bk,cap,cur,vs,dH,e1,hb,hc,hm,lh,hv,hr,jh,lN,H0⟩
 ·rw[h0] at hi;simp at hi
 have hN:x0.xs.length*U.wd x0.τ=x0.xs.length:=by rw[mH,Nat.mul_one]
 rw[hN] at lN H0
 obtain⟨b2,o2,n2,c2,iz,LX⟩:=bG hx (by simp[gg])
 simp only[mg] at iz
 rw[e1] at iz
 simp only[Value.slice.injEq,eZ,Addr.mk.injEq,and_true] at iz
 obtain⟨⟨r1,r2⟩,_,_⟩:=iz
 rw[r1,r2,oz,Aj,hw2,Nat.mul_one] at LX
 have qt:=dz (d:=U.dt x0.τ) hi
 have fB:Rp E w F true (.sl b.τ b.xs) (vs i) (dH i):=by
  have:=hr i _ 0 (.sl b.τ b.xs) (by simp) qt (by rw[u6];rfl)
  simpa[mH] using this
 have hci:w.cell? ⟨bk,i,none⟩=some (vs i):=by
  rw[cell_of_row w bk _ cur _ (0,0) hb]
  exact(hv i (by rw[hN];exact hi)).1
 obtain⟨v,NA,Nz⟩:=MW (us:=[vs i]) (b:=bk) (off:=i) hs hg (by rfl) rfl (fun j u' kM=>by
  match j,kM with
  |0,kM=>cases kM;exact hci
  |j+1,kM=>simp at kM)
 have hvv:v=vs i:=by simpa using Nz.symm
 subst hvv
 generalize hd0:o.dst.getD 1000000=d0 at jq hn
 have cO:k≠(d0,0):=fun e=>jq (e▸ol)
 let dV:Nat->List Nat:=fun n=>if n=i then[] else dH n
 let nf:List Nat:=bk::(List.range x0.xs.length).flatMap fun n=>(dV n).take 1
 let nt:List Nat:=(List.range x0.xs.length).flatMap fun n=>(dV n).drop 1
 have Tw:(fun n=>(dV n).take 1)=fun n=>if n=i then[] else(dH n).take 1:=by
  funext n;simp only[dV];split<;>simp
 have Oa:(fun n=>(dV n).drop 1)=fun n=>if n=i then[] else(dH n).drop 1:=by
  funext n;simp only[dV];split<;>simp
 have hpf:(fp k).Perm ((dH i).take 1++nf):=by
  rw[lN]
  show List.Perm _ ((dH i).take 1++bk::(List.range x0.xs.length).flatMap fun n=>(dV n).take 1)
  rw[Tw]
  exact((MV (fun n=>(dH n).take 1) hi).cons bk).trans List.perm_middle.symm
 have hpt:(tk k).Perm ((dH i).drop 1++nt):=by
  rw[H0]
  show List.Perm _ ((dH i).drop 1++(List.range x0.xs.length).flatMap fun n=>(dV n).drop 1)
  rw[Oa]
  exact MV (fun n=>(dH n).drop 1) hi
 have Od:=hpf.nodup_iff.1 (h.nodup k _ he)
 have TD:=hpt.nodup_iff.1 (ht.nodup k _ he rfl)
 rw[nH] at Od TD
 obtain⟨f1,f2,f3⟩:=Od
 obtain⟨t1,t2,t3⟩:=TD
 have inF:∀b',b'∈(dH i).take 1\/b'∈nf->b'∈fp k:=fun b' aI=>hpf.mem_iff.2 (gA.2 aI)
 have Rw:∀b',b'∈(dH i).drop 1\/b'∈nt->b'∈tk k:=fun b' aI=>hpt.mem_iff.2 (gA.2 aI)
 generalize nZ:(⟨some (one (.ref (d0,0) [])),[(0,.fz b)],[],[(k,.Dw x0 i)],ps,[]⟩:bz U)=r at hn
 have fq:ct o r=[(d0,0)]:=by rw[<-nZ];simp[ct,hd0]
 have fI:fM r=[k]:=by rw[<-nZ];rfl
 have lc:r.gH=[]:=by rw[<-nZ]
 have Ap:bx (bx fp k nf) (d0,0) ((dH i).take 1) (d0,0)=(dH i).take 1:=gW
 have KX:bx (bx fp k nf) (d0,0) ((dH i).take 1) k=nf:=by rw[kf cO,gW]
 have Dp:∀k',k'≠(d0,0)->k'≠k->bx (bx fp k nf) (d0,0) ((dH i).take 1) k'=fp k':=fun k' h1 h2=>by rw[kf h1,kf h2]
 have zb:bx (bx tk k nt) (d0,0) ((dH i).drop 1) (d0,0)=(dH i).drop 1:=gW
 have KI:bx (bx tk k nt) (d0,0) ((dH i).drop 1) k=nt:=by rw[kf cO,gW]
 have ov:∀k',k'≠(d0,0)->k'≠k->bx (bx tk k nt) (d0,0) ((dH i).drop 1) k'=tk k':=fun k' h1 h2=>by rw[kf h1,kf h2]
 have eF:∀k' e,(AM.apply o r σ).aU k'=some e->(k'=(d0,0)/\e=.fz b)\/(k'=k/\e=.Dw x0 i)\/(k'≠(d0,0)/\k'≠k/\σ.aU k'=some e):=by
  intro k' e bp
  by_cases g:k'∈ct o r\/k'∈fM r
  ·rcases Kn o r σ k' e bp g with⟨j,q1,q2⟩|q
   ·rw[<-nZ] at q2
    simp only[g_,kG] at q2
    rw[hd0,q2.1] at q1
    exact .inl ⟨q1,q2.2⟩
   ·rw[<-nZ] at q
    simp only[g_,kG] at q
    exact .inr (.inl q)
  ·simp only[not_or] at g
   rw[Km o r σ k' g.1 g.2 (by rw[lc];exact rh)] at bp
   rw[fq,fI] at g
   exact .inr (.inr ⟨by simpa using g.1,by simpa using g.2,bp⟩)
 refine pC (v:=vs i) ?_ (hn F (bx kv (d0,0) (vs i)) (bx (bx fp k nf) (d0,0) ((dH i).take 1)) _ _ (h.GY (F':=F) (w':=w) o r (vs i) hd ?_ ?_ ?_ ?_ (fun b hb=>⟨hb,rfl⟩) (fun _ _ _ _ _ _ _ _=>rfl) ?_ ?_ ?_ h.lT h.ny h.upto (og _) (fun k hk=>by rw[<-nZ] at hk;exact absurd hk rh) ⟨bx (bx tk k nt) (d0,0) ((dH i).drop 1),?_,?_,?_,?_⟩))
 ·unfold execOp;simp only[ho,LX];exact gF NA
 ·intro sv rD
  rw[<-nZ] at rD
  cases rD
  exact fT ⟨fB.dQ,.inr (by simp only[RA,gW];rfl)⟩
 ·intro k' bp;rw[fq] at bp;exact kf (by simpa using bp)
 ·intro k' bp vL;rw[fq] at bp;rw[fI] at vL;exact Dp k' (by simpa using bp) (by simpa using vL)
 ·intro k' bp;rw[fq] at bp;rw[g_.1 bp];exact jq
 ·intro k' e bp
  have vL:(k'=(d0,0)/\e=.fz b)\/(k'=k/\e=.Dw x0 i):=by
   rw[<-nZ] at bp
   rcases bp with⟨j,q1,q2⟩|q
   ·simp only[g_,kG] at q2
    rw[hd0,q2.1] at q1
    exact .inl ⟨q1,q2.2⟩
   ·simp only[g_,kG] at q
    exact .inr q
  rcases vL with⟨rfl,rfl⟩|⟨rfl,rfl⟩
  ·rw[Ap];exact⟨trivial,f1,fun b' aI=>h.cU k _ b' he (inF b' (.inl aI))⟩
  ·rw[KX];exact⟨trivial,f2,fun b' aI=>h.cU _ _ b' he (inF b' (.inr aI))⟩
 ·intro k' e' b' _ _ _ dr aI;exact(h.cU k' e' b' dr aI).1
 ·intro k1 k2 b' oc lg eS aI
  rw[fq,fI] at lg eS
  simp only[g_] at lg eS
  have q1:b'∈fp k:=by
   rcases lg with rfl|rfl
   ·rw[Ap] at aI;exact inF b' (.inl aI)
   ·rw[KX] at aI;exact inF b' (.inr aI)
  intro iY
  rcases eS with rfl|rfl|⟨_,eS⟩
  ·rcases lg with rfl|rfl
   ·exact oc rfl
   ·rw[KX] at aI;rw[Ap] at iY;exact f3 b' iY b' aI rfl
  ·rcases lg with rfl|rfl
   ·rw[Ap] at aI;rw[KX] at iY;exact f3 b' aI b' iY rfl
   ·exact oc rfl
  ·by_cases g1:k2=(d0,0)
   ·subst g1
    rcases lg with rfl|rfl
    ·exact oc rfl
    ·rw[KX] at aI;rw[Ap] at iY;exact f3 b' iY b' aI rfl
   ·by_cases g2:k2=k
    ·subst g2
     rcases lg with rfl|rfl
     ·rw[Ap] at aI;rw[KX] at iY;exact f3 b' aI b' iY rfl
     ·exact oc rfl
    ·rw[Dp k2 g1 g2] at iY
     obtain⟨e2,nX⟩:=kH.1 eS
     exact h.apart k k2 _ e2 b' (Ne.symm g2) he nX q1 iY
 ·intro k' e bp hl
  rcases eF k' e bp with⟨rfl,rfl⟩|⟨rfl,rfl⟩|⟨g1,g2,g3⟩
  ·rw[Ap,zb,gW]
   exact⟨dH i,fB.ud,rfl,rfl⟩
  ·rw[KX,KI,kf cO]
   refine⟨hi,.inr ⟨bk,cap,cur,vs,dV,e1,hb,hc,hm,lh,hv,fun q y j c hq hy hj=> ?_,fun q j hq hj=> ?_,by rw[hN],by rw[hN]⟩⟩
   ·have TB:q≠i:=fun e=>hq (by rw[e])
    have hj0:j<1:=by
     rw[<-mH,<-U.cP x0.τ y]
     rcases lR j (U.enc x0.τ y).length with g|g
     ·exact g
     ·rw[lU g] at hj;cases hj
    have hfq:dV (q*U.wd x0.τ+j)=dH (q*U.wd x0.τ+j):=if_neg (by rw[mH];omega)
    rw[hfq]
    exact hr q y j c (by simp) hy hj
   ·cases hq
    exact if_pos (by rw[mH] at hj⊢;omega)
  ·rw[Dp k' g1 g2,ov k' g1 g2,kf g1]
   exact ht.str k' e g3 hl
 ·intro k' e bp hl
  rcases eF k' e bp with⟨rfl,rfl⟩|⟨rfl,rfl⟩|⟨g1,g2,g3⟩
  ·rw[zb];exact t1
  ·rw[KI];exact t2
  ·rw[ov k' g1 g2];exact ht.nodup k' e g3 hl
 ·intro k1 k2 e1' QG b' oc lg eS zS pf js iY
  rcases eF k1 e1' lg with⟨rfl,rfl⟩|⟨rfl,rfl⟩|⟨g1,g2,g3⟩<;>rcases eF k2 QG eS with⟨rfl,rfl⟩|⟨rfl,rfl⟩|⟨q1,q2,q3⟩
  ·exact oc rfl
  ·rw[zb] at js;rw[KI] at iY;exact t3 b' js b' iY rfl
  ·rw[zb] at js;rw[ov _ q1 q2] at iY
   exact ht.apart k k2 _ _ b' (Ne.symm q2) he q3 rfl pf (Rw b' (.inl js)) iY
  ·rw[KI] at js;rw[zb] at iY;exact t3 b' iY b' js rfl
  ·exact oc rfl
  ·rw[KI] at js;rw[ov _ q1 q2] at iY
   exact ht.apart _ k2 _ _ b' (Ne.symm q2) he q3 rfl pf (Rw b' (.inr js)) iY
  ·rw[ov _ g1 g2] at js;rw[zb] at iY
   exact ht.apart k1 k _ _ b' g2 g3 he zS rfl js (Rw b' (.inl iY))
  ·rw[ov _ g1 g2] at js;rw[KI] at iY
   exact ht.apart k1 _ _ _ b' g2 g3 he zS rfl js (Rw b' (.inr iY))
  ·rw[ov _ g1 g2] at js;rw[ov _ q1 q2] at iY
   exact ht.apart k1 k2 _ _ b' oc g3 q3 zS pf js iY
 ·intro k' e b' bp hl aI
  rcases eF k' e bp with⟨rfl,rfl⟩|⟨rfl,rfl⟩|⟨g1,g2,g3⟩
  ·rw[zb] at aI;exact ht.own k _ b' he rfl (Rw b' (.inl aI))
  ·rw[KI] at aI;exact ht.own _ _ b' he rfl (Rw b' (.inr aI))
  ·rw[ov k' g1 g2] at aI;exact ht.own k' e b' g3 hl aI
theorem amd{tb tb':mG U}(hm:∀k a d,tb k=some (.arr a d)->tb' k=some (.arr a d))(sY:∀k a d,tb k=some (.part a d)->tb' k=some (.part a d)){want:Option U.Ty}{x:AC U}{r:List Prop×U.C×List Key×Bool}
  (h:nM tb want x=some r):nM tb' want x=some r:=by
 unfold nM at h⊢
 split at h
 ·exact h
 ·exact h
 ·exact h
 ·split at h
  ·rename_i e;simp only[hm _ _ _ e];exact h
  ·rename_i e;simp only[sY _ _ _ e];exact h
  ·cases h
 ·split at h
  ·rename_i e;simp only[hm _ _ _ e];exact h
  ·rename_i e;simp only[sY _ _ _ e];exact h
  ·cases h
 ·cases h
theorem acZ{tb tb':mG U}(hm:∀k a d,tb k=some (.arr a d)->tb' k=some (.arr a d))(sY:∀k a d,tb k=some (.part a d)->tb' k=some (.part a d)):∀{xs:List (AC U)}{want:List (Option U.Ty)}{r:List Prop×List U.C×List Key×Bool},
  dy tb want xs=some r->dy tb' want xs=some r
 |[],_,_,h=>h
 |x::xs,want,r,h=>by
  simp only[dy] at h⊢
  split at h
  ·rename_i e1 e2
   rw[amd hm sY e1,acZ hm sY e2]
   exact h
  ·cases h
theorem amW(h:cd E pm F kv fp σ a w){o:Oper}(ho:o.dst=none){t:TypeId}{x y:Operand}(mI:o.op=.store t x y){sx:SV U}{z:AV U}{n:Nat}{rs:List Key}{k:Key}{i wd j:Nat}{x0:fK U}{y0:AC U}
  (hx:RS E w F kv fp (aZ σ) sx (a.eval x)) (vN:sd sx=some (.iC k [] i wd 0)) (hy:RS E w F kv fp (aZ σ) (.v z) (a.eval y)) (hs:E.size t=some n) (hn:n=z.cs.length)
  (he:restrict σ.aU rs k=some (.nA x0 j y0)) (mH:Nat.beq wd (U.wd x0.τ)=true) (hz:Nat.beq z.cs.length 1=true) {qs:List Prop} {ds:List U.C} {ks:List Key} {yv:U.T x0.τ}
  (vj:dy (restrict σ.aU rs) (yO (U.enc x0.τ (x0.xs.getD i (U.dt x0.τ)))) z.cs=some (qs,ds,ks,true)) (vM:U.dec x0.τ ds=some yv) (pj:distinct (k::ks)=true)
  (hp:∀p∈qs,p) (H2:i=j) {ps:List Prop} {next:Act->World->Prop} {Q:Exit->Act->World->Prop}
  (J4:∀F kv fp a' w',cd E pm F kv fp (AM.apply o ⟨none,[],ks,[(k,.arr ⟨x0.τ,x0.xs.set i yv⟩ true)],ps,[]⟩ σ) a' w'->next a' w'):o.wp E.P a w next Q:=by
 have dr:=fA he
 have hrk:rs.any (fU k)=true:=by
  unfold restrict at he
  cases hq:rs.any (fU k)<;>rw[hq] at he
  ·cases he
 obtain⟨_,s9,V1,_⟩:=(h.cT k _ dr:lm E w F kv fp (aZ σ) (.nA x0 j y0) (kv k) (fp k))
 let FQ:ah U:={σ with iZ:=(k,some (.part x0 (fun m=>Nat.beq m j)))::σ.iZ}
 have lg:FQ.aU k=some (.part x0 (fun m=>Nat.beq m j)):=by
  show cm ((k,some _)::σ.iZ) k=_
  simp[cm,qd]
 have HZ:∀k',k'≠k->FQ.aU k'=σ.aU k':=fun k' bp=>by
  show cm ((k,some _)::σ.iZ) k'=cm σ.iZ k'
  have:fU k k'=false:=wA.2 (Ne.symm bp)
  simp[cm,this]
 have js:aZ FQ=aZ σ:=by
  funext k'
  unfold aZ
  by_cases bp:k'=k
  ·subst bp;rw[lg,dr];rfl
  ·rw[HZ k' bp]
 have h1:cd E pm F kv fp FQ a w:=h.conv dr rfl (fun _=>rfl) (fun _=>rfl) HZ lg rfl (fun g=>g.1)
 have VO:∀k' e,restrict σ.aU rs k'=some e->(∀a i x,e≠ .nA a i x)->restrict FQ.aU rs k'=some e:=fun k' e bp cO=>by
  have wT:k'≠k:=fun e'=>by
   subst e'
   rw[he] at bp
   cases bp
   exact cO _ _ _ rfl
  unfold restrict at bp⊢
  rw[HZ k' wT];exact bp
 have apd:=acZ (tb':=restrict FQ.aU rs) (fun k' a d bp=>VO k' _ bp (fun _ _ _ e=>by cases e)) (fun k' a d bp=>VO k' _ bp (fun _ _ _ e=>by cases e)) vj
 have zc:restrict FQ.aU rs k=some (.part x0 (fun m=>Nat.beq m j)):=by
  unfold restrict;rw[hrk,cond_true];exact lg
 have hzl:z.cs.length=wd:=by
  rw[jp hz,jp mH,s9]
 have nd:qB (restrict FQ.aU rs) z (.iC k [] i wd 0)=some ⟨none,[],ks,[(k,.part ⟨x0.τ,x0.xs.set i yv⟩ (fun m=> !(Nat.beq m i)&&Nat.beq m j))],qs++[i<x0.xs.length],[]⟩:=by
  unfold qB
  simp only[zc,mH,hzl,Nat.beq_refl,Bool.and_self,cond_true,apd,vM,pj]
 refine ac2 h1 ho mI (sx:=sx) (yx:=.iC k [] i wd 0) (z:=z) (rs:=rs) (by rw[js];exact hx) vN (by rw[js];exact hy) hs hn nd (fun p hpp=> ?_) (fun F kv fp a' w' la=>J4 F kv fp a' w' ?_)
 ·rcases gA.1 hpp with g|g
  ·exact hp p g
  ·rw[g_.1 g,H2];exact V1
 ·refine la.conv (k:=k) (e1:=.part ⟨x0.τ,x0.xs.set i yv⟩ (fun m=> !(Nat.beq m i)&&Nat.beq m j)) (e2:=.arr ⟨x0.τ,x0.xs.set i yv⟩ true) ?_ rfl (fun s=> ?_) (fun _=>rfl) (fun k' bp=> ?_) ?_ rfl (fun g=>cM.own g (fun m _=> ?_))
  ·show cm ((k,some _)::_) k=_
   simp[cm,qd]
  ·rw[yX,yX];rfl
  ·have hq:fU k k'=false:=wA.2 (Ne.symm bp)
   rw[yZ,yZ]
   have e1:lays o (⟨none,[],ks,[(k,.arr ⟨x0.τ,x0.xs.set i yv⟩ true)],ps,[]⟩:bz U)=(k,some (.arr ⟨x0.τ,x0.xs.set i yv⟩ true))::ks.map fun k=>(k,none):=rfl
   have e2:lays o (⟨none,[],ks,[(k,.part ⟨x0.τ,x0.xs.set i yv⟩ (fun m=> !(Nat.beq m i)&&Nat.beq m j))],qs++[i<x0.xs.length],[]⟩:bz U)=(k,some (.part ⟨x0.τ,x0.xs.set i yv⟩ (fun m=> !(Nat.beq m i)&&Nat.beq m j)))::ks.map fun k=>(k,none):=rfl
   rw[e1,e2]
   simp only[Rs,cm,hq,cond_false,JY]
   rw[HZ k' bp]
  ·show cm ((k,some _)::_) k=_
   simp[cm,qd]
  ·subst H2
   cases Nat.beq m i<;>rfl
theorem amX(h:cd E pm F kv fp σ a w){o:Oper}(ho:o.dst=none){ty:TypeId}{x y:Operand}(mI:o.op=.store ty x y){z:AV U}{k t:Key}{i j wd:Nat}{x0 b:fK U}
  (hx:RD E w F kv fp (aZ σ) (.iC k [] i wd 0) (a.eval x)) (hy:RS E w F kv fp (aZ σ) (.v z) (a.eval y)) (hs:E.size ty=some 1) (hz:z.cs=[.ref t []])
  (he:σ.aU k=some (.Dw x0 j)) (sR:σ.aU t=some (.fz b)) (s9:wd=U.wd x0.τ) {yv:U.T x0.τ} (vM:U.dec x0.τ [.sl b.τ b.xs]=some yv) (H2:i=j) {ps:List Prop}
  {next:Act->World->Prop} {Q:Exit->Act->World->Prop}
  (J4:∀F kv fp a' w',cd E pm F kv fp (AM.apply o ⟨none,[],[t],[(k,.li ⟨x0.τ,x0.xs.set i yv⟩)],ps,[]⟩ σ) a' w'->next a' w'):o.wp E.P a w next Q:=by
 subst H2
 have u6:=U.jn x0.τ _ yv vM
 have mH:U.wd x0.τ=1:=by rw[<-U.cP x0.τ yv,u6];rfl
 obtain⟨cr,sW⟩:=Ko hy
 rw[hz] at cr sW
 have hkt:k≠t:=fun e=>by subst e;rw[he] at sR;cases sR
 obtain⟨tk,ht⟩:=h.bQ
 obtain⟨hi,apf⟩:=ht.str k _ he rfl
 obtain⟨L,hL,hL1,hL2⟩:=ht.str t _ sR rfl
 rcases apf with⟨h0,_⟩|⟨bk,cap,cur,vs,dH,e1,hb,hc,hm,lh,hv,hr,jh,lN,H0⟩
 ·rw[h0] at hi;simp at hi
 have hN:x0.xs.length*U.wd x0.τ=x0.xs.length:=by rw[mH,Nat.mul_one]
 rw[hN] at lN H0
 have atb:cur.size=cap:=by rw[lh,mH,Nat.mul_one]
 obtain⟨b2,o2,n2,c2,iz,LX⟩:=bG hx (by simp[gg])
 simp only[mg] at iz
 rw[e1] at iz
 simp only[Value.slice.injEq,eZ,Addr.mk.injEq,and_true] at iz
 obtain⟨⟨r1,r2⟩,_,_⟩:=iz
 rw[r1,r2,oz,Aj,s9,mH,Nat.mul_one] at LX
 obtain⟨u,hu⟩:∃u,(a.eval y).cells.toList=[u]:=by
  have hl:(a.eval y).cells.toList.length=1:=by simpa using sW
  match(a.eval y).cells.toList,hl with
  |[u],_=>exact⟨u,rfl⟩
 rw[hu] at cr
 have Tt:u=kv t:=bG (cr.2 0 (.ref t []) u rfl rfl) rfl
 have VQ:fu u:=(cr.2 0 (.ref t []) u rfl rfl).1
 subst Tt
 have fw:=OP (P:=E.P) (n:=1) (off:=i) (v:=a.eval y) hs (by simpa using sW) (fun q hq=>by rw[hu] at hq;rw[g_.1 hq];exact VQ.1) hb (by omega)
 rw[<-LX,hu] at fw
 generalize V6:(cur.toList.take i++[kv t]++cur.toList.drop (i+1)).toArray=cur' at fw
 have qk:∀m,cur'[m]? =if m=i then some (kv t) else cur[m]? :=by
  intro m
  rw[<-V6,zed,qc]
  have fx:(cur.toList.take i).length=i:=by rw[mO,yM];omega
  by_cases h1:m<i
  ·rw[u_ (by omega),mP,if_pos h1,if_neg (by omega),Eg]
  ·rw[va (by omega),fx]
   by_cases h2:m=i
   ·subst h2;simp
   ·rw[if_neg h2,va (by simp;omega),Eo,Eg]
    congr 1;simp;omega
 have aav:cur'.size=cur.size:=by rw[<-V6];simp;omega
 have gX:bk∈fp k:=by rw[lN];simp
 have RF:=h.cU k _ bk he gX
 let w':=w.setRow bk cur'
 have o_:∀c,c≠bk->w'.heap[c]? =w.heap[c]? :=fun c GG=>setRow_other w bk c _ GG
 have mF:∀c,F c->F c/\w'.heap[c]? =w.heap[c]? :=fun c AG=>⟨AG,o_ c (fun e=>RF.1 (e▸AG))⟩
 have aaZ:∀k' e',k'≠k->σ.aU k'=some e'->∀c∈fp k',w'.heap[c]? =w.heap[c]? :=fun k' e' cO Qf c f_=>o_ c (fun e=>h.apart k' k _ _ c cO Qf he f_ (e▸gX))
 have aar:∀k' e',σ.aU k'=some e'->e'.wk=true->∀c∈tk k',w'.heap[c]? =w.heap[c]? :=fun k' e' Qf hl c f_=>(mF c (ht.own k' e' c Qf hl f_).1).2
 let dV:Nat->List Nat:=fun n=>if n=i then L else dH n
 let rm:Nat->Value:=fun n=>if n=i then kv t else vs n
 have hfi:dH i=[]:=by have:=jh i 0 rfl (by omega);simpa[mH] using this
 let nf:List Nat:=bk::(List.range x0.xs.length).flatMap fun n=>(dV n).take 1
 let nt:List Nat:=(List.range x0.xs.length).flatMap fun n=>(dV n).drop 1
 have hpf:nf.Perm (fp t++fp k):=by
  have e2:(List.range x0.xs.length).flatMap (fun n=>if n=i then[] else(dV n).take 1)=(List.range x0.xs.length).flatMap fun n=>(dH n).take 1:=mq fun n _=>by
   simp only[dV];split
   ·rename_i TE;rw[TE,hfi];rfl
   ·rfl
  have jv:=MV (fun n=>(dV n).take 1) hi
  rw[e2] at jv
  have e3:(dV i).take 1=fp t:=by simp only[dV,if_pos rfl];exact hL1.symm
  simp only[e3] at jv
  rw[lN]
  exact(jv.cons bk).trans List.perm_middle.symm
 have hpt:nt.Perm (tk t++tk k):=by
  have e2:(List.range x0.xs.length).flatMap (fun n=>if n=i then[] else(dV n).drop 1)=(List.range x0.xs.length).flatMap fun n=>(dH n).drop 1:=mq fun n _=>by
   simp only[dV];split
   ·rename_i TE;rw[TE,hfi];rfl
   ·rfl
  have jv:=MV (fun n=>(dV n).drop 1) hi
  rw[e2] at jv
  have e3:(dV i).drop 1=tk t:=by simp only[dV,if_pos rfl];exact hL2.symm
  simp only[e3] at jv
  rw[H0]
  exact jv
 have Od:nf.Nodup:=hpf.nodup_iff.2 (nH.2 ⟨h.nodup t _ sR,h.nodup k _ he,fun c hc c' jr e=>h.apart t k _ _ c (Ne.symm hkt) sR he hc (e▸jr)⟩)
 have TD:nt.Nodup:=hpt.nodup_iff.2 (nH.2 ⟨ht.nodup t _ sR rfl,ht.nodup k _ he rfl,fun c hc c' jr e=>ht.apart t k _ _ c (Ne.symm hkt) sR he rfl rfl hc (e▸jr)⟩)
 have inF:∀c∈nf,c∈fp t\/c∈fp k:=fun c f_=>gA.1 (hpf.mem_iff.1 f_)
 have Rw:∀c∈nt,c∈tk t\/c∈tk k:=fun c f_=>gA.1 (hpt.mem_iff.1 f_)
 have hLk:cF E w' F true b (kv t) L:=hL.cI mF (fun c f_=>by
  rw[<-HS 1 L,gA,<-hL1,<-hL2] at f_
  rcases f_ with g|g
  ·exact aaZ t _ (Ne.symm hkt) sR c g
  ·exact aar t _ sR rfl c g)
 generalize nZ:(⟨none,[],[t],[(k,.li ⟨x0.τ,x0.xs.set i yv⟩)],ps,[]⟩:bz U)=r at J4
 have fq:ct o r=[]:=by rw[<-nZ];rfl
 have fI:fM r=[k]:=by rw[<-nZ];rfl
 have lc:r.gH=[t]:=by rw[<-nZ]
 have Dp:∀k',k'≠k->bx fp k nf k'=fp k':=fun k' h1=>kf h1
 have ov:∀k',k'≠k->bx tk k nt k'=tk k':=fun k' h1=>kf h1
 have eF:∀k' e,(AM.apply o r σ).aU k'=some e->(k'=k/\e=.li ⟨x0.τ,x0.xs.set i yv⟩)\/(k'≠k/\k'≠t/\σ.aU k'=some e):=by
  intro k' e bp
  by_cases g:k'∈ct o r\/k'∈fM r
  ·rcases Kn o r σ k' e bp g with⟨j,q1,q2⟩|q
   ·rw[<-nZ] at q2;simp at q2
   ·rw[<-nZ] at q
    simp only[g_,kG] at q
    exact .inl q
  ·simp only[not_or] at g
   by_cases g2:k'∈r.gH
   ·rw[MZ o r σ k' g.1 g.2 g2] at bp;cases bp
   ·rw[Km o r σ k' g.1 g.2 g2] at bp
    rw[fI] at g
    rw[lc] at g2
    exact .inr ⟨by simpa using g.2,by simpa using g2,bp⟩
 refine MP (w':=w') ?_ (J4 F kv (bx fp k nf) _ _ (h.GY (F':=F) (w':=w') o r undef (fun d hd=>by rw[ho] at hd;cases hd) ?_ (fun _ _=>rfl) ?_ ?_ mF ?_ ?_ ?_ ?_ (fun c AG=> ?_) h.ny ?_ ?_ (fun k hk=>by rw[<-nZ] at hk;exact absurd hk rh) ⟨bx tk k nt,?_,?_,?_,?_⟩))
 ·unfold execOp;simp only[mI]
  rw[Sem.run_bind,fw];rfl
 ·intro sv rD;rw[<-nZ] at rD;cases rD
 ·intro k' _ vL;rw[fI] at vL;exact Dp k' (by simpa using vL)
 ·intro k' bp;rw[fq] at bp;cases bp
 ·intro k' e' _ vL _ dr c f_
  rw[fI] at vL
  exact aaZ k' e' (by simpa using vL) dr c f_
 ·intro k' e bp
  rw[<-nZ] at bp
  rcases bp with⟨j,_,q2⟩|q
  ·simp at q2
  ·simp only[g_,kG] at q
   obtain⟨rfl,rfl⟩:=q
   rw[gW]
   refine⟨trivial,Od,fun c f_=> ?_⟩
   have mS:w'.heap.size=w.heap.size:=by simp[w']
   rcases inF c f_ with g|g
   ·have:=h.cU t _ c sR g;exact⟨this.1,this.2.1,by rw[mS];exact this.2.2⟩
   ·have:=h.cU _ _ c he g;exact⟨this.1,this.2.1,by rw[mS];exact this.2.2⟩
 ·intro k' e' c _ _ _ dr f_;exact(h.cU k' e' c dr f_).1
 ·intro k1 k2 c oc lg eS f_
  rw[fq,fI] at lg eS
  simp only[rh,g_,false_or] at lg eS
  subst lg
  rw[gW] at f_
  rcases eS with rfl|⟨eS,pf⟩
  ·exact absurd rfl oc
  ·rw[lc] at eS
   rw[Dp k2 (Ne.symm oc)]
   obtain⟨e2,nX⟩:=kH.1 pf
   rcases inF c f_ with g|g
   ·exact h.apart t k2 _ e2 c (fun e=>eS (by simp[e])) sR nX g
   ·exact h.apart _ k2 _ e2 c oc he nX g
 ·have:=h.lT c AG
  simpa[w'] using this
 ·exact h.upto.trans ⟨rfl,rfl,rfl,by simp[w'],fun c _ Ez=>o_ c (fun e=>Ez (e▸RF.2.1)),og _⟩
 ·simp[w']
 ·intro k' e bp hl
  rcases eF k' e bp with⟨rfl,rfl⟩|⟨g1,g2,g3⟩
  ·rw[gW,gW]
   have hlen:(x0.xs.set i yv).length=x0.xs.length:=zF
   refine .inr ⟨bk,cap,cur',rm,dV,by rw[e1,hlen],setRow_heap w bk cur _ _ _ hb,by rw[hlen];exact hc,hm,by rw[aav];exact lh,fun n hn=> ?_,fun q yy j c _ hyy hj=> ?_,(fun q j hq=>by cases hq),(by simp only[hlen,hN];rfl),(by simp only[hlen,hN];rfl)⟩
   ·simp only[hlen] at hn
    rw[qk n]
    simp only[rm]
    split
    ·exact⟨rfl,VQ⟩
    ·exact hv n hn
   ·have hj0:j=0:=by
     have:j<1:=by
      rw[<-mH,<-U.cP x0.τ yy]
      rcases lR j (U.enc x0.τ yy).length with g|g
      ·exact g
      ·rw[lU g] at hj;cases hj
     omega
    subst hj0
    simp only[mH,Nat.mul_one,Aj]
    rw[Ov] at hyy
    by_cases hq:i=q
    ·subst hq
     rw[if_pos rfl,if_pos hi] at hyy
     cases hyy
     rw[u6] at hj
     cases hj
     have ev:rm i=kv t:=if_pos rfl
     have ef:dV i=L:=if_pos rfl
     rw[ev,ef]
     exact hLk.MK
    ·rw[if_neg hq] at hyy
     have ev:rm q=vs q:=if_neg (Ne.symm hq)
     have ef:dV q=dH q:=if_neg (Ne.symm hq)
     rw[ev,ef]
     have:=hr q yy 0 c (fun e=>hq (by cases e;rfl)) hyy hj
     rw[mH,Nat.mul_one,Aj] at this
     have hql:q<x0.xs.length:=by
      rcases lR q x0.xs.length with g|g
      ·exact g
      ·rw[lU g] at hyy;cases hyy
     refine this.cI mF (fun c' jr=> ?_)
     rw[<-HS 1 (dH q),gA] at jr
     rcases jr with g|g
     ·refine o_ c' (fun e=> ?_)
      have NF:=h.nodup _ _ he
      rw[lN,pH] at NF
      exact NF.1 (ln.2 ⟨q,oh.2 hql,e▸g⟩)
     ·exact aar _ _ he rfl c' (by rw[H0];exact ln.2 ⟨q,oh.2 hql,g⟩)
  ·rw[Dp k' g1,ov k' g1]
   exact(ht.str k' e g3 hl).cI mF (aaZ k' e g1 g3) (aar k' e g3 hl)
 ·intro k' e bp hl
  rcases eF k' e bp with⟨rfl,rfl⟩|⟨g1,g2,g3⟩
  ·rw[gW];exact TD
  ·rw[ov k' g1];exact ht.nodup k' e g3 hl
 ·intro k1 k2 e1' QG c oc lg eS zS pf js iY
  rcases eF k1 e1' lg with⟨rfl,rfl⟩|⟨g1,g2,g3⟩<;>rcases eF k2 QG eS with⟨rfl,rfl⟩|⟨q1,q2,q3⟩
  ·exact oc rfl
  ·rw[gW] at js;rw[ov _ q1] at iY
   rcases Rw c js with g|g
   ·exact ht.apart t k2 _ _ c (Ne.symm q2) sR q3 rfl pf g iY
   ·exact ht.apart _ k2 _ _ c oc he q3 rfl pf g iY
  ·rw[ov _ g1] at js;rw[gW] at iY
   rcases Rw c iY with g|g
   ·exact ht.apart k1 t _ _ c g2 g3 sR zS rfl js g
   ·exact ht.apart k1 _ _ _ c oc g3 he zS rfl js g
  ·rw[ov _ g1] at js;rw[ov _ q1] at iY
   exact ht.apart k1 k2 _ _ c oc g3 q3 zS pf js iY
 ·intro k' e c bp hl f_
  rcases eF k' e bp with⟨rfl,rfl⟩|⟨g1,g2,g3⟩
  ·rw[gW] at f_
   rcases Rw c f_ with g|g
   ·exact ht.own t _ c sR rfl g
   ·exact ht.own _ _ c he rfl g
  ·rw[ov k' g1] at f_;exact ht.own k' e c g3 hl f_
def Rq(E:Env U)(w:World)(a:Act)(o:Oper)(s:Operand)(τ:U.Ty)(B:Nat->Prop)(n m:Nat)(vs us:List Value):Prop:=
  ∃v' w',(execOp a.eval o).run E.P w=.ok (.value v') w'/\w'.os=w.os/\w'.tape=w.tape/\w'.output=w.output/\w.drawn<=w'.drawn/\w.heap.size<=w'.heap.size/\
   ((n+m=0/\(∃ad,v'=.slice ad 0 0)/\w'=w/\v'=a.eval s)\/
    ∃b' qo cur',v'=.slice (some ⟨b',0,none⟩) (n+m) qo/\w'.heap[b']? =some (.cells cur' (E.tid τ) (0,0))/\n+m<=qo/\qo<=maxLen/\cur'.size=qo*U.wd τ/\cur'.toList.take ((n+m)*U.wd τ)=vs++us/\
    b'<w'.heap.size/\(∀c,c≠b'->c<w.heap.size->w'.heap[c]? =w.heap[c]?)/\(B b'\/b'=w.heap.size))
theorem DZ(hE:E.Ok){o:Oper}{cl:Call}{t e:TypeId}{s x:Operand}(mI:o.op=.call cl)(fa:cl.callee=.builtin .append)
  (ib:cl.args.toList=[s,x]) (vi:cl.argTypes.toList=[t,t]) {τ:U.Ty} (pV:E.elem t=some e) (hc:E.code e=some τ) {n m:Nat} {vs us:List Value} {B:Nat->Prop}
  (hold:(n=0/\(∃ad,a.eval s=.slice ad 0 0)/\vs=[])\/∃b cap cur,B b/\a.eval s=.slice (some ⟨b,0,none⟩) n cap/\w.heap[b]? =some (.cells cur (E.tid τ) (0,0))/\n<=cap/\cap<=maxLen/\cur.size=cap*U.wd τ/\cur.toList.take (n*U.wd τ)=vs)
  (yI:vs.length=n*U.wd τ) (sO:us.length=m*U.wd τ) (PK:∀u∈us,u.oneCell'=true) (kk:Src E.P w t (a.eval x) (U.wd τ) m us) (hle:n+m<=4294967296):
  Rq E w a o s τ B n m vs us:=by
 obtain⟨uY,i,z,hi,hz,fZ,J2,Qm,_⟩:=hE.code e τ hc
 have hu:=y3 pV
 rw[<-fZ] at kk
 have exec:∀{v w1},(Builtin.append_ #[t,t] o.type #[a.eval s,a.eval x]).run E.P w=.ok v w1->(execOp a.eval o).run E.P w=.ok (.value v) w1:=by
  intro v w1 hr
  have ha:cl.args= #[s,x]:=vy ib
  have ht:cl.argTypes= #[t,t]:=vy vi
  unfold execOp;simp only[mI]
  simp[resolve,fa,ha,ht,invoke,builtin,hr]
 have Gv:∀{n:Nat},n<=4294967296->n<=maxLen:=fun hh=>by simp only[maxLen];omega
 have tI:(n+m)*i.bytes<=140737488355328:=by
  have:=Nat.mul_le_mul hle Qm
  omega
 have K0:(n+m)*U.wd τ=n*U.wd τ+m*U.wd τ:=ta _ _ _
 by_cases hm0:m=0
 ·subst hm0
  have rC:us=[]:=yG (by simpa using sO)
  subst rC
  rcases hold with⟨h3,⟨ad,h4⟩,h5⟩|⟨b,cap,cur,hB,h3,h4,h5,h6,h7,h8⟩
  ·subst h3
   refine⟨_,w,exec (by rw[h4];exact MR w hu hi ad 0 0 kk (og _)),rfl,rfl,rfl,og _,og _,.inl ⟨rfl,⟨ad,rfl⟩,rfl,h4.symm⟩⟩
  ·refine⟨_,w,exec (by rw[h3];exact MR w hu hi _ n cap kk h5),rfl,rfl,rfl,og _,og _,.inr ⟨b,cap,cur,rfl,h4,h5,h6,h7,by simpa using h8,?_,fun _ _ _=>rfl,.inl hB⟩⟩
   rcases lR b w.heap.size with g|g
   ·exact g
   ·rw[Array.getElem?_eq_none g] at h4;cases h4
 ·have PU:us.length=m*i.size:=by rw[fZ];exact sO
  have grown:∀yH:Nat,yH<n+m->(Builtin.append_ #[t,t] o.type #[a.eval s,a.eval x]).run E.P w=
     .ok (.slice (some ⟨w.heap.size,0,none⟩) (n+m) (grownCap w (n+m) yH e)) (w.drew.alloc (.cells (vs.toArray++us.toArray++Builtin.zeroCells z.cells (grownCap w (n+m) yH e-(n+m))) e))->Rq E w a o s τ B n m vs us:=by
   intro yH asN fw
   have TU:=grownCap_ge w (n+m) yH e
   exact⟨_,_,exec fw,rfl,rfl,rfl,Nat.le_succ _,by simp,.inr ⟨w.heap.size,grownCap w (n+m) yH e,vs.toArray++us.toArray++Builtin.zeroCells z.cells (grownCap w (n+m) yH e-(n+m)),rfl,by rw[uY];exact heap_alloc_new w.drew _,TU,grownCap_le_maxLen w _ yH e (Gv hle),
    (by
     simp only[Array.size_append,Rt,size_zeroCells,J2,yI,sO,<-ta]
     congr 1;omega),
    (by
     have pf:(n+m)*U.wd τ=(vs++us).length:=by simp[yI,sO,ta]
     simp only[Array.toList_append,qc]
     rw[<-qc,pf]
     exact List.take_left),by simp,fun c _ hc=>yW w.drew _ hc,.inr rfl⟩⟩
  rcases hold with⟨h3,⟨ad,h4⟩,h5⟩|⟨b,cap,cur,hB,h3,h4,h5,h6,h7,h8⟩
  ·subst h3 h5
   refine grown 0 (by omega) ?_
   rw[h4]
   simp only[oz] at tI hle⊢
   cases ad with
   |none=>
    have hr:=ZG (ty:=o.type) w hu hi hz kk (by omega) (by omega) (by omega)
    simpa using hr
   |some a'=>
    have hr:=MS (ty:=o.type) w hu hi hz a' 0 0 [] (by simp) (by simp) kk (by omega) (by omega) (growslice_fits (by omega) (by simpa using tI))
    simpa using hr
  ·by_cases qQ:n+m<=cap
   ·have IW:n*i.size+us.length<=cur.size:=by rw[PU,fZ,h7,<-ta];exact u9 _ qQ
    have hr:=ZF (ty:=o.type) w hu hi b n cap cur (by rw[<-uY];exact h4) kk PK qQ IW
    rw[<-h3] at hr
    refine⟨_,_,exec hr,rfl,rfl,rfl,og _,by simp,.inr ⟨b,cap,_,rfl,setRow_heap w b cur _ _ _ h4,qQ,h6,?_,?_,?_,fun c hc _=>setRow_other w b c _ hc,.inl hB⟩⟩
    ·simp only[Rt,kF,mO,FT,yM]
     omega
    ·have pf:(n+m)*U.wd τ=(vs++us).length:=by simp[yI,sO,ta]
     rw[fZ,h8,pf]
     exact List.take_left
    ·have:b<w.heap.size:=by
      rcases lR b w.heap.size with g|g
      ·exact g
      ·rw[Array.getElem?_eq_none g] at h4;cases h4
     simpa using this
   ·refine grown cap (by omega) ?_
    rw[h3]
    refine MS (ty:=o.type) w hu hi hz ⟨b,0,none⟩ n cap vs (by rw[fZ];exact yI) (fun j u hu=> ?_) kk (by omega) (by omega) (growslice_fits (by omega) tI)
    rw[Addr.add_mid,oz,cell_of_row w b _ cur _ (0,0) h4]
    rw[<-h8,mP] at hu
    split at hu
    ·simpa using hu
    ·cases hu
theorem aeb(hE:E.Ok)(h:cd E pm F kv fp σ a w){o:Oper}{d:Nat}(ho:o.dst=some d)(hd:d<σ.n){cl:Call}{ty e:TypeId}{s x:Operand}(mI:o.op=.call cl)(fa:cl.callee=.builtin .append)
  (ib:cl.args.toList=[s,x]) (vi:cl.argTypes.toList=[ty,ty]) {τ:U.Ty} (pV:E.elem ty=some e) (hc:E.code e=some τ) {t mm:Key} {xs ys:List (U.T τ)}
  (hs:RD E w F kv fp (aZ σ) (.ref t []) (a.eval s)) (hx:RD E w F kv fp (aZ σ) (.ref mm []) (a.eval x)) (sR:σ.aU t=some (.fz ⟨τ,xs⟩)) (L3:σ.aU mm=some (.arr ⟨τ,ys⟩ true))
  (hle:xs.length+ys.length<=4294967296) (jq:¬Names σ (d,0)) (TD:Names σ t) (ol:Names σ mm) {ps:List Prop}
  {next:Act->World->Prop} {Q:Exit->Act->World->Prop}
  (hn:∀F kv fp a' w',cd E pm F kv fp (AM.apply o ⟨some (one (.ref (d,0) [])),[(0,.fz ⟨τ,xs++ys⟩)],[t],[(mm,.arr ⟨τ,ys⟩ false)],ps,[]⟩ σ) a' w'->next a' w'):o.wp E.P a w next Q:=by
 have Tu:t≠mm:=fun e=>by subst e;rw[sR] at L3;cases L3
 have hdt:t≠(d,0):=fun e=>jq (e▸TD)
 have Og:mm≠(d,0):=fun e=>jq (e▸ol)
 obtain⟨tk,ht⟩:=h.bQ
 have rD:a.eval s=kv t:=bG hs rfl
 have hxv:a.eval x=kv mm:=bG hx rfl
 have hu:=y3 pV
 obtain⟨vs,fl,hold,hrx,htt⟩:∃vs fl,((xs.length=0/\(∃ad,a.eval s=.slice ad 0 0)/\vs=[])\/∃b cap cur,fp t=[b]/\a.eval s=.slice (some ⟨b,0,none⟩) xs.length cap/\w.heap[b]? =some (.cells cur (E.tid τ) (0,0))/\xs.length<=cap/\cap<=maxLen/\cur.size=cap*U.wd τ/\cur.toList.take (xs.length*U.wd τ)=vs)/\
   dD E w F true τ xs vs fl/\tk t=fl.flatten:=by
  obtain⟨L,hL,hL1,hL2⟩:=ht.str t _ sR rfl
  rcases hL.rows with⟨h1,⟨ad,h2⟩,h3⟩|⟨b,cap,cur,vs,fl,h1,h2,h3,h4,h5,h6,h7,h8⟩
  ·simp only at h1
   subst h1
   exact⟨[],[],.inl ⟨rfl,⟨ad,by rw[rD,h2]⟩,rfl⟩,dD.nil,by rw[hL2,h3];rfl⟩
  ·exact⟨vs,fl,.inr ⟨b,cap,cur,by rw[hL1,h8];rfl,by rw[rD,h1],h2,h3,h4,h5,h6⟩,h7,by rw[hL2,h8];rfl⟩
 obtain⟨us,gl,mb,kk,hry,hfm,hmf⟩:∃us gl mb,Src E.P w ty (a.eval x) (U.wd τ) ys.length us/\dD E w F true τ ys us gl/\fp mm=mb++gl.flatten/\
   ∀(w':World)(F':Nat->Prop),(∀c∈mb,w'.heap[c]? =w.heap[c]?)->(∀c∈gl.flatten,F' c/\w'.heap[c]? =w.heap[c]?)->cF E w' F' false ⟨τ,ys⟩ (kv mm) mb:=by
  have hM:cF E w F true ⟨τ,ys⟩ (kv mm) (fp mm):=h.cT mm _ L3
  rcases hM.rows with⟨h1,⟨ad,h2⟩,h3⟩|⟨b,cap,cur,us,gl,h1,h2,h3,h4,h5,h6,h7,h8⟩
  ·simp only at h1
   subst h1
   exact⟨[],[],[],by rw[hxv,h2];exact Src.slice hu (by simp) (fun hh=>by simp at hh),dD.nil,by rw[h3];rfl,fun _ _ _ _=> .inl ⟨rfl,⟨ad,h2⟩,rfl⟩⟩
  ·simp only at h1 h2 h3 h5 h6 h7
   refine⟨us,gl,[b],?_,h7,by rw[h8];rfl,fun w' F' aI NP=> ?_⟩
   ·rw[hxv,h1]
    refine Src.slice hu h7.1 (fun _=>⟨b,0,rfl,fun i u kM=> ?_⟩)
    rw[<-h6,mP] at kM
    split at kM
    ·rw[cell_of_row w b _ cur _ (0,0) h2];simpa using kM
    ·cases kM
   ·have h9:=(h7.oV (w':=w') (F':=F') (fun c f_=>(NP c f_).2)).i_ (F':=F') (fun _ AG=>AG) (fun c f_=>(NP c f_).1)
    have:=cF.jm (E:=E) (by rw[aI b (by simp)];exact h2) h3 h4 h5 h6 h9
    rw[h9.q_,<-h1] at this
    exact this
 have kN:=fun c (f_:c∈fp mm)=>h.cU mm _ c L3 f_
 have AE:=fun c (f_:c∈fp t)=>h.cU t _ c sR f_
 have NB:=fun c (f_:c∈fl.flatten)=>ht.own t _ c sR rfl (by rw[htt];exact f_)
 have Ao:∀c∈gl.flatten,c∈fp mm:=fun c f_=>by rw[hfm];exact pA _ f_
 have KP:∀c∈mb,c∈fp mm:=fun c f_=>by rw[hfm];exact oE _ f_
 have aeB:=h.nodup mm _ L3
 rw[hfm,nH] at aeB
 obtain⟨m1,m2,m3⟩:=aeB
 obtain⟨v',w',fw,hos,htp,rE,NQ,mS,sX⟩:=DZ (w:=w) (B:=fun b=>fp t=[b]) hE mI fa ib vi pV hc hold hrx.1 hry.1 hry.dQ kk hle
 let F':Nat->Prop:=fun c=>F c\/c∈gl.flatten
 obtain⟨bl,rj,gj,II,PV⟩:∃bl:List Nat,(∀c∈bl,(c∈fp t\/c=w.heap.size)/\c<w'.heap.size)/\(∀c,c∉bl->c<w.heap.size->w'.heap[c]? =w.heap[c]?)/\
   ((∀c∈(fl++gl).flatten,w'.heap[c]? =w.heap[c]?)->∃l,cF E w' F' true ⟨τ,xs++ys⟩ v' l/\bl=l.take 1/\(fl++gl).flatten=l.drop 1)/\fu v':=by
  rcases sX with⟨h0,⟨ad,KG⟩,hw0,_⟩|⟨b',qo,cur',h1,h2,h3,h4,h5,h6,h7,h8,h9⟩
  ·have N_:xs=[]:=yG (by omega)
   have hy0:ys=[]:=yG (by omega)
   subst hw0
   refine⟨[],by simp,fun _ _ _=>rfl,fun _=>⟨[],.inl ⟨by simp[N_,hy0],⟨ad,KG⟩,rfl⟩,rfl,?_⟩,by rw[KG];exact⟨rfl,trivial⟩⟩
   have e1:fl=[]:=yG (by rw[hrx.2.1,N_];simp)
   have e2:gl=[]:=yG (by rw[hry.2.1,hy0];simp)
   rw[e1,e2];rfl
  ·refine⟨[b'],fun c f_=> ?_,fun c hcn fx=>h8 c (by simpa using hcn) fx,fun hk=> ?_,by rw[h1];exact⟨rfl,trivial⟩⟩
   ·rw[g_.1 f_]
    exact⟨h9.imp (fun g=>by rw[g];simp) id,h7⟩
   ·have zc:dD E w' F' true τ (xs++ys) (vs++us) (fl++gl):=(hrx.append hry).oV hk
    have hlen:(xs++ys).length=xs.length+ys.length:=kF
    have:=cF.jm (E:=E) (F:=F') h2 (by rw[hlen];exact h3) h4 h5 (by rw[hlen];exact h6) zc
    rw[hlen,<-h1] at this
    exact⟨_,this,rfl,rfl⟩
 have RO:bl.Nodup/\bl.length<=1:=by
  rcases sX with⟨h0,⟨ad,KG⟩,hw0,_⟩|_
  all_goals
   obtain⟨l,_,q2,_⟩:=II (fun c f_=>by
    rw[Ak,gA] at f_
    rcases f_ with g|g
    ·exact gj c (fun GG=>by
      rcases(rj c GG).1 with g2|g2
      ·exact(AE c g2).1 (NB c g).1
      ·have:=h.lT c (NB c g).1;omega) (h.lT c (NB c g).1)
    ·exact gj c (fun GG=>by
      rcases(rj c GG).1 with g2|g2
      ·exact h.apart t mm _ _ c Tu sR L3 g2 (Ao c g)
      ·have:=(kN c (Ao c g)).2.2;omega) (kN c (Ao c g)).2.2)
   rw[q2]
   match l with
   |[]=>exact⟨by simp,by simp⟩
   |x::l=>exact⟨by simp,by simp⟩
 have hF0:∀c,F c->w'.heap[c]? =w.heap[c]? :=fun c AG=>gj c (fun GG=>by
  rcases(rj c GG).1 with g2|g2
  ·exact(AE c g2).1 AG
  ·have:=h.lT c AG;omega) (h.lT c AG)
 have fQ:∀k' e',k'≠t->σ.aU k'=some e'->∀c∈fp k',w'.heap[c]? =w.heap[c]? :=fun k' e' cO Qf c f_=>gj c (fun GG=>by
  rcases(rj c GG).1 with g2|g2
  ·exact h.apart t k' _ _ c (Ne.symm cO) sR Qf g2 f_
  ·have:=(h.cU k' e' c Qf f_).2.2;omega) (h.cU k' e' c Qf f_).2.2
 have mF:∀c,F c->F' c/\w'.heap[c]? =w.heap[c]? :=fun c AG=>⟨.inl AG,hF0 c AG⟩
 have Dn:∀c∈gl.flatten,w'.heap[c]? =w.heap[c]? :=fun c f_=>fQ mm _ (Ne.symm Tu) L3 c (Ao c f_)
 obtain⟨l,zS,pf,KS⟩:=II (fun c f_=>by
  rw[Ak,gA] at f_
  exact f_.elim (fun g=>hF0 c (NB c g).1) (Dn c))
 have VN:∀c∈bl,¬F' c:=fun c GG AG=>by
  rcases(rj c GG).1 with g2|g2
  ·rcases AG with g|g
   ·exact(AE c g2).1 g
   ·exact h.apart t mm _ _ c Tu sR L3 g2 (Ao c g)
  ·rcases AG with g|g
   ·have:=h.lT c g;omega
   ·have:=(kN c (Ao c g)).2.2;omega
 generalize nZ:(⟨some (one (.ref (d,0) [])),[(0,.fz ⟨τ,xs++ys⟩)],[t],[(mm,.arr ⟨τ,ys⟩ false)],ps,[]⟩:bz U)=r at hn
 have fq:ct o r=[(d,0)]:=by rw[<-nZ];simp[ct,ho]
 have fI:fM r=[mm]:=by rw[<-nZ];rfl
 have lc:r.gH=[t]:=by rw[<-nZ]
 let fp':=bx (bx fp mm mb) (d,0) bl
 let tk':=bx tk (d,0) (fl++gl).flatten
 have Ap:fp' (d,0)=bl:=gW
 have aa1:fp' mm=mb:=by show bx _ _ _ _=_;rw[kf Og,gW]
 have Dp:∀k',k'≠(d,0)->k'≠mm->fp' k'=fp k':=fun k' h1 h2=>by show bx _ _ _ _=_;rw[kf h1,kf h2]
 have zb:tk' (d,0)=(fl++gl).flatten:=gW
 have ov:∀k',k'≠(d,0)->tk' k'=tk k':=fun k' h1=>kf h1
 have eF:∀k' e,(AM.apply o r σ).aU k'=some e->(k'=(d,0)/\e=.fz ⟨τ,xs++ys⟩)\/(k'=mm/\e=.arr ⟨τ,ys⟩ false)\/(k'≠(d,0)/\k'≠mm/\k'≠t/\σ.aU k'=some e):=by
  intro k' e bp
  by_cases g:k'∈ct o r\/k'∈fM r
  ·rcases Kn o r σ k' e bp g with⟨j,q1,q2⟩|q
   ·rw[<-nZ] at q2
    simp only[g_,kG] at q2
    rw[ho,q2.1] at q1
    exact .inl ⟨q1,q2.2⟩
   ·rw[<-nZ] at q
    simp only[g_,kG] at q
    exact .inr (.inl q)
  ·simp only[not_or] at g
   by_cases g2:k'∈r.gH
   ·rw[MZ o r σ k' g.1 g.2 g2] at bp;cases bp
   ·rw[Km o r σ k' g.1 g.2 g2] at bp
    rw[fq,fI] at g
    rw[lc] at g2
    exact .inr (.inr ⟨by simpa using g.1,by simpa using g.2,by simpa using g2,bp⟩)
 have PO:∀c∈(fl++gl).flatten,F' c/\(pm.W c\/pm.w0.heap.size<=c):=fun c f_=>by
  rw[Ak,gA] at f_
  rcases f_ with g|g
  ·have:=NB c g;exact⟨.inl this.1,this.2⟩
  ·exact⟨.inr g,(kN c (Ao c g)).2.1⟩
 have hbW:∀c∈bl,pm.W c\/pm.w0.heap.size<=c:=fun c GG=>by
  rcases(rj c GG).1 with g2|g2
  ·exact(AE c g2).2.1
  ·exact .inr (by rw[g2];exact h.upto.size)
 have apc:(fl++gl).flatten.Nodup:=by
  rw[Ak,nH]
  refine⟨by rw[<-htt];exact ht.nodup t _ sR rfl,m2,fun c f_ c' apJ e=> ?_⟩
  subst e
  exact(kN c (Ao c apJ)).1 (NB c f_).1
 refine pC (v:=v') fw (hn F' (bx kv (d,0) v') fp' _ _ (h.GY (F':=F') (w':=w') o r v' (fun d' wo=>by rw[ho] at wo;cases wo;exact hd) ?_ ?_ ?_ ?_ mF ?_ ?_ ?_ ?_ (fun c AG=> ?_) (fun c AG=> ?_) ?_ mS (fun k hk=>by rw[<-nZ] at hk;exact absurd hk rh) ⟨tk',?_,?_,?_,?_⟩))
 ·intro sv rD
  rw[<-nZ] at rD
  cases rD
  exact fT ⟨PV,.inr (by simp only[RA,gW];rfl)⟩
 ·intro k' bp;rw[fq] at bp;exact kf (by simpa using bp)
 ·intro k' bp vL;rw[fq] at bp;rw[fI] at vL;exact Dp k' (by simpa using bp) (by simpa using vL)
 ·intro k' bp;rw[fq] at bp;rw[g_.1 bp];exact jq
 ·intro k' e' _ _ eS dr c f_
  rw[lc] at eS
  exact fQ k' e' (by simpa using eS) dr c f_
 ·intro k' e bp
  have vL:(k'=(d,0)/\e=.fz ⟨τ,xs++ys⟩)\/(k'=mm/\e=.arr ⟨τ,ys⟩ false):=by
   rw[<-nZ] at bp
   rcases bp with⟨j,q1,q2⟩|q
   ·simp only[g_,kG] at q2
    rw[ho,q2.1] at q1
    exact .inl ⟨q1,q2.2⟩
   ·simp only[g_,kG] at q
    exact .inr q
  rcases vL with⟨rfl,rfl⟩|⟨rfl,rfl⟩
  ·rw[Ap];exact⟨trivial,RO.1,fun c GG=>⟨VN c GG,hbW c GG,(rj c GG).2⟩⟩
  ·rw[aa1,kf Og]
   refine⟨hmf w' F' (fun c f_=>fQ _ _ (Ne.symm Tu) L3 c (KP c f_)) (fun c f_=>⟨.inr f_,Dn c f_⟩),m1,fun c f_=>⟨fun AG=> ?_,(kN c (KP c f_)).2.1,MI (kN c (KP c f_)).2.2 mS⟩⟩
   rcases AG with g|g
   ·exact(kN c (KP c f_)).1 g
   ·exact m3 c f_ c g rfl
 ·intro k' e' c _ eS V0 dr f_ AG
  rw[fI] at eS
  rcases AG with g|g
  ·exact(h.cU k' e' c dr f_).1 g
  ·exact h.apart k' mm _ _ c (by simpa using eS) dr L3 f_ (Ao c g)
 ·intro k1 k2 c oc lg eS f_ Fg
  rw[fq,fI] at lg eS
  simp only[g_] at lg eS
  have oth:∀k2,k2≠(d,0)->k2≠mm->k2∉r.gH->(σ.aU k2).isSome=true->c∈fp' k2->(c∈bl->False)/\(c∈mb->False):=by
   intro k2 g1 g2 g3 g4 g5
   rw[Dp k2 g1 g2] at g5
   obtain⟨e2,nX⟩:=kH.1 g4
   rw[lc] at g3
   have g3':k2≠t:=by simpa using g3
   refine⟨fun q=> ?_,fun q=>h.apart mm k2 _ _ c (Ne.symm g2) L3 nX (KP c q) g5⟩
   rcases(rj c q).1 with q|q
   ·exact h.apart t k2 _ _ c (Ne.symm g3') sR nX q g5
   ·have:=(h.cU k2 e2 c nX g5).2.2;omega
  have two:c∈bl->c∈mb->False:=fun q1 q2=>by
   rcases(rj c q1).1 with q|q
   ·exact h.apart t mm _ _ c Tu sR L3 q (KP c q2)
   ·have:=(kN c (KP c q2)).2.2;omega
  rcases lg with rfl|rfl
  ·rw[Ap] at f_
   by_cases g2:k2=mm
   ·subst g2;rw[aa1] at Fg;exact two f_ Fg
   ·rcases eS with rfl|rfl|⟨eS,pf⟩
    ·exact oc rfl
    ·exact g2 rfl
    ·exact(oth k2 (Ne.symm oc) g2 eS pf Fg).1 f_
  ·rw[aa1] at f_
   by_cases g2:k2=(d,0)
   ·subst g2;rw[Ap] at Fg;exact two Fg f_
   ·rcases eS with rfl|rfl|⟨eS,pf⟩
    ·exact g2 rfl
    ·exact oc rfl
    ·exact(oth k2 g2 (Ne.symm oc) eS pf Fg).2 f_
 ·rcases AG with g|g
  ·exact MI (h.lT c g) mS
  ·exact MI (kN c (Ao c g)).2.2 mS
 ·rcases AG with g|g
  ·exact h.ny c g
  ·exact .inr (kN c (Ao c g)).2.1
 ·refine h.upto.trans ⟨hos,htp,rE,mS,fun c fx Ez=>gj c (fun GG=>Ez ?_) fx,NQ⟩
  exact hbW c GG
 ·intro k' e bp hl
  rcases eF k' e bp with⟨rfl,rfl⟩|⟨rfl,rfl⟩|⟨g1,g2,g3,g4⟩
  ·rw[Ap,zb,gW]
   exact⟨l,zS,pf,KS⟩
  ·cases hl
  ·rw[Dp k' g1 g2,ov k' g1,kf g1]
   exact(ht.str k' e g4 hl).cI mF (fQ k' e g3 g4) (fun c f_=>hF0 c (ht.own k' e c g4 hl f_).1)
 ·intro k' e bp hl
  rcases eF k' e bp with⟨rfl,rfl⟩|⟨rfl,rfl⟩|⟨g1,g2,g3,g4⟩
  ·rw[zb];exact apc
  ·cases hl
  ·rw[ov k' g1];exact ht.nodup k' e g4 hl
 ·intro k1 k2 e1' QG c oc lg eS aaS TR js iY
  have oth:∀k2 QG,k2≠(d,0)->k2≠mm->k2≠t->σ.aU k2=some QG->QG.wk=true->c∈tk k2->c∈(fl++gl).flatten->False:=by
   intro k2 QG g1 g2 g3 g4 g5 g6 g7
   rw[Ak,gA] at g7
   rcases g7 with g|g
   ·exact ht.apart t k2 _ _ c (Ne.symm g3) sR g4 rfl g5 (by rw[htt];exact g) g6
   ·exact(kN c (Ao c g)).1 (ht.own k2 _ c g4 g5 g6).1
  rcases eF k1 e1' lg with⟨rfl,rfl⟩|⟨rfl,rfl⟩|⟨g1,g2,g3,g4⟩
  ·rw[zb] at js
   rcases eF k2 QG eS with⟨rfl,rfl⟩|⟨rfl,rfl⟩|⟨q1,q2,q3,q4⟩
   ·exact oc rfl
   ·cases TR
   ·rw[ov _ q1] at iY;exact oth k2 QG q1 q2 q3 q4 TR iY js
  ·cases aaS
  ·rw[ov _ g1] at js
   rcases eF k2 QG eS with⟨rfl,rfl⟩|⟨rfl,rfl⟩|⟨q1,q2,q3,q4⟩
   ·rw[zb] at iY;exact oth k1 e1' g1 g2 g3 g4 aaS js iY
   ·cases TR
   ·rw[ov _ q1] at iY;exact ht.apart k1 k2 _ _ c oc g4 q4 aaS TR js iY
 ·intro k' e c bp hl f_
  rcases eF k' e bp with⟨rfl,rfl⟩|⟨rfl,rfl⟩|⟨g1,g2,g3,g4⟩
  ·rw[zb] at f_;exact PO c f_
  ·cases hl
  ·rw[ov k' g1] at f_
   have:=ht.own k' e c g4 hl f_
   exact⟨.inl this.1,this.2⟩
theorem aoB(h:cd E pm F kv fp σ a w){τ:U.Ty}{rs:List Key}{x:AC U}{v:Value}{ps:List Prop}{ys:List (U.T τ)}(hr:FB τ (restrict σ.aU rs) σ.ay x=some (ps,ys))(hp:∀p∈ps,p)(hx:RD E w F kv fp (aZ σ) x v):
  ∃ad c us,v=.slice ad ys.length c/\dD E w F false τ ys us (List.replicate (ys.length*U.wd τ) [])/\(0<ys.length->∃b off,ad=some ⟨b,off,none⟩/\∀i u,us[i]? =some u->w.cell? ⟨b,off+i,none⟩=some u):=by
 have shr:∀{zs:List (U.T τ)},Rp E w F false (.sl τ zs) v []->∃ad c us,v=.slice ad zs.length c/\dD E w F false τ zs us (List.replicate (zs.length*U.wd τ) [])/\(0<zs.length->∃b off,ad=some ⟨b,off,none⟩/\∀i u,us[i]? =some u->w.cell? ⟨b,off+i,none⟩=some u):=by
  intro zs g
  rcases g.inv with⟨h0,ad,c,h1⟩|⟨b,off,cap,vs,h1,hF,hc,hv,TA⟩
  ·subst h0
   exact⟨ad,c,[],h1,⟨by simp,by simp,fun i x j c hx=>by simp at hx⟩,fun hh=>by simp at hh⟩
  ·refine⟨_,cap,(List.range (zs.length*U.wd τ)).map vs,h1,⟨by simp,by simp,fun i x j c hx hj=> ?_⟩,fun _=>⟨b,off,rfl,fun i u hu=> ?_⟩⟩
   ·have fx:=eI hx hj
    have:=TA i x j c hx hj
    rw[gh,mE,JZ fx,kA]
    exact this
   ·rw[mE] at hu
    by_cases hi:i<zs.length*U.wd τ
    ·rw[JZ hi] at hu
     simp only[Ef,eZ] at hu
     rw[<-hu];exact hv i hi
    ·rw[lU (by simp;omega)] at hu;cases hu
 unfold FB at hr
 split at hr
 ·cases hr
  obtain⟨ad,rfl⟩:=bG hx rfl
  exact⟨ad,0,[],rfl,⟨by simp,by simp,fun i x j c hx=>by simp at hx⟩,fun hh=>by simp at hh⟩
 ·rename_i s8 zs
  cases hz:dC τ ⟨s8,zs⟩ with
  |none=>rw[hz] at hr;cases hr
  |some zs'=>
   rw[hz] at hr
   cases hr
   have:=bJ hz
   cases this
   exact shr (bG hx rfl)
 ·rename_i k
  split at hr
  ·rename_i x0 he
   cases hz:dC τ x0 with
   |none=>rw[hz] at hr;cases hr
   |some zs'=>
    rw[hz] at hr
    cases hr
    have:=bJ hz
    subst this
    have hv:v=kv k:=bG hx rfl
    have ho:cF E w F false ⟨τ,ys⟩ (kv k) (fp k):=h.cT k _ (fA he)
    rw[<-hv] at ho
    rcases ho.rows with⟨h1,⟨ad,h2⟩,h3⟩|⟨b,cap,cur,us,gl,h1,h2,h3,h4,h5,h6,h7,h8⟩
    ·simp only at h1
     subst h1
     exact⟨ad,0,[],h2,⟨by simp,by simp,fun i x j c hx=>by simp at hx⟩,fun hh=>by simp at hh⟩
    ·simp only at h1 h2 h3 h5 h6 h7
     refine⟨_,cap,us,h1,h7.i_ (fun _ hb=>hb) (fun c hc=>by rw[h7.q_] at hc;cases hc),fun _=>⟨b,0,rfl,fun i u hu=> ?_⟩⟩
     rw[<-h6,mP] at hu
     split at hu
     ·rw[cell_of_row w b _ cur _ (0,0) h2];simpa using hu
     ·cases hu
  ·cases hr
 ·rename_i k s
  split at hr
  ·rename_i x0 he
   cases fa:eg (restrict σ.aU rs) σ.ay k [s]<;>simp only[fa,cond_false,cond_true] at hr
   ·cases hr
   ·split at hr
    ·rename_i HV b hw
     cases hz:dC τ b with
     |none=>rw[hz] at hr;cases hr
     |some zs'=>
      rw[hz] at hr
      cases hr
      have:=bJ hz
      subst this
      have dr:=fA he
      have hn:=bG hx (y4 fa he)
      obtain⟨tk,ht⟩:=h.bQ
      obtain⟨i,wd,j⟩:=s
      obtain⟨X5,x0s⟩:=x0
      simp only[walk] at hw
      cases mH:Nat.beq wd (U.wd X5)<;>simp only[mH,cond_false,cond_true] at hw
      ·cases hw
      have KF:wd=U.wd X5:=jp mH
      subst KF
      split at hw
      rotate_left
      ·cases hw
      rename_i τ1 zs lB
      simp only[eZ,kG] at hw
      obtain⟨rfl,hb⟩:=hw
      cases hb
      have hi:i<x0s.length:=hp _ (by simp)
      have qt:=dz (d:=U.dt X5) hi
      have fx:=eI qt lB
      rcases ht.str k _ dr rfl with⟨h0,_⟩|⟨bk,cap,cur,vs,dH,e1,hb,hc,hm,lh,hv,TA,jh,lN,H0⟩
      ·simp only at h0;rw[h0] at hi;simp at hi
      have fB:=TA i _ j _ (by simp) qt lB
      simp only[RA,mg] at hn
      obtain⟨b2,o2,n2,c2,u,q1,q2,⟨_,q3⟩,q4⟩:=hn
      rw[e1] at q1
      simp only[Value.slice.injEq,eZ,Addr.mk.injEq,and_true] at q1
      obtain⟨⟨rfl,rfl⟩,_,_⟩:=q1
      rw[cell_of_row w bk _ cur _ (0,0) hb,oz,(hv _ fx).1] at q3
      cases q3
      subst q4
      have ho:=fB.ud
      rcases ho.rows with⟨h1,⟨ad,h2⟩,h3⟩|⟨b,cap,cur,us,gl,h1,h2,h3,h4,h5,h6,h7,h8⟩
      ·simp only at h1
       subst h1
       exact⟨ad,0,[],h2,⟨by simp,by simp,fun i x j c hx=>by simp at hx⟩,fun hh=>by simp at hh⟩
      ·simp only at h1 h2 h3 h5 h6 h7
       refine⟨_,cap,us,h1,h7.i_ (fun _ hb=>hb) (fun c hc=>(ht.own k _ c dr rfl ?_).1),fun _=>⟨b,0,rfl,fun i u hu=> ?_⟩⟩
       ·rw[H0]
        refine ln.2 ⟨_,oh.2 fx,?_⟩
        rw[h8];exact hc
       ·rw[<-h6,mP] at hu
        split at hu
        ·rw[cell_of_row w b _ cur _ (0,0) h2];simpa using hu
        ·cases hu
    ·cases hr
  ·cases hr
 ·cases hr
theorem aoy(hE:E.Ok)(h:cd E pm F kv fp σ a w){o:Oper}(hd:∀d,o.dst=some d->d<σ.n){cl:Call}{f:FuncId}(mI:o.op=.call cl)(fa:cl.callee=.value (.func f)){τ:U.Ty}(hf:E.Wa f=some τ)
  {xs:List (SV U)} (PJ:xs.length=cl.args.toList.length) (Rx:∀(i:Nat)(x:SV U)(q:Operand),xs[i]? =some x->cl.args.toList[i]? =some q->RS E w F kv fp (aZ σ) x (a.eval q)) {rs:List Key} {r:bz U}
  (hr:uL (restrict σ.aU rs) σ.ay (o.dst.getD 1000000) o.dst.isSome τ xs=some r) (hp:∀p∈r.pre,p) (jq:∀k∈ct o r,¬Names σ k)
  {next:Act->World->Prop} {Q:Exit->Act->World->Prop} (hn:∀F kv fp a' w',cd E pm F kv fp (AM.apply o r σ) a' w'->next a' w'):o.wp E.P a w next Q:=by
 obtain⟨Qb,fw⟩:=hE.Wa f τ hf
 unfold uL at hr
 split at hr
 rotate_left
 ·cases hr
 rename_i x
 split at hr
 rotate_left
 ·cases hr
 rename_i y hy
 split at hr
 rotate_left
 ·cases hr
 rename_i ps ys apH
 rw[fc] at hr
 split at hr
 rotate_left
 ·cases hr
 rename_i EC
 cases hr
 obtain⟨d,ho⟩:=kH.1 EC
 have wo:=hd d ho
 have hg:o.dst.getD 1000000=d:=by rw[ho];rfl
 rw[hg] at hn
 obtain⟨q,hq⟩:∃q,cl.args.toList=[q]:=by
  match hq:cl.args.toList,PJ with
  |[q],_=>exact⟨q,rfl⟩
 have hv:=bD (Rx 0 x q rfl (by rw[hq];rfl)) hy
 obtain⟨ad,c,us,hav,fB,kk⟩:=aoB h apH (fun p hpp=>hp p (oE _ hpp)) hv
 have hle:ys.length<=4294967296:=hp _ (by simp)
 have Dr:=fw w ad ys.length c us fB.1 kk fB.dQ hle
 show o.upon E.P a next Q ((execOp a.eval o).run E.P w)
 rw[R8 mI fa Qb,Oper.upon_enter,hq,rl,List.map_nil,hav]
 refine Dr.mono ?_
 rintro e w' ⟨v',rfl,kx,sX⟩
 show next (a.put o.dst v') w'
 have eW:∀b,b<w.heap.size->w'.heap[b]? =w.heap[b]? :=fun b hb=>kx.block b hb (fun x=>x)
 have aeR:¬Names σ (d,0):=jq _ (by simp[ct,ho])
 have II:dD E w' F false τ ys us (List.replicate (ys.length*U.wd τ) []):=fB.cI (fun b hb=>⟨hb,eW b (h.lT b hb)⟩) (by simp)
 rcases sX with⟨h0,Lg,Eh⟩|⟨b',qo,cur',Eh,h2,h3,h4,h5,h6,h7,h8⟩
 ·have hy0:ys=[]:=yG h0
  subst hy0
  refine hn F _ _ _ _ (h.zx ho wo (.arr ⟨τ,[]⟩ false) (one (.ref (d,0) [])) [] _ v' v' [] aeR (fun bad=>fT ⟨by rw[Eh];exact⟨rfl,trivial⟩,.inr (by simp only[RA,gW];rfl)⟩)
   (fun bad=> .inl ⟨rfl,⟨Lg,Eh⟩,rfl⟩) (fun b hb=>⟨hb,eW b (h.lT b hb)⟩) (fun b hb=> .inl hb) (fun k e _ he b hb=>eW b (vx h he hb)) (by simp) (by simp) (kx.mono (fun _ hh=>hh.elim)))
 ·refine hn F _ _ _ _ (h.zx ho wo (.arr ⟨τ,ys⟩ false) (one (.ref (d,0) [])) [] _ v' v' [b'] aeR (fun bad=>fT ⟨by rw[Eh];exact⟨rfl,trivial⟩,.inr (by simp only[RA,gW];rfl)⟩)
   (fun bad=> ?_) (fun b hb=>⟨hb,eW b (h.lT b hb)⟩) (fun b hb=> .inl hb) (fun k e _ he b hb=>eW b (vx h he hb)) (by simp) (fun b hb=> ?_) (kx.mono (fun _ hh=>hh.elim)))
  ·have:=cF.jm (E:=E) h2 h3 h4 h5 h6 II
   rw[II.q_,<-Eh] at this
   exact this
  ·rw[g_.1 hb]
   exact⟨fun hF=>by have:=h.lT _ hF;omega,.inr ⟨h7,h8⟩⟩
theorem amU(hE:E.Ok)(h:cd E pm F kv fp σ a w){o:Oper}(hd:∀d,o.dst=some d->d<σ.n){cl:Call}{f:FuncId}(mI:o.op=.call cl)(fa:cl.callee=.value (.func f))
  {xs:List (SV U)} (PJ:xs.length=cl.args.toList.length) (ol:∀x∈xs,∀k∈x.keys,Names σ k) (Rx:∀(i:Nat)(x:SV U)(q:Operand),xs[i]? =some x->cl.args.toList[i]? =some q->RS E w F kv fp (aZ σ) x (a.eval q)) {ps:List Prop} {cs:List (AC U)}
  (hr:E.raw f xs=some (ps,cs)) (hp:∀p∈ps,p)
  {next:Act->World->Prop} {Q:Exit->Act->World->Prop} (hn:∀F kv fp a' w',cd E pm F kv fp (AM.apply o (.cv (.v ⟨true,cs⟩) ps) σ) a' w'->next a' w'):o.wp E.P a w next Q:=by
 obtain⟨Qb,fw⟩:=hE.raw f xs ps cs hr
 have Dr:=fw hp w F kv fp (aZ σ) (cl.args.toList.map a.eval) h.lT h.lay (by simpa using PJ) (fun i x v hx hv=>by
  rw[mE] at hv
  cases hq:cl.args.toList[i]? with
  |none=>rw[hq] at hv;cases hv
  |some q=>rw[hq] at hv;cases hv;exact Rx i x q hx hq)
 show o.upon E.P a next Q ((execOp a.eval o).run E.P w)
 rw[R8 mI fa Qb,Oper.upon_enter]
 refine Dr.mono ?_
 rintro e w' ⟨us,rfl,kx,hlen,rG⟩
 show next (a.put o.dst (.agg us.toArray)) w'
 have eW:∀b,b<w.heap.size->w'.heap[b]? =w.heap[b]? :=fun b hb=>kx.block b hb (fun x=>x)
 have mF:∀b,F b->(F b\/(w.heap.size<=b/\b<w'.heap.size))/\w'.heap[b]? =w.heap[b]? :=fun b hb=>⟨.inl hb,eW b (h.lT b hb)⟩
 have nd:∀k,mz w w' kv kv fp fp (aZ σ) (aZ σ) k:=fun k=>by
  refine⟨rfl,?_⟩
  cases hb:aZ σ k with
  |true=>exact .inl rfl
  |false=>
   refine .inr ⟨rfl,rfl,fun b aI=> ?_⟩
   unfold aZ at hb
   simp only[Ox] at hb
   cases he:σ.aU k with
   |none=>rw[he] at hb;simp at hb
   |some e=>exact .of (eW b (vx h he aI))
 refine hn (fun b=>F b\/(w.heap.size<=b/\b<w'.heap.size)) kv fp _ w' (h.apply (F':=fun b=>F b\/(w.heap.size<=b/\b<w'.heap.size)) (w':=w') o _ (.agg us.toArray) hd ?_ (fun _ _=>rfl) (fun _ _ _=>rfl) ?_ mF (fun k e _ _ _ he b hb=>eW b (vx h he hb)) ?_ ?_ ?_ (fun b hb=> ?_) (fun b hb=> ?_) (h.upto.trans (kx.mono (fun _ hh=>hh.elim))) kx.size (fun _ hk=>absurd hk rh) (fun k e hk=>by simp[bz.cv] at hk))
 ·intro sv rD
  cases rD
  refine⟨us,⟨hlen.symm,fun j y u hy hu=> ?_⟩,rfl⟩
  rcases rG j y u hy hu with g|⟨c,rfl,g⟩
  ·exact g.move (fun k _=>nd k) mF
  ·exact⟨g.dQ,.inr g⟩
 ·intro k hk;simp[ct,bz.cv] at hk
 ·intro k e hk;simp[bz.cv] at hk
 ·intro k e b _ _ _ he hb hF
  rcases hF with g|g
  ·exact(h.cU k e b he hb).1 g
  ·have:=vx h he hb;omega
 ·intro k k' b _ hk;simp[ct,fM,bz.cv] at hk
 ·rcases hb with g|g
  ·exact MI (h.lT b g) kx.size
  ·exact g.2
 ·rcases hb with g|g
  ·exact h.ny b g
  ·exact .inr (.inr (En h.upto.size g.1))
theorem amm(hE:E.Ok)(h:cd E pm F kv fp σ a w){o:Oper}(hd:∀d,o.dst=some d->d<σ.n){cl:Call}{f:FuncId}(mI:o.op=.call cl)(fa:cl.callee=.value (.func f)){q:Rh U}(hf:E.Vt f=some q)
  {xs:List (SV U)} (PJ:xs.length=cl.args.toList.length) (ol:∀x∈xs,∀k∈x.keys,Names σ k) (Rx:∀(i:Nat)(x:SV U)(q:Operand),xs[i]? =some x->cl.args.toList[i]? =some q->RS E w F kv fp (aZ σ) x (a.eval q)) {rs:List Key} {r:bz U}
  (hr:Kd (restrict σ.aU rs) q xs=some r) (hp:∀p∈r.pre,p)
  {next:Act->World->Prop} {Q:Exit->Act->World->Prop} (hn:∀F kv fp a' w',cd E pm F kv fp (AM.apply o r σ) a' w'->next a' w'):o.wp E.P a w next Q:=by
 obtain⟨Qb,fw⟩:=hE.Vt f q hf
 unfold Kd at hr
 split at hr
 rotate_left
 ·cases hr
 rename_i k g
 split at hr
 rotate_left
 ·cases hr
 rename_i a0 he
 split at hr
 rotate_left
 ·cases hr
 rename_i ys hys
 rw[fc] at hr
 split at hr
 rotate_left
 ·cases hr
 rename_i hg
 cases hr
 have hg:=jp hg
 subst hg
 have:=bJ hys
 subst this
 have dr:=fA he
 obtain⟨q1,q2,hq⟩:∃q1 q2,cl.args.toList=[q1,q2]:=by
  match hq:cl.args.toList,PJ with
  |[q1,q2],_=>exact⟨q1,q2,rfl⟩
 have hv:=bD (Rx 0 _ q1 rfl (by rw[hq];rfl)) (y:=.ref k []) rfl
 have NA:a.eval q1=kv k:=bG hv rfl
 have Nz:a.eval q2=.func (.func q.g) #[] #[]:=by
  obtain⟨oe,c1,c2,_⟩:=Rx 1 _ q2 rfl (by rw[hq];rfl)
  have:oe=[]:=yG c2.symm
  rw[c1,this]
 have ho:cF E w F false ⟨q.τ,ys⟩ (kv k) (fp k):=h.cT k _ dr
 have mT:∀b∈fp k,b<w.heap.size/\¬F b:=fun b hb=>⟨(h.cU k _ b dr hb).2.2,(h.cU k _ b dr hb).1⟩
 have Dr:=fw w F (kv k) (fp k) ys h.lT h.lay ho mT (hp _ (by simp))
 show o.upon E.P a next Q ((execOp a.eval o).run E.P w)
 rw[R8 mI fa Qb,Oper.upon_enter,hq,rl,rl,List.map_nil,NA,Nz]
 refine Dr.mono ?_
 rintro e w' ⟨rfl,kx,kz⟩
 show next (a.put o.dst (.tuple #[])) w'
 have eW:∀b,b<w.heap.size->b∉fp k->w'.heap[b]? =w.heap[b]? :=fun b hb hn=>kx.block b hb hn
 have mF:∀b,F b->F b/\w'.heap[b]? =w.heap[b]? :=fun b hb=>⟨hb,eW b (h.lT b hb) (fun hm=>(mT b hm).2 hb)⟩
 refine hn F kv fp _ w' (h.apply o _ (.tuple #[]) hd (fun sv rD=> ?_) (fun _ _=>rfl) (fun _ _ _=>rfl) (fun k' hk=>by simp[ct] at hk) mF (fun k' e' _ hu _ nX b hb=> ?_) (fun k' e' hk=> ?_) (fun k' e' b _ _ _ nX hb=>(h.cU k' e' b nX hb).1) (fun k' k2 b cO lg eS hb=> ?_) (fun b hb=>MI (h.lT b hb) kx.size) h.ny (h.upto.trans (kx.mono fun b hb=> ?_)) kx.size (fun _ hk=>absurd hk rh) (fun k' e' hk=> ?_))
 ·cases rD
  exact⟨[],rfl,rfl,fun i x u hx=>by simp at hx⟩
 ·have cO:k'≠k:=fun e=>hu (by simp[fM,e])
  exact eW b (vx h nX hb) (fun hm=>h.apart k' k _ _ b cO nX dr hb hm)
 ·rcases hk with⟨j,_,hj⟩|hk
  ·cases hj
  ·rw[g_] at hk
   cases hk
   exact⟨kz,h.nodup k _ dr,fun b hb=>⟨(mT b hb).2,(h.cU k _ b dr hb).2.1,MI (mT b hb).1 kx.size⟩⟩
 ·have e1:k'=k:=by simpa[ct,fM] using lg
  subst e1
  rcases eS with eS|eS|⟨_,eS⟩
  ·simp[ct] at eS
  ·exact absurd (by simpa[fM] using eS:k2=k').symm cO
  ·obtain⟨e2,nX⟩:=kH.1 eS
   exact h.apart k' k2 _ _ b cO dr nX hb
 ·exact(h.cU k _ b dr hb).2.1
 ·rcases hk with⟨j,_,hj⟩|hk
  ·cases hj
  ·rw[g_] at hk
   cases hk;rfl
theorem amf(h:cd E pm F kv fp σ a w){o:Oper}(hd:∀d,o.dst=some d->d<σ.n){t:TypeId}{x:Operand}{sx:SV U}{y:AC U}{ks:List Key}{r:bz U}(ho:o.op=.load t x)
  (hx:RS E w F kv fp (aZ σ) sx (a.eval x)) (hc:sd sx=some y) (ol:∀k∈y.keys,Names σ k) (hs:E.size t=some 1) {g:Bool} (hg:E.isAgg t=some g)
  (hr:Kb (restrict σ.aU ks) (o.dst.getD 1000000) g y=some r) (hp:∀p∈r.pre,p) (jq:∀k∈ct o r,¬Names σ k)
  {next:Act->World->Prop} {Q:Exit->Act->World->Prop} (hn:∀F kv fp a' w',cd E pm F kv fp (AM.apply o r σ) a' w'->next a' w'):o.wp E.P a w next Q:=by
 have hx:=bD hx hc
 unfold Kb at hr
 split at hr
 ·rename_i k i wd
  split at hr
  ·rename_i x0 he
   rw[fc] at hr
   split at hr
   ·rename_i hw
    simp only[fY] at hw
    split at hr
    ·rename_i b hb
     cases hr
     exact ama (sx:=sx) h hd ho hx (ol k (by simp[AC.keys])) hs hg (fA he) (jp hw.1) (jp hw.2) hb (hp _ (by simp)) (jq _ (by simp[ct])) hn
    ·cases hr
   ·cases hr
  ·rename_i x0 he
   rw[fc] at hr
   split at hr
   ·rename_i hw
    simp only[fY,sS] at hw
    split at hr
    ·rename_i b hb
     cases hr
     exact amb h hd ho hx (ol k (by simp[AC.keys])) hs (hw.2▸hg) (fA he) (jp hw.1.1) (jp hw.1.2) hb (hp _ (by simp)) (jq _ (by simp[ct])) hn
    ·cases hr
   ·cases hr
  ·cases hr
 ·cases hr
theorem am0(h:cd E pm F kv fp σ a w){o:Oper}(H4:o.dst=none){t:TypeId}{x y:Operand}(ho:o.op=.store t x y){sx:SV U}{c:AC U}{z:AV U}{n:Nat}{ks:List Key}{r:bz U}
  (hx:RS E w F kv fp (aZ σ) sx (a.eval x)) (hc:sd sx=some c) (hy:RS E w F kv fp (aZ σ) (.v z) (a.eval y)) (hs:E.size t=some n) (hn:n=z.cs.length) (NE:n=1)
  (hr:putAt (restrict σ.aU ks) z c=some r) (hp:∀p∈r.pre,p)
  {next:Act->World->Prop} {Q:Exit->Act->World->Prop} (J4:∀F kv fp a' w',cd E pm F kv fp (AM.apply o r σ) a' w'->next a' w'):o.wp E.P a w next Q:=by
 unfold putAt at hr
 split at hr
 ·rename_i k i wd
  split at hr
  ·rename_i x0 j y0 he
   rw[fc] at hr
   split at hr
   ·rename_i hw
    simp only[fY] at hw
    split at hr
    ·rename_i qs ds ks' vj
     split at hr
     ·rename_i yv vM
      rw[fc] at hr
      split at hr
      ·rename_i pj
       cases hr
       exact amW h H4 ho hx hc hy hs hn he hw.1 hw.2 vj vM pj (fun p jf=>hp p (by simp[jf])) (hp _ (by simp)) J4
      ·cases hr
     ·cases hr
    ·cases hr
   ·cases hr
  ·rename_i x0 j he
   split at hr
   ·rename_i t' hz
    split at hr
    ·rename_i b sR
     rw[fc] at hr
     split at hr
     ·rename_i hw
      split at hr
      ·rename_i yv vM
       rw[fc] at hr
       split at hr
       ·cases hr
        exact amX h H4 ho (bD hx hc) hy (NE▸hs) hz (fA he) (fA sR) (jp hw) vM (hp _ (by simp)) J4
       ·cases hr
      ·cases hr
     ·cases hr
    ·cases hr
   ·cases hr
  ·cases hr
 ·cases hr
theorem amH{tb:mG U}{m:Key}{ps:List Prop}{b:fK U}(h:OM tb m=some (ps,b)):(tb m=some (.arr b true)/\ps=[])\/∃dead,tb m=some (.part b dead)/\ps=[∀i,i<b.xs.length->dead i=false]:=by
 unfold OM at h
 split at h
 ·rename_i b' hb;cases h;exact .inl ⟨hb,rfl⟩
 ·rename_i b' dead hb;cases h;exact .inr ⟨dead,hb,rfl⟩
 ·cases h
theorem ao3{τ:U.Ty}{tb:mG U}{dst:Nat}{x y:AC U}{r:bz U}(h:QR τ tb dst x y=some r):∃t m xs ys ps,x=.ref t []/\y=.ref m []/\tb t=some (.fz ⟨τ,xs⟩)/\OM tb m=some (ps,⟨τ,ys⟩)/\t≠m/\
  r=⟨some (one (.ref (dst,0) [])),[(0,.fz ⟨τ,xs++ys⟩)],[t],[(m,.arr ⟨τ,ys⟩ false)],ps++[xs.length+ys.length<=4294967296],[]⟩:=by
 unfold QR at h
 split at h
 ·rename_i t m
  split at h
  ·rename_i a ps b h1 h2
   split at h
   ·rename_i xs ys h3 h4
    rw[fc] at h
    split at h
    ·rename_i hd
     cases h
     rw[bJ h3] at h1
     rw[bJ h4] at h2
     have:=sV.1 hd
     exact⟨t,m,xs,ys,ps,rfl,rfl,h1,h2,by simpa using this,rfl⟩
    ·cases h
   ·cases h
  ·cases h
 ·cases h
theorem ao4(hE:E.Ok)(h:cd E pm F kv fp σ a w){o:Oper}{d:Nat}(ho:o.dst=some d)(hd:d<σ.n){cl:Call}{ty e:TypeId}{s x:Operand}(mI:o.op=.call cl)(fa:cl.callee=.builtin .append)
  (ib:cl.args.toList=[s,x]) (vi:cl.argTypes.toList=[ty,ty]) {τ:U.Ty} (pV:E.elem ty=some e) (hc:E.code e=some τ) {t mm:Key} {xs ys:List (U.T τ)} {rs:List Key} {qs:List Prop}
  (hs:RD E w F kv fp (aZ σ) (.ref t []) (a.eval s)) (hx:RD E w F kv fp (aZ σ) (.ref mm []) (a.eval x)) (sR:σ.aU t=some (.fz ⟨τ,xs⟩)) (L3:OM (restrict σ.aU rs) mm=some (qs,⟨τ,ys⟩)) (hqs:∀p∈qs,p) (Tu:t≠mm)
  (hle:xs.length+ys.length<=4294967296) (jq:¬Names σ (d,0)) (TD:Names σ t) (ol:Names σ mm) {ps:List Prop}
  {next:Act->World->Prop} {Q:Exit->Act->World->Prop}
  (hn:∀F kv fp a' w',cd E pm F kv fp (AM.apply o ⟨some (one (.ref (d,0) [])),[(0,.fz ⟨τ,xs++ys⟩)],[t],[(mm,.arr ⟨τ,ys⟩ false)],ps,[]⟩ σ) a' w'->next a' w'):o.wp E.P a w next Q:=by
 rcases amH L3 with⟨hm,_⟩|⟨dead,hm,rfl⟩
 ·exact aeb hE h ho hd mI fa ib vi pV hc hs hx sR (fA hm) hle jq TD ol hn
 ·have zT:∀i,i<ys.length->dead i=false:=hqs _ (g_.2 rfl)
  have he:=fA hm
  let FQ:ah U:={σ with iZ:=(mm,some (.arr ⟨τ,ys⟩ true))::σ.iZ}
  have lg:FQ.aU mm=some (.arr ⟨τ,ys⟩ true):=by
   show cm ((mm,some _)::σ.iZ) mm=_
   simp[cm,qd]
  have HZ:∀k',k'≠mm->FQ.aU k'=σ.aU k':=fun k' bp=>by
   show cm ((mm,some _)::σ.iZ) k'=cm σ.iZ k'
   have:fU mm k'=false:=wA.2 (Ne.symm bp)
   simp[cm,this]
  have js:aZ FQ=aZ σ:=by
   funext k'
   unfold aZ
   by_cases bp:k'=mm
   ·subst bp;rw[lg,he];rfl
   ·rw[HZ k' bp]
  have KO:∀k,Names FQ k↔Names σ k:=by
   intro k
   have s6:∀k' cs,(FQ.aU k'=some (.box cs)\/∃a i y,FQ.aU k'=some (.nA a i y)/\cs=[y])↔(σ.aU k'=some (.box cs)\/∃a i y,σ.aU k'=some (.nA a i y)/\cs=[y]):=by
    intro k' cs
    by_cases bp:k'=mm
    ·subst bp
     rw[lg,he]
     constructor
     ·rintro(g|⟨_,_,_,g,_⟩)<;>cases g
     ·rintro(g|⟨_,_,_,g,_⟩)<;>cases g
    ·rw[HZ k' bp]
   unfold Names
   constructor
   ·rintro(g|⟨k',cs,g,g'⟩)
    ·exact .inl g
    ·exact .inr ⟨k',cs,(s6 k' cs).1 g,g'⟩
   ·rintro(g|⟨k',cs,g,g'⟩)
    ·exact .inl g
    ·exact .inr ⟨k',cs,(s6 k' cs).2 g,g'⟩
  have h1:cd E pm F kv fp FQ a w:=h.conv he rfl (fun _=>rfl) (fun _=>rfl) HZ lg rfl (fun g=>cM.own g zT)
  refine aeb hE h1 ho hd mI fa ib vi pV hc (t:=t) (mm:=mm) (xs:=xs) (ys:=ys) (by rw[js];exact hs) (by rw[js];exact hx) (by rw[HZ t Tu];exact sR) lg hle (fun g=>jq ((KO _).1 g)) ((KO _).2 TD) ((KO _).2 ol) (ps:=ps) (fun F kv fp a' w' la=>hn F kv fp a' w' ?_)
  refine la.conv (k:=mm) (e1:=.arr ⟨τ,ys⟩ false) (e2:=.arr ⟨τ,ys⟩ false) ?_ rfl (fun s=> ?_) (fun _=>rfl) (fun k' bp=> ?_) ?_ rfl id
  ·rw[yZ]
   have hl:lays o (⟨some (one (.ref (d,0) [])),[(0,.fz ⟨τ,xs++ys⟩)],[t],[(mm,.arr ⟨τ,ys⟩ false)],ps,[]⟩:bz U)=[((d,0),some (.fz ⟨τ,xs++ys⟩)),(mm,some (.arr ⟨τ,ys⟩ false)),(t,none)]:=by simp[lays,ho,kX]
   have Og:fU (d,0) mm=false:=wA.2 fun e=>jq (e▸ol)
   rw[hl]
   simp[cm,qd,Og]
  ·rw[yX,yX];rfl
  ·have hl:lays o (⟨some (one (.ref (d,0) [])),[(0,.fz ⟨τ,xs++ys⟩)],[t],[(mm,.arr ⟨τ,ys⟩ false)],ps,[]⟩:bz U)=[((d,0),some (.fz ⟨τ,xs++ys⟩)),(mm,some (.arr ⟨τ,ys⟩ false)),(t,none)]:=by simp[lays,ho,kX]
   rw[yZ,yZ,hl,HZ k' bp]
  ·rw[yZ]
   have hl:lays o (⟨some (one (.ref (d,0) [])),[(0,.fz ⟨τ,xs++ys⟩)],[t],[(mm,.arr ⟨τ,ys⟩ false)],ps,[]⟩:bz U)=[((d,0),some (.fz ⟨τ,xs++ys⟩)),(mm,some (.arr ⟨τ,ys⟩ false)),(t,none)]:=by simp[lays,ho,kX]
   have Og:fU (d,0) mm=false:=wA.2 fun e=>jq (e▸ol)
   rw[hl]
   simp[cm,qd,Og]
end AM
