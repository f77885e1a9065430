/- Functions of the program with their contracts: put together by gen/link.py for FnWorks. -/
import Derived.Test.YtmlhlndkkidhoaaGreatQAmLib
import Derived.Test.YtmlhlndkkidhoaaGreatQFWorks3
import Derived.Lib.ItoaLen
import Derived.Lib.Join
namespace AM
open Go Go.Proofs.Tryz
set_option linter.unusedVariables false
set_option linter.unusedSimpArgs false
set_option maxRecDepth 100000
noncomputable section
theorem Pl(d:bB)(x:ao):(vm d x).dw=x.dw:=by
 unfold vm
 cases hp:jn d (allM d.aw x.S.ab) x.aD with
 |some m=>exact Pn _ _ _
 |none=>rfl
theorem zL{d:bB}{x:ao}{c:ae}(h:cF d x)(hn:x.dw+30<=1000000000):cF d (ii d x c)/\x.dw<=(ii d x c).dw/\(ii d x c).dw<=x.dw+30:=by
 have ht:=LG (aa c 8)
 have h0:=h.now.1
 unfold ii
 split
 ·split
  ·rename_i hs
   exact⟨jm h.tocoreX hs (nP _),by rw[qI];omega⟩
  ·exact⟨h,by omega,by omega⟩
 ·split
  ·split
   ·rename_i hs
    exact⟨Kx h hs,by rw[Pl];omega⟩
   ·exact⟨h,by omega,by omega⟩
  ·split
   ·split
    ·exact⟨h,by omega,by omega⟩
    ·exact⟨Kw h (by omega) (by omega),by rw[Pk];omega⟩
   ·split
    ·exact⟨Iu h _ _ (oK _),by rw[M9];omega⟩
    ·exact⟨h,by omega,by omega⟩
theorem FI{x:ao}{c:ae}(h:bj c):bj (eQ x c):=by
 have h8:=aq h 8
 unfold eQ
 repeat' split
 all_goals first
  |exact li h8
  |exact ky h8 _
  |exact kx (aq (aq h8 _) 3)
  |exact h8
def nu(d:bB):Nat->ao->ae->ao
 |0,x,_=>x
 |k+1,x,c=>nu d k (ii d x c) (eQ x c)
def rX(d:bB):Nat->ao->ae->ae
 |0,_,c=>c
 |k+1,x,c=>rX d k (ii d x c) (eQ x c)
theorem wM{d:bB}:∀{k:Nat}{x:ao}{c:ae},cF d x->x.dw+30*k<=1000000000->cF d (nu d k x c)/\(nu d k x c).dw<=x.dw+30*k
 |0,_,_,h,_=>⟨h,by simp only[nu];omega⟩
 |k+1,x,c,h,hn=>by
  obtain⟨h1,h2,h3⟩:=zL (c:=c) h (by omega)
  obtain⟨h4,h5⟩:=wM (k:=k) (c:=eQ x c) h1 (by omega)
  exact⟨h4,by simp only[nu];omega⟩
theorem DC{d:bB}:∀{k:Nat}{x:ao}{c:ae},bj c->bj (rX d k x c)
 |0,_,_,h=>h
 |k+1,_,_,h=>DC (k:=k) (FI h)
def yK:List Int:=[0,0,7]
def JE(c:ae):ao:=instNew (gL (iD c) yK)
def zb(c:ae):ae:=j9 (iD c) yK
def za(c:ae)(aF:Int):ao:=nu (ca c) (ag (zb c) aF).toNat (JE c) (aa (zb c) aF)
def GY(c:ae)(aF:Int):ae:=rX (ca c) (ag (zb c) aF).toNat (JE c) (aa (zb c) aF)
def instD(c:ae)(aF:Int):ao:=if(za c aF).State=1/\b8 (GY c aF) 10=true then jk (za c aF) 5 else za c aF
def instDC(c:ae)(aF:Int):ae:=if(za c aF).State=1 then aa (GY c aF) 10 else GY c aF
theorem Fb{d:bB}{s:List bH}{m:av}(hd:fz d=true)(h:iK d s m=true):m.eJ.length<=3/\m.cr=[]:=by
 simp only[iK,cK,decide_eq_true_eq] at h
 obtain⟨⟨⟨h1,h2⟩,h3⟩,_⟩:=h
 have:=(vG (LO hd h1)).1.three
 exact⟨by omega,Em h2⟩
theorem La{d:bB}{x:ao}(h:coreX d x):oT x.aD<=7000:=by
 have hm:∀m∈x.aD,lT m<=6:=fun m hm=>by
  obtain⟨h1,h2⟩:=Fb h.po (h.bZ m hm)
  simp only[lT,h2]
  have e:yt []=0:=rfl
  have e2:wH m.eJ=m.eJ.length:=by simp[wH]
  omega
 have:=vE lT 6 x.aD hm
 have:=h.Jt
 simp only[oT];omega
theorem Ko{s:aG}(h:bQ s=true):mY s<=6000:=by
 obtain⟨_,h2,h3,_⟩:=nD.1 h
 have:=vE mf 145 s.ab (fun x hx=>(qS (h3 x hx).1).2)
 simp only[mY,cQ];omega
theorem Cx{d:bB}{x:ao}(h:coreX d x):jF x<=50000:=by
 have h1:=Ko h.store
 have h2:=La h
 have h3:=(Ci h.jl).2
 have h4:=(Ar h.timers).2
 have h5:=(Cc h.oh).2.2
 simp only[jF];omega
theorem Is(c:ae):cF (ca c) (JE c):=by
 have h:=qL (iD c) (l:=yK) (fun n=>decide (0<=n/\n<=7)) (by decide) (by decide)
 have h:=yT h
 have e:JE c=⟨⟨[],1⟩,[],[],[],[],1,gL (iD c) yK⟩:=by unfold JE instNew;rw[if_pos (by omega)]
 rw[e]
 exact jK ⟨uz c,rfl,rfl,rfl,rfl,⟨h.1,by show gL (iD c) yK<=1000000000;omega⟩,by simp,by simp⟩ rfl
theorem Ou(c:ae):(JE c).dw<=7:=by
 have h:=qL (iD c) (l:=yK) (fun n=>decide (0<=n/\n<=7)) (by decide) (by decide)
 have h:=yT h
 unfold JE instNew
 rw[if_pos (by omega)];exact h.2
theorem OR{c:ae}{m:Int}(hm:m<=1000):cF (ca c) (za c m)/\(za c m).dw<=31000:=by
 have hb:(ag (zb c) m).toNat<=1000:=by
  by_cases h:0<m
  ·have:=br (c:=zb c) h;omega
  ·unfold ag;rw[if_pos (by omega)];decide
 have h0:=Ou c
 have:=wM (k:=(ag (zb c) m).toNat) (c:=aa (zb c) m) (Is c) (by omega)
 exact⟨this.1,by have:=this.2;simp only[za];omega⟩
theorem Mm{c:ae}(h:bj c):bj (zb c):=ky (xB h) _
theorem Vh{c:ae}(h:bj c)(m:Int):bj (GY c m):=DC (aq (Mm h) _)
theorem vK{c:ae}{m:Int}(hm:m<=1000):cF (ca c) (instD c m):=by
 have h:=(OR (c:=c) hm).1
 unfold instD;split
 ·exact lD h.tocoreX (.inr rfl)
 ·exact h
theorem FG{c:ae}(h:bj c)(m:Int):bj (instDC c m):=by
 have:=Vh h m
 unfold instDC;split
 ·exact aq this 10
 ·exact this
def Ye(c:ae):Int:=1+ag c 3
def Nc(c:ae):ae:=aa c 3
def kS(c:ae):av:=⟨ag c 3,lZ Ye Nc (ag (aa c 3) 4).toNat [] (aa (aa c 3) 4),[]⟩
def kl(c:ae):ae:=pc Nc (ag (aa c 3) 4).toNat (aa (aa c 3) 4)
theorem Vg{c:ae}(h:bj c):bj (Nc c):=aq h 3
def efD(code:List Int):bB:=ca (gz code)
def adW(code:List Int):ae:=iD (gz code)
def adV(code:List Int):List av:=allM (efD code).aw (cS (adW code)).ab
def aoE(code:List Int):ae:=jy (adW code)
def aoD(code:List Int):ae:=kl (aoE code)
def Zu(code:List Int):Prop:=0<(adV code).length/\b8 (aoD code) 5=false
instance (code:List Int):Decidable (Zu code):=instDecidableAnd
theorem atW{a a':av}{d d':ae}(h1:a=a')(h2:d=d'):ap [DV.agg [.lit (.int .i64 a.cN),.sl .int a.eJ,.sl .b_ a.cr]]=ap [DV.agg [.lit (.int .i64 a'.cN),.sl .int a'.eJ,.sl .b_ a'.cr]]/\ap [DV.box [.sl .byte d.b,.lit (.int .i64 d.i),.lit (.int .i64 d.h)]]=ap [DV.box [.sl .byte d'.b,.lit (.int .i64 d'.i),.lit (.int .i64 d'.h)]]:=by
 subst h1 h2;exact⟨rfl,rfl⟩
def aaw:bp UU where
 α:=ae
 md:=[.box false]
 of:=o1 oU
 ds:=fun x=>[dU x]
 pre:=fun c=>[bj c]
 bT:=fun c=>⟨[dA .az (kS c)],[],[dU (kl c)]⟩
 law:=l1 lU
def HE(c:ae):Int×T7×T7×T3×Unit->Prop:=fun(i,q,m,cu,_)=>m.1=ag c 3/\m.2.2.1=[]/\0<=i/\i<=3/\m.2.1.length+i<=3/\bj ⟨cu.1,cu.2.1,cu.2.2.1⟩/\lZ Ye Nc i.toNat m.2.1 ⟨cu.1,cu.2.1,cu.2.2.1⟩=(kS c).eJ/\pc Nc i.toNat ⟨cu.1,cu.2.1,cu.2.2.1⟩=kl c
def Hg(c:ae):Int×T7×T7×T3×Unit->Nat:=fun(i,q,m,cu,_)=>i.toNat
def ath:aaw.α->Nat->Option (bY UU):=fun c=>aN [(3,bh [.slot 4 (4,1024) (.lit (.int .i64)),.box 2 (2,1024) [.lit (.int .i64),.own .int true,.own .b_ true],.box 3 (3,1024) [.lit (.int .i64),.own .int true,.own .b_ true],.box 0 (2000000,0) [.shr .byte,.lit (.int .i64),.lit (.int .i64)]] (fun _=>HE c) (Hg c))]
def apE:=us [mL]
theorem aq4:Holds EE (46,aaw):=by
 refine holds_of ax func46 aaw (by kernel_rfl) apE (aE _) ath (fun(c:ae) hp hb=> ?_)
 have dK:=sK (x:=c) (hb _ m0)
 have bC:bj c:=hp _ m0
 clear hp hb
 apply @ve _ (let x0:ae:=aa (aa c 3) 4;0<=c.i/\c.b.length<=4294967296/\0<=(aa c 3).i/\List.length (aa c 3).b<=4294967296/\HE c (ag (aa c 3) 4,(0,[],[],()),(ag c 3,[],[],()),(x0.b,x0.i,x0.h,()),())/\∀(y:Int×WX×WX×MB×PUnit),let x3:ae:={b:=y.2.2.2.1.1,i:=y.2.2.2.1.2.1,h:=y.2.2.2.1.2.2.1:ae};let x1:ae:=aa x3 3;let x2:List Int:=[IntKind.wrap IntKind.i64 (1+ag x3 3)];let q0:=(IntKind.wrap IntKind.i64 (y.1-1),(y.2.1.1,y.2.1.2.1,y.2.1.2.2.1,()),(y.2.2.1.1,y.2.2.1.2.1++x2,y.2.2.1.2.2.1,()),(x1.b,x1.i,x1.h,()),());HE c y->bif decide (y.1>0) then 0<=y.2.2.2.1.2.1/\y.2.2.2.1.1.length<=4294967296/\y.2.2.1.2.1.length+x2.length<=4294967296/\HE c q0/\Hg c q0<Hg c y else(0:Nat)=(0:Nat)/\ap [DV.agg [CI y.2.2.1.1,CL .int y.2.2.1.2.1,CL .b_ y.2.2.1.2.2.1]]=ap [DV.agg [CI ((kS c).cN),CL .int (kS c).eJ,CL .b_ (kS c).cr]]/\ap [DV.box [CL .byte y.2.2.2.1.1,CI y.2.2.2.1.2.1,CI y.2.2.2.1.2.2.1]]=ap [DV.box [CL .byte (kl c).b,CI ((kl c).i),CI ((kl c).h)]]) (by kernel_rfl)
 dsimp only
 have h3:=aq bC 3
 have hb:=br (c:=aa c 3) (n:=4) (by omega)
 refine⟨bC.1,bC.2,h3.1,h3.2,⟨rfl,rfl,by omega,by omega,by simp only[fO];omega,aq h3 4,rfl,rfl⟩,?_⟩
 rintro⟨i,⟨q1,q2,q3,⟨⟩⟩,⟨m1,m2,m3,⟨⟩⟩,⟨cb,ci,ch,⟨⟩⟩,⟨⟩⟩ ⟨e1,e2,g1,g2,g3,g4,g5,g6⟩
 simp only at e1 e2 g1 g2 g3 g4 g5 g6⊢
 subst e1 e2
 refine aU (fun hc=> ?_) (fun hc=> ?_)
 ·have hd:=br (c:=⟨cb,ci,ch⟩) (n:=3) (by omega)
  have e:i.toNat=(i-1).toNat+1:=by omega
  rw[e] at g5 g6
  rw[wrap_i64 (n:=1+ag ⟨cb,ci,ch⟩ 3) (by omega) (by omega),wrap_i64 (n:=i-1) (by omega) (by omega)]
  exact⟨g4.1,g4.2,by simp only[gv,fO];omega,⟨rfl,rfl,by omega,by omega,by simp only[kg,gv,fO];omega,Vg g4,g5,g6⟩,by simp only[Hg];omega⟩
 ·have e:i.toNat=0:=by omega
  rw[e] at g5 g6
  have g5:m2=(kS c).eJ:=g5
  have g6:(⟨cb,ci,ch⟩:ae)=kl c:=g6
  exact⟨by trivial,atW (a:=⟨ag c 3,m2,[]⟩) (a':=kS c) (d:=⟨cb,ci,ch⟩) (d':=kl c) (by rw[g5];rfl) g6⟩
def ar8:HH:=⟨_,aq4⟩
def sO:List BA:=[⟨#[]⟩,⟨#[65]⟩,⟨#[120]⟩]
def OK:List BA:=[⟨#[]⟩,⟨#[120]⟩,⟨#[88]⟩]
def TE:List BA:=[⟨#[]⟩,⟨#[42]⟩]
def oB:List BA:=[⟨#[114,49]⟩,⟨#[114,50]⟩,⟨#[115,104,105,112]⟩]
def MM:List BA:=[⟨#[]⟩,⟨#[65]⟩]
def UK:List Int:=[-1,7,8,100001]
def UJ:List Int:=[-101,101,100]
def PE:List Int:=[0,1,1000000,1000001]
noncomputable def l5(l:List cp)(c:ae):List cp×ae:=if h:(l.length:Int)<5+ag c 2 then l5 (l++[hJ (aa c 2)]) (fC (aa c 2)) else(l,aa c 2)
termination_by 6-l.length
decreasing_by
 have:=br (c:=c) (n:=2) (by omega)
 simp only[kg,gv,fO];omega
theorem Fo{l:List cp}{c:ae}(h:(l.length:Int)<5+ag c 2):l5 l c=l5 (l++[hJ (aa c 2)]) (fC (aa c 2)):=by rw[l5,dif_pos h]
theorem Js{l:List cp}{c:ae}(h:¬(l.length:Int)<5+ag c 2):l5 l c=(l,aa c 2):=by rw[l5,dif_neg h]
theorem Jr{l:List cp}{c:ae}(hc:bj c)(h:∀a∈l,fU a=true)(hl:l.length<=6):bj (l5 l c).2/\(∀a∈(l5 l c).1,fU a=true)/\(l5 l c).1.length<=6:=by
 have hb:=br (c:=c) (n:=2) (by omega)
 by_cases hn:(l.length:Int)<5+ag c 2
 ·rw[Fo hn]
  refine Jr (xC (aq hc 2)) (fun a ha=> ?_) (by simp only[kg,gv,fO];omega)
  rcases jr.1 ha with ha|ha
  ·exact h a ha
  ·rw[ma.1 ha];exact xH _
 ·rw[Js hn];exact⟨aq hc 2,h,hl⟩
termination_by 6-l.length
decreasing_by
 simp only[kg,gv,fO];omega
def s6(c:ae):cn:=oD (b8 c 3) (aa c 3)
def paC(c:ae):ae:=ib (aa c 3)
def paK(c:ae):Int:=ag (paC c) 10
def Eg(c:ae):ae:=aa (paC c) 10
def paA(c:ae):cp:=⟨ag (Eg c) 5,cv (aa (Eg c) 5) OK,dx⟩
def pI(c:ae):cn:=if paK c=0 then⟨cv (Eg c) sO,(s6 c).ay,(s6 c).Not⟩ else if paK c=1 then⟨(s6 c).Kind,(s6 c).ay++[paA c],(s6 c).Not⟩ else if paK c=2 then⟨(s6 c).Kind,(l5 (s6 c).ay (Eg c)).1,(s6 c).Not⟩ else s6 c
def kD(c:ae):ae:=if paK c=0 then bS (Eg c) sO else if paK c=1 then bS (aa (Eg c) 5) OK else if paK c=2 then(l5 (s6 c).ay (Eg c)).2 else Eg c
theorem vO{p:cn}(h:fF p=true):p.ay.length<=5/\∀a∈p.ay,fU a=true:=by
 simp only[fF,cK,decide_eq_true_eq,rh] at h
 exact⟨h.1.2,h.2⟩
theorem Ml{c:ae}(h:bj c):bj (Eg c):=aq (pu (aq h 3)) 10
theorem Qp{c:ae}(h:bj c):bj (l5 (s6 c).ay (Eg c)).2/\(∀a∈(l5 (s6 c).ay (Eg c)).1,fU a=true)/\(l5 (s6 c).ay (Eg c)).1.length<=6:=by
 have hp:=vO (wT (b8 c 3) (aa c 3))
 exact Jr (Ml h) hp.2 (by have:=hp.1;simp only[s6];omega)
theorem QK{l:List cp}{B:Nat}(h:∀a∈l,ff a<=B):tj l<=l.length*(B+1):=by
 have:=vE ff B l h
 simp only[tj,Nat.mul_add];omega
theorem G4(c:ae):(cv c sO).size<=1:=by
 have:=d_ c (l:=sO) (fun s=>decide (s.size<=1)) (by decide) (by rfl)
 simpa using this
theorem Vm(c:ae):(cv c OK).size<=1:=by
 have:=d_ c (l:=OK) (fun s=>decide (s.size<=1)) (by decide) (by rfl)
 simpa using this
theorem Vl(c:ae):(cv c TE).size<=1:=by
 have:=d_ c (l:=TE) (fun s=>decide (s.size<=1)) (by decide) (by rfl)
 simpa using this
theorem Vk(c:ae):(cv c MM).size<=1:=by
 have:=d_ c (l:=MM) (fun s=>decide (s.size<=1)) (by decide) (by rfl)
 simpa using this
theorem M4{c:ae}(h:bj c):jW (pI c)<=600:=by
 have hp:=wT (b8 c 3) (aa c 3)
 obtain⟨h1,h2⟩:=vO hp
 have h3:(s6 c).Kind.size<=12:=by simp only[fF,cK] at hp;exact IU hp.1.1
 have hb:∀a∈(s6 c).ay,ff a<=40:=fun a ha=>Ln (h2 a ha)
 have h4:=QK hb
 have h1:(s6 c).ay.length<=5:=h1
 unfold pI
 repeat' split
 ·have:=G4 (Eg c);simp only[jW];omega
 ·have:=Vm (aa (Eg c) 5)
  have hA:ff (paA c)<=40:=by simp only[paA,ff];have:nq dx=0:=rfl;omega
  have:=QK (l:=(s6 c).ay++[paA c]) (B:=40) (fun a ha=>by
   rcases jr.1 ha with ha|ha
   ·exact hb a ha
   ·rw[ma.1 ha];exact hA)
  simp only[kg,gv,fO] at this
  simp only[jW];omega
 ·obtain⟨g1,g2,g3⟩:=Qp h
  have:=QK (B:=40) (fun a ha=>Ln (g2 a ha))
  simp only[jW];omega
 ·simp only[jW];omega
def Kf(c:ae):c_:=xz c
def coK(c:ae):Int:=ag (qy c) 8
def H4(c:ae):ae:=aa (qy c) 8
def cZ(c:ae):c_:=if coK c=0 then⟨ag (H4 c) 6,(Kf c).L,(Kf c).R⟩ else if coK c=1 then⟨(Kf c).Op,hJ (H4 c),(Kf c).R⟩ else if coK c=2 then⟨(Kf c).Op,(Kf c).L,⟨ag (H4 c) 5,ai,dx⟩⟩ else Kf c
def ig(c:ae):ae:=if coK c=0 then aa (H4 c) 6 else if coK c=1 then fC (H4 c) else if coK c=2 then aa (H4 c) 5 else H4 c
theorem Vi{c:ae}(h:bj c):bj (H4 c):=aq (zf h) 8
theorem KU(c:ae):nF (cZ c)<=120:=by
 have h1:ff (Kf c).L<=40:=te (nC _)
 have h2:ff (Kf c).R<=40:=te (nC _)
 have h3:ff (hJ (H4 c))<=40:=Ln (xH _)
 have h4:ff (⟨ag (H4 c) 5,ai,dx⟩:cp)=0:=rfl
 unfold cZ
 repeat' split
 all_goals (simp only[nF];omega)
def oc(c:ae):eX:=we 2 c
def Ti(c:ae):Int:=ag (pB 2 c) 10
def DP(c:ae):ae:=aa (pB 2 c) 10
def N9(c:ae):ae:=bS (DP c) TE
def acX(c:ae):b7:=⟨cv (DP c) TE,hJ (N9 c),hJ (fC (N9 c))⟩
def ob(c:ae):eX:=if Ti c=0 then⟨ag (DP c) 8,(oc c).Name,(oc c).ay,(oc c).N,(oc c).aW⟩ else if Ti c=1 then⟨(oc c).Kind,cv (DP c) sO,(oc c).ay,(oc c).N,(oc c).aW⟩
 else if Ti c=2 then⟨(oc c).Kind,(oc c).Name,(oc c).ay,gL (DP c) UK,(oc c).aW⟩ else if Ti c=3 then⟨(oc c).Kind,(oc c).Name,(oc c).ay,(oc c).N,cv (DP c) sO⟩
 else if Ti c=4 then⟨(oc c).Kind,(oc c).Name,(oc c).ay++[acX c],(oc c).N,(oc c).aW⟩ else oc c
def ji(c:ae):ae:=if Ti c=0 then aa (DP c) 8 else if Ti c=1 then bS (DP c) sO else if Ti c=2 then j9 (DP c) UK else if Ti c=3 then bS (DP c) sO else if Ti c=4 then fC (fC (N9 c)) else DP c
theorem Vj{c:ae}(h:bj c):bj (DP c):=aq (xD 2 h) 10
theorem Le(c:ae):iz (fy c)<=81:=by
 have h1:ff (dV c)<=40:=te (nC _)
 have h2:∀d,ff (dV d)<=40:=fun d=>te (nC d)
 have h3:∀d,(cv d Cs).size<=1:=fun d=>by
  have:=d_ d (l:=Cs) (fun s=>decide (s.size<=1)) (by decide) (by rfl)
  simpa using this
 unfold fy
 split
 ·have:=h2 (bS (aa (cC c) 4) Cs)
  have:=h3 (aa (cC c) 4)
  simp only[iz];omega
 ·have:ff nW=0:=rfl
  have:ai.size=0:=rfl
  simp only[iz];omega
theorem Ld{l:List b7}{B:Nat}(h:∀a∈l,iz a<=B):kj l<=l.length*(B+1):=by
 have:=vE iz B l h
 simp only[kj,Nat.mul_add];omega
theorem JZ(c:ae):gO (oc c)<=200/\(oc c).Name.size<=6/\(oc c).aW.size<=6/\(∀a∈(oc c).ay,iz a<=81)/\(oc c).ay.length<=2:=by
 have h1:(hZ c).size<=6:=by
  have:=d_ (j9 c pd) (l:=F7) (fun s=>decide (s.size<=6)) (by decide) (by rfl)
  exact yT this
 have h2:(sX c).size<=6:=by
  unfold sX
  split
  ·have:=d_ (aa (nS c) 2) (l:=pZ) (fun s=>decide (s.size<=6)) (by decide) (by rfl)
   simpa using this
  ·exact Nat.zero_le _
 have h3:∀a∈mF c,iz a<=81:=m9 (fun a=>iz a<=81) Le _ _ _ (by simp)
 have h4:=zl c
 have h5:=Ld h3
 have h6:kj []=0:=rfl
 have h7:ai.size=0:=rfl
 unfold oc we
 split
 ·exact⟨by simp only[gO];omega,by rw[h7];omega,by rw[h7];omega,by simp,by simp⟩
 ·split
  ·exact⟨by simp only[gO];omega,by rw[h7];omega,by rw[h7];omega,by simp,by simp⟩
  ·exact⟨by simp only[gO];omega,h1,h2,h3,h4⟩
theorem N8(c:ae):gO (ob c)<=400:=by
 obtain⟨h1,h2,h3,h4,h5⟩:=JZ c
 have hs:=Ld h4
 have e1:=G4 (DP c)
 unfold ob
 split
 ·simp only[gO];omega
 ·split
  ·simp only[gO];omega
  ·split
   ·simp only[gO];omega
   ·split
    ·simp only[gO];omega
    ·split
     ·have hx:iz (acX c)<=81:=by
       have g1:ff (hJ (N9 c))<=40:=Ln (xH _)
       have g2:ff (hJ (fC (N9 c)))<=40:=Ln (xH _)
       have g3:=Vl (DP c)
       simp only[acX,iz];omega
      have:=Ld (l:=(oc c).ay++[acX c]) (B:=81) (fun a ha=>by
       rcases jr.1 ha with ha|ha
       ·exact h4 a ha
       ·rw[ma.1 ha];exact hx)
      simp only[kg,gv,fO] at this
      simp only[gO];omega
     ·omega
def mB(r:aV)(c:ae):aV:=
 if ag c 10=0 then⟨cv (aa c 10) sO,r.jP,r.aB,r.aY,r.bG⟩ else if ag c 10=1 then⟨r.Name,gL (aa c 10) UJ,r.aB,r.aY,r.bG⟩
 else if ag c 10=2 then⟨r.Name,r.jP,r.aB++[pI (aa c 10)],r.aY,r.bG⟩ else if ag c 10=3 then⟨r.Name,r.jP,r.aB,r.aY++[cZ (aa c 10)],r.bG⟩
 else if ag c 10=4 then⟨r.Name,r.jP,r.aB,r.aY,r.bG++[ob (aa c 10)]⟩ else if ag c 10=5 then⟨r.Name,r.jP,r.aB.modify 0 (fun p=>⟨p.Kind,p.ay,true⟩),r.aY,r.bG⟩
 else if ag c 10=6 then⟨r.Name,r.jP,r.aB,r.aY,[]⟩ else r
def fA(c:ae):ae:=
 if ag c 10=0 then bS (aa c 10) sO else if ag c 10=1 then j9 (aa c 10) UJ else if ag c 10=2 then kD (aa c 10) else if ag c 10=3 then ig (aa c 10)
 else if ag c 10=4 then ji (aa c 10) else aa c 10
theorem qD{α:Type}(f:α->Nat)(l:List α)(a:α):(l++[a]).length+((l++[a]).map f).sum=(l.length+(l.map f).sum)+(1+f a):=by
 simp only[kg,Kg,zet,gv,fO,uY,List.map_nil,Ki,List.sum_nil];omega
theorem DF{r:aV}{c:ae}(h:bj c):dD (mB r c)<=dD r+700:=by
 have he:=aq h 10
 unfold mB
 split
 ·have:=G4 (aa c 10);simp only[dD];omega
 ·split
  ·simp only[dD];omega
  ·split
   ·have h1:=M4 he
    have h2:j6 (r.aB++[pI (aa c 10)])=j6 r.aB+(1+jW (pI (aa c 10))):=qD jW _ _
    simp only[dD];omega
   ·split
    ·have h1:=KU (aa c 10)
     have h2:uc (r.aY++[cZ (aa c 10)])=uc r.aY+(1+nF (cZ (aa c 10))):=qD nF _ _
     simp only[dD];omega
    ·split
     ·have h1:=N8 (aa c 10)
      have h2:qE (r.bG++[ob (aa c 10)])=qE r.bG+(1+gO (ob (aa c 10))):=qD gO _ _
      simp only[dD];omega
     ·split
      ·have h2:j6 (r.aB.modify 0 (fun p=>⟨p.Kind,p.ay,true⟩))=j6 r.aB:=by
        simp only[j6,J8]
        rw[nX jW (fun p=>⟨p.Kind,p.ay,true⟩) (fun x=>rfl)]
       simp only[dD];omega
      ·split
       ·have h2:qE []=0:=rfl
        simp only[dD];omega
       ·omega
def k9(c:ae):aV:=if b8 (mZ (bS c oB)) 3=true then mB (lV (cv c oB) (bS c oB)) (aa (mZ (bS c oB)) 3) else lV (cv c oB) (bS c oB)
def mg(c:ae):ae:=if b8 (mZ (bS c oB)) 3=true then fA (aa (mZ (bS c oB)) 3) else aa (mZ (bS c oB)) 3
theorem Ip(c:ae):fI (lV (cv c oB) (bS c oB))=true:=Io (by
 have:=d_ c (l:=oB) (fun s=>bm s) (by decide) (by rfl)
 exact this) _
theorem Kq{c:ae}(h:bj c):dD (k9 c)<=5700:=by
 have he:=aq (AK (fh h oB)) 3
 have h1:=OL (Ip c)
 unfold k9
 split
 ·have:=DF (r:=lV (cv c oB) (bS c oB)) he;omega
 ·omega
def Zw(c:ae):Int:=ag (iD c) 10
def FD(c:ae):ae:=aa (iD c) 10
def pP(c:ae):bB:=if Zw c=0 then⟨cv (FD c) MM,(ca c).aw⟩ else if Zw c=1 then⟨(ca c).Name,(ca c).aw++[k9 (FD c)]⟩ else if Zw c=2 then⟨(ca c).Name,(ca c).aw.set 0 (mB (List.getD (ca c).aw 0 ct) (FD c))⟩ else if Zw c=3 then⟨(ca c).Name,[]⟩ else ca c
def jp(c:ae):ae:=if Zw c=0 then bS (FD c) MM else if Zw c=1 then mg (FD c) else if Zw c=2 then fA (FD c) else FD c
theorem Mn{c:ae}(h:bj c):bj (FD c):=aq (xB h) 10
theorem Dv(c:ae):1<=(ca c).aw.length/\(ca c).aw.length<=12/\∀r∈(ca c).aw,fI r=true:=by
 have h:=uz c
 simp only[fz,cK,decide_eq_true_eq] at h
 refine⟨h.1.2.1,h.1.2.2,fun r hr=> ?_⟩
 obtain⟨i,hi,rfl⟩:=ri hr
 have:=fV.1 h.2 i hi
 simp only[jh,cK] at this
 rw[eY,fo hi] at this
 exact this.1
theorem MI{α:Type}(f:α->Nat)(l:List α)(a:α):((l.set 0 a).map f).sum<=(l.map f).sum+f a:=by
 cases l with
 |nil=>simp
 |cons x l=>simp only[List.set_cons_zero,uY,Ki];omega
theorem NT{c:ae}(h:bj c):cT (pP c)<=70000:=by
 have he:=Mn h
 have h0:=(v7 c).2.2
 unfold pP
 split
 ·have:=Vk (FD c);simp only[cT] at h0⊢;omega
 ·split
  ·have h1:=Kq he
   have h2:jJ ((ca c).aw++[k9 (FD c)])=jJ (ca c).aw+(1+dD (k9 (FD c))):=qD dD _ _
   simp only[cT] at h0⊢;omega
  ·split
   ·have hr:=Dv c
    have h1:=DF (r:=List.getD (ca c).aw 0 ct) he
    have h3:=OL (hr.2.2 _ (gQ (z:=ct) (show 0<(ca c).aw.length by omega)))
    have h2:=MI dD (ca c).aw (mB (List.getD (ca c).aw 0 ct) (FD c))
    simp only[cT,jJ,Ly] at h0⊢;omega
   ·split
    ·have h2:jJ []=0:=rfl
     simp only[cT] at h0⊢;omega
    ·omega
def JR:BA:=⟨#[102,117,108,108]⟩
def mQ(n:Int):aJ:=⟨JR,[⟨1,n,ai⟩]⟩
def sJ:Nat->aG->aG
 |0,s=>s
 |k+1,s=>sJ k (cx s (mQ s.ab.length))
def rF(s:aG):Prop:=∀x∈s.ab,∀n:Int,x.F=mQ n->n<s.ab.length
theorem NN{s:aG}(h:rF s):mn s.ab (mQ s.ab.length)=0:=by
 rcases jA s.ab.length (fun k=>decide ((List.getD s.ab k bg).F=mQ s.ab.length)) with⟨g,_⟩|⟨m,g1,g2,g3,_⟩
 ·exact if_pos g
 ·have:=h _ (gQ (z:=bg) g1) _ (yT g3);omega
theorem tH{s:aG}(h:rF s):cx s (mQ s.ab.length)=⟨s.ab++[⟨s.Next,mQ s.ab.length⟩],s.Next+1⟩:=by
 unfold cx;rw[NN h,if_neg (by omega)]
theorem CN{s:aG}(h:rF s):rF (cx s (mQ s.ab.length)):=by
 rw[tH h]
 intro x hx n hn
 simp only[kg,gv,fO]
 rcases jr.1 hx with hx|hx
 ·have:=h x hx n hn;omega
 ·rw[ma.1 hx] at hn
  simp only[mQ,aJ.mk.injEq,zdd,aQ.mk.injEq] at hn
  omega
theorem th:∀(k:Nat)(s:aG)(c:ae),(∀x∈s.ab,x.F.Kind≠JR)->∀x∈(kL k s c).ab,x.F.Kind≠JR
 |0,_,_,h=>h
 |k+1,s,c,h=>by
  rw[kL];split
  ·exact th k _ _ fun x hx=>h x (wA.1 hx).1
  ·refine th k _ _ ?_
   unfold cx;split
   ·exact h
   ·intro x hx
    rcases jr.1 hx with hx|hx
    ·exact h x hx
    ·rw[ma.1 hx]
     have:=d_ (aa c 5) (l:=cM) (fun s=>decide (s≠JR)) (by decide) (by decide)
     exact yT this
theorem vh(c:ae):rF (cS c):=by
 intro x hx n hn
 exact absurd (congrArg aJ.Kind hn) (th _ ⟨[],1⟩ _ (by simp) x hx)
def stK(c:ae):Int:=ag (jy c) 12
def Ij(c:ae):ae:=aa (jy c) 12
noncomputable def kM(c:ae):aG:=if stK c=0 then⟨(cS c).ab,gL (Ij c) PE⟩ else if stK c=1 then⟨(cS c).ab++[⟨ag (Ij c) 9,oa (aa (Ij c) 9)⟩],(cS c).Next⟩ else if stK c=2 then sJ (40-(cS c).ab.length) (cS c) else cS c
noncomputable def mc(c:ae):ae:=if stK c=0 then j9 (Ij c) PE else if stK c=1 then fG (aa (Ij c) 9) else Ij c
theorem Vf{c:ae}(h:bj c):bj (Ij c):=aq (Dz h) 12
def Im(s:aG):Prop:=∀x∈s.ab,eg x.F<=145
theorem zH{s:aG}{f:aJ}(h:Im s)(hf:eg f<=145):Im (cx s f):=by
 unfold cx;split
 ·exact h
 ·intro x hx
  rcases jr.1 hx with hx|hx
  ·exact h x hx
  ·rw[ma.1 hx];exact hf
theorem tn:∀(k:Nat)(s:aG)(c:ae),Im s->Im (kL k s c)
 |0,_,_,h=>h
 |k+1,s,c,h=>by
  rw[kL];split
  ·exact tn k _ _ fun x hx=>h x (wA.1 hx).1
  ·exact tn k _ _ (zH h (qS (nP _)).2)
theorem Jq:∀(k:Nat){s:aG},rF s->Im s->s.ab.length+k<=40->Im (sJ k s)/\(sJ k s).ab.length<=40
 |0,s,_,h,hl=>⟨h,by simp only[sJ];omega⟩
 |k+1,s,hn,h,hl=>by
  have e:=tH hn
  refine Jq k (CN hn) (zH h (by show JR.size+gy [⟨1,_,ai⟩]<=145;exact(by decide:(4+(1+0):Nat)<=145))) ?_
  rw[e];simp only[kg,gv,fO];omega
theorem xj{s:aG}(h:Im s)(hl:s.ab.length<=40):mY s<=6000:=by
 have:=vE mf 145 s.ab (fun x hx=>h x hx)
 simp only[mY,cQ];omega
theorem Ii{c:ae}(h:bj c):mY (kM c)<=6000:=by
 have h1:=Co c
 have h2:Im (cS c):=tn _ _ _ (by intro x hx;simp at hx)
 unfold kM
 split
 ·exact xj (s:=⟨(cS c).ab,gL (Ij c) PE⟩) h2 (by show(cS c).ab.length<=40;omega)
 ·split
  ·refine xj (fun x hx=> ?_) (by simp only[kg,gv,fO];omega)
   rcases jr.1 hx with hx|hx
   ·exact h2 x hx
   ·rw[ma.1 hx];exact xi (DM _)
  ·split
   ·obtain⟨g1,g2⟩:=Jq (40-(cS c).ab.length) (vh c) h2 (by omega)
    exact xj g1 g2
   ·exact xj h2 (by omega)
def Ms(c:ae)(m:Int):Int:=ag (instDC c m) 16
def uN(c:ae)(m:Int):ae:=aa (instDC c m) 16
def Gz:List Int:=[-1,1000000000,1000000001]
noncomputable def instA(c:ae)(m:Int):ao:=
 if Ms c m=0 then⟨(instD c m).S,(instD c m).aD,(instD c m).au,(instD c m).aC,(instD c m).aL,ag (uN c m) 8,(instD c m).dw⟩
 else if Ms c m=1 then EO (instD c m) (gL (uN c m) Gz)
 else if Ms c m=2 then vd (instD c m) (kM (uN c m))
 else if Ms c m=3 then pV (instD c m) (qZ (uN c m))
 else if Ms c m=4 then B6 (instD c m) (qY (uN c m))
 else if Ms c m=5 then B7 (instD c m) ((instD c m).aD++[kS (uN c m)])
 else instD c m
def sV(c:ae)(m:Int):bB:=if Ms c m=6 then pP (uN c m) else ca c
noncomputable def instAC(c:ae)(m:Int):ae:=
 if Ms c m=0 then aa (uN c m) 8 else if Ms c m=1 then j9 (uN c m) Gz else if Ms c m=2 then mc (uN c m) else if Ms c m=3 then l7 (uN c m)
 else if Ms c m=4 then iP (uN c m) else if Ms c m=5 then kl (uN c m) else if Ms c m=6 then jp (uN c m) else uN c m
theorem N3{l:List Int}{p:Int->Bool}{i:Int}(h0:0<=i)(h:i<l.length):(l.drop i.toNat).any p=(p (List.getD l i.toNat 0)||(l.drop (i+1).toNat).any p):=by
 have e:(i+1).toNat=i.toNat+1:=by omega
 rw[S9 (by omega),Tk,e,eY,fo (by omega)];rfl
theorem atU{a a':List av}(h:a=a'):Lf [.one (.sl .az a)] [.one (.sl .az a')]:=by subst h;exact bN _
def Re:bp UU where
 α:=(List Int)×Int
 md:=[.ro,.ro]
 of:=oC (oL .int) (o1 oI)
 ds:=fun x=>[dL .int x.1,dI x.2]
 pre:=fun _=>[]
 bT:=fun(l,n)=>⟨[dO (xa l n)],[],[]⟩
 law:=lC (lL .int) (l1 lI)
def By(l:(List Int))(n:Int):Int×Unit->Prop:=fun(i,_)=>0<=i/\i<=l.length/\(l.drop i.toNat).any (fun x=>decide (x=n))=xa l n
def AX(l:(List Int))(n:Int):Int×Unit->Nat:=fun(i,_)=>l.length-i.toNat
def ajy:Re.α->Nat->Option (bY UU):=fun(l,n)=>aN [(2,bh [.slot 5 (5,1024) (.lit (.int .i64))] (fun _=>By l n) (AX l n))]
def aeu:List (FuncId×bp UU):=[]
theorem age:Holds EE (191,Re):=by
 refine holds_of ax func191 Re (by kernel_rfl) aeu all_nil ajy (fun x hp hb=> ?_)
 obtain⟨l,n⟩:=x
 have gP:l.length<=9223372036854775807:=jO (hb _ m0)
 have Nt:=sL (n:=n) (hb _ m1)
 clear hp hb
 apply @ve _ (By l n (0,())/\∀(y:Int×PUnit),let q0:=(IntKind.wrap IntKind.i64 (y.1+1),());By l n y->bif decide (y.1<(l.length:Int)) then 0<=y.1/\y.1.toNat<l.length/\bif List.getD l y.1.toNat 0==n then Lb true (xa l n) else By l n q0/\AX l n q0<AX l n y else Lb false (xa l n)) (by kernel_rfl)
 dsimp only
 refine⟨⟨by omega,by omega,rfl⟩,?_⟩
 rintro⟨i,⟨⟩⟩ ⟨h1,h2,hR⟩
 simp only
 refine aU (fun hc=> ?_) (fun hc=> ?_)
 ·rw[N3 h1 hc] at hR
  rw[wrap_i64 (by omega) (by omega)]
  refine⟨by omega,by omega,bo (fun g=>mV ?_) (fun g=>⟨⟨by omega,by omega,?_⟩,by simp only[AX];omega⟩)⟩
  ·rw[<-hR,decide_eq_true g,Bool.true_or]
  ·rw[<-hR,decide_eq_false g,FT]
 ·rw[cg _ (by omega)] at hR
  exact bw hR.symm
def aib:HH:=⟨_,age⟩
def Ry:bp UU where
 α:=(List av)×Int
 md:=[.ro,.ro]
 of:=oC (oL .az) (o1 oI)
 ds:=fun x=>[dL .az x.1,dI x.2]
 pre:=fun(l,id)=>[l.length<=4294967295,∀m∈l,m.eJ.length<=4294967295/\m.cr.length<=4294967295]
 bT:=fun(l,id)=>⟨[dL .az (xf l id)],[],[]⟩
 law:=lC (lL .az) (l1 lI)
def xW(l:(List av))(id:Int):List av×Int×Unit->Prop:=fun(out,i,_)=>0<=i/\i<=l.length/\out=(l.take i.toNat).filter (fun m=> !xa m.eJ id)
def sh(l:(List av))(id:Int):List av×Int×Unit->Nat:=fun(out,i,_)=>l.length-i.toNat
def ajS:Ry.α->Nat->Option (bY UU):=fun(l,id)=>aN [(3,bh [.slot 5 (5,1024) (.own .az true),.slot 6 (6,1024) (.lit (.int .i64))] (fun _=>xW l id) (sh l id))]
def aeO:=us [aib,WD]
theorem agz:Holds EE (171,Ry):=by
 refine holds_of ax func171 Ry (by kernel_rfl) aeO (aE _) ajS (fun x hp hb=> ?_)
 obtain⟨l,id⟩:=x
 have gP:l.length<=9223372036854775807:=jO (hb _ m0)
 have L6:=sL (n:=id) (hb _ m1)
 have bC:l.length<=4294967295:=hp _ m0
 have fT:∀m∈l,m.eJ.length<=4294967295/\m.cr.length<=4294967295:=hp _ m1
 clear hp hb
 apply @ve _ (xW l id ([],0,())/\∀(y:List av×Int×PUnit),let x1:Nat:=y.2.1.toNat;let x0:av:=List.getD l x1 bM;let q0:=(y.1++[x0],IntKind.wrap IntKind.i64 (y.2.1+1),());let q1:=(y.1,IntKind.wrap IntKind.i64 (y.2.1+1),());xW l id y->bif decide (y.2.1<(l.length:Int)) then 0<=y.2.1/\x1<l.length/\bif !xa x0.eJ id then 0<=y.2.1/\x1<l.length/\x0.eJ.length<=4294967296/\x0.cr.length<=4294967296/\y.1.length+List.length [x0]<=4294967296/\xW l id q0/\sh l id q0<sh l id y else xW l id q1/\sh l id q1<sh l id y else Lf [VL .az y.1] [VL .az (xf l id)]) (by kernel_rfl)
 dsimp only
 refine⟨⟨by omega,by omega,rfl⟩,?_⟩
 rintro⟨out,i,⟨⟩⟩ ⟨h1,h2,rfl⟩
 simp only
 refine aU (fun hc=> ?_) (fun hc=> ?_)
 ·have hn:i.toNat<l.length:=by omega
  have hs:=rW (fun m:av=> !xa m.eJ id) (l:=l) (i:=i.toNat) bM hn
  have e:(i+1).toNat=i.toNat+1:=by omega
  have hm:=fT _ (gQ (z:=bM) hn)
  have hle:=Kh (fun m:av=> !xa m.eJ id) (l.take i.toNat)
  rw[oH] at hle
  rw[wrap_i64 (by omega) (by omega)]
  refine⟨by omega,by omega,bO (fun g=> ?_) (fun g=> ?_)⟩
  ·have g':(!xa (List.getD l i.toNat bM).eJ id)=true:=by rw[show xa (List.getD l i.toNat bM).eJ id=false from g];rfl
   exact⟨by omega,by omega,by omega,by omega,by simp only[gv,fO];omega,⟨by omega,by omega,by rw[e,hs,if_pos g']⟩,by simp only[sh];omega⟩
  ·have g':¬(!xa (List.getD l i.toNat bM).eJ id)=true:=by rw[show xa (List.getD l i.toNat bM).eJ id=true from g];decide
   exact⟨⟨by omega,by omega,by rw[e,hs,if_neg g',ww]⟩,by simp only[sh];omega⟩
 ·rw[dB l (by omega)]
  exact atU rfl
def aiq:HH:=⟨_,agz⟩
def R5:bp UU where
 α:=aG×Int
 md:=[.box true,.ro]
 of:=oC (oX .bV) (o1 oI)
 ds:=fun x=>[dX .bV x.1,dI x.2]
 pre:=fun(s,id)=>[s.ab.length<=1000]
 bT:=fun(s,id)=>⟨[dO (decide ((tx s id).ab.length<s.ab.length))],[],[dX .bV (tx s id)]⟩
 Iq:=6
 law:=lC (lX .bV) (l1 lI)
def xZ(s:aG)(id:Int):List bH×Int×((List bH×(Nat->Bool))×Int×Value×Value×Value×Value×Value×Value×Unit)×Unit->List bH×Int×((List bH×(Nat->Bool))×Int×Value×Value×Value×Value×Value×Value×Unit)×Unit->Prop:=fun(o0,i0,p0,_) (o,i,p,_)=>p.1.1=s.ab/\p.2.1=s.Next/\p.2.2=p0.2.2/\0<=i/\i<=s.ab.length/\(∀j:Nat,i<=(j:Int)->p.1.2 j=false)/\o=(s.ab.take i.toNat).filter (o_ id)
def sj(s:aG)(id:Int):List bH×Int×((List bH×(Nat->Bool))×Int×Value×Value×Value×Value×Value×Value×Unit)×Unit->Nat:=fun(o,i,p,_)=>s.ab.length-i.toNat
def akj:R5.α->Nat->Option (bY UU):=fun(s,id)=>aN [(3,bh [.slot 5 (5,1024) (.own .aX true),.slot 6 (6,1024) (.lit (.int .i64)),.box 0 (2000000,0) [.part .aX,.lit (.int .i64),.lit .any,.lit .any,.lit .any,.lit .any,.lit .any,.lit .any]] (xZ s id) (sj s id))]
def aff:List (FuncId×bp UU):=[]
theorem ag4:Holds EE (140,R5):=by
 refine Fh ax func140 R5 (by kernel_rfl) rfl aff all_nil akj (fun x hp hb rest nH=> ?_)
 obtain⟨s,id⟩:=x
 have ga:=pz (x:=s) (hb _ m0)
 have L6:=sL (n:=id) (hb _ m1)
 have bC:s.ab.length<=1000:=hp _ m0
 clear hp hb
 have nH:rest.length=6:=nH
 match rest,nH with
 |[r0,r1,r2,r3,r4,r5],_=>
 apply @ve _ (xZ s id ([],0,((s.ab,fun(x:Nat)=>false),s.Next,r0,r1,r2,r3,r4,r5,()),()) ([],0,((s.ab,fun(x:Nat)=>false),s.Next,r0,r1,r2,r3,r4,r5,()),())/\∀(y:List bH×Int×((List bH×(Nat->Bool))×Int×Value×Value×Value×Value×Value×Value×PUnit)×PUnit),let x1:Nat:=y.2.1.toNat;let x3:bH:=List.getD y.2.2.1.1.1 x1 bg;let x4:Nat:=y.2.2.1.1.1.length;let x5:Int:=IntKind.wrap IntKind.i64 (y.2.1+1);let x0:Int:=(↑x4:Int);let x2:List bH:=[x3];let q0:=(y.1,x5,((y.2.2.1.1.1,y.2.2.1.1.2),y.2.2.1.2.1,y.2.2.1.2.2.1,y.2.2.1.2.2.2.1,y.2.2.1.2.2.2.2.1,y.2.2.1.2.2.2.2.2.1,y.2.2.1.2.2.2.2.2.2.1,y.2.2.1.2.2.2.2.2.2.2.1,()),());xZ s id ([],0,((s.ab,fun(x:Nat)=>false),s.Next,r0,r1,r2,r3,r4,r5,()),()) y->bif decide (y.2.1<x0) then 0<=y.2.1/\x1<x4/\x1<x4/\y.2.2.1.1.2 x1=false/\bif x3.Id !=id then 0<=y.2.1/\x1<x4/\x1<x4/\y.2.2.1.1.2 x1=false/\y.1.length+x2.length<=4294967296/\xZ s id ([],0,((s.ab,fun(x:Nat)=>false),s.Next,r0,r1,r2,r3,r4,r5,()),()) (y.1++x2,x5,((y.2.2.1.1.1,fun(j:Nat)=>Nat.beq j x1||y.2.2.1.1.2 j),y.2.2.1.2.1,y.2.2.1.2.2.1,y.2.2.1.2.2.2.1,y.2.2.1.2.2.2.2.1,y.2.2.1.2.2.2.2.2.1,y.2.2.1.2.2.2.2.2.2.1,y.2.2.1.2.2.2.2.2.2.2.1,()),())/\sj s id (y.1++x2,x5,((y.2.2.1.1.1,fun(j:Nat)=>Nat.beq j x1||y.2.2.1.1.2 j),y.2.2.1.2.1,y.2.2.1.2.2.1,y.2.2.1.2.2.2.1,y.2.2.1.2.2.2.2.1,y.2.2.1.2.2.2.2.2.1,y.2.2.1.2.2.2.2.2.2.1,y.2.2.1.2.2.2.2.2.2.2.1,()),())<sj s id y else xZ s id ([],0,((s.ab,fun(x:Nat)=>false),s.Next,r0,r1,r2,r3,r4,r5,()),()) q0/\sj s id q0<sj s id y else List.length (α:=AC UU) [AC.c (Cell.lit y.2.2.1.2.2.1),AC.c (Cell.lit y.2.2.1.2.2.2.1),AC.c (Cell.lit y.2.2.1.2.2.2.2.1),AC.c (Cell.lit y.2.2.1.2.2.2.2.2.1),AC.c (Cell.lit y.2.2.1.2.2.2.2.2.2.1),AC.c (Cell.lit y.2.2.1.2.2.2.2.2.2.2.1)]=List.length [r0,r1,r2,r3,r4,r5]/\[AC.c (Cell.lit y.2.2.1.2.2.1),AC.c (Cell.lit y.2.2.1.2.2.2.1),AC.c (Cell.lit y.2.2.1.2.2.2.2.1),AC.c (Cell.lit y.2.2.1.2.2.2.2.2.1),AC.c (Cell.lit y.2.2.1.2.2.2.2.2.2.1),AC.c (Cell.lit y.2.2.1.2.2.2.2.2.2.2.1)]=List.map (fun(v:Value)=>(AC.c (Cell.lit v):AC UU)) [r0,r1,r2,r3,r4,r5]/\ap [VB (decide ((y.1.length:Int)<x0))]=ap [VB (decide (List.length (tx s id).ab<s.ab.length))]/\ap [DV.box [CL .aX y.1,CI y.2.2.1.2.1]]=ap [DV.box [CL .aX (tx s id).ab,CI ((tx s id).Next)]]) (by kernel_rfl)
 dsimp only
 refine⟨⟨rfl,rfl,rfl,by omega,by omega,fun _ _=>rfl,by simp⟩,?_⟩
 rintro⟨o,i,⟨⟨xs,dd⟩,nx,s0,s1,s2,s3,s4,s5,⟨⟩⟩,⟨⟩⟩ ⟨hx,hn,hr,h1,h2,hd,ho⟩
 simp only at hx hn hr h1 h2 hd ho⊢
 cases hr
 subst hx hn ho
 refine aU (fun hc=> ?_) (fun hc=> ?_)
 ·have hs:=rW (o_ id) (l:=s.ab) (i:=i.toNat) bg (by omega)
  have e:(i+1).toNat=i.toNat+1:=by omega
  have Wh:=hd i.toNat (by omega)
  have hle:((s.ab.take i.toNat).filter (o_ id)).length<=(s.ab.take i.toNat).length:=Kh _ _
  rw[oH] at hle
  rw[wrap_i64 (by omega) (by omega)]
  refine⟨h1,by omega,by omega,Wh,n7 (fun g=>⟨h1,by omega,by omega,Wh,by simp only[gv,fO];omega,⟨rfl,rfl,rfl,by omega,by omega,zc h1 hd,?_⟩,by simp only[sj];omega⟩) (fun g=>⟨⟨rfl,rfl,rfl,by omega,by omega,fun j hj=>hd j (by omega),?_⟩,by simp only[sj];omega⟩)⟩
  ·rw[e,hs,if_pos (show o_ id (List.getD s.ab i.toNat bg)=true by rw[o_,decide_eq_false g];rfl)]
  ·rw[e,hs,if_neg (show¬o_ id (List.getD s.ab i.toNat bg)=true by rw[o_,decide_eq_true g];decide),ww]
 ·rw[dB s.ab (by omega)]
  have e:decide (((s.ab.filter (o_ id)).length:Int)<(s.ab.length:Int))=decide ((tx s id).ab.length<s.ab.length):=by rw[decide_eq_decide];simp only[tx];omega
  rw[e]
  repeat' (first|exact rfl|trivial|refine And.intro (by first|rfl|trivial) ?_)
def aiK:HH:=⟨_,ag4⟩
abbrev TI:=List bH×Int×List av×List ak×List aI×List bu×Int×Int×Unit
def instT(p:TI):ao:=⟨⟨p.1,p.2.1⟩,p.2.2.1,p.2.2.2.1,p.2.2.2.2.1,p.2.2.2.2.2.1,p.2.2.2.2.2.2.1,p.2.2.2.2.2.2.2.1⟩
def FY(x:ao):TI:=(x.S.ab,x.S.Next,x.aD,x.au,x.aC,x.aL,x.State,x.dw,())
def IN(x:ao):Prop:=∃d,cF d x
theorem tq{d:bB}{x:ao}(h:cF d x):IN x:=⟨d,h⟩
theorem NP{d:bB}{x:ao}(h:coreX d x):x.aD.length<=4294967295/\∀m∈x.aD,m.eJ.length<=4294967295/\m.cr.length<=4294967295:=by
 refine⟨by have:=h.Jt;omega,fun m hm=> ?_⟩
 obtain⟨h1,h2⟩:=Fb h.po (h.bZ m hm)
 rw[h2];exact⟨by omega,by simp⟩
theorem JA{e:cD}(h:dM e=true)(hk:e.Kind=1\/e.Kind=3\/e.Kind=4):bI e.F=true:=by
 simp only[dM] at h
 rcases hk with hk|hk|hk
 ·simp only[hk,decide_true,cond_true,cK] at h;exact h.1.1.1
 ·simp only[hk,show decide ((3:Int)=1)=false from rfl,show decide ((3:Int)=2)=false from rfl,decide_true,cond_true,cond_false,cK] at h;exact h.1.1.1
 ·simp only[hk,show decide ((4:Int)=1)=false from rfl,show decide ((4:Int)=2)=false from rfl,show decide ((4:Int)=3)=false from rfl,decide_true,cond_true,cond_false,cK] at h;exact h.1.1.1
theorem Qt{e:cD}(h:dM e=true):0<=e.N/\e.N<=100000:=by
 simp only[dM] at h
 by_cases h1:e.Kind=1
 ·simp only[h1,decide_true,cond_true,cK,decide_eq_true_eq] at h;omega
 by_cases h2:e.Kind=2
 ·simp only[h2,show decide ((2:Int)=1)=false from rfl,decide_true,cond_true,cond_false,cK,decide_eq_true_eq] at h;omega
 by_cases h3:e.Kind=3
 ·simp only[h3,show decide ((3:Int)=1)=false from rfl,show decide ((3:Int)=2)=false from rfl,decide_true,cond_true,cond_false,cK,decide_eq_true_eq] at h;omega
 by_cases h4:e.Kind=4
 ·simp only[h4,show decide ((4:Int)=1)=false from rfl,show decide ((4:Int)=2)=false from rfl,show decide ((4:Int)=3)=false from rfl,decide_true,cond_true,cond_false,cK,decide_eq_true_eq] at h;omega
 ·simp only[h1,h2,h3,h4,decide_false,cond_false] at h
  cases hc:(decide (e.Kind=5)||decide (e.Kind=6))<;>rw[hc] at h
  ·cases h
  ·simp only[cond_true,cK,decide_eq_true_eq] at h;omega
theorem xr{l:List cD}{x:ao}{i:Int}(h0:0<=i)(h:i<l.length):jH (l.drop i.toNat) x=if x.State=1 then jH (l.drop (i+1).toNat) (gS x (List.getD l i.toNat ua)) else x:=by
 have e:(i+1).toNat=i.toNat+1:=by omega
 rw[S9 (by omega),jH,e,eY,fo (by omega)];rfl
def Sf:bp UU where
 α:=ao×cD
 md:=[.box true,.ro]
 of:=oC (oX .bD) (o1 (oA .dc))
 ds:=fun x=>[dX .bD x.1,dA .dc x.2]
 pre:=fun(x,e)=>[IN x,dM e=true]
 bT:=fun(x,e)=>⟨[],[],[dX .bD (gS x e)]⟩
 law:=lC (lX .bD) (l1 (lA .dc))
def akv:Sf.α->Nat->Option (bY UU):=fun(x,e)=>aN []
def afr:=us [SI,aiK,aiq,SR,aip,WK,SK]
theorem ahe:Holds EE (128,Sf):=by
 refine holds_of ax func128 Sf (by kernel_rfl) afr (aE _) akv (fun x hp hb=> ?_)
 obtain⟨x,e⟩:=x
 have bi:=g_ (x:=x) (hb _ m0)
 have cw:=bi.1
 have dh:=bi.2.1
 have df:=bi.2.2.1
 have cI:=bi.2.2.2.1
 have de:=bi.2.2.2.2
 have fg:=DH (x:=e) (hb _ m1)
 have Jb:=fg.1
 have EB:=fg.2.1
 have Nu:=fg.2.2
 have bC:IN x:=hp _ m0
 have fT:dM e=true:=hp _ m1
 clear hp hb
 apply @ve _ (let x3:ao:={S:=x.S,aD:=x.aD,au:=(fZ {τ:=Cd.aA,xs:=x.au:iX UU}.xs {Kind:=e.F.Kind,aj:=e.F.aj:aJ} e.aW x.dw).1,aC:=x.aC,aL:=x.aL,State:=x.State,dw:=x.dw:ao};let x6:Int:=IntKind.wrap IntKind.i64 (x.dw+e.N);let x7:ao:={S:=x.S,aD:=x.aD,au:=x.au,aC:=qA x.aC {At:=(1000000000:Int),F:=e.F:aI},aL:=x.aL,State:=x.State,dw:=x.dw:ao};let x8:aG:={ab:={τ:=Cd.aX,xs:=x.S.ab:iX UU}.xs,Next:=x.S.Next:aG};let x0:ao:=jk x3 3;let x2:ao:=jk x7 3;let x5:aI:={At:=x6,F:=e.F:aI};let x4:ao:={S:=x.S,aD:=x.aD,au:=x.au,aC:=qA x.aC x5,aL:=x.aL,State:=x.State,dw:=x.dw:ao};let x1:ao:=jk x4 3;let q0:=aO (gS x e);let q1:=fZ {τ:=Cd.aA,xs:=x.au:iX UU}.xs {Kind:=e.F.Kind,aj:=e.F.aj:aJ} e.aW x.dw;let q2:=(3:Int)=(3:Int)\/(3:Int)=(5:Int);let q3:=tx x.S e.Id;bif e.Kind==1 then en x/\bQ x.S=true/\e.F.aj.length<=4294967296/\(0:Nat)=(0:Nat)/\ap []=ap []/\ap [DV.box (aO (e7 x e.F))]=ap [DV.box q0] else bif e.Kind==2 then x.S.ab.length<=1000/\bif decide (List.length q3.ab<x.S.ab.length) then x.aD.length<=4294967295/\(∀(m:av),m∈x.aD->m.eJ.length<=4294967295/\m.cr.length<=4294967295)/\(0:Nat)=(0:Nat)/\ap []=ap []/\ap [DV.box [CL .aX q3.ab,CI (q3.Next),CL .az (xf x.aD e.Id),CL .aA x.au,CL .aH x.aC,CL .aT x.aL,CI x.State,CI x.dw]]=ap [DV.box q0] else(0:Nat)=(0:Nat)/\ap []=ap []/\ap [DV.box [CL .aX q3.ab,CI (q3.Next),CL .az x.aD,CL .aA x.au,CL .aH x.aC,CL .aT x.aL,CI x.State,CI x.dw]]=ap [DV.box q0] else bif e.Kind==3 then e.F.aj.length<=4294967296/\bif !q1.2 then en x3/\q2/\(0:Nat)=(0:Nat)/\ap []=ap []/\ap [DV.box (aO x0)]=ap [DV.box q0] else(0:Nat)=(0:Nat)/\ap []=ap []/\ap [DV.box [CL .aX x.S.ab,CI x.S.Next,CL .az x.aD,CL .aA q1.1,CL .aH x.aC,CL .aT x.aL,CI x.State,CI x.dw]]=ap [DV.box q0] else bif e.Kind==4 then bif decide (x6>1000000000) then ee x.aC<=4294967296/\iY {At:=(1000000000:Int),F:=e.F:aI}<=4294967296/\bif !mE x.aC {At:=(1000000000:Int),F:=e.F:aI} then en x7/\q2/\(0:Nat)=(0:Nat)/\ap []=ap []/\ap [DV.box (aO x2)]=ap [DV.box q0] else(0:Nat)=(0:Nat)/\ap []=ap []/\ap [DV.box [CL .aX x.S.ab,CI x.S.Next,CL .az x.aD,CL .aA x.au,CL .aH (qA x.aC {At:=(1000000000:Int),F:=e.F:aI}),CL .aT x.aL,CI x.State,CI x.dw]]=ap [DV.box q0] else ee x.aC<=4294967296/\iY x5<=4294967296/\bif !mE x.aC x5 then en x4/\q2/\(0:Nat)=(0:Nat)/\ap []=ap []/\ap [DV.box (aO x1)]=ap [DV.box q0] else(0:Nat)=(0:Nat)/\ap []=ap []/\ap [DV.box [CL .aX x.S.ab,CI x.S.Next,CL .az x.aD,CL .aA x.au,CL .aH (qA x.aC x5),CL .aT x.aL,CI x.State,CI x.dw]]=ap [DV.box q0] else bif e.Kind==5 then bc x.au=true/\(0:Nat)=(0:Nat)/\ap []=ap []/\ap [DV.box (aO (Am x 2))]=ap [DV.box q0] else en x/\q2/\(0:Nat)=(0:Nat)/\ap []=ap []/\ap [DV.box (aO (jk x 3))]=ap [DV.box q0]) (by kernel_rfl)
 dsimp only
 obtain⟨d,hX⟩:=bC
 have hg:=hX.good
 have hf:=JA fT
 have hN:=Qt fT
 have NF:=NP hX.tocoreX
 have h40:=(lR hX.store).2.2.1
 have ads:=hX.now
 have hS:(⟨x.S.ab,x.S.Next⟩:aG)=x.S:=rfl
 have hF:(⟨e.F.Kind,e.F.aj⟩:aJ)=e.F:=rfl
 simp only[hS,hF]
 refine bo (fun k=> ?_) (fun k1=>bo (fun k=> ?_) (fun k2=>bo (fun k=> ?_) (fun k3=>bo (fun k=> ?_) (fun k4=>bo (fun k=> ?_) (fun k5=> ?_)))))
 ·have e1:gS x e=e7 x e.F:=if_pos k
  exact⟨hg,hX.store,by have:=(qS (hf (.inl k))).1;omega,trivial,trivial,o8 e1.symm⟩
 ·have e1:gS x e=FB x e.Id:=(if_neg k1).trans (if_pos k)
  refine⟨by omega,aU (fun g=>⟨NF.1,NF.2,trivial,trivial,o8 (a:=B7 (vd x (tx x.S e.Id)) (xf x.aD e.Id)) (e1.trans (if_pos g)).symm⟩) (fun g=>⟨trivial,trivial,o8 (a:=vd x (tx x.S e.Id)) (e1.trans (if_neg g)).symm⟩)⟩
 ·have e1:gS x e=LH x e:=(if_neg k1).trans ((if_neg k2).trans (if_pos k))
  have hu:fH e.aW=true:=by
   simp only[dM,k,show decide ((3:Int)=1)=false from rfl,show decide ((3:Int)=2)=false from rfl,decide_true,cond_true,cond_false,cK] at fT;exact fT.2
  have hT:bc (fZ x.au e.F e.aW x.dw).1=true:=np hX.jl (hf (.inr (.inl k))) hu ads.1 (by omega)
  refine⟨by have:=(qS (hf (.inr (.inl k)))).1;omega,bO (fun g=>⟨⟨hT,hg.2⟩,.inl trivial,trivial,trivial,o8 (e1.trans (if_neg (by rw[show(fZ x.au e.F e.aW x.dw).2=false from g];decide))).symm⟩) (fun g=>⟨trivial,trivial,o8 (a:=pV x (fZ x.au e.F e.aW x.dw).1) (e1.trans (if_pos g)).symm⟩)⟩
 ·have e1:gS x e=FZ x e:=(if_neg k1).trans ((if_neg k2).trans ((if_neg k3).trans (if_pos k)))
  have hfx:=(qS (hf (.inr (.inr k)))).2
  have hts:=(Ar hX.timers).2
  rw[wrap_i64 (n:=x.dw+e.N) (by omega) (by omega)]
  have key:∀t:aI,tc x e=t->t.F=e.F->ee x.aC<=4294967296/\iY t<=4294967296/\bif !mE x.aC t then en ⟨x.S,x.aD,x.au,qA x.aC t,x.aL,x.State,x.dw⟩/\(True\/(3:Int)=5)/\True/\True/\ap [DV.box (aO (jk ⟨x.S,x.aD,x.au,qA x.aC t,x.aL,x.State,x.dw⟩ 3))]=ap [DV.box (aO (gS x e))] else True/\True/\ap [DV.box (aO (LB x (qA x.aC t)))]=ap [DV.box (aO (gS x e))]:=by
   rintro t rfl u9
   refine⟨by omega,by simp only[iY,u9];omega,bO (fun g=>⟨hg,.inl trivial,trivial,trivial,o8 (e1.trans (if_neg (by rw[show mE x.aC (tc x e)=false from g];decide))).symm⟩) (fun g=>⟨trivial,trivial,o8 (e1.trans (if_pos g)).symm⟩)⟩
  refine aU (fun g=> ?_) (fun g=> ?_)
  ·exact key ⟨1000000000,e.F⟩ (by unfold tc;rw[if_pos (by omega)]) rfl
  ·exact key ⟨x.dw+e.N,e.F⟩ (by unfold tc;rw[if_neg (by omega)]) rfl
 ·have e1:gS x e=Am x 2:=(if_neg k1).trans ((if_neg k2).trans ((if_neg k3).trans ((if_neg k4).trans (if_pos k))))
  rw[e1]
  repeat' (first|exact hX.jl|exact rfl|trivial|refine And.intro (by first|exact hX.jl|rfl|trivial) ?_)
 ·have e1:gS x e=jk x 3:=(if_neg k1).trans ((if_neg k2).trans ((if_neg k3).trans ((if_neg k4).trans (if_neg k5))))
  rw[e1]
  exact⟨hg,.inl trivial,trivial,trivial,rfl⟩
def aiT:HH:=⟨_,ahe⟩
def Z3:bp UU where
 α:=bB×ao×av
 md:=[.ro,.box true,.ro]
 of:=oC (oA .dZ) (oC (oX .bD) (o1 (oA .az)))
 ds:=fun x=>[dA .dZ x.1,dX .bD x.2.1,dA .az x.2.2]
 pre:=fun(d,x,m)=>[cF d x,x.State=1,xe x.S.ab m,m.eJ.length<=4294967295]
 bT:=fun(d,x,m)=>⟨[],[],[dX .bD (ph d x m)]⟩
 law:=lC (lA .dZ) (lC (lX .bD) (l1 (lA .az)))
def D2(d:bB)(x:ao)(m:av):Int×List cD×T1×Unit->Prop:=fun(i,l,p,_)=>l=mK d m/\0<=i/\i<=l.length/\cF d (instT p)/\jH ((mK d m).drop i.toNat) (instT p)=ph d x m
def DR(d:bB)(x:ao)(m:av):Int×List cD×T1×Unit->Nat:=fun(i,l,p,_)=>l.length-i.toNat
def asN:Z3.α->Nat->Option (bY UU):=fun(d,x,m)=>aN [(6,bh [.slot 8 (8,1024) (.lit (.int .i64)),.slot 6 (6,1024) (.own .dc true),.box 1 (2000001,0) [.own .aX true,.lit (.int .i64),.own .az true,.own .aA true,.own .aH true,.own .aT true,.lit (.int .i64),.lit (.int .i64)]] (fun _=>D2 d x m) (DR d x m))]
def ao':=us [aiU,SK,aiT]
theorem aqx:Holds EE (79,Z3):=by
 refine holds_of ax func79 Z3 (by kernel_rfl) ao' (aE _) asN (fun x hp hb=> ?_)
 obtain⟨d,x,m⟩:=x
 have bi:=iF (x:=d) (hb _ m0)
 have fE:=bi.1
 have ey:=bi.2
 have fg:=g_ (x:=x) (hb _ m1)
 have cw:=fg.1
 have dh:=fg.2.1
 have df:=fg.2.2.1
 have cI:=fg.2.2.2.1
 have de:=fg.2.2.2.2
 have u5:=gZ (x:=m) (hb _ m2)
 have qN:=u5.1
 have m_:=u5.2
 have bC:cF d x:=hp _ m0
 have fT:x.State=1:=hp _ m1
 have Ka:xe x.S.ab m:=hp _ m2
 have hp3:m.eJ.length<=4294967295:=hp _ m3
 clear hp hb
 apply @ve _ (let x0:List av:=[{cN:=m.cN,eJ:=[]++m.eJ,cr:=[]:av}];let q0:=en x/\((3:Int)=(3:Int)\/(3:Int)=(5:Int))/\(0:Nat)=(0:Nat)/\ap []=ap []/\ap [DV.box (aO (jk x 3))]=ap [DV.box (aO (ph d x m))];cT d<=4294967295/\bif !lh d m then q0 else bif decide ((x.aD.length:Int)≥1000) then q0 else 0+m.eJ.length<=4294967296/\x.aD.length+x0.length<=4294967296/\D2 d x m (0,mK d m,(x.S.ab,x.S.Next,x.aD++x0,x.au,x.aC,x.aL,x.State,x.dw,()),())/\∀(y:Int×List cD×T13×PUnit),let x2:ao:={S:={ab:=y.2.2.1.1,Next:=y.2.2.1.2.1:aG},aD:=y.2.2.1.2.2.1,au:=y.2.2.1.2.2.2.1,aC:=y.2.2.1.2.2.2.2.1,aL:=y.2.2.1.2.2.2.2.2.1,State:=y.2.2.1.2.2.2.2.2.2.1,dw:=y.2.2.1.2.2.2.2.2.2.2.1:ao};let x3:cD:=List.getD y.2.1 y.1.toNat ua;let x5:Nat:=y.2.1.length;let x1:ao:=gS x2 x3;let x4:Int:=(↑x5:Int);let q1:=(0:Nat)=(0:Nat)/\ap []=ap []/\ap [DV.box [CL .aX y.2.2.1.1,CI y.2.2.1.2.1,CL .az y.2.2.1.2.2.1,CL .aA y.2.2.1.2.2.2.1,CL .aH y.2.2.1.2.2.2.2.1,CL .aT y.2.2.1.2.2.2.2.2.1,CI y.2.2.1.2.2.2.2.2.2.1,CI y.2.2.1.2.2.2.2.2.2.2.1]]=ap [DV.box (aO (ph d x m))];let q2:=(IntKind.wrap IntKind.i64 (y.1+1),y.2.1,(x1.S.ab,x1.S.Next,x1.aD,x1.au,x1.aC,x1.aL,x1.State,x1.dw,()),());D2 d x m y->bif decide (y.1<x4) then bif y.2.2.1.2.2.2.2.2.2.1==1 then 0<=y.1/\y.1.toNat<x5/\y.1.toNat<x5/\y.1.toNat<x5/\IN x2/\dM x3=true/\D2 d x m q2/\DR d x m q2<DR d x m y else q1 else q1) (by kernel_rfl)
 dsimp only
 have hz:=ad0 bC.po
 have hg:=bC.good
 refine⟨by omega,bO (fun h=> ?_) (fun h=>aU (fun g=> ?_) (fun g=> ?_))⟩
 ·have e1:ph d x m=jk x 3:=if_neg (fun c=>by rw[show lh d m=false from h] at c;exact absurd c.1 (by decide))
  rw[e1];exact⟨hg,.inl rfl,rfl,rfl,rfl⟩
 ·have e1:ph d x m=jk x 3:=if_neg (fun c=>by have:=c.2;omega)
  rw[e1];exact⟨hg,.inl rfl,rfl,rfl,rfl⟩
 ·have hf:lh d m=true:=h
  have e1:ph d x m=jH (mK d m) (GS x m):=if_pos ⟨hf,by omega⟩
  have hR:=jK (Dx bC.tocoreX (by omega) hf Ka) fT
  have h6:(mK d m).length<=6:=by
   have hm:CP d m=true:=by simp only[lh,cK] at hf;exact hf.1.2
   rw[mK,if_pos hf,wv];exact(Mu bC.po hm).1
  refine⟨by omega,by simp only[gv,fO];omega,⟨rfl,by omega,by omega,hR,e1.symm⟩,?_⟩
  clear e1 hR
  rintro⟨i,l,p,⟨⟩⟩ ⟨rfl,h1,h2,hX,hE⟩
  have h1:0<=i:=h1
  have h2:i<=(mK d m).length:=h2
  have hX:cF d (instT p):=hX
  have hE:jH ((mK d m).drop i.toNat) (instT p)=ph d x m:=hE
  refine aU (fun hc=>bo (fun hs=> ?_) (fun hs=> ?_)) (fun hc=> ?_)
  ·have hc:i<(mK d m).length:=hc
   have hs:(instT p).State=1:=hs
   have hn:i.toNat<(mK d m).length:=by omega
   have he:=Me (d:=d) (m:=m) _ (gQ (z:=ua) hn)
   rw[xr h1 hc,if_pos hs] at hE
   have fin:∀j,j=i+1->D2 d x m (j,mK d m,FY (gS (instT p) (List.getD (mK d m) i.toNat ua)),())/\DR d x m (j,mK d m,FY (gS (instT p) (List.getD (mK d m) i.toNat ua)),())<DR d x m (i,mK d m,p,()):=by
    rintro j rfl
    exact⟨⟨rfl,by omega,by omega,wN hX.tocoreX hs he,hE⟩,by show(mK d m).length-(i+1).toNat<(mK d m).length-i.toNat;omega⟩
   exact⟨h1,hn,hn,hn,tq hX,he,fin _ (wrap_i64 (by omega) (by omega))⟩
  ·have hc:i<(mK d m).length:=hc
   have hs:¬(instT p).State=1:=hs
   rw[xr h1 hc,if_neg hs] at hE
   exact⟨rfl,rfl,o8 hE⟩
  ·have hc:¬i<(mK d m).length:=hc
   rw[List.drop_eq_nil_of_le (by omega)] at hE
   exact⟨rfl,rfl,o8 (a:=instT p) hE⟩
def arR:HH:=⟨_,aqx⟩
theorem I1{l:List aI}{x:ao}{i:Int}(h0:0<=i)(h:i<l.length):ko (l.drop i.toNat) x=if x.State=1 then ko (l.drop (i+1).toNat) (e7 x (List.getD l i.toNat dH).F) else x:=by
 have e:(i+1).toNat=i.toNat+1:=by omega
 rw[S9 (by omega),ko,e,eY,fo (by omega)];rfl
theorem zZ{st:Int}{l:List aJ}{x:ao}{i:Int}(h0:0<=i)(h:i<l.length):gr st (l.drop i.toNat) x=if x.State=st then gr st (l.drop (i+1).toNat) (if st=1 then e7 x (sW (List.getD l i.toNat ta) bNo LX) else xd x) else x:=by
 have e:(i+1).toNat=i.toNat+1:=by omega
 rw[S9 (by omega),gr,e,eY,fo (by omega)];rfl
theorem KT{x:ao}{l:List aI}(h:¬x.State=1):ko l x=x:=by
 cases l with
 |nil=>rfl
 |cons t l=>rw[ko,if_neg h]
theorem Lc{st:Int}{x:ao}{l:List aJ}(h:¬x.State=st):gr st l x=x:=by
 cases l with
 |nil=>rfl
 |cons t l=>rw[gr,if_neg h]
def Sb:bp UU where
 α:=ao×(List BA)×(List aJ)
 md:=[.box true,.ro,.ro]
 of:=oC (oX .bD) (oC (oL .str) (o1 (oL .bP)))
 ds:=fun x=>[dX .bD x.1,dL .str x.2.1,dL .bP x.2.2]
 pre:=fun(x,failed,facts)=>[IN x,failed.length=facts.length,∀f∈facts,bm f.Kind=true,facts≠[]->x.State=1\/x.State=3\/x.State=5]
 bT:=fun(x,failed,facts)=>⟨[],[],[dX .bD (gr x.State facts x)]⟩
 law:=lC (lX .bD) (lC (lL .str) (l1 (lL .bP)))
def uV(x:ao)(failed:(List BA))(facts:(List aJ)):Int×Int×T1×Unit->Prop:=fun(st,i,p,_)=>st=x.State/\0<=i/\i<=facts.length/\IN (instT p)/\gr x.State (facts.drop i.toNat) (instT p)=gr x.State facts x
def sk(x:ao)(failed:(List BA))(facts:(List aJ)):Int×Int×T1×Unit->Nat:=fun(st,i,p,_)=>facts.length-i.toNat
def akr:Sb.α->Nat->Option (bY UU):=fun(x,failed,facts)=>aN [(2,bh [.slot 6 (6,1024) (.lit (.int .i64)),.slot 7 (7,1024) (.lit (.int .i64)),.box 0 (2000000,0) [.own .aX true,.lit (.int .i64),.own .az true,.own .aA true,.own .aH true,.own .aT true,.lit (.int .i64),.lit (.int .i64)]] (fun _=>uV x failed facts) (sk x failed facts))]
def afn:=us [WB,SI,WA]
theorem aha:Holds EE (132,Sb):=by
 refine holds_of ax func132 Sb (by kernel_rfl) afn (aE _) akr (fun x hp hb=> ?_)
 obtain⟨x,failed,facts⟩:=x
 have bi:=g_ (x:=x) (hb _ m0)
 have cw:=bi.1
 have dh:=bi.2.1
 have df:=bi.2.2.1
 have cI:=bi.2.2.2.1
 have de:=bi.2.2.2.2
 have abh:failed.length<=9223372036854775807:=jO (hb _ m1)
 have adx:facts.length<=9223372036854775807:=jO (hb _ m2)
 have bC:IN x:=hp _ m0
 have fT:failed.length=facts.length:=hp _ m1
 have Ka:∀f∈facts,bm f.Kind=true:=hp _ m2
 have hp3:facts≠[]->x.State=1\/x.State=3\/x.State=5:=hp _ m3
 clear hp hb
 apply @ve _ (let q0:=aO (gr x.State facts x);uV x failed facts (x.State,0,(x.S.ab,x.S.Next,x.aD,x.au,x.aC,x.aL,x.State,x.dw,()),())/\∀(y:Int×Int×T13×PUnit),let x3:aG:={ab:=y.2.2.1.1,Next:=y.2.2.1.2.1:aG};let x5:Int:=IntKind.wrap IntKind.i64 (y.2.1+1);let x6:Nat:=y.2.1.toNat;let x2:ao:={S:=x3,aD:=y.2.2.1.2.2.1,au:=y.2.2.1.2.2.2.1,aC:=y.2.2.1.2.2.2.2.1,aL:=y.2.2.1.2.2.2.2.2.1,State:=y.2.2.1.2.2.2.2.2.2.1,dw:=y.2.2.1.2.2.2.2.2.2.2.1:ao};let x4:aJ:=sW (List.getD facts x6 ta) {data:= #[(110:UInt8),(111:UInt8)]:BA} {K:=(1:Int),N:=(0:Int),S:={data:= #[]:BA}:aQ};let x0:ao:=e7 x2 x4;let x1:ao:=xd x2;let q1:=(0:Nat)=(0:Nat)/\ap []=ap []/\ap [DV.box [CL .aX y.2.2.1.1,CI y.2.2.1.2.1,CL .az y.2.2.1.2.2.1,CL .aA y.2.2.1.2.2.2.1,CL .aH y.2.2.1.2.2.2.2.1,CL .aT y.2.2.1.2.2.2.2.2.1,CI y.2.2.1.2.2.2.2.2.2.1,CI y.2.2.1.2.2.2.2.2.2.2.1]]=ap [DV.box q0];let q2:=(y.1,x5,(x0.S.ab,x0.S.Next,x0.aD,x0.au,x0.aC,x0.aL,x0.State,x0.dw,()),());let q3:=(y.1,x5,(x1.S.ab,x1.S.Next,x1.aD,x1.au,x1.aC,x1.aL,x1.State,x1.dw,()),());uV x failed facts y->bif decide (y.2.1<(failed.length:Int)) then bif y.2.2.1.2.2.2.2.2.2.1==y.1 then bif y.1==1 then 0<=y.2.1/\x6<facts.length/\en x2/\bQ x3=true/\x4.aj.length<=4294967296/\uV x failed facts q2/\sk x failed facts q2<sk x failed facts y else en x2/\(y.2.2.1.2.2.2.2.2.2.1=3\/y.2.2.1.2.2.2.2.2.2.1=5)/\uV x failed facts q3/\sk x failed facts q3<sk x failed facts y else q1 else q1) (by kernel_rfl)
 dsimp only
 obtain⟨d0,hX0⟩:=bC
 refine⟨⟨rfl,by omega,by omega,tq hX0,rfl⟩,?_⟩
 rintro⟨st,i,p,⟨⟩⟩ ⟨rfl,h1,h2,hX,hE⟩
 obtain⟨d,hX⟩:IN (instT p):=hX
 have h1:0<=i:=h1
 have h2:i<=facts.length:=h2
 have hE:gr x.State (facts.drop i.toNat) (instT p)=gr x.State facts x:=hE
 have nx:∀(z:ao)(j:Int),j=i+1->i<facts.length->IN z->gr x.State (facts.drop (i+1).toNat) z=gr x.State facts x->uV x failed facts (x.State,j,FY z,())/\sk x failed facts (x.State,j,FY z,())<sk x failed facts (x.State,i,p,()):=by
  rintro z j rfl hi hz u5
  exact⟨⟨rfl,by omega,by omega,hz,u5⟩,by show facts.length-(i+1).toNat<facts.length-i.toNat;omega⟩
 refine aU (fun hc=>bo (fun hs=>bo (fun g=> ?_) (fun g=> ?_)) (fun hs=> ?_)) (fun hc=> ?_)
 ·have hc:i<(failed.length:Int):=hc
  have hn:i.toNat<facts.length:=by omega
  have hs:(instT p).State=x.State:=hs
  have g:x.State=1:=g
  rw[zZ h1 (by omega),if_pos hs,if_pos g] at hE
  have hm:=v3 (w:=bNo) (v:=LX) (Ka _ (gQ (z:=ta) hn)) QI IR
  exact⟨h1,hn,hX.good,hX.store,by simp[sW],nx _ _ (wrap_i64 (n:=i+1) (by omega) (by omega)) (by omega) ⟨d,jm hX.tocoreX (hs.trans g) hm⟩ hE⟩
 ·have hc:i<(failed.length:Int):=hc
  have hs:(instT p).State=x.State:=hs
  have g:¬x.State=1:=g
  rw[zZ h1 (by omega),if_pos hs,if_neg g] at hE
  have h3:=hp3 (by intro e;rw[e] at fT;simp only[fO] at fT;omega)
  have h35:(instT p).State=3\/(instT p).State=5:=by omega
  exact⟨hX.good,h35,nx _ _ (wrap_i64 (n:=i+1) (by omega) (by omega)) (by omega) ⟨d,vJ hX.tocoreX h35⟩ hE⟩
 ·have hc:i<(failed.length:Int):=hc
  have hs:¬(instT p).State=x.State:=hs
  rw[Lc hs] at hE
  exact⟨rfl,rfl,o8 hE⟩
 ·have hc:¬i<(failed.length:Int):=hc
  rw[List.drop_eq_nil_of_le (by omega)] at hE
  exact⟨rfl,rfl,o8 (a:=instT p) hE⟩
def aiQ:HH:=⟨_,aha⟩
def DT:bp UU where
 α:=ao×Int
 md:=[.box true,.ro]
 of:=oC (oX .bD) (o1 oI)
 ds:=fun x=>[dX .bD x.1,dI x.2]
 pre:=fun(x,now)=>[IN x,0<=now/\now<=1000000000]
 bT:=fun(x,now)=>⟨[dL .kH (zC x now)],[],[dX .bD (nB x now)]⟩
 law:=lC (lX .bD) (l1 lI)
def D1(x:ao)(now:Int):Int×List aI×T1×Unit->Prop:=fun(i,l,p,_)=>l=pO now x.aC/\0<=i/\i<=l.length/\IN (instT p)/\ko ((pO now x.aC).drop i.toNat) (instT p)=dq x now
def DQ(x:ao)(now:Int):Int×List aI×T1×Unit->Nat:=fun(i,l,p,_)=>l.length-i.toNat
def xT(x:ao)(now:Int):Int×List ow×List BA×List aJ×T1×Unit->Prop:=fun(i,calls,failed,facts,p,_)=>calls=zC x now/\failed=jg (dq x now) now/\0<=i/\i<=failed.length/\facts=((jg (dq x now) now).take i.toNat).map (Fp (oi (dq x now) now).au)/\instT p=oi (dq x now) now
def xO(x:ao)(now:Int):Int×List ow×List BA×List aJ×T1×Unit->Nat:=fun(i,calls,failed,facts,p,_)=>failed.length-i.toNat
def Vz:DT.α->Nat->Option (bY UU):=fun(x,now)=>aN [(6,bh [.slot 7 (7,1024) (.lit (.int .i64)),.slot 5 (5,1024) (.own .aH true),.box 0 (2000000,0) [.own .aX true,.lit (.int .i64),.own .az true,.own .aA true,.own .aH true,.own .aT true,.lit (.int .i64),.lit (.int .i64)]] (fun _=>D1 x now) (DQ x now)),(12,bh [.slot 11 (11,1024) (.lit (.int .i64)),.slot 8 (8,1024) (.own .kH true),.slot 9 (9,1024) (.own .str true),.slot 10 (10,1024) (.own .bP true),.box 0 (2000000,0) [.own .aX true,.lit (.int .i64),.own .az true,.own .aA true,.own .aH true,.own .aT true,.lit (.int .i64),.lit (.int .i64)]] (fun _=>xT x now) (xO x now))]
def Vs:=us [aiS,SI,WM,SS,sM,aiQ]
def gh(x:ao)(now:Int):Int×T1×Unit->Prop:=fun(nw,p,_)=>nw=now/\instT p=dq x now
def kt:DT.α->bY UU:=fun(x,now)=>bh [.slot 1 (1,1024) (.lit (.int .i64)),.box 0 (2000000,0) [.own .aX true,.lit (.int .i64),.own .az true,.own .aA true,.own .aH true,.own .aT true,.lit (.int .i64),.lit (.int .i64)]] (fun _=>gh x now) (fun _=>0)
theorem aoO(x:ao)(now:Int)(y:Int×T1×Unit):mr EE Vs f80 DT Vz (x,now) 9 (kt (x,now)) y=(bc y.2.1.2.2.2.1=true/\
 ((0:Int)<=y.1/\y.1<=(1000000000:Int))/\
  xT x now ((0:Int),List.flatMap (oq y.1) y.2.1.2.2.2.1,List.flatMap (lf y.1) y.2.1.2.2.2.1,[],(y.2.1.1,y.2.1.2.1,y.2.1.2.2.1,List.map (fR y.1) y.2.1.2.2.2.1,y.2.1.2.2.2.2.1,y.2.1.2.2.2.2.2.1,y.2.1.2.2.2.2.2.2.1,y.2.1.2.2.2.2.2.2.2.1,PUnit.unit),PUnit.unit)/\
   ∀(y:Int×List ow×List BA×List aJ×T13×PUnit),
    let x1:ao:={S:={ab:=y.2.2.2.2.1.1,Next:=y.2.2.2.2.1.2.1:aG},aD:=y.2.2.2.2.1.2.2.1,au:=y.2.2.2.2.1.2.2.2.1,aC:=y.2.2.2.2.1.2.2.2.2.1,aL:=y.2.2.2.2.1.2.2.2.2.2.1,State:=y.2.2.2.2.1.2.2.2.2.2.2.1,dw:=y.2.2.2.2.1.2.2.2.2.2.2.2.1:ao};
    let x5:Int:=aZ y.2.2.2.2.1.2.2.2.1 (List.getD y.2.2.1 (Int.toNat y.1) ai);
    let x6:Nat:=List.length y.2.2.1;
    let x7:Nat:=List.length y.2.2.2.1;
    let x0:ao:=gr y.2.2.2.2.1.2.2.2.2.2.2.1 y.2.2.2.1 x1;
    let x4:Nat:=Int.toNat x5;
    let x3:aJ:=(List.getD y.2.2.2.2.1.2.2.2.1 x4 aR).F;
    let x2:List aJ:=[x3];
    xT x now y->bif decide (y.1<(↑x6:Int)) then(0:Int)<=y.1/\Int.toNat y.1<x6/\Int.toNat y.1<x6/\(0:Int)<=x5/\x4<List.length y.2.2.2.2.1.2.2.2.1/\x4<List.length y.2.2.2.2.1.2.2.2.1/\x4<List.length y.2.2.2.2.1.2.2.2.1/\List.length x3.aj<=(4294967296:Nat)/\x7+List.length x2<=(4294967296:Nat)/\xT x now (IntKind.wrap IntKind.i64 (y.1+(1:Int)),y.2.1,y.2.2.1,y.2.2.2.1++x2,(y.2.2.2.2.1.1,y.2.2.2.2.1.2.1,y.2.2.2.2.1.2.2.1,y.2.2.2.2.1.2.2.2.1,y.2.2.2.2.1.2.2.2.2.1,y.2.2.2.2.1.2.2.2.2.2.1,y.2.2.2.2.1.2.2.2.2.2.2.1,y.2.2.2.2.1.2.2.2.2.2.2.2.1,PUnit.unit),PUnit.unit)/\xO x now (IntKind.wrap IntKind.i64 (y.1+(1:Int)),y.2.1,y.2.2.1,y.2.2.2.1++x2,(y.2.2.2.2.1.1,y.2.2.2.2.1.2.1,y.2.2.2.2.1.2.2.1,y.2.2.2.2.1.2.2.2.1,y.2.2.2.2.1.2.2.2.2.1,y.2.2.2.2.1.2.2.2.2.2.1,y.2.2.2.2.1.2.2.2.2.2.2.1,y.2.2.2.2.1.2.2.2.2.2.2.2.1,PUnit.unit),PUnit.unit)<xO x now y else IN x1/\x6=x7/\(∀(f:aJ),f∈y.2.2.2.1->bm f.Kind=true)/\(y.2.2.2.1≠[]->y.2.2.2.2.1.2.2.2.2.2.2.1=(1:Int)\/y.2.2.2.2.1.2.2.2.2.2.2.1=(3:Int)\/y.2.2.2.2.1.2.2.2.2.2.2.1=(5:Int))/\(0:Nat)=(0:Nat)/\ap [DV.one (Cell.sl Cd.kH y.2.1)]=ap [DV.one (Cell.sl Cd.kH (zC x now))]/\ap [DV.box [Cell.sl Cd.aX x0.S.ab,Cell.lit (Value.int IntKind.i64 x0.S.Next),Cell.sl Cd.az x0.aD,Cell.sl Cd.aA x0.au,Cell.sl Cd.aH x0.aC,Cell.sl Cd.aT x0.aL,Cell.lit (Value.int IntKind.i64 x0.State),Cell.lit (Value.int IntKind.i64 x0.dw)]]=ap [DV.box [Cell.sl Cd.aX (nB x now).S.ab,Cell.lit (Value.int IntKind.i64 (nB x now).S.Next),Cell.sl Cd.az (nB x now).aD,Cell.sl Cd.aA (nB x now).au,Cell.sl Cd.aH (nB x now).aC,Cell.sl Cd.aT (nB x now).aL,Cell.lit (Value.int IntKind.i64 (nB x now).State),Cell.lit (Value.int IntKind.i64 (nB x now).dw)]]):=by kernel_rfl
theorem Ae(x:ao)(now:Int)(y:Int×T1×Unit)(hp:∀p∈DT.pre (x,now),p)(hb:∀d∈DT.ds (x,now),gB d)(hy:gh x now y):mr EE Vs f80 DT Vz (x,now) 9 (kt (x,now)) y:=by
 have bi:=g_ (x:=x) (hb _ m0)
 have cw:=bi.1
 have dh:=bi.2.1
 have df:=bi.2.2.1
 have cI:=bi.2.2.2.1
 have de:=bi.2.2.2.2
 have vW:=sL (n:=now) (hb _ m1)
 have bC:IN x:=hp _ m0
 have fT:0<=now/\now<=1000000000:=hp _ m1
 clear hp hb
 rw[aoO x now y]
 dsimp only
 obtain⟨d,hX⟩:=bC
 have hT:=zK hX fT.1 fT.2
 have hS:=Cy hT fT.1 fT.2
 obtain⟨nw,p,⟨⟩⟩:=y
 obtain⟨rfl,hp⟩:=hy
 have hp:instT p=dq x nw:=hp
 have e1:p.2.2.2.1=(dq x nw).au:=congrArg ao.au hp
 have eC:p.2.2.2.1.flatMap (oq nw)=zC x nw:=by rw[e1];rfl
 have eF:p.2.2.2.1.flatMap (lf nw)=jg (dq x nw) nw:=by rw[e1];rfl
 have eS:instT (p.1,p.2.1,p.2.2.1,p.2.2.2.1.map (fR nw),p.2.2.2.2.1,p.2.2.2.2.2.1,p.2.2.2.2.2.2.1,p.2.2.2.2.2.2.2.1,())=oi (dq x nw) nw:=congrArg (fun z=>oi z nw) hp
 have EC:(jg (dq x nw) nw).length<=30:=wu (xh _ (Fq nw) _) (Ci hT.jl).1
 refine⟨by show bc p.2.2.2.1=true;rw[e1];exact hT.jl,fT,⟨eC,eF,by omega,by omega,rfl,eS⟩,?_⟩
 clear eS eF eC e1
 clear hp
 rintro⟨i,calls,failed,facts,q,⟨⟩⟩ ⟨hc,hf,h1,h2,NF,hq⟩
 have hc:calls=zC x nw:=hc
 have hf:failed=jg (dq x nw) nw:=hf
 have h1:0<=i:=h1
 have h2:i<=(failed.length:Int):=h2
 have NF:facts=((jg (dq x nw) nw).take i.toNat).map (Fp (oi (dq x nw) nw).au):=NF
 have hq:instT q=oi (dq x nw) nw:=hq
 subst hc hf
 have e2:q.2.2.2.1=(oi (dq x nw) nw).au:=congrArg ao.au hq
 have e3:q.2.2.2.2.2.2.1=(dq x nw).State:=congrArg ao.State hq
 refine aU (fun g=> ?_) (fun g=> ?_)
 ·have g:i<((jg (dq x nw) nw).length:Int):=g
  have hn:i.toNat<(jg (dq x nw) nw).length:=by omega
  have hk:=gQ (z:=ai) hn
  obtain⟨k1,k2⟩:=Dn hk
  have ND:=y8 hT.jl fT.1 fT.2 hk
  have hl:=(qS ND).1
  have key:∀l:List ak,l=(oi (dq x nw) nw).au->0<=aZ l (List.getD (jg (dq x nw) nw) i.toNat ai)/\(aZ l (List.getD (jg (dq x nw) nw) i.toNat ai)).toNat<l.length/\(List.getD l (aZ l (List.getD (jg (dq x nw) nw) i.toNat ai)).toNat aR).F.aj.length<=4294967296/\(List.getD l (aZ l (List.getD (jg (dq x nw) nw) i.toNat ai)).toNat aR).F=Fp (oi (dq x nw) nw).au (List.getD (jg (dq x nw) nw) i.toNat ai):=by
   rintro l rfl
   refine⟨k1,?_,?_,rfl⟩
   ·have:aZ (oi (dq x nw) nw).au (List.getD (jg (dq x nw) nw) i.toNat ai)<((oi (dq x nw) nw).au.length:Int):=k2
    have h0:0<=aZ (oi (dq x nw) nw).au (List.getD (jg (dq x nw) nw) i.toNat ai):=k1
    omega
   ·exact wu hl (by omega)
  obtain⟨a1,a2,a3,a4⟩:=key _ e2
  have aok:facts.length<=30:=by rw[NF,wv,oH];omega
  have p9:=Cj (l:=jg (dq x nw) nw) ai hn
  have e:(i+1).toNat=i.toNat+1:=by omega
  have nx:∀(j:Int)(fs:List aJ),j=i+1->fs=((jg (dq x nw) nw).take (i+1).toNat).map (Fp (oi (dq x nw) nw).au)->xT x nw (j,zC x nw,jg (dq x nw) nw,fs,q,())/\xO x nw (j,zC x nw,jg (dq x nw) nw,fs,q,())<xO x nw (i,zC x nw,jg (dq x nw) nw,facts,q,()):=by
   rintro j fs rfl rfl
   exact⟨⟨rfl,rfl,by omega,by omega,rfl,hq⟩,by show(jg (dq x nw) nw).length-(i+1).toNat<(jg (dq x nw) nw).length-i.toNat;omega⟩
  exact⟨h1,hn,hn,a1,a2,a2,a2,a3,by simp only[gv,fO];omega,nx _ _ (wrap_i64 (n:=i+1) (by omega) (by omega)) (by rw[a4,NF,e,p9,Kg];rfl)⟩
 ·have g:¬i<((jg (dq x nw) nw).length:Int):=g
  have ht:(jg (dq x nw) nw).take i.toNat=jg (dq x nw) nw:=Tq (by omega)
  rw[ht] at NF
  have qP:gr q.2.2.2.2.2.2.1 facts (instT q)=nB x nw:=by rw[e3,NF,hq];rfl
  refine⟨by show IN (instT q);rw[hq];exact tq hS,by rw[NF,wv],fun f hm=> ?_,fun eO=> ?_,rfl,rfl,o8 qP⟩
  ·rw[NF] at hm
   obtain⟨k,hk,rfl⟩:=lB.1 hm
   exact yH (y8 hT.jl fT.1 fT.2 hk)
  ·show q.2.2.2.2.2.2.1=1\/q.2.2.2.2.2.2.1=3\/q.2.2.2.2.2.2.1=5
   rw[e3]
   exact E9 hT (now:=nw) (fun e=>eO (by rw[NF,e];rfl))
theorem Ad(x:ao)(now:Int)(hp:∀p∈DT.pre (x,now),p)(hb:∀d∈DT.ds (x,now),gB d):qv EE Vs f80 DT Vz (x,now) 9 (kt (x,now)):=by
 have bi:=g_ (x:=x) (hb _ m0)
 have cw:=bi.1
 have dh:=bi.2.1
 have df:=bi.2.2.1
 have cI:=bi.2.2.2.1
 have de:=bi.2.2.2.2
 have vW:=sL (n:=now) (hb _ m1)
 have bC:IN x:=hp _ m0
 have fT:0<=now/\now<=1000000000:=hp _ m1
 clear hp hb
 apply @ve _ (bif x.State==1 then ee x.aC<=4294967296/\D1 x now (0,pO now x.aC,(x.S.ab,x.S.Next,x.aD,x.au,MS now x.aC,x.aL,x.State,now,()),())/\∀(y:Int×List aI×T13×PUnit),let x2:aG:={ab:=y.2.2.1.1,Next:=y.2.2.1.2.1:aG};let x3:aJ:=(List.getD y.2.1 y.1.toNat dH).F;let x5:Nat:=y.2.1.length;let x1:ao:={S:=x2,aD:=y.2.2.1.2.2.1,au:=y.2.2.1.2.2.2.1,aC:=y.2.2.1.2.2.2.2.1,aL:=y.2.2.1.2.2.2.2.2.1,State:=y.2.2.1.2.2.2.2.2.2.1,dw:=y.2.2.1.2.2.2.2.2.2.2.1:ao};let x4:Int:=(↑x5:Int);let x0:ao:=e7 x1 x3;let q0:=gh x now (now,(y.2.2.1.1,y.2.2.1.2.1,y.2.2.1.2.2.1,y.2.2.1.2.2.2.1,y.2.2.1.2.2.2.2.1,y.2.2.1.2.2.2.2.2.1,y.2.2.1.2.2.2.2.2.2.1,y.2.2.1.2.2.2.2.2.2.2.1,()),());let q1:=(IntKind.wrap IntKind.i64 (y.1+1),y.2.1,(x0.S.ab,x0.S.Next,x0.aD,x0.au,x0.aC,x0.aL,x0.State,x0.dw,()),());D1 x now y->bif decide (y.1<x4) then bif y.2.2.1.2.2.2.2.2.2.1==1 then 0<=y.1/\y.1.toNat<x5/\y.1.toNat<x5/\y.1.toNat<x5/\en x1/\bQ x2=true/\x3.aj.length<=4294967296/\D1 x now q1/\DQ x now q1<DQ x now y else q0 else q0 else gh x now (now,(x.S.ab,x.S.Next,x.aD,x.au,x.aC,x.aL,x.State,now,()),())) (by kernel_rfl)
 dsimp only
 have hX:=bC
 obtain⟨d,hX⟩:=hX
 have hts:=(Ar hX.timers).2
 have fin:∀z:ao,z=dq x now->gh x now (now,FY z,()):=fun z hz=>⟨rfl,hz⟩
 refine bo (fun hs=>⟨by omega,⟨rfl,by omega,by omega,?_,?_⟩,?_⟩) (fun hs=> ?_)
 ·exact tq (jK (d:=d) (x:=adX x now) ⟨hX.po,hX.store,hX.jl,vg _ hX.timers,hX.oh,fT,hX.Jt,hX.bZ⟩ hs)
 ·exact(if_pos hs).symm
 ·have h30:(pO now x.aC).length<=30:=wu (Kh _ _) (Ar hX.timers).1
  have ND:∀t∈pO now x.aC,bI t.F=true:=fun t ht=>by
   have:=(oQ.1 hX.timers).2.1 t (wA.1 ht).1
   simp only[iy,cK] at this
   exact this.2
  rintro⟨i,l,p,⟨⟩⟩ ⟨rfl,h1,h2,hY,hE⟩
  obtain⟨d',hY⟩:IN (instT p):=hY
  have h1:0<=i:=h1
  have h2:i<=(pO now x.aC).length:=h2
  have hE:ko ((pO now x.aC).drop i.toNat) (instT p)=dq x now:=hE
  refine aU (fun hc=>bo (fun g=> ?_) (fun g=> ?_)) (fun hc=> ?_)
  ·have hc:i<((pO now x.aC).length:Int):=hc
   have hn:i.toNat<(pO now x.aC).length:=by omega
   have g:(instT p).State=1:=g
   have hf:=ND _ (gQ (z:=dH) hn)
   rw[I1 h1 hc,if_pos g] at hE
   have nx:∀j,j=i+1->D1 x now (j,pO now x.aC,FY (e7 (instT p) (List.getD (pO now x.aC) i.toNat dH).F),())/\DQ x now (j,pO now x.aC,FY (e7 (instT p) (List.getD (pO now x.aC) i.toNat dH).F),())<DQ x now (i,pO now x.aC,p,()):=by
    rintro j rfl
    exact⟨⟨rfl,by omega,by omega,⟨d',jm hY.tocoreX g hf⟩,hE⟩,by show(pO now x.aC).length-(i+1).toNat<(pO now x.aC).length-i.toNat;omega⟩
   exact⟨h1,hn,hn,hn,hY.good,hY.store,wu (qS hf).1 (by omega),nx _ (wrap_i64 (n:=i+1) (by omega) (by omega))⟩
  ·have g:¬(instT p).State=1:=g
   rw[KT g] at hE
   exact fin _ hE
  ·have hc:¬i<((pO now x.aC).length:Int):=hc
   rw[List.drop_eq_nil_of_le (by omega)] at hE
   exact fin (instT p) hE
 ·exact fin (EO x now) (if_neg hs).symm
attribute [local irreducible] qv mr in
theorem aqw:Holds EE (80,DT):=by
 refine uj ax func80 DT (by kernel_rfl) Vs (aE _) Vz 9 kt (by kernel_rfl) (fun x hp hb=> ?_)
 obtain⟨x,now⟩:=x
 refine⟨Ad x now hp hb,fun(y:Int×T1×Unit) hy=> ?_⟩
 have hy:gh x now y:=hy
 exact Ae x now y hp hb hy
def arQ:HH:=⟨_,aqw⟩
def iZ(code:List Int)(aF:Int):Int:=if 3+(code.length:Int)/12>aF then aF else 3+(code.length:Int)/12
theorem wG(code:List Int)(aF:Int):iZ code aF<=aF:=by unfold iZ;split<;>omega
theorem wU{c c':ae}{a b:ao}(h1:c=c')(h2:a=b):ap [DV.box [.sl .byte c.b,.lit (.int .i64 c.i),.lit (.int .i64 c.h)],DV.box [.sl .aX a.S.ab,.lit (.int .i64 a.S.Next),.sl .az a.aD,.sl .aA a.au,.sl .aH a.aC,.sl .aT a.aL,.lit (.int .i64 a.State),.lit (.int .i64 a.dw)]]=ap [DV.box [.sl .byte c'.b,.lit (.int .i64 c'.i),.lit (.int .i64 c'.h)],DV.box [.sl .aX b.S.ab,.lit (.int .i64 b.S.Next),.sl .az b.aD,.sl .aA b.au,.sl .aH b.aC,.sl .aT b.aL,.lit (.int .i64 b.State),.lit (.int .i64 b.dw)]]:=by rw[h1,h2]
theorem HZ{a a':bB}{x x':ao}{c c':ae}(h1:a=a')(h2:x=x')(h3:c=c'):ap [DV.agg [.lit (.string a.Name),.sl .a_ a.aw],DV.agg [.sl .aX x.S.ab,.lit (.int .i64 x.S.Next),.sl .az x.aD,.sl .aA x.au,.sl .aH x.aC,.sl .aT x.aL,.lit (.int .i64 x.State),.lit (.int .i64 x.dw)]]=ap [DV.agg [.lit (.string a'.Name),.sl .a_ a'.aw],DV.agg [.sl .aX x'.S.ab,.lit (.int .i64 x'.S.Next),.sl .az x'.aD,.sl .aA x'.au,.sl .aH x'.aC,.sl .aT x'.aL,.lit (.int .i64 x'.State),.lit (.int .i64 x'.dw)]]/\ap [DV.box [.sl .byte c.b,.lit (.int .i64 c.i),.lit (.int .i64 c.h)]]=ap [DV.box [.sl .byte c'.b,.lit (.int .i64 c'.i),.lit (.int .i64 c'.h)]]:=by subst h1 h2 h3;exact⟨rfl,rfl⟩
theorem ak2{a a':bB}{x x':ao}(h1:a=a')(h2:x=x'):Lf [.agg [.lit (.string a.Name),.sl .a_ a.aw],.agg [.sl .aX x.S.ab,.lit (.int .i64 x.S.Next),.sl .az x.aD,.sl .aA x.au,.sl .aH x.aC,.sl .aT x.aL,.lit (.int .i64 x.State),.lit (.int .i64 x.dw)]] [.agg [.lit (.string a'.Name),.sl .a_ a'.aw],.agg [.sl .aX x'.S.ab,.lit (.int .i64 x'.S.Next),.sl .az x'.aD,.sl .aA x'.au,.sl .aH x'.aC,.sl .aT x'.aL,.lit (.int .i64 x'.State),.lit (.int .i64 x'.dw)]]:=by subst h1 h2;exact bN _
abbrev TC:=List Int×Int×Int×Unit
def kW(p:TC):ae:=⟨p.1,p.2.1,p.2.2.1⟩
def Tv(c:ae):TC:=(c.b,c.i,c.h,())
theorem yG{d:bB}{x:ao}(hd:fz d=true)(h:(jn d (allM d.aw x.S.ab) x.aD).isSome=true):vm d x=ph d x (zN (jn d (allM d.aw x.S.ab) x.aD))/\xe x.S.ab (zN (jn d (allM d.aw x.S.ab) x.aD))/\(zN (jn d (allM d.aw x.S.ab) x.aD)).eJ.length<=4294967295:=by
 unfold vm
 cases hp:jn d (allM d.aw x.S.ab) x.aD with
 |none=>rw[hp] at h;cases h
 |some m=>
  have:=FP (fun r hr=>((uy hd).1 r hr).1) (E6 hp)
  exact⟨rfl,E5 hp,by show m.eJ.length<=_;omega⟩
theorem Nb{d:bB}{x:ao}(h:(jn d (allM d.aw x.S.ab) x.aD).isSome=false):vm d x=x:=by
 unfold vm
 cases hp:jn d (allM d.aw x.S.ab) x.aD with
 |none=>rfl
 |some m=>rw[hp] at h;cases h
theorem Jw{d:bB}{x:ao}{c:ae}{i:Int}(h:0<i):nu d i.toNat x c=nu d (i-1).toNat (ii d x c) (eQ x c)/\rX d i.toNat x c=rX d (i-1).toNat (ii d x c) (eQ x c):=by
 have e:i.toNat=(i-1).toNat+1:=by omega
 rw[e];exact⟨rfl,rfl⟩
def aa0:bp UU where
 α:=(List Int)×Int
 md:=[.ro,.ro]
 of:=oC (oL .byte) (o1 oI)
 ds:=fun x=>[dL .byte x.1,dI x.2]
 pre:=fun(code,aF)=>[code.length<=4294967296]
 bT:=fun(code,aF)=>⟨[dI (iZ code aF)],[],[]⟩
 law:=lC (lL .byte) (l1 lI)
def atM:aa0.α->Nat->Option (bY UU):=fun(code,aF)=>aN []
def ap9:List (FuncId×bp UU):=[]
theorem arA:Holds EE (15,aa0):=by
 refine holds_of ax func15 aa0 (by kernel_rfl) ap9 all_nil atM (fun x hp hb=> ?_)
 obtain⟨code,aF⟩:=x
 have uq:code.length<=9223372036854775807:=jO (hb _ m0)
 have uo:=sL (n:=aF) (hb _ m1)
 have bC:code.length<=4294967296:=hp _ m0
 clear hp hb
 apply @ve _ (let x0:Int:=IntKind.wrap IntKind.i64 (3+IntKind.wrap IntKind.i64 (Int.tdiv (code.length:Int) 12));(12:Int)≠(0:Int)/\bif decide (x0>aF) then Li aF (iZ code aF) else Li x0 (iZ code aF)) (by kernel_rfl)
 dsimp only
 have e:Int.tdiv (code.length:Int) 12=(code.length:Int)/12:=Int.tdiv_eq_ediv_of_nonneg (by omega)
 rw[e,wrap_i64 (n:=(code.length:Int)/12) (by omega) (by omega),wrap_i64 (by omega) (by omega)]
 refine⟨by decide,aU (fun h=>oe ?_) (fun h=>oe ?_)⟩
 ·rw[iZ,if_pos h]
 ·rw[iZ,if_neg h]
def aiE:HH:=⟨_,arA⟩
def aaC:bp UU where
 α:=ae×bB×ao
 md:=[.box false,.ro,.box true]
 of:=oC oU (oC (oA .dZ) (o1 (oX .bD)))
 ds:=fun x=>[dU x.1,dA .dZ x.2.1,dX .bD x.2.2]
 pre:=fun(c,d,x)=>[bj c,cF d x,x.dw+30<=1000000000]
 bT:=fun(c,d,x)=>⟨[],[],[dU (eQ x c),dX .bD (ii d x c)]⟩
 law:=lC lU (lC (lA .dZ) (l1 (lX .bD)))
def atn:aaC.α->Nat->Option (bY UU):=fun(c,d,x)=>aN []
def apK:=us [mL,SH,SI,arS,arR,aba,Eb,arQ,SG,zv,SF,arP]
theorem aq':Holds EE (40,aaC):=by
 refine holds_of ax func40 aaC (by kernel_rfl) apK (aE _) atn (fun x hp hb=> ?_)
 obtain⟨c,d,x⟩:=x
 have dK:=sK (x:=c) (hb _ m0)
 have fg:=iF (x:=d) (hb _ m1)
 have fE:=fg.1
 have ey:=fg.2
 have u5:=g_ (x:=x) (hb _ m2)
 have cw:=u5.1
 have dh:=u5.2.1
 have df:=u5.2.2.1
 have cI:=u5.2.2.2.1
 have de:=u5.2.2.2.2
 have bC:bj c:=hp _ m0
 have fT:cF d x:=hp _ m1
 have Ka:x.dw+30<=1000000000:=hp _ m2
 clear hp hb
 apply @ve _ (let x7:ao:={S:={ab:={τ:=Cd.aX,xs:=x.S.ab:iX UU}.xs,Next:=x.S.Next:aG},aD:={τ:=Cd.az,xs:=x.aD:iX UU}.xs,au:={τ:=Cd.aA,xs:=x.au:iX UU}.xs,aC:={τ:=Cd.aH,xs:=x.aC:iX UU}.xs,aL:={τ:=Cd.aT,xs:=x.aL:iX UU}.xs,State:=x.State,dw:=x.dw:ao};let x8:ao:=e7 x (cP (aa c 8));let Aq:List Int:=[0,1,5,30];let Ef:av:=zN (jn d (allM d.aw x.S.ab) x.aD);let J9:Int:=(x.au.length:Int);let x3:ao:=ph d x Ef;let yj:Nat:=Aq.length;let jI:ae:=aa (aa c 8) J9;let og:BA:=bU (List.getD x.au (Int.toNat (ag (aa c 8) J9)) aR).F;let pT:ae:=aa jI 3;let rc:Int:=(↑yj:Int);let x2:Int:=IntKind.wrap IntKind.i64 (x.dw+List.getD Aq (Int.toNat (ag (aa c 8) rc)) 0);let x4:ae:=aa (aa c 8) rc;let x6:aQ:=dR pT;let x9:ae:=ew pT;let x0:ao:=nB x x2;let x5:aQ:={K:=x6.K,N:=x6.N,S:=x6.S:aQ};let x1:aG:=(jR x7 og (!b8 jI 3) x5).1.S;let q0:=(0:Nat)=(0:Nat)/\(0:Nat)=(0:Nat)/\ap []=ap []/\ap [DV.box [CL .byte (aa c 8).b,CI ((aa c 8).i),CI ((aa c 8).h)],DV.box (aO x)]=ap [DV.box [CL .byte (eQ x c).b,CI ((eQ x c).i),CI ((eQ x c).h)],DV.box (aO (ii d x c))];let q1:=(0:Nat)=(0:Nat)/\(0:Nat)=(0:Nat)/\ap []=ap []/\ap [DV.box [CL .byte x9.b,CI x9.i,CI x9.h],DV.box [CL .aX x1.ab,CI x1.Next,CL .az (jR x7 og (!b8 jI 3) x5).1.aD,CL .aA (jR x7 og (!b8 jI 3) x5).1.au,CL .aH (jR x7 og (!b8 jI 3) x5).1.aC,CL .aT (jR x7 og (!b8 jI 3) x5).1.aL,CI ((jR x7 og (!b8 jI 3) x5).1.State),CI ((jR x7 og (!b8 jI 3) x5).1.dw)]]=ap [DV.box [CL .byte (eQ x c).b,CI ((eQ x c).i),CI ((eQ x c).h)],DV.box (aO (ii d x c))];let q2:=bif !decide (x.State=2\/x.State=4\/x.State=6) then 0<=(aa c 8).i/\List.length (aa c 8).b<=4294967296/\1<=yj/\IN x/\(0<=x2/\x2<=1000000000)/\(0:Nat)=(0:Nat)/\(0:Nat)=(0:Nat)/\ap []=ap []/\ap [DV.box [CL .byte x4.b,CI x4.i,CI x4.h],DV.box (aO x0)]=ap [DV.box [CL .byte (eQ x c).b,CI ((eQ x c).i),CI ((eQ x c).h)],DV.box (aO (ii d x c))] else q0;let q3:=bif x.State==1 then fz d=true/\x.S.ab.length<=40/\bif Option.isSome (jn d (allM d.aw x.S.ab) x.aD) then cF d x/\x.State=1/\xe x.S.ab Ef/\Ef.eJ.length<=4294967295/\(0:Nat)=(0:Nat)/\(0:Nat)=(0:Nat)/\ap []=ap []/\ap [DV.box [CL .byte (aa c 8).b,CI ((aa c 8).i),CI ((aa c 8).h)],DV.box (aO x3)]=ap [DV.box [CL .byte (eQ x c).b,CI ((eQ x c).i),CI ((eQ x c).h)],DV.box (aO (ii d x c))] else q0 else q0;let q4:=(bt x7.au og (!b8 jI 3) x5).2=1->x.State=1\/x.State=3\/x.State=5;let q5:=bif ag c (8:Int)==(5:Int) then bif ag c (8:Int)==(5:Int) then q2 else bif decide (J9>0) then 0<=(aa c 8).i/\List.length (aa c 8).b<=4294967296/\0<=ag (aa c 8) J9/\Int.toNat (ag (aa c 8) J9)<x.au.length/\Int.toNat (ag (aa c 8) J9)<x.au.length/\Int.toNat (ag (aa c 8) J9)<x.au.length/\bj jI/\bj pT/\en x/\bQ x.S=true/\bR x6=true/\q4/\q1 else q0 else bif ag c (8:Int)==(6:Int) then q2 else bif decide (J9>0) then 0<=(aa c 8).i/\List.length (aa c 8).b<=4294967296/\0<=ag (aa c 8) J9/\Int.toNat (ag (aa c 8) J9)<x.au.length/\Int.toNat (ag (aa c 8) J9)<x.au.length/\Int.toNat (ag (aa c 8) J9)<x.au.length/\bj jI/\bj pT/\en x/\bQ x.S=true/\bR x6=true/\q4/\q1 else q0;let q6:=bif x.State==1 then bj (aa c 8)/\en x/\bQ x.S=true/\List.length (cP (aa c 8)).aj<=4294967296/\(0:Nat)=(0:Nat)/\(0:Nat)=(0:Nat)/\ap []=ap []/\ap [DV.box [CL .byte (cq (aa c 8)).b,CI ((cq (aa c 8)).i),CI ((cq (aa c 8)).h)],DV.box (aO x8)]=ap [DV.box [CL .byte (eQ x c).b,CI ((eQ x c).i),CI ((eQ x c).h)],DV.box (aO (ii d x c))] else q0;let q7:=bif ag c (8:Int)==(2:Int) then bif ag c (8:Int)==(2:Int) then q3 else q5 else bif ag c (8:Int)==(3:Int) then bif ag c (8:Int)==(3:Int) then q3 else q5 else bif ag c (8:Int)==(4:Int) then q3 else q5;0<=c.i/\c.b.length<=4294967296/\bif ag c (8:Int)==(0:Int) then bif ag c (8:Int)==(0:Int) then q6 else q7 else bif ag c (8:Int)==(1:Int) then q6 else q7) (by kernel_rfl)
 dsimp only
 have hb:=br (c:=c) (n:=8) (by omega)
 have h8:=aq bC 8
 have hg:=fT.good
 have hf:=(qS (nP (aa c 8))).1
 have h40:=(lR fT.store).2.2.1
 have ht:=LG (aa c 8)
 have ads:=fT.now
 have hw:∀n:Int,n=gL (aa c 8) rH->IntKind.wrap .i64 (x.dw+n)=x.dw+gL (aa c 8) rH:=by
  rintro n rfl;exact wrap_i64 (by omega) (by omega)
 have hk:0<x.au.length->0<=ag (aa c 8) x.au.length/\(ag (aa c 8) x.au.length).toNat<x.au.length:=fun h=>by
  have:=br (c:=aa c 8) (n:=x.au.length) (by omega);omega
 have hd1:=aq h8 x.au.length
 have hd2:=aq hd1 3
 have hv:=oK (aa (aa (aa c 8) x.au.length) 3)
 have jf:∀key ok v,(bt x.au key ok v).2=1->x.State=1\/x.State=3\/x.State=5:=fun key ok v h=>CV (ue.2 fT) h
 refine⟨bC.1,bC.2,?_⟩
 by_cases k1:ag c 8=0\/ag c 8=1
 ·have e1:ii d x c=if x.State=1 then e7 x (cP (aa c 8)) else x:=if_pos k1
  have e2:eQ x c=if x.State=1 then cq (aa c 8) else aa c 8:=if_pos k1
  repeat' (refine bo (fun _=> ?_) (fun _=> ?_))
  all_goals first
   |(exfalso;omega)
   |(rename_i hs;rw[if_pos hs] at e1 e2;exact⟨h8,hg,fT.store,by omega,rfl,rfl,rfl,wU e2.symm e1.symm⟩)
   |(rename_i hs;rw[if_neg hs] at e1 e2;exact⟨rfl,rfl,rfl,wU e2.symm e1.symm⟩)
 by_cases k2:ag c 8=2\/ag c 8=3\/ag c 8=4
 ·have e1:ii d x c=if x.State=1 then vm d x else x:=(if_neg k1).trans (if_pos k2)
  have e2:eQ x c=aa c 8:=(if_neg k1).trans (if_pos k2)
  repeat' (refine bo (fun _=> ?_) (fun _=> ?_))
  all_goals first
   |(exfalso;omega)
   |(rename_i hs;rw[if_pos hs] at e1
     exact⟨fT.po,by omega,af (fun h=>⟨fT,hs,(yG fT.po h).2.1,(yG fT.po h).2.2,rfl,rfl,rfl,wU e2.symm ((yG fT.po h).1.symm.trans e1.symm)⟩) (fun h=>⟨rfl,rfl,rfl,wU e2.symm ((Nb h).symm.trans e1.symm)⟩)⟩)
   |(rename_i hs;rw[if_neg hs] at e1;exact⟨rfl,rfl,rfl,wU e2.symm e1.symm⟩)
 by_cases k3:ag c 8=5\/ag c 8=6
 ·have e1:ii d x c=if mw x=true then x else nB x (x.dw+gL (aa c 8) rH):=(if_neg k1).trans ((if_neg k2).trans (if_pos k3))
  have e2:eQ x c=if mw x=true then aa c 8 else j9 (aa c 8) rH:=(if_neg k1).trans ((if_neg k2).trans (if_pos k3))
  repeat' (refine bo (fun _=> ?_) (fun _=> ?_))
  all_goals first
   |(exfalso;omega)
   |(refine bO (fun h=> ?_) (fun h=> ?_)
     ·rw[if_neg (by rw[show mw x=false from h];decide)] at e1 e2
      exact⟨h8.1,h8.2,by decide,tq fT,(by rw[hw (List.getD [0,1,5,30] (ag (aa c 8) (([0,1,5,30]:List Int).length:Int)).toNat 0) rfl];omega),rfl,rfl,rfl,wU e2.symm ((congrArg (nB x) (hw _ rfl)).trans e1.symm)⟩
     ·rw[if_pos (show mw x=true from h)] at e1 e2
      exact⟨rfl,rfl,rfl,wU e2.symm e1.symm⟩)
 ·have e1:ii d x c=if 0<x.au.length then(jR x (Wo x (aa c 8)) (!b8 (NR x (aa c 8)) 3) (dR (aa (NR x (aa c 8)) 3))).1 else x:=(if_neg k1).trans ((if_neg k2).trans (if_neg k3))
  have e2:eQ x c=if 0<x.au.length then ew (aa (NR x (aa c 8)) 3) else aa c 8:=(if_neg k1).trans ((if_neg k2).trans (if_neg k3))
  repeat' (refine bo (fun _=> ?_) (fun _=> ?_))
  all_goals first
   |(exfalso;omega)
   |(refine aU (fun h=> ?_) (fun h=> ?_)
     ·have h:0<x.au.length:=by omega
      rw[if_pos h] at e1 e2
      obtain⟨j1,j2⟩:=hk h
      exact⟨h8.1,h8.2,j1,j2,j2,j2,hd1,hd2,hg,fT.store,hv,jf _ _ _,rfl,rfl,rfl,wU e2.symm e1.symm⟩
     ·rw[if_neg (by omega)] at e1 e2
      exact⟨rfl,rfl,rfl,wU e2.symm e1.symm⟩)
def asa:HH:=⟨_,aq'⟩
def aa1:bp UU where
 α:=ae×Int
 md:=[.box false,.ro]
 of:=oC oU (o1 oI)
 ds:=fun x=>[dU x.1,dI x.2]
 pre:=fun(c,aF)=>[bj c,aF<=1000]
 bT:=fun(c,aF)=>⟨[dA .dZ (ca c),dA .bD (instD c aF)],[false,true],[dU (instDC c aF)]⟩
 law:=lC lU (l1 lI)
def Ea(c:ae)(aF:Int):Int×T2×T1×T2×T1×T3×Unit->Prop:=fun(i,r,q,d,p,cu,_)=>d=((ca c).Name,(ca c).aw,())/\0<=i/\i<=1000/\bj ⟨cu.1,cu.2.1,cu.2.2.1⟩/\cF (ca c) (instT p)/\(instT p).dw+30*i<=1000000000/\nu (ca c) i.toNat (instT p) ⟨cu.1,cu.2.1,cu.2.2.1⟩=za c aF/\rX (ca c) i.toNat (instT p) ⟨cu.1,cu.2.1,cu.2.2.1⟩=GY c aF
def DS(c:ae)(aF:Int):Int×T2×T1×T2×T1×T3×Unit->Nat:=fun(i,r,q,d,p,cu,_)=>i.toNat
def atN:aa1.α->Nat->Option (bY UU):=fun(c,aF)=>aN [(4,bh [.slot 8 (8,1024) (.lit (.int .i64)),.box 4 (4,1024) [.lit .str,.own .a_ true],.box 5 (5,1024) [.own .aX true,.lit (.int .i64),.own .az true,.own .aA true,.own .aH true,.own .aT true,.lit (.int .i64),.lit (.int .i64)],.box 6 (6,1024) [.lit .str,.shr .a_],.box 7 (7,1024) [.own .aX true,.lit (.int .i64),.own .az true,.own .aA true,.own .aH true,.own .aT true,.lit (.int .i64),.lit (.int .i64)],.box 0 (2000000,0) [.shr .byte,.lit (.int .i64),.lit (.int .i64)]] (fun _=>Ea c aF) (DS c aF))]
def ap':=us [ahS,asb,Eb,mL,asa,zv,SK]
theorem arB:Holds EE (14,aa1):=by
 refine holds_of ax func14 aa1 (by kernel_rfl) ap' (aE _) atN (fun x hp hb=> ?_)
 obtain⟨c,aF⟩:=x
 have dK:=sK (x:=c) (hb _ m0)
 have uo:=sL (n:=aF) (hb _ m1)
 have bC:bj c:=hp _ m0
 have fT:aF<=1000:=hp _ m1
 clear hp hb
 apply @ve _ (let x1:Nat:=List.length [0,0,7];let x0:ae:=aa (iD c) (↑x1:Int);let q0:=instNew (List.getD [0,0,7] (Int.toNat (ag (iD c) (↑x1:Int))) 0);let q1:=instDC c aF;let q2:=List bH×Int×List av×List ak×List aI×List bu×Int×Int×PUnit;let q3:=aO (instD c aF);bj c/\0<=(iD c).i/\List.length (iD c).b<=4294967296/\1<=x1/\0<=x0.i/\x0.b.length<=4294967296/\Ea c aF (ag x0 aF,({data:= #[]:BA},[],()),([],0,[],[],[],[],0,0,()),((ca c).Name,(ca c).aw,()),(q0.S.ab,q0.S.Next,q0.aD,q0.au,q0.aC,q0.aL,q0.State,q0.dw,()),((aa x0 aF).b,(aa x0 aF).i,(aa x0 aF).h,()),())/\∀(y:Int×T9×q2×T9×q2×MB×PUnit),let x4:ao:={S:={ab:=y.2.2.2.2.1.1,Next:=y.2.2.2.2.1.2.1:aG},aD:=y.2.2.2.2.1.2.2.1,au:=y.2.2.2.2.1.2.2.2.1,aC:=y.2.2.2.2.1.2.2.2.2.1,aL:=y.2.2.2.2.1.2.2.2.2.2.1,State:=y.2.2.2.2.1.2.2.2.2.2.2.1,dw:=y.2.2.2.2.1.2.2.2.2.2.2.2.1:ao};let x5:ae:={b:=y.2.2.2.2.2.1.1,i:=y.2.2.2.2.2.1.2.1,h:=y.2.2.2.2.2.1.2.2.1:ae};let x6:bB:={Name:=y.2.2.2.1.1,aw:=y.2.2.2.1.2.1:bB};let x2:ao:=ii x6 x4 x5;let x3:ao:=jk x4 5;let q4:=(IntKind.wrap IntKind.i64 (y.1-1),(y.2.1.1,y.2.1.2.1,()),(y.2.2.1.1,y.2.2.1.2.1,y.2.2.1.2.2.1,y.2.2.1.2.2.2.1,y.2.2.1.2.2.2.2.1,y.2.2.1.2.2.2.2.2.1,y.2.2.1.2.2.2.2.2.2.1,y.2.2.1.2.2.2.2.2.2.2.1,()),(y.2.2.2.1.1,y.2.2.2.1.2.1,()),(x2.S.ab,x2.S.Next,x2.aD,x2.au,x2.aC,x2.aL,x2.State,x2.dw,()),((eQ x4 x5).b,(eQ x4 x5).i,(eQ x4 x5).h,()),());let q5:=ap [DV.box [CL .byte (aa x5 10).b,CI ((aa x5 10).i),CI ((aa x5 10).h)]]=ap [DV.box [CL .byte q1.b,CI (q1.i),CI (q1.h)]];Ea c aF y->bif decide (y.1>0) then bj x5/\cF x6 x4/\y.2.2.2.2.1.2.2.2.2.2.2.2.1+(30:Int)<=(1000000000:Int)/\Ea c aF q4/\DS c aF q4<DS c aF y else bif y.2.2.2.2.1.2.2.2.2.2.2.1==1 then bj x5/\bif b8 x5 10 then en x4/\((5:Int)=(3:Int)\/(5:Int)=(5:Int))/\(0:Nat)=(0:Nat)/\ap [DV.agg [CS y.2.2.2.1.1,CL .a_ y.2.2.2.1.2.1],DV.agg (aO x3)]=ap [DV.agg [CS ((ca c).Name),CL .a_ (ca c).aw],DV.agg q3]/\q5 else(0:Nat)=(0:Nat)/\ap [DV.agg [CS y.2.2.2.1.1,CL .a_ y.2.2.2.1.2.1],DV.agg [CL .aX y.2.2.2.2.1.1,CI y.2.2.2.2.1.2.1,CL .az y.2.2.2.2.1.2.2.1,CL .aA y.2.2.2.2.1.2.2.2.1,CL .aH y.2.2.2.2.1.2.2.2.2.1,CL .aT y.2.2.2.2.1.2.2.2.2.2.1,CI y.2.2.2.2.1.2.2.2.2.2.2.1,CI y.2.2.2.2.1.2.2.2.2.2.2.2.1]]=ap [DV.agg [CS ((ca c).Name),CL .a_ (ca c).aw],DV.agg q3]/\q5 else(0:Nat)=(0:Nat)/\ap [DV.agg [CS y.2.2.2.1.1,CL .a_ y.2.2.2.1.2.1],DV.agg [CL .aX y.2.2.2.2.1.1,CI y.2.2.2.2.1.2.1,CL .az y.2.2.2.2.1.2.2.1,CL .aA y.2.2.2.2.1.2.2.2.1,CL .aH y.2.2.2.2.1.2.2.2.2.1,CL .aT y.2.2.2.2.1.2.2.2.2.2.1,CI y.2.2.2.2.1.2.2.2.2.2.2.1,CI y.2.2.2.2.1.2.2.2.2.2.2.2.1]]=ap [DV.agg [CS ((ca c).Name),CL .a_ (ca c).aw],DV.agg q3]/\ap [DV.box [CL .byte y.2.2.2.2.2.1.1,CI y.2.2.2.2.2.1.2.1,CI y.2.2.2.2.2.1.2.2.1]]=ap [DV.box [CL .byte q1.b,CI (q1.i),CI (q1.h)]]) (by kernel_rfl)
 dsimp only
 have hk:=xB bC
 have h1:=Mm bC
 have h2:=aq h1 aF
 have hn:=Ou c
 have hb:0<=ag (zb c) aF/\ag (zb c) aF<=1000:=by
  by_cases h:0<aF
  ·have:=br (c:=zb c) h;omega
  ·unfold ag;rw[if_pos (by omega)];omega
 refine⟨bC,hk.1,hk.2,by decide,h1.1,h1.2,⟨rfl,hb.1,hb.2,h2,Is c,?_,rfl,rfl⟩,?_⟩
 ·show(JE c).dw+30*ag (zb c) aF<=1000000000
  omega
 clear hk h1 h2 hn hb
 rintro⟨i,r,q,d,p,cu,⟨⟩⟩ ⟨hd,g1,g2,gc,gX,gn,gE,gC⟩
 have hd:d=((ca c).Name,(ca c).aw,()):=hd
 subst hd
 have g1:0<=i:=g1
 have g2:i<=1000:=g2
 have gc:bj (kW cu):=gc
 have gX:cF (ca c) (instT p):=gX
 have gn:(instT p).dw+30*i<=1000000000:=gn
 have gE:nu (ca c) i.toNat (instT p) (kW cu)=za c aF:=gE
 have gC:rX (ca c) i.toNat (instT p) (kW cu)=GY c aF:=gC
 refine aU (fun hc=> ?_) (fun hc=> ?_)
 ·have hc:0<i:=hc
  obtain⟨e1,e2,e3⟩:=zL (c:=kW cu) gX (by omega)
  have es:=Jw (d:=ca c) (x:=instT p) (c:=kW cu) hc
  rw[es.1] at gE
  rw[es.2] at gC
  have nx:∀j,j=i-1->Ea c aF (j,r,q,((ca c).Name,(ca c).aw,()),FY (ii (ca c) (instT p) (kW cu)),Tv (eQ (instT p) (kW cu)),())/\DS c aF (j,r,q,((ca c).Name,(ca c).aw,()),FY (ii (ca c) (instT p) (kW cu)),Tv (eQ (instT p) (kW cu)),())<DS c aF (i,r,q,((ca c).Name,(ca c).aw,()),p,cu,()):=by
   rintro j rfl
   exact⟨⟨rfl,by omega,by omega,FI gc,e1,by show(ii (ca c) (instT p) (kW cu)).dw+30*(i-1)<=1000000000;omega,gE,gC⟩,by show(i-1).toNat<i.toNat;omega⟩
  exact⟨gc,gX,by show(instT p).dw+30<=1000000000;omega,nx _ (wrap_i64 (n:=i-1) (by omega) (by omega))⟩
 ·have hc:¬0<i:=hc
  have e:i.toNat=0:=by omega
  rw[e] at gE gC
  have gE:instT p=za c aF:=gE
  have gC:kW cu=GY c aF:=gC
  have fin:∀(x':ao)(c':ae),x'=instD c aF->c'=instDC c aF->ap [DV.agg [.lit (.string (ca c).Name),.sl .a_ (ca c).aw],DV.agg [.sl .aX x'.S.ab,.lit (.int .i64 x'.S.Next),.sl .az x'.aD,.sl .aA x'.au,.sl .aH x'.aC,.sl .aT x'.aL,.lit (.int .i64 x'.State),.lit (.int .i64 x'.dw)]]=ap [DV.agg [.lit (.string (ca c).Name),.sl .a_ (ca c).aw],DV.agg [.sl .aX (instD c aF).S.ab,.lit (.int .i64 (instD c aF).S.Next),.sl .az (instD c aF).aD,.sl .aA (instD c aF).au,.sl .aH (instD c aF).aC,.sl .aT (instD c aF).aL,.lit (.int .i64 (instD c aF).State),.lit (.int .i64 (instD c aF).dw)]]/\ap [DV.box [.sl .byte c'.b,.lit (.int .i64 c'.i),.lit (.int .i64 c'.h)]]=ap [DV.box [.sl .byte (instDC c aF).b,.lit (.int .i64 (instDC c aF).i),.lit (.int .i64 (instDC c aF).h)]]:=fun _ _ h1 h2=>HZ rfl h1 h2
  refine bo (fun hs=>⟨gc,af (fun ho=>⟨gX.good,.inr rfl,rfl,?_⟩) (fun ho=>⟨rfl,?_⟩)⟩) (fun hs=>⟨rfl,?_⟩)
  ·have hs:(za c aF).State=1:=by rw[<-gE];exact hs
   have ho:b8 (GY c aF) 10=true:=by rw[<-gC];exact ho
   exact fin (jk (instT p) 5) (aa (kW cu) 10) (by rw[instD,if_pos ⟨hs,ho⟩,gE]) (by rw[instDC,if_pos hs,gC])
  ·have hs:(za c aF).State=1:=by rw[<-gE];exact hs
   have ho:¬b8 (GY c aF) 10=true:=by rw[<-gC];exact fun c=>absurd (ho.symm.trans c) (by decide)
   exact fin (instT p) (aa (kW cu) 10) (by rw[instD,if_neg (fun c=>ho c.2),gE]) (by rw[instDC,if_pos hs,gC])
  ·have hs:¬(za c aF).State=1:=by rw[<-gE];exact hs
   exact fin (instT p) (kW cu) (by rw[instD,if_neg (fun c=>hs c.1),gE]) (by rw[instDC,if_neg hs,gC])
def aiL:HH:=⟨_,arB⟩
def Zk5:bp UU where
 α:=(List Int)
 md:=[.ro]
 of:=o1 (oL .byte)
 ds:=fun x=>[dL .byte x]
 pre:=fun code=>[code.length<=4294967296]
 bT:=fun code=>⟨[dA .dZ (ca (gz code)),dA .bD (instD (gz code) (6+iZ code 30))],[false,false],[]⟩
 law:=l1 (lL .byte)
def Za5:Zk5.α->Nat->Option (bY UU):=fun code=>aN []
def Zu5:=us [aiR,aiE,aiL]
theorem Zo5:Holds EE (5,Zk5):=by
 refine holds_of ax func5 Zk5 (by kernel_rfl) Zu5 (aE _) Za5 (fun(code:(List Int)) hp hb=> ?_)
 have uq:code.length<=9223372036854775807:=jO (hb _ m0)
 have bC:code.length<=4294967296:=hp _ m0
 clear hp hb
 apply @ve _ (let q0:=gz code;let q1:=(6:Int)+iZ code 30;code.length<=4294967296/\code.length<=4294967296/\bj q0/\IntKind.wrap IntKind.i64 q1<=1000/\Lf [DV.agg [CS ((ca q0).Name),CL .a_ (ca q0).aw],DV.agg (aO (instD q0 (IntKind.wrap IntKind.i64 q1)))] [DV.agg [CS ((ca q0).Name),CL .a_ (ca q0).aw],DV.agg (aO (instD q0 q1))]) (by kernel_rfl)
 dsimp only
 have hs:=wG code 30
 have h0:0<=iZ code 30:=by unfold iZ;split<;>omega
 have e:IntKind.wrap .i64 (6+iZ code 30)=6+iZ code 30:=wrap_i64 (by omega) (by omega)
 rw[e]
 exact⟨bC,bC,AL bC,by omega,ak2 rfl rfl⟩
def Zh5:HH:=⟨_,Zo5⟩
def R2:bp UU where
 α:=ae
 md:=[.box false]
 of:=o1 oU
 ds:=fun x=>[dU x]
 pre:=fun c=>[bj c]
 bT:=fun c=>⟨[dA .cU (pI c)],[],[dU (kD c)]⟩
 law:=l1 lU
def BQ(c:ae):T8×T8×T3×Unit->Prop:=fun(r,p,cu,_)=>p.1=(s6 c).Kind/\p.2.2.1=(s6 c).Not/\bj ⟨cu.1,cu.2.1,cu.2.2.1⟩/\p.2.1.length<=6/\l5 p.2.1 ⟨cu.1,cu.2.1,cu.2.2.1⟩=l5 (s6 c).ay (Eg c)
def Hr(c:ae):T8×T8×T3×Unit->Nat:=fun(r,p,cu,_)=>6-p.2.1.length
def akg:R2.α->Nat->Option (bY UU):=fun c=>aN [(8,bh [.box 2 (2,1024) [.lit .str,.own .er true,.lit .bool],.box 3 (3,1024) [.lit .str,.own .er true,.lit .bool],.box 0 (2000000,0) [.shr .byte,.lit (.int .i64),.lit (.int .i64)]] (fun _=>BQ c) (Hr c))]
def afc:=us [zv,WO,mL,q_,Mx]
theorem ag1:Holds EE (143,R2):=by
 refine holds_of ax func143 R2 (by kernel_rfl) afc (aE _) akg (fun(c:ae) hp hb=> ?_)
 have dK:=sK (x:=c) (hb _ m0)
 have bC:bj c:=hp _ m0
 clear hp hb
 apply @ve _ (let x7:cn:=oD (b8 c 3) (aa c 3);let x9:BA:={data:= #[]:BA};let pT:ae:=ib (aa c 3);let x3:List BA:=[x9,{data:= #[(120:UInt8)]:BA},{data:= #[(88:UInt8)]:BA}];let x4:List BA:=[x9,{data:= #[(65:UInt8)]:BA},{data:= #[(120:UInt8)]:BA}];let x5:ae:=aa pT 10;let x6:List cp:=x7.ay;let x8:Int:=ag pT 10;let x0:ae:=bS (aa x5 5) x3;let x1:ae:=bS x5 x4;let x2:List cp:=[{K:=ag x5 5,S:=cv (aa x5 5) x3,V:={K:=(0:Int),N:=(0:Int),S:=x9:aQ}:cp}];let q0:=(pI c).Kind;bj c/\bj (aa c 3)/\0<=pT.i/\pT.b.length<=4294967296/\bif x8==0 then bj x5/\1<=x4.length/\(0:Nat)=(0:Nat)/\ap [DV.agg [CS (cv x5 x4),CL .er x6,CO x7.Not]]=ap [DV.agg [CS q0,CL .er (pI c).ay,CO ((pI c).Not)]]/\ap [DV.box [CL .byte x1.b,CI x1.i,CI x1.h]]=ap [DV.box [CL .byte (kD c).b,CI ((kD c).i),CI ((kD c).h)]] else bif x8==1 then 0<=x5.i/\x5.b.length<=4294967296/\bj (aa x5 5)/\1<=x3.length/\x6.length+x2.length<=4294967296/\(0:Nat)=(0:Nat)/\ap [DV.agg [CS x7.Kind,CL .er (x6++x2),CO x7.Not]]=ap [DV.agg [CS q0,CL .er (pI c).ay,CO ((pI c).Not)]]/\ap [DV.box [CL .byte x0.b,CI x0.i,CI x0.h]]=ap [DV.box [CL .byte (kD c).b,CI ((kD c).i),CI ((kD c).h)]] else bif x8==2 then BQ c ((x9,[],false,()),(x7.Kind,x6,x7.Not,()),(x5.b,x5.i,x5.h,()),())/\∀(y:T17×T17×MB×PUnit),let jI:ae:={b:=y.2.2.1.1,i:=y.2.2.1.2.1,h:=y.2.2.1.2.2.1:ae};let og:Nat:=y.2.1.2.1.length;let rc:ae:=aa jI 2;let yj:Int:=IntKind.wrap IntKind.i64 (5+ag jI 2);let Aq:Int:=(↑og:Int);let q1:=((y.1.1,y.1.2.1,y.1.2.2.1,()),(y.2.1.1,y.2.1.2.1++[hJ rc],y.2.1.2.2.1,()),((fC rc).b,(fC rc).i,(fC rc).h,()),());BQ c y->0<=y.2.2.1.2.1/\y.2.2.1.1.length<=4294967296/\bif decide (Aq<yj) then bj rc/\og+List.length [hJ rc]<=4294967296/\BQ c q1/\Hr c q1<Hr c y else(0:Nat)=(0:Nat)/\ap [DV.agg [CS y.2.1.1,CL .er y.2.1.2.1,CO y.2.1.2.2.1]]=ap [DV.agg [CS q0,CL .er (pI c).ay,CO ((pI c).Not)]]/\ap [DV.box [CL .byte rc.b,CI rc.i,CI rc.h]]=ap [DV.box [CL .byte (kD c).b,CI ((kD c).i),CI ((kD c).h)]] else(0:Nat)=(0:Nat)/\ap [DV.agg [CS x7.Kind,CL .er x6,CO x7.Not]]=ap [DV.agg [CS q0,CL .er (pI c).ay,CO ((pI c).Not)]]/\ap [DV.box [CL .byte x5.b,CI x5.i,CI x5.h]]=ap [DV.box [CL .byte (kD c).b,CI ((kD c).i),CI ((kD c).h)]]) (by kernel_rfl)
 dsimp only
 have h3:=aq bC 3
 have hk:=pu h3
 have he:=Ml bC
 have hpo:=(vO (wT (b8 c 3) (aa c 3))).1
 have AA:(s6 c).ay.length<=5:=hpo
 refine⟨bC,h3,hk.1,hk.2,bo (fun k=> ?_) (fun k0=>bo (fun k=> ?_) (fun k1=>bo (fun k=> ?_) (fun k2=> ?_)))⟩
 ·have e1:pI c=⟨cv (Eg c) sO,(s6 c).ay,(s6 c).Not⟩:=if_pos k
  have e2:kD c=bS (Eg c) sO:=if_pos k
  exact⟨he,by decide,rfl,LdP e1.symm e2.symm⟩
 ·have e1:pI c=⟨(s6 c).Kind,(s6 c).ay++[paA c],(s6 c).Not⟩:=(if_neg k0).trans (if_pos k)
  have e2:kD c=bS (aa (Eg c) 5) OK:=(if_neg k0).trans (if_pos k)
  exact⟨he.1,he.2,aq he 5,by decide,by simp only[gv,fO];omega,rfl,LdP e1.symm e2.symm⟩
 ·have e1:pI c=⟨(s6 c).Kind,(l5 (s6 c).ay (Eg c)).1,(s6 c).Not⟩:=(if_neg k0).trans ((if_neg k1).trans (if_pos k))
  have e2:kD c=(l5 (s6 c).ay (Eg c)).2:=(if_neg k0).trans ((if_neg k1).trans (if_pos k))
  refine⟨⟨rfl,rfl,he,by show(s6 c).ay.length<=6;omega,rfl⟩,?_⟩
  rintro⟨r,p,cu,⟨⟩⟩ ⟨hK,hN,ED,hlen,hF⟩
  have hK:p.1=(s6 c).Kind:=hK
  have hN:p.2.2.1=(s6 c).Not:=hN
  have ED:bj (kW cu):=ED
  have hlen:p.2.1.length<=6:=hlen
  have hF:l5 p.2.1 (kW cu)=l5 (s6 c).ay (Eg c):=hF
  have hb:=br (c:=kW cu) (n:=2) (by omega)
  have hw:IntKind.wrap .i64 (5+ag (kW cu) 2)=5+ag (kW cu) 2:=wrap_i64 (by omega) (by omega)
  refine⟨ED.1,ED.2,aU (fun g=> ?_) (fun g=> ?_)⟩
  ·have g:(p.2.1.length:Int)<5+ag (kW cu) 2:=hw▸g
   rw[Fo g] at hF
   exact⟨aq ED 2,by show p.2.1.length+1<=4294967296;omega,⟨hK,hN,xC (aq ED 2),by show(p.2.1++[hJ (aa (kW cu) 2)]).length<=6;simp only[kg,gv,fO];omega,hF⟩,by show 6-(p.2.1++[hJ (aa (kW cu) 2)]).length<6-p.2.1.length;simp only[kg,gv,fO];omega⟩
  ·have g:¬(p.2.1.length:Int)<5+ag (kW cu) 2:=hw▸g
   rw[Js g] at hF
   exact⟨rfl,LdP (a:=⟨p.1,p.2.1,p.2.2.1⟩) (d:=aa (kW cu) 2) (by rw[e1,<-hF,hK,hN]) (by rw[e2,<-hF])⟩
 ·have e1:pI c=s6 c:=(if_neg k0).trans ((if_neg k1).trans (if_neg k2))
  have e2:kD c=Eg c:=(if_neg k0).trans ((if_neg k1).trans (if_neg k2))
  exact⟨rfl,LdP e1.symm e2.symm⟩
def aiJ:HH:=⟨_,ag1⟩
def nY(c:ae):c_:=xz c
def vo(c:ae):ae:=qy c
def Yh(p:Int×Int×BA×Int×Int×BA×Int×BA×Int×Int×BA×Unit):c_:=⟨p.1,⟨p.2.1,p.2.2.1,⟨p.2.2.2.1,p.2.2.2.2.1,p.2.2.2.2.2.1⟩⟩,⟨p.2.2.2.2.2.2.1,p.2.2.2.2.2.2.2.1,⟨p.2.2.2.2.2.2.2.2.1,p.2.2.2.2.2.2.2.2.2.1,p.2.2.2.2.2.2.2.2.2.2.1⟩⟩⟩
def alg(x:c_):Int×Int×BA×Int×Int×BA×Int×BA×Int×Int×BA×Unit:=(x.Op,x.L.K,x.L.S,x.L.V.K,x.L.V.N,x.L.V.S,x.R.K,x.R.S,x.R.V.K,x.R.V.N,x.R.V.S,())
theorem VF{a a':c_}{d d':ae}(h1:a=a')(h2:d=d'):ap [DV.agg [.lit (.int .i64 a.Op),.lit (.int .i64 a.L.K),.lit (.string a.L.S),.lit (.int .i64 a.L.V.K),.lit (.int .i64 a.L.V.N),.lit (.string a.L.V.S),.lit (.int .i64 a.R.K),.lit (.string a.R.S),.lit (.int .i64 a.R.V.K),.lit (.int .i64 a.R.V.N),.lit (.string a.R.V.S)]]=ap [DV.agg [.lit (.int .i64 a'.Op),.lit (.int .i64 a'.L.K),.lit (.string a'.L.S),.lit (.int .i64 a'.L.V.K),.lit (.int .i64 a'.L.V.N),.lit (.string a'.L.V.S),.lit (.int .i64 a'.R.K),.lit (.string a'.R.S),.lit (.int .i64 a'.R.V.K),.lit (.int .i64 a'.R.V.N),.lit (.string a'.R.V.S)]]/\ap [DV.box [.sl .byte d.b,.lit (.int .i64 d.i),.lit (.int .i64 d.h)]]=ap [DV.box [.sl .byte d'.b,.lit (.int .i64 d'.i),.lit (.int .i64 d'.h)]]:=by subst h1 h2;exact⟨rfl,rfl⟩
def Sl:bp UU where
 α:=ae
 md:=[.box false]
 of:=o1 oU
 ds:=fun x=>[dU x]
 pre:=fun c=>[bj c]
 bT:=fun c=>⟨[dA .bL (nY c)],[],[dU (vo c)]⟩
 law:=l1 lU
def akB:Sl.α->Nat->Option (bY UU):=fun c=>aN []
def afx:=us [mL,SO]
theorem ahk:Holds EE (122,Sl):=by
 refine holds_of ax func122 Sl (by kernel_rfl) afx (aE _) akB (fun(c:ae) hp hb=> ?_)
 have dK:=sK (x:=c) (hb _ m0)
 have bC:bj c:=hp _ m0
 clear hp hb
 apply @ve _ (let x1:aQ:=(dV (aa c 3)).V;let x2:cp:=dV (cC (aa c 3));let x3:ae:=cC (cC (aa c 3));let x0:aQ:=x2.V;let q0:=aa c 3;0<=c.i/\c.b.length<=4294967296/\bj q0/\bj (cC q0)/\(0:Nat)=(0:Nat)/\ap [DV.agg [CI (IntKind.wrap IntKind.i64 (1+ag c 3)),CI ((dV q0).K),CS ((dV q0).S),CI x1.K,CI x1.N,CS x1.S,CI x2.K,CS x2.S,CI x0.K,CI x0.N,CS x0.S]]=ap [DV.agg [CI ((nY c).Op),CI ((nY c).L.K),CS ((nY c).L.S),CI ((nY c).L.V.K),CI ((nY c).L.V.N),CS ((nY c).L.V.S),CI ((nY c).R.K),CS ((nY c).R.S),CI ((nY c).R.V.K),CI ((nY c).R.V.N),CS ((nY c).R.V.S)]]/\ap [DV.box [CL .byte x3.b,CI x3.i,CI x3.h]]=ap [DV.box [CL .byte (vo c).b,CI ((vo c).i),CI ((vo c).h)]]) (by kernel_rfl)
 dsimp only
 have hb:=br (c:=c) (n:=3) (by omega)
 have h3:=aq bC 3
 rw[wrap_i64 (by omega) (by omega)]
 exact⟨bC.1,bC.2,h3,pt h3,by trivial,rfl,rfl⟩
def aiY:HH:=⟨_,ahk⟩
def tV:bp UU where
 α:=ae
 md:=[.box false]
 of:=o1 oU
 ds:=fun x=>[dU x]
 pre:=fun c=>[bj c]
 bT:=fun c=>⟨[dA .bL (cZ c)],[],[dU (ig c)]⟩
 law:=l1 lU
def Mz:tV.α->Nat->Option (bY UU):=fun c=>aN []
def Mw:=us [aiY,mL,Mx]
def kA(c:ae):T5×T5×T3×Unit->Prop:=fun(r,p,cu,_)=>Yh p=nY c/\kW cu=vo c
def my:tV.α->bY UU:=fun c=>bh [.box 2 (2,1024) [.lit (.int .i64),.lit (.int .i64),.lit .str,.lit (.int .i64),.lit (.int .i64),.lit .str,.lit (.int .i64),.lit .str,.lit (.int .i64),.lit (.int .i64),.lit .str],.box 3 (3,1024) [.lit (.int .i64),.lit (.int .i64),.lit .str,.lit (.int .i64),.lit (.int .i64),.lit .str,.lit (.int .i64),.lit .str,.lit (.int .i64),.lit (.int .i64),.lit .str],.box 0 (2000000,0) [.shr .byte,.lit (.int .i64),.lit (.int .i64)]] (fun _=>kA c) (fun _=>0)
theorem ad8(c:ae)(y:T5×T5×T3×Unit):mr EE Mw f144 tV Mz c 2 (my c) y=(let x2:ae:={b:=y.2.2.1.1,i:=y.2.2.1.2.1,h:=y.2.2.1.2.2.1:ae};
let x0:ae:=aa x2 (8:Int);
let x1:Int:=ag x2 (8:Int);
(0:Int)<=y.2.2.1.2.1/\List.length y.2.2.1.1<=(4294967296:Nat)/\bif x1==(0:Int) then(0:Int)<=x0.i/\List.length x0.b<=(4294967296:Nat)/\(0:Nat)=(0:Nat)/\ap [DV.agg [Cell.lit (Value.int IntKind.i64 (ag x0 (6:Int))),Cell.lit (Value.int IntKind.i64 y.2.1.2.1),Cell.lit (Value.string y.2.1.2.2.1),Cell.lit (Value.int IntKind.i64 y.2.1.2.2.2.1),Cell.lit (Value.int IntKind.i64 y.2.1.2.2.2.2.1),Cell.lit (Value.string y.2.1.2.2.2.2.2.1),Cell.lit (Value.int IntKind.i64 y.2.1.2.2.2.2.2.2.1),Cell.lit (Value.string y.2.1.2.2.2.2.2.2.2.1),Cell.lit (Value.int IntKind.i64 y.2.1.2.2.2.2.2.2.2.2.1),Cell.lit (Value.int IntKind.i64 y.2.1.2.2.2.2.2.2.2.2.2.1),Cell.lit (Value.string y.2.1.2.2.2.2.2.2.2.2.2.2.1)]]=ap [DV.agg [Cell.lit (Value.int IntKind.i64 (cZ c).Op),Cell.lit (Value.int IntKind.i64 (cZ c).L.K),Cell.lit (Value.string (cZ c).L.S),Cell.lit (Value.int IntKind.i64 (cZ c).L.V.K),Cell.lit (Value.int IntKind.i64 (cZ c).L.V.N),Cell.lit (Value.string (cZ c).L.V.S),Cell.lit (Value.int IntKind.i64 (cZ c).R.K),Cell.lit (Value.string (cZ c).R.S),Cell.lit (Value.int IntKind.i64 (cZ c).R.V.K),Cell.lit (Value.int IntKind.i64 (cZ c).R.V.N),Cell.lit (Value.string (cZ c).R.V.S)]]/\ap [DV.box [Cell.sl Cd.byte (aa x0 (6:Int)).b,Cell.lit (Value.int IntKind.i64 (aa x0 (6:Int)).i),Cell.lit (Value.int IntKind.i64 (aa x0 (6:Int)).h)]]=ap [DV.box [Cell.sl Cd.byte (ig c).b,Cell.lit (Value.int IntKind.i64 (ig c).i),Cell.lit (Value.int IntKind.i64 (ig c).h)]] else bif x1==(1:Int) then bj x0/\(0:Nat)=(0:Nat)/\ap [DV.agg [Cell.lit (Value.int IntKind.i64 y.2.1.1),Cell.lit (Value.int IntKind.i64 (hJ x0).K),Cell.lit (Value.string (hJ x0).S),Cell.lit (Value.int IntKind.i64 (hJ x0).V.K),Cell.lit (Value.int IntKind.i64 (hJ x0).V.N),Cell.lit (Value.string (hJ x0).V.S),Cell.lit (Value.int IntKind.i64 y.2.1.2.2.2.2.2.2.1),Cell.lit (Value.string y.2.1.2.2.2.2.2.2.2.1),Cell.lit (Value.int IntKind.i64 y.2.1.2.2.2.2.2.2.2.2.1),Cell.lit (Value.int IntKind.i64 y.2.1.2.2.2.2.2.2.2.2.2.1),Cell.lit (Value.string y.2.1.2.2.2.2.2.2.2.2.2.2.1)]]=ap [DV.agg [Cell.lit (Value.int IntKind.i64 (cZ c).Op),Cell.lit (Value.int IntKind.i64 (cZ c).L.K),Cell.lit (Value.string (cZ c).L.S),Cell.lit (Value.int IntKind.i64 (cZ c).L.V.K),Cell.lit (Value.int IntKind.i64 (cZ c).L.V.N),Cell.lit (Value.string (cZ c).L.V.S),Cell.lit (Value.int IntKind.i64 (cZ c).R.K),Cell.lit (Value.string (cZ c).R.S),Cell.lit (Value.int IntKind.i64 (cZ c).R.V.K),Cell.lit (Value.int IntKind.i64 (cZ c).R.V.N),Cell.lit (Value.string (cZ c).R.V.S)]]/\ap [DV.box [Cell.sl Cd.byte (fC x0).b,Cell.lit (Value.int IntKind.i64 (fC x0).i),Cell.lit (Value.int IntKind.i64 (fC x0).h)]]=ap [DV.box [Cell.sl Cd.byte (ig c).b,Cell.lit (Value.int IntKind.i64 (ig c).i),Cell.lit (Value.int IntKind.i64 (ig c).h)]] else bif x1==(2:Int) then(0:Int)<=x0.i/\List.length x0.b<=(4294967296:Nat)/\(0:Nat)=(0:Nat)/\ap [DV.agg [Cell.lit (Value.int IntKind.i64 y.2.1.1),Cell.lit (Value.int IntKind.i64 y.2.1.2.1),Cell.lit (Value.string y.2.1.2.2.1),Cell.lit (Value.int IntKind.i64 y.2.1.2.2.2.1),Cell.lit (Value.int IntKind.i64 y.2.1.2.2.2.2.1),Cell.lit (Value.string y.2.1.2.2.2.2.2.1),Cell.lit (Value.int IntKind.i64 (ag x0 (5:Int))),Cell.lit (Value.string {data:= #[]:BA}),Cell.lit (Value.int IntKind.i64 (0:Int)),Cell.lit (Value.int IntKind.i64 (0:Int)),Cell.lit (Value.string {data:= #[]:BA})]]=ap [DV.agg [Cell.lit (Value.int IntKind.i64 (cZ c).Op),Cell.lit (Value.int IntKind.i64 (cZ c).L.K),Cell.lit (Value.string (cZ c).L.S),Cell.lit (Value.int IntKind.i64 (cZ c).L.V.K),Cell.lit (Value.int IntKind.i64 (cZ c).L.V.N),Cell.lit (Value.string (cZ c).L.V.S),Cell.lit (Value.int IntKind.i64 (cZ c).R.K),Cell.lit (Value.string (cZ c).R.S),Cell.lit (Value.int IntKind.i64 (cZ c).R.V.K),Cell.lit (Value.int IntKind.i64 (cZ c).R.V.N),Cell.lit (Value.string (cZ c).R.V.S)]]/\ap [DV.box [Cell.sl Cd.byte (aa x0 (5:Int)).b,Cell.lit (Value.int IntKind.i64 (aa x0 (5:Int)).i),Cell.lit (Value.int IntKind.i64 (aa x0 (5:Int)).h)]]=ap [DV.box [Cell.sl Cd.byte (ig c).b,Cell.lit (Value.int IntKind.i64 (ig c).i),Cell.lit (Value.int IntKind.i64 (ig c).h)]] else(0:Nat)=(0:Nat)/\ap [DV.agg [Cell.lit (Value.int IntKind.i64 y.2.1.1),Cell.lit (Value.int IntKind.i64 y.2.1.2.1),Cell.lit (Value.string y.2.1.2.2.1),Cell.lit (Value.int IntKind.i64 y.2.1.2.2.2.1),Cell.lit (Value.int IntKind.i64 y.2.1.2.2.2.2.1),Cell.lit (Value.string y.2.1.2.2.2.2.2.1),Cell.lit (Value.int IntKind.i64 y.2.1.2.2.2.2.2.2.1),Cell.lit (Value.string y.2.1.2.2.2.2.2.2.2.1),Cell.lit (Value.int IntKind.i64 y.2.1.2.2.2.2.2.2.2.2.1),Cell.lit (Value.int IntKind.i64 y.2.1.2.2.2.2.2.2.2.2.2.1),Cell.lit (Value.string y.2.1.2.2.2.2.2.2.2.2.2.2.1)]]=ap [DV.agg [Cell.lit (Value.int IntKind.i64 (cZ c).Op),Cell.lit (Value.int IntKind.i64 (cZ c).L.K),Cell.lit (Value.string (cZ c).L.S),Cell.lit (Value.int IntKind.i64 (cZ c).L.V.K),Cell.lit (Value.int IntKind.i64 (cZ c).L.V.N),Cell.lit (Value.string (cZ c).L.V.S),Cell.lit (Value.int IntKind.i64 (cZ c).R.K),Cell.lit (Value.string (cZ c).R.S),Cell.lit (Value.int IntKind.i64 (cZ c).R.V.K),Cell.lit (Value.int IntKind.i64 (cZ c).R.V.N),Cell.lit (Value.string (cZ c).R.V.S)]]/\ap [DV.box [Cell.sl Cd.byte x0.b,Cell.lit (Value.int IntKind.i64 x0.i),Cell.lit (Value.int IntKind.i64 x0.h)]]=ap [DV.box [Cell.sl Cd.byte (ig c).b,Cell.lit (Value.int IntKind.i64 (ig c).i),Cell.lit (Value.int IntKind.i64 (ig c).h)]]):=by kernel_rfl
theorem Eo(c:ae)(y:T5×T5×T3×Unit)(hp:∀p∈tV.pre c,p)(hb:∀d∈tV.ds c,gB d)(hy:kA c y):mr EE Mw f144 tV Mz c 2 (my c) y:=by
 have dK:=sK (x:=c) (hb _ m0)
 have bC:bj c:=hp _ m0
 clear hp hb
 rw[ad8 c y]
 dsimp only
 obtain⟨r,p,cu,⟨⟩⟩:=y
 obtain⟨hp,ED⟩:=hy
 have hp:Yh p=nY c:=hp
 have ED:kW cu=vo c:=ED
 have ep:p=alg (Yh p):=rfl
 have ec:cu=Tv (kW cu):=rfl
 rw[hp] at ep
 rw[ED] at ec
 subst ep ec
 have hk:bj (vo c):=zf bC
 have he:bj (H4 c):=Vi bC
 refine⟨hk.1,hk.2,bo (fun k=> ?_) (fun k0=>bo (fun k=> ?_) (fun k1=>bo (fun k=> ?_) (fun k2=> ?_)))⟩
 ·have e1:cZ c=⟨ag (H4 c) 6,(Kf c).L,(Kf c).R⟩:=if_pos k
  have e2:ig c=aa (H4 c) 6:=if_pos k
  exact⟨he.1,he.2,rfl,VF e1.symm e2.symm⟩
 ·have e1:cZ c=⟨(Kf c).Op,hJ (H4 c),(Kf c).R⟩:=(if_neg k0).trans (if_pos k)
  have e2:ig c=fC (H4 c):=(if_neg k0).trans (if_pos k)
  exact⟨he,rfl,VF e1.symm e2.symm⟩
 ·have e1:cZ c=⟨(Kf c).Op,(Kf c).L,⟨ag (H4 c) 5,ai,dx⟩⟩:=(if_neg k0).trans ((if_neg k1).trans (if_pos k))
  have e2:ig c=aa (H4 c) 5:=(if_neg k0).trans ((if_neg k1).trans (if_pos k))
  exact⟨he.1,he.2,rfl,VF e1.symm e2.symm⟩
 ·have e1:cZ c=Kf c:=(if_neg k0).trans ((if_neg k1).trans (if_neg k2))
  have e2:ig c=H4 c:=(if_neg k0).trans ((if_neg k1).trans (if_neg k2))
  exact⟨rfl,VF e1.symm e2.symm⟩
theorem En(c:ae)(hp:∀p∈tV.pre c,p)(hb:∀d∈tV.ds c,gB d):qv EE Mw f144 tV Mz c 2 (my c):=by
 have dK:=sK (x:=c) (hb _ m0)
 have bC:bj c:=hp _ m0
 clear hp hb
 apply @ve _ (let x0:BA:={data:= #[]:BA};bj c/\kA c ((0,0,x0,0,0,x0,0,x0,0,0,x0,()),((nY c).Op,(nY c).L.K,(nY c).L.S,(nY c).L.V.K,(nY c).L.V.N,(nY c).L.V.S,(nY c).R.K,(nY c).R.S,(nY c).R.V.K,(nY c).R.V.N,(nY c).R.V.S,()),((vo c).b,(vo c).i,(vo c).h,()),())) (by kernel_rfl)
 dsimp only
 exact⟨bC,rfl,rfl⟩
attribute [local irreducible] qv mr in
theorem ag0:Holds EE (144,tV):=by
 refine uj ax func144 tV (by kernel_rfl) Mw (aE _) Mz 2 my (by kernel_rfl) (fun(c:ae) hp hb=> ?_)
 refine⟨En c hp hb,fun(y:T5×T5×T3×Unit) hy=> ?_⟩
 have hy:kA c y:=hy
 exact Eo c y hp hb hy
def aiI:HH:=⟨_,ag0⟩
def R1:bp UU where
 α:=ae
 md:=[.box false]
 of:=o1 oU
 ds:=fun x=>[dU x]
 pre:=fun c=>[bj c]
 bT:=fun c=>⟨[dA .cV (ob c)],[],[dU (ji c)]⟩
 law:=l1 lU
def akf:R1.α->Nat->Option (bY UU):=fun c=>aN []
def afb:=us [WN,mL,q_,Eb,Mx]
theorem agZ:Holds EE (145,R1):=by
 refine holds_of ax func145 R1 (by kernel_rfl) afb (aE _) akf (fun(c:ae) hp hb=> ?_)
 have dK:=sK (x:=c) (hb _ m0)
 have bC:bj c:=hp _ m0
 clear hp hb
 apply @ve _ (let x2:ae:=aa (pB 2 c) 10;let x3:List BA:=[{data:= #[]:BA},{data:= #[(65:UInt8)]:BA},{data:= #[(120:UInt8)]:BA}];let x8:List BA:=[{data:= #[]:BA},{data:= #[(42:UInt8)]:BA}];let x9:Int:=ag (pB 2 c) 10;let yj:List Int:=[(-1),7,8,100001];let x1:ae:=bS x2 x3;let x7:ae:=bS x2 x8;let rc:Nat:=yj.length;let x6:ae:=fC x7;let pT:Int:=(↑rc:Int);let x0:List b7:=[{Op:=cv x2 x8,L:=hJ x7,R:=hJ x6:b7}];let x4:ae:=aa x2 pT;let x5:ae:=fC x6;let q0:=we 2 c;let q1:=ap [DV.box [CL .byte x1.b,CI x1.i,CI x1.h]]=ap [DV.box [CL .byte (ji c).b,CI ((ji c).i),CI ((ji c).h)]];let q2:=(ob c).Kind;let q3:=(ob c).Name;let q4:=(ob c).aW;let q5:=(ob c).N;bj c/\0<=(pB 2 c).i/\List.length (pB 2 c).b<=4294967296/\bif x9==0 then 0<=x2.i/\x2.b.length<=4294967296/\(0:Nat)=(0:Nat)/\ap [DV.agg [CI (ag x2 8),CS (q0.Name),CL .bq q0.ay,CI (q0.N),CS (q0.aW)]]=ap [DV.agg [CI q2,CS q3,CL .bq (ob c).ay,CI q5,CS q4]]/\ap [DV.box [CL .byte (aa x2 8).b,CI ((aa x2 8).i),CI ((aa x2 8).h)]]=ap [DV.box [CL .byte (ji c).b,CI ((ji c).i),CI ((ji c).h)]] else bif x9==1 then bj x2/\1<=x3.length/\(0:Nat)=(0:Nat)/\ap [DV.agg [CI (q0.Kind),CS (cv x2 x3),CL .bq q0.ay,CI (q0.N),CS (q0.aW)]]=ap [DV.agg [CI q2,CS q3,CL .bq (ob c).ay,CI q5,CS q4]]/\q1 else bif x9==2 then 0<=x2.i/\x2.b.length<=4294967296/\1<=rc/\(0:Nat)=(0:Nat)/\ap [DV.agg [CI (q0.Kind),CS (q0.Name),CL .bq q0.ay,CI (List.getD yj (Int.toNat (ag x2 pT)) 0),CS (q0.aW)]]=ap [DV.agg [CI q2,CS q3,CL .bq (ob c).ay,CI q5,CS q4]]/\ap [DV.box [CL .byte x4.b,CI x4.i,CI x4.h]]=ap [DV.box [CL .byte (ji c).b,CI ((ji c).i),CI ((ji c).h)]] else bif x9==3 then bj x2/\1<=x3.length/\(0:Nat)=(0:Nat)/\ap [DV.agg [CI (q0.Kind),CS (q0.Name),CL .bq q0.ay,CI (q0.N),CS (cv x2 x3)]]=ap [DV.agg [CI q2,CS q3,CL .bq (ob c).ay,CI q5,CS q4]]/\q1 else bif x9==4 then bj x2/\1<=x8.length/\bj x7/\bj x6/\List.length q0.ay+x0.length<=4294967296/\(0:Nat)=(0:Nat)/\ap [DV.agg [CI (q0.Kind),CS (q0.Name),CL .bq (q0.ay++x0),CI (q0.N),CS (q0.aW)]]=ap [DV.agg [CI q2,CS q3,CL .bq (ob c).ay,CI q5,CS q4]]/\ap [DV.box [CL .byte x5.b,CI x5.i,CI x5.h]]=ap [DV.box [CL .byte (ji c).b,CI ((ji c).i),CI ((ji c).h)]] else(0:Nat)=(0:Nat)/\ap [DV.agg [CI (q0.Kind),CS (q0.Name),CL .bq q0.ay,CI (q0.N),CS (q0.aW)]]=ap [DV.agg [CI q2,CS q3,CL .bq (ob c).ay,CI q5,CS q4]]/\ap [DV.box [CL .byte x2.b,CI x2.i,CI x2.h]]=ap [DV.box [CL .byte (ji c).b,CI ((ji c).i),CI ((ji c).h)]]) (by kernel_rfl)
 dsimp only
 have hk:=xD 2 bC
 have he:=Vj bC
 have hl:=(JZ c).2.2.2.2
 have hl:(we 2 c).ay.length<=2:=hl
 refine⟨bC,hk.1,hk.2,bo (fun k=> ?_) (fun k0=>bo (fun k=> ?_) (fun k1=>bo (fun k=> ?_) (fun k2=>bo (fun k=> ?_) (fun k3=>bo (fun k=> ?_) (fun k4=> ?_)))))⟩
 ·have e1:ob c=⟨ag (DP c) 8,(oc c).Name,(oc c).ay,(oc c).N,(oc c).aW⟩:=if_pos k
  have e2:ji c=aa (DP c) 8:=if_pos k
  exact⟨he.1,he.2,rfl,rb e1.symm e2.symm⟩
 ·have e1:ob c=⟨(oc c).Kind,cv (DP c) sO,(oc c).ay,(oc c).N,(oc c).aW⟩:=(if_neg k0).trans (if_pos k)
  have e2:ji c=bS (DP c) sO:=(if_neg k0).trans (if_pos k)
  exact⟨he,by decide,rfl,rb e1.symm e2.symm⟩
 ·have e1:ob c=⟨(oc c).Kind,(oc c).Name,(oc c).ay,gL (DP c) UK,(oc c).aW⟩:=(if_neg k0).trans ((if_neg k1).trans (if_pos k))
  have e2:ji c=j9 (DP c) UK:=(if_neg k0).trans ((if_neg k1).trans (if_pos k))
  exact⟨he.1,he.2,by decide,rfl,rb e1.symm e2.symm⟩
 ·have e1:ob c=⟨(oc c).Kind,(oc c).Name,(oc c).ay,(oc c).N,cv (DP c) sO⟩:=(if_neg k0).trans ((if_neg k1).trans ((if_neg k2).trans (if_pos k)))
  have e2:ji c=bS (DP c) sO:=(if_neg k0).trans ((if_neg k1).trans ((if_neg k2).trans (if_pos k)))
  exact⟨he,by decide,rfl,rb e1.symm e2.symm⟩
 ·have e1:ob c=⟨(oc c).Kind,(oc c).Name,(oc c).ay++[acX c],(oc c).N,(oc c).aW⟩:=(if_neg k0).trans ((if_neg k1).trans ((if_neg k2).trans ((if_neg k3).trans (if_pos k))))
  have e2:ji c=fC (fC (N9 c)):=(if_neg k0).trans ((if_neg k1).trans ((if_neg k2).trans ((if_neg k3).trans (if_pos k))))
  exact⟨he,by decide,fh he _,xC (fh he _),by simp only[gv,fO];omega,rfl,rb e1.symm e2.symm⟩
 ·have e1:ob c=oc c:=(if_neg k0).trans ((if_neg k1).trans ((if_neg k2).trans ((if_neg k3).trans (if_neg k4))))
  have e2:ji c=DP c:=(if_neg k0).trans ((if_neg k1).trans ((if_neg k2).trans ((if_neg k3).trans (if_neg k4))))
  exact⟨rfl,rb e1.symm e2.symm⟩
def aiH:HH:=⟨_,agZ⟩
def ZQ:bp UU where
 α:=ae×aV
 md:=[.box false,.ro]
 of:=oC oU (o1 (oA .a_))
 ds:=fun x=>[dU x.1,dA .a_ x.2]
 pre:=fun(c,r)=>[bj c,1<=r.aB.length/\r.aB.length<=4294967200,r.aY.length<=4294967200,r.bG.length<=4294967200]
 bT:=fun(c,r)=>⟨[dA .a_ (mB r c)],[false],[dU (fA c)]⟩
 law:=lC lU (l1 (lA .a_))
def asy:ZQ.α->Nat->Option (bY UU):=fun(c,r)=>aN []
def aoX:=us [mL,q_,Eb,aiJ,aiI,aiH]
theorem aqj:Holds EE (93,ZQ):=by
 refine holds_of ax func93 ZQ (by kernel_rfl) aoX (aE _) asy (fun x hp hb=> ?_)
 obtain⟨c,r⟩:=x
 have dK:=sK (x:=c) (hb _ m0)
 have fg:=ke (x:=r) (hb _ m1)
 have im:=fg.1
 have il:=fg.2.1
 have gI:=fg.2.2.1
 have io:=fg.2.2.2
 have bC:bj c:=hp _ m0
 have fT:1<=r.aB.length/\r.aB.length<=4294967200:=hp _ m1
 have Ka:r.aY.length<=4294967200:=hp _ m2
 have hp3:r.bG.length<=4294967200:=hp _ m3
 clear hp hb
 apply @ve _ (let x1:List BA:=[{data:= #[]:BA},{data:= #[(65:UInt8)]:BA},{data:= #[(120:UInt8)]:BA}];let x3:List cn:=[]++r.aB;let x6:List Int:=[(-101),101,100];let x7:Int:=Option.getD (some 0) (r.bG.length:Int);let x8:List c_:=[]++r.aY;let x9:List eX:=[]++r.bG;let x0:ae:=bS (aa c 10) x1;let x5:Nat:=x6.length;let x4:Int:=(↑x5:Int);let x2:ae:=aa (aa c 10) x4;let q0:=aa c 10;let q1:=mB r c;let q2:=ap [DV.box [CL .byte q0.b,CI (q0.i),CI (q0.h)]]=ap [DV.box [CL .byte (fA c).b,CI ((fA c).i),CI ((fA c).h)]];let q3:=(fA c).i;let q4:=(fA c).h;0+r.aB.length<=4294967296/\0<=c.i/\c.b.length<=4294967296/\bif ag c (10:Int)==(0:Int) then bj q0/\1<=x1.length/\(0:Nat)=(0:Nat)/\ap [DV.agg [CS (cv q0 x1),CI r.jP,CL .cU x3,CL .bL r.aY,CL .cV r.bG]]=ap [DV.agg [CS (q1.Name),CI (q1.jP),CL .cU q1.aB,CL .bL q1.aY,CL .cV q1.bG]]/\ap [DV.box [CL .byte x0.b,CI x0.i,CI x0.h]]=ap [DV.box [CL .byte (fA c).b,CI q3,CI q4]] else bif ag c (10:Int)==(1:Int) then 0<=q0.i/\List.length q0.b<=4294967296/\1<=x5/\(0:Nat)=(0:Nat)/\ap [DV.agg [CS r.Name,CI (List.getD x6 (Int.toNat (ag q0 x4)) 0),CL .cU x3,CL .bL r.aY,CL .cV r.bG]]=ap [DV.agg [CS (q1.Name),CI (q1.jP),CL .cU q1.aB,CL .bL q1.aY,CL .cV q1.bG]]/\ap [DV.box [CL .byte x2.b,CI x2.i,CI x2.h]]=ap [DV.box [CL .byte (fA c).b,CI q3,CI q4]] else bif ag c (10:Int)==(2:Int) then bj q0/\x3.length+List.length [pI q0]<=4294967296/\(0:Nat)=(0:Nat)/\ap [DV.agg [CS r.Name,CI r.jP,CL .cU (x3++[pI q0]),CL .bL r.aY,CL .cV r.bG]]=ap [DV.agg [CS (q1.Name),CI (q1.jP),CL .cU q1.aB,CL .bL q1.aY,CL .cV q1.bG]]/\ap [DV.box [CL .byte (kD q0).b,CI ((kD q0).i),CI ((kD q0).h)]]=ap [DV.box [CL .byte (fA c).b,CI q3,CI q4]] else bif ag c (10:Int)==(3:Int) then 0+r.aY.length<=4294967296/\bj q0/\x8.length+List.length [cZ q0]<=4294967296/\(0:Nat)=(0:Nat)/\ap [DV.agg [CS r.Name,CI r.jP,CL .cU x3,CL .bL (x8++[cZ q0]),CL .cV r.bG]]=ap [DV.agg [CS (q1.Name),CI (q1.jP),CL .cU q1.aB,CL .bL q1.aY,CL .cV q1.bG]]/\ap [DV.box [CL .byte (ig q0).b,CI ((ig q0).i),CI ((ig q0).h)]]=ap [DV.box [CL .byte (fA c).b,CI q3,CI q4]] else bif ag c (10:Int)==(4:Int) then 0+r.bG.length<=4294967296/\bj q0/\x9.length+List.length [ob q0]<=4294967296/\(0:Nat)=(0:Nat)/\ap [DV.agg [CS r.Name,CI r.jP,CL .cU x3,CL .bL r.aY,CL .cV (x9++[ob q0])]]=ap [DV.agg [CS (q1.Name),CI (q1.jP),CL .cU q1.aB,CL .bL q1.aY,CL .cV q1.bG]]/\ap [DV.box [CL .byte (ji q0).b,CI ((ji q0).i),CI ((ji q0).h)]]=ap [DV.box [CL .byte (fA c).b,CI q3,CI q4]] else bif ag c (10:Int)==(5:Int) then(0:Int)<=(0:Int)/\Int.toNat 0<x3.length/\nat_lit 0<x3.length/\(0:Nat)=(0:Nat)/\ap [DV.agg [CS r.Name,CI r.jP,CL .cU (List.modify x3 (nat_lit 0) fun(x:cn)=>{Kind:=x.Kind,ay:=x.ay,Not:=true:cn}),CL .bL r.aY,CL .cV r.bG]]=ap [DV.agg [CS (q1.Name),CI (q1.jP),CL .cU q1.aB,CL .bL q1.aY,CL .cV q1.bG]]/\q2 else bif ag c (10:Int)==(6:Int) then 0<=Option.getD none (0:Int)/\Option.getD none (0:Int)<=x7/\x7<=(r.bG.length:Int)/\(0:Nat)=(0:Nat)/\ap [DV.agg [CS r.Name,CI r.jP,CL .cU x3,CL .bL r.aY,CL .cV []]]=ap [DV.agg [CS (q1.Name),CI (q1.jP),CL .cU q1.aB,CL .bL q1.aY,CL .cV q1.bG]]/\q2 else(0:Nat)=(0:Nat)/\ap [DV.agg [CS r.Name,CI r.jP,CL .cU x3,CL .bL r.aY,CL .cV r.bG]]=ap [DV.agg [CS (q1.Name),CI (q1.jP),CL .cU q1.aB,CL .bL q1.aY,CL .cV q1.bG]]/\q2) (by kernel_rfl)
 dsimp only
 have he:=aq bC 10
 refine⟨by show 0+r.aB.length<=4294967296;omega,bC.1,bC.2,bo (fun k=> ?_) (fun k0=>bo (fun k=> ?_) (fun k1=>bo (fun k=> ?_) (fun k2=>bo (fun k=> ?_) (fun k3=>bo (fun k=> ?_) (fun k4=>bo (fun k=> ?_) (fun k5=>bo (fun k=> ?_) (fun k6=> ?_)))))))⟩
 ·have e1:mB r c=⟨cv (aa c 10) sO,r.jP,r.aB,r.aY,r.bG⟩:=if_pos k
  have e2:fA c=bS (aa c 10) sO:=if_pos k
  exact⟨he,by decide,rfl,S4 e1.symm e2.symm⟩
 ·have e1:mB r c=⟨r.Name,gL (aa c 10) UJ,r.aB,r.aY,r.bG⟩:=(if_neg k0).trans (if_pos k)
  have e2:fA c=j9 (aa c 10) UJ:=(if_neg k0).trans (if_pos k)
  exact⟨he.1,he.2,by decide,rfl,S4 e1.symm e2.symm⟩
 ·have e1:mB r c=⟨r.Name,r.jP,r.aB++[pI (aa c 10)],r.aY,r.bG⟩:=(if_neg k0).trans ((if_neg k1).trans (if_pos k))
  have e2:fA c=kD (aa c 10):=(if_neg k0).trans ((if_neg k1).trans (if_pos k))
  exact⟨he,by show r.aB.length+1<=4294967296;omega,rfl,S4 e1.symm e2.symm⟩
 ·have e1:mB r c=⟨r.Name,r.jP,r.aB,r.aY++[cZ (aa c 10)],r.bG⟩:=(if_neg k0).trans ((if_neg k1).trans ((if_neg k2).trans (if_pos k)))
  have e2:fA c=ig (aa c 10):=(if_neg k0).trans ((if_neg k1).trans ((if_neg k2).trans (if_pos k)))
  exact⟨by show 0+r.aY.length<=4294967296;omega,he,by show r.aY.length+1<=4294967296;omega,rfl,S4 e1.symm e2.symm⟩
 ·have e1:mB r c=⟨r.Name,r.jP,r.aB,r.aY,r.bG++[ob (aa c 10)]⟩:=(if_neg k0).trans ((if_neg k1).trans ((if_neg k2).trans ((if_neg k3).trans (if_pos k))))
  have e2:fA c=ji (aa c 10):=(if_neg k0).trans ((if_neg k1).trans ((if_neg k2).trans ((if_neg k3).trans (if_pos k))))
  exact⟨by show 0+r.bG.length<=4294967296;omega,he,by show r.bG.length+1<=4294967296;omega,rfl,S4 e1.symm e2.symm⟩
 ·have e1:mB r c=⟨r.Name,r.jP,r.aB.modify 0 (fun p=>⟨p.Kind,p.ay,true⟩),r.aY,r.bG⟩:=(if_neg k0).trans ((if_neg k1).trans ((if_neg k2).trans ((if_neg k3).trans ((if_neg k4).trans (if_pos k)))))
  have e2:fA c=aa c 10:=(if_neg k0).trans ((if_neg k1).trans ((if_neg k2).trans ((if_neg k3).trans (if_neg k4))))
  exact⟨by decide,fT.1,fT.1,rfl,S4 e1.symm e2.symm⟩
 ·have e1:mB r c=⟨r.Name,r.jP,r.aB,r.aY,[]⟩:=(if_neg k0).trans ((if_neg k1).trans ((if_neg k2).trans ((if_neg k3).trans ((if_neg k4).trans ((if_neg k5).trans (if_pos k))))))
  have e2:fA c=aa c 10:=(if_neg k0).trans ((if_neg k1).trans ((if_neg k2).trans ((if_neg k3).trans (if_neg k4))))
  exact⟨by decide,by show(0:Int)<=(0:Int);decide,by show(0:Int)<=(r.bG.length:Int);omega,rfl,S4 e1.symm e2.symm⟩
 ·have e1:mB r c=r:=(if_neg k0).trans ((if_neg k1).trans ((if_neg k2).trans ((if_neg k3).trans ((if_neg k4).trans ((if_neg k5).trans (if_neg k6))))))
  have e2:fA c=aa c 10:=(if_neg k0).trans ((if_neg k1).trans ((if_neg k2).trans ((if_neg k3).trans (if_neg k4))))
  exact⟨rfl,S4 e1.symm e2.symm⟩
def ahJ:HH:=⟨_,aqj⟩
theorem EX{r:aV}(h:fI r=true):1<=r.aB.length/\r.aB.length<=6/\r.aY.length<=6/\r.bG.length<=6:=by
 simp only[fI,lE,kp,kY,cK,decide_eq_true_eq] at h
 exact⟨h.1.1.2.1.1,h.1.1.2.1.2,h.1.2.1,h.2.1.2⟩
def ZR:bp UU where
 α:=ae
 md:=[.box false]
 of:=o1 oU
 ds:=fun x=>[dU x]
 pre:=fun c=>[bj c]
 bT:=fun c=>⟨[dA .a_ (k9 c)],[false],[dU (mg c)]⟩
 law:=l1 lU
def asz:ZR.α->Nat->Option (bY UU):=fun c=>aN []
def aoY:=us [q_,ahO,zv,ahJ]
theorem aqk:Holds EE (92,ZR):=by
 refine holds_of ax func92 ZR (by kernel_rfl) aoY (aE _) asz (fun(c:ae) hp hb=> ?_)
 have dK:=sK (x:=c) (hb _ m0)
 have bC:bj c:=hp _ m0
 clear hp hb
 apply @ve _ (let x5:List BA:=[{data:= #[(114:UInt8),(49:UInt8)]:BA},{data:= #[(114:UInt8),(50:UInt8)]:BA},{data:= #[(115:UInt8),(104:UInt8),(105:UInt8),(112:UInt8)]:BA}];let x4:ae:=bS c x5;let x1:aV:=lV (cv c x5) x4;let x3:ae:=mZ x4;let x2:ae:=aa x3 3;let x0:aV:=mB x1 x2;bj c/\1<=x5.length/\bj x4/\bj x3/\bif b8 x3 3 then bj x2/\(1<=x1.aB.length/\x1.aB.length<=4294967200)/\x1.aY.length<=4294967200/\x1.bG.length<=4294967200/\(0:Nat)=(0:Nat)/\ap [DV.agg [CS x0.Name,CI x0.jP,CL .cU x0.aB,CL .bL x0.aY,CL .cV x0.bG]]=ap [DV.agg [CS ((k9 c).Name),CI ((k9 c).jP),CL .cU (k9 c).aB,CL .bL (k9 c).aY,CL .cV (k9 c).bG]]/\ap [DV.box [CL .byte (fA x2).b,CI ((fA x2).i),CI ((fA x2).h)]]=ap [DV.box [CL .byte (mg c).b,CI ((mg c).i),CI ((mg c).h)]] else(0:Nat)=(0:Nat)/\ap [DV.agg [CS x1.Name,CI x1.jP,CL .cU x1.aB,CL .bL x1.aY,CL .cV x1.bG]]=ap [DV.agg [CS ((k9 c).Name),CI ((k9 c).jP),CL .cU (k9 c).aB,CL .bL (k9 c).aY,CL .cV (k9 c).bG]]/\ap [DV.box [CL .byte x2.b,CI x2.i,CI x2.h]]=ap [DV.box [CL .byte (mg c).b,CI ((mg c).i),CI ((mg c).h)]]) (by kernel_rfl)
 dsimp only
 have h1:=fh bC oB
 have h2:=AK h1
 have h3:=aq h2 3
 obtain⟨q1,q2,q3,q4⟩:=EX (Ip c)
 refine⟨bC,by decide,h1,h2,af (fun k=> ?_) (fun k=> ?_)⟩
 ·have e1:k9 c=mB (lV (cv c oB) (bS c oB)) (aa (mZ (bS c oB)) 3):=if_pos k
  have e2:mg c=fA (aa (mZ (bS c oB)) 3):=if_pos k
  exact⟨h3,⟨q1,wu q2 (by omega)⟩,wu q3 (by omega),wu q4 (by omega),rfl,S4 e1.symm e2.symm⟩
 ·have k:¬b8 (mZ (bS c oB)) 3=true:=fun e=>absurd (k.symm.trans e) (by decide)
  have e1:k9 c=lV (cv c oB) (bS c oB):=if_neg k
  have e2:mg c=aa (mZ (bS c oB)) 3:=if_neg k
  exact⟨rfl,S4 e1.symm e2.symm⟩
def arK:HH:=⟨_,aqk⟩
def DW:bp UU where
 α:=ae
 md:=[.box false]
 of:=o1 oU
 ds:=fun x=>[dU x]
 pre:=fun c=>[bj c]
 bT:=fun c=>⟨[dA .dZ (pP c)],[false],[dU (jp c)]⟩
 law:=l1 lU
def VC:DW.α->Nat->Option (bY UU):=fun c=>aN []
def Vu:=us [ahS,mL,q_,arK,ahJ]
def jZ(c:ae):T2×T2×T3×Unit->Prop:=fun(r,p,cu,_)=>p.1=(ca c).Name/\p.2.1=(ca c).aw/\kW cu=iD c
def lr:DW.α->bY UU:=fun c=>bh [.box 2 (2,1024) [.lit .str,.own .a_ true],.box 3 (3,1024) [.lit .str,.own .a_ false],.box 0 (2000000,0) [.shr .byte,.lit (.int .i64),.lit (.int .i64)]] (fun _=>jZ c) (fun _=>0)
theorem aoQ(c:ae)(y:T2×T2×T3×Unit):mr EE Vu f47 DW VC c 2 (lr c) y=(let x2:ae:={b:=y.2.2.1.1,i:=y.2.2.1.2.1,h:=y.2.2.1.2.2.1:ae};
let x3:Nat:=List.length y.2.1.2.1;
let x4:aV:=List.getD y.2.1.2.1 (nat_lit 0) ct;
let x6:List BA:=[{data:= #[]:BA},{data:= #[(65:UInt8)]:BA}];
let x0:ae:=aa x2 (10:Int);
let x1:Int:=ag x2 (10:Int);
let x5:ae:=bS x0 x6;
(0:Int)<=y.2.2.1.2.1/\List.length y.2.2.1.1<=(4294967296:Nat)/\bif x1==(0:Int) then bj x0/\(1:Nat)<=List.length x6/\(0:Nat)=(0:Nat)/\ap [DV.agg [Cell.lit (Value.string (cv x0 x6)),Cell.sl Cd.a_ y.2.1.2.1]]=ap [DV.agg [Cell.lit (Value.string (pP c).Name),Cell.sl Cd.a_ (pP c).aw]]/\ap [DV.box [Cell.sl Cd.byte x5.b,Cell.lit (Value.int IntKind.i64 x5.i),Cell.lit (Value.int IntKind.i64 x5.h)]]=ap [DV.box [Cell.sl Cd.byte (jp c).b,Cell.lit (Value.int IntKind.i64 (jp c).i),Cell.lit (Value.int IntKind.i64 (jp c).h)]] else bif x1==(1:Int) then bj x0/\x3+List.length [k9 x0]<=(4294967296:Nat)/\(0:Nat)=(0:Nat)/\ap [DV.agg [Cell.lit (Value.string y.2.1.1),Cell.sl Cd.a_ (y.2.1.2.1++[k9 x0])]]=ap [DV.agg [Cell.lit (Value.string (pP c).Name),Cell.sl Cd.a_ (pP c).aw]]/\ap [DV.box [Cell.sl Cd.byte (mg x0).b,Cell.lit (Value.int IntKind.i64 (mg x0).i),Cell.lit (Value.int IntKind.i64 (mg x0).h)]]=ap [DV.box [Cell.sl Cd.byte (jp c).b,Cell.lit (Value.int IntKind.i64 (jp c).i),Cell.lit (Value.int IntKind.i64 (jp c).h)]] else bif x1==(2:Int) then(0:Int)<=(0:Int)/\Int.toNat (0:Int)<x3/\nat_lit 0<x3/\bj x0/\((1:Nat)<=List.length x4.aB/\List.length x4.aB<=(4294967200:Nat))/\List.length x4.aY<=(4294967200:Nat)/\List.length x4.bG<=(4294967200:Nat)/\(0:Int)<=(0:Int)/\Int.toNat (0:Int)<x3/\nat_lit 0<x3/\(0:Nat)=(0:Nat)/\ap [DV.agg [Cell.lit (Value.string y.2.1.1),Cell.sl Cd.a_ (List.set y.2.1.2.1 (nat_lit 0) (mB x4 x0))]]=ap [DV.agg [Cell.lit (Value.string (pP c).Name),Cell.sl Cd.a_ (pP c).aw]]/\ap [DV.box [Cell.sl Cd.byte (fA x0).b,Cell.lit (Value.int IntKind.i64 (fA x0).i),Cell.lit (Value.int IntKind.i64 (fA x0).h)]]=ap [DV.box [Cell.sl Cd.byte (jp c).b,Cell.lit (Value.int IntKind.i64 (jp c).i),Cell.lit (Value.int IntKind.i64 (jp c).h)]] else bif x1==(3:Int) then(0:Int)<=Option.getD none (0:Int)/\Option.getD none (0:Int)<=Option.getD (some (0:Int)) (↑x3:Int)/\Option.getD (some (0:Int)) (↑x3:Int)<=(↑x3:Int)/\Nat.le (nat_lit 0) x3/\(0:Nat)=(0:Nat)/\ap [DV.agg [Cell.lit (Value.string y.2.1.1),Cell.sl Cd.a_ []]]=ap [DV.agg [Cell.lit (Value.string (pP c).Name),Cell.sl Cd.a_ (pP c).aw]]/\ap [DV.box [Cell.sl Cd.byte x0.b,Cell.lit (Value.int IntKind.i64 x0.i),Cell.lit (Value.int IntKind.i64 x0.h)]]=ap [DV.box [Cell.sl Cd.byte (jp c).b,Cell.lit (Value.int IntKind.i64 (jp c).i),Cell.lit (Value.int IntKind.i64 (jp c).h)]] else(0:Nat)=(0:Nat)/\ap [DV.agg [Cell.lit (Value.string y.2.1.1),Cell.sl Cd.a_ y.2.1.2.1]]=ap [DV.agg [Cell.lit (Value.string (pP c).Name),Cell.sl Cd.a_ (pP c).aw]]/\ap [DV.box [Cell.sl Cd.byte x0.b,Cell.lit (Value.int IntKind.i64 x0.i),Cell.lit (Value.int IntKind.i64 x0.h)]]=ap [DV.box [Cell.sl Cd.byte (jp c).b,Cell.lit (Value.int IntKind.i64 (jp c).i),Cell.lit (Value.int IntKind.i64 (jp c).h)]]):=by kernel_rfl
theorem B_(c:ae)(y:T2×T2×T3×Unit)(hp:∀p∈DW.pre c,p)(hb:∀d∈DW.ds c,gB d)(hy:jZ c y):mr EE Vu f47 DW VC c 2 (lr c) y:=by
 have dK:=sK (x:=c) (hb _ m0)
 have bC:bj c:=hp _ m0
 clear hp hb
 rw[aoQ c y]
 dsimp only
 obtain⟨r,⟨dn,dr,⟨⟩⟩,cu,⟨⟩⟩:=y
 obtain⟨h1,h2,h3⟩:=hy
 have h1:dn=(ca c).Name:=h1
 have h2:dr=(ca c).aw:=h2
 have h3:kW cu=iD c:=h3
 have ec:cu=Tv (kW cu):=rfl
 rw[h3] at ec
 subst h1 h2 ec
 have hk:bj (iD c):=xB bC
 have he:=Mn bC
 have hd:=Dv c
 have hr:fI (List.getD (ca c).aw 0 ct)=true:=hd.2.2 _ (gQ (z:=ct) (show 0<(ca c).aw.length by omega))
 obtain⟨q1,q2,q3,q4⟩:=EX hr
 refine⟨hk.1,hk.2,bo (fun k=> ?_) (fun k0=>bo (fun k=> ?_) (fun k1=>bo (fun k=> ?_) (fun k2=>bo (fun k=> ?_) (fun k3=> ?_))))⟩
 ·have e1:pP c=⟨cv (FD c) MM,(ca c).aw⟩:=if_pos k
  have e2:jp c=bS (FD c) MM:=if_pos k
  exact⟨he,by decide,rfl,LdD e1.symm e2.symm⟩
 ·have e1:pP c=⟨(ca c).Name,(ca c).aw++[k9 (FD c)]⟩:=(if_neg k0).trans (if_pos k)
  have e2:jp c=mg (FD c):=(if_neg k0).trans (if_pos k)
  exact⟨he,by show(ca c).aw.length+1<=4294967296;omega,rfl,LdD e1.symm e2.symm⟩
 ·have e1:pP c=⟨(ca c).Name,(ca c).aw.set 0 (mB (List.getD (ca c).aw 0 ct) (FD c))⟩:=(if_neg k0).trans ((if_neg k1).trans (if_pos k))
  have e2:jp c=fA (FD c):=(if_neg k0).trans ((if_neg k1).trans (if_pos k))
  exact⟨by decide,hd.1,hd.1,he,⟨q1,wu q2 (by omega)⟩,wu q3 (by omega),wu q4 (by omega),by decide,hd.1,hd.1,rfl,LdD e1.symm e2.symm⟩
 ·have e1:pP c=⟨(ca c).Name,[]⟩:=(if_neg k0).trans ((if_neg k1).trans ((if_neg k2).trans (if_pos k)))
  have e2:jp c=FD c:=(if_neg k0).trans ((if_neg k1).trans (if_neg k2))
  exact⟨by decide,by show(0:Int)<=(0:Int);decide,by show(0:Int)<=((ca c).aw.length:Int);omega,Nat.zero_le _,rfl,LdD e1.symm e2.symm⟩
 ·have e1:pP c=ca c:=(if_neg k0).trans ((if_neg k1).trans ((if_neg k2).trans (if_neg k3)))
  have e2:jp c=FD c:=(if_neg k0).trans ((if_neg k1).trans (if_neg k2))
  exact⟨rfl,LdD e1.symm e2.symm⟩
theorem B9(c:ae)(hp:∀p∈DW.pre c,p)(hb:∀d∈DW.ds c,gB d):qv EE Vu f47 DW VC c 2 (lr c):=by
 have dK:=sK (x:=c) (hb _ m0)
 have bC:bj c:=hp _ m0
 clear hp hb
 apply @ve _ (bj c/\jZ c (({data:= #[]:BA},[],()),((ca c).Name,(ca c).aw,()),((iD c).b,(iD c).i,(iD c).h,()),())) (by kernel_rfl)
 exact⟨bC,rfl,rfl,rfl⟩
attribute [local irreducible] qv mr in
theorem aq3:Holds EE (47,DW):=by
 refine uj ax func47 DW (by kernel_rfl) Vu (aE _) VC 2 lr (by kernel_rfl) (fun(c:ae) hp hb=> ?_)
 refine⟨B9 c hp hb,fun(y:T2×T2×T3×Unit) hy=> ?_⟩
 have hy:jZ c y:=hy
 exact B_ c y hp hb hy
def ar7:HH:=⟨_,aq3⟩
def Th(code:List Int)(i:Int):Int:=if i<code.length then List.getD code i.toNat 0 else Int.tmod (i*31+code.length*7) 256
theorem Bd.u8{n:Int}(h:Bd (U:=UU) (.lit (.int .u8 n))):0<=n/\n<=255:=by
 cases h with
 |lit _ h=>exact h.2
def Zk8:bp UU where
 α:=(List Int)×Int
 md:=[.ro,.ro]
 of:=oC (oL .byte) (o1 oI)
 ds:=fun x=>[dL .byte x.1,dI x.2]
 pre:=fun(code,i)=>[0<=i/\i<=1000,code.length<=4294967296]
 bT:=fun(code,i)=>⟨[dI (Th code i)],[],[]⟩
 law:=lC (lL .byte) (l1 lI)
def Za8:Zk8.α->Nat->Option (bY UU):=fun(code,i)=>aN []
def Zu8:List (FuncId×bp UU):=[]
theorem Zo8:Holds EE (8,Zk8):=by
 refine holds_of ax func8 Zk8 (by kernel_rfl) Zu8 all_nil Za8 (fun x hp hb=> ?_)
 obtain⟨code,i⟩:=x
 have GO:gB (U:=UU) (.one (.sl .byte code)):=hb _ m0
 have uq:code.length<=9223372036854775807:=jO (hb _ m0)
 have aud:=sL (n:=i) (hb _ m1)
 have bC:0<=i/\i<=1000:=hp _ m0
 have fT:code.length<=4294967296:=hp _ m1
 clear hp hb
 apply @ve _ (bif decide (i<(code.length:Int)) then 0<=i/\i.toNat<code.length/\Li (IntKind.wrap IntKind.i64 (List.getD code i.toNat 0)) (Th code i) else(256:Int)≠(0:Int)/\Li (Int.tmod (IntKind.wrap IntKind.i64 (IntKind.wrap IntKind.i64 (i*31)+IntKind.wrap IntKind.i64 ((code.length:Int)*7))) 256) (Th code i)) (by kernel_rfl)
 refine af (fun h=> ?_) (fun h=> ?_)
 ·have h:=yT h
  have hx:0<=List.getD code i.toNat (0:Int)/\List.getD code i.toNat (0:Int)<=255:=Bd.u8 (Bd.row (U:=UU) (τ:=Cd.byte) GO (Di code (0:Int) bC.1 h) (c:=.lit (.int .u8 (List.getD code i.toNat (0:Int)))) gj)
  rw[wrap_i64 (by omega) (by omega)]
  refine⟨bC.1,by omega,oe ?_⟩
  rw[Th,if_pos h]
 ·have h:=yF h
  refine⟨by decide,oe ?_⟩
  rw[Th,if_neg h,wrap_i64 (n:=i*31) (by omega) (by omega),wrap_i64 (n:=(code.length:Int)*7) (by omega) (by omega),wrap_i64 (n:=i*31+(code.length:Int)*7) (by omega) (by omega)]
def Zh8:HH:=⟨_,Zo8⟩
theorem tg:∀(k:Nat)(s:aG)(c:ae),0<=s.Next->0<=(kL k s c).Next/\(kL k s c).Next<=s.Next+k
 |0,s,_,h=>⟨h,by simp only[kL];omega⟩
 |k+1,s,c,h=>by
  rw[kL];split
  ·have:=tg k (pk s (List.getD s.ab (ag (aa c 5) s.ab.length).toNat bg).Id) (aa (aa c 5) s.ab.length) h
   simp only[pk] at this⊢
   omega
  ·have h2:=(tN s (cP (aa c 5))).2
   have:=tg k (cx s (cP (aa c 5))) (cq (aa c 5)) (by omega)
   omega
theorem Ih(c:ae):0<=(cS c).Next/\(cS c).Next<=10:=by
 have hb:=br (c:=c) (n:=9) (by omega)
 have:=tg (ag c 9).toNat ⟨[],1⟩ (aa c 9) (by decide)
 simp only[cS] at this⊢
 omega
theorem IS{s:aG}(h:rF s):(cx s (mQ s.ab.length)).ab.length=s.ab.length+1/\(cx s (mQ s.ab.length)).Next=s.Next+1:=by
 rw[tH h];exact⟨by simp,rfl⟩
def QU:bp UU where
 α:=aG×aJ
 md:=[.box true,.ro]
 of:=oC (oX .bV) (o1 (oA .bP))
 ds:=fun x=>[dX .bV x.1,dA .bP x.2]
 pre:=fun(s,f)=>[0<=s.Next/\s.Next<=1000/\s.ab.length<=39,f.aj.length<=4294967296]
 bT:=fun(s,f)=>⟨[dI (lu s f)],[],[dX .bV (cx s f)]⟩
 law:=lC (lX .bV) (l1 (lA .bP))
def ajc:QU.α->Nat->Option (bY UU):=fun(s,f)=>aN []
def ad9:=us [Vx,sM]
theorem afU:Holds EE (88,QU):=by
 refine holds_of ax func88 QU (by kernel_rfl) ad9 (aE _) ajc (fun x hp hb=> ?_)
 obtain⟨s,f⟩:=x
 have ga:=pz (x:=s) (hb _ m0)
 have fg:=fB (x:=f) (hb _ m1)
 have gb:=fg.1
 have eh:=fg.2
 have bC:0<=s.Next/\s.Next<=1000/\s.ab.length<=39:=hp _ m0
 have fT:f.aj.length<=4294967296:=hp _ m1
 clear hp hb
 apply @ve _ (let q0:=ap [DV.box [CL .aX s.ab,CI s.Next]]=ap [DV.box [CL .aX (cx s f).ab,CI ((cx s f).Next)]];let q1:=(0:Nat)=(0:Nat)/\ap [VI 0]=ap [VI (lu s f)]/\q0;bif decide (mn s.ab f>0) then(0:Nat)=(0:Nat)/\ap [VI (mn s.ab f)]=ap [VI (lu s f)]/\q0 else bif decide ((s.ab.length:Int)≥40) then q1 else bif decide (s.Next≥1000000) then q1 else f.aj.length<=4294967296/\s.ab.length+List.length [{Id:=s.Next,F:=f:bH}]<=4294967296/\(0:Nat)=(0:Nat)/\ap [VI (IntKind.wrap IntKind.i64 (IntKind.wrap IntKind.i64 (s.Next+1)-1))]=ap [VI (lu s f)]/\ap [DV.box [CL .aX (s.ab++[{Id:=s.Next,F:=f:bH}]),CI (IntKind.wrap IntKind.i64 (s.Next+1))]]=ap [DV.box [CL .aX (cx s f).ab,CI ((cx s f).Next)]]) (by kernel_rfl)
 dsimp only
 obtain⟨s1,s2,s3⟩:=bC
 refine aU (fun h=>⟨by trivial,?_⟩) (fun h=>aU (fun h2=>absurd h2 (by omega)) (fun h2=>aU (fun h3=>absurd h3 (by omega)) (fun h3=> ?_)))
 ·have e1:cx s f=s:=if_pos h
  have e2:lu s f=mn s.ab f:=if_pos h
  rw[e1,e2];exact⟨rfl,rfl⟩
 ·have e1:cx s f=⟨s.ab++[⟨s.Next,f⟩],s.Next+1⟩:=if_neg h
  have e2:lu s f=s.Next:=if_neg h
  rw[e1,e2,wrap_i64 (n:=s.Next+1) (by omega) (by omega),wrap_i64 (by omega) (by omega),show s.Next+1-1=s.Next by omega]
  exact⟨fT,by simp only[gv,fO];omega,by trivial,rfl,rfl⟩
def ahL:HH:=⟨_,afU⟩
def aaz:bp UU where
 α:=ae
 md:=[.box false]
 of:=o1 oU
 ds:=fun x=>[dU x]
 pre:=fun c=>[bj c]
 bT:=fun c=>⟨[dA .bV (kM c)],[],[dU (mc c)]⟩
 law:=l1 lU
def HF(c:ae):T4×T4×T3×Unit->Prop:=fun(r,p,cu,_)=>kW cu=Ij c/\rF ⟨p.1,p.2.1⟩/\p.1.length<=40/\0<=p.2.1/\p.2.1+(40-p.1.length)<=1000/\sJ (40-p.1.length) ⟨p.1,p.2.1⟩=sJ (40-(cS c).ab.length) (cS c)
def Lq(c:ae):T4×T4×T3×Unit->Nat:=fun(r,p,cu,_)=>40-p.1.length
def atk:aaz.α->Nat->Option (bY UU):=fun c=>aN [(8,bh [.box 2 (2,1024) [.own .aX true,.lit (.int .i64)],.box 3 (3,1024) [.own .aX true,.lit (.int .i64)],.box 0 (2000000,0) [.shr .byte,.lit (.int .i64),.lit (.int .i64)]] (fun _=>HF c) (Lq c))]
def apH:=us [arO,mL,Eb,aa7,ahL]
theorem aq7:Holds EE (43,aaz):=by
 refine holds_of ax func43 aaz (by kernel_rfl) apH (aE _) atk (fun(c:ae) hp hb=> ?_)
 have dK:=sK (x:=c) (hb _ m0)
 have bC:bj c:=hp _ m0
 clear hp hb
 apply @ve _ (let x1:ae:=aa (jy c) 12;let x4:List Int:=[0,1,1000000,1000001];let x5:List bH:=[{Id:=ag x1 9,F:=oa (aa x1 9):bH}];let x3:Nat:=x4.length;let x2:Int:=(↑x3:Int);let x0:ae:=aa x1 x2;let q0:=mc c;let q1:=aa x1 9;let q2:=(kM c).Next;bj c/\0<=(jy c).i/\List.length (jy c).b<=4294967296/\bif ag (jy c) (12:Int)==(0:Int) then 0<=x1.i/\x1.b.length<=4294967296/\1<=x3/\(0:Nat)=(0:Nat)/\ap [DV.agg [CL .aX (cS c).ab,CI (List.getD x4 (Int.toNat (ag x1 x2)) 0)]]=ap [DV.agg [CL .aX (kM c).ab,CI q2]]/\ap [DV.box [CL .byte x0.b,CI x0.i,CI x0.h]]=ap [DV.box [CL .byte q0.b,CI (q0.i),CI (q0.h)]] else bif ag (jy c) (12:Int)==(1:Int) then 0<=x1.i/\x1.b.length<=4294967296/\bj q1/\List.length (cS c).ab+x5.length<=4294967296/\(0:Nat)=(0:Nat)/\ap [DV.agg [CL .aX ((cS c).ab++x5),CI ((cS c).Next)]]=ap [DV.agg [CL .aX (kM c).ab,CI q2]]/\ap [DV.box [CL .byte (fG q1).b,CI ((fG q1).i),CI ((fG q1).h)]]=ap [DV.box [CL .byte q0.b,CI (q0.i),CI (q0.h)]] else bif ag (jy c) (12:Int)==(2:Int) then HF c (([],0,()),((cS c).ab,(cS c).Next,()),(x1.b,x1.i,x1.h,()),())/\∀(y:Oi×Oi×MB×PUnit),let x8:Nat:=y.2.1.1.length;let x7:Int:=(↑x8:Int);let x9:List aQ:=[{K:=(1:Int),N:=x7,S:={data:= #[]:BA}:aQ}];let x6:aG:=cx {ab:=y.2.1.1,Next:=y.2.1.2.1:aG} {Kind:={data:= #[(102:UInt8),(117:UInt8),(108:UInt8),(108:UInt8)]:BA},aj:=x9:aJ};let q3:=((y.1.1,y.1.2.1,()),(x6.ab,x6.Next,()),(y.2.2.1.1,y.2.2.1.2.1,y.2.2.1.2.2.1,()),());HF c y->bif decide (x7<40) then(0<=y.2.1.2.1/\y.2.1.2.1<=1000/\x8<=39)/\x9.length<=4294967296/\HF c q3/\Lq c q3<Lq c y else(0:Nat)=(0:Nat)/\ap [DV.agg [CL .aX y.2.1.1,CI y.2.1.2.1]]=ap [DV.agg [CL .aX (kM c).ab,CI q2]]/\ap [DV.box [CL .byte y.2.2.1.1,CI y.2.2.1.2.1,CI y.2.2.1.2.2.1]]=ap [DV.box [CL .byte q0.b,CI (q0.i),CI (q0.h)]] else(0:Nat)=(0:Nat)/\ap [DV.agg [CL .aX (cS c).ab,CI ((cS c).Next)]]=ap [DV.agg [CL .aX (kM c).ab,CI q2]]/\ap [DV.box [CL .byte x1.b,CI x1.i,CI x1.h]]=ap [DV.box [CL .byte q0.b,CI (q0.i),CI (q0.h)]]) (by kernel_rfl)
 dsimp only
 have hk:=Dz bC
 have he:=Vf bC
 have hl:=Co c
 have hn:=Ih c
 refine⟨bC,hk.1,hk.2,bo (fun k=> ?_) (fun k0=>bo (fun k=> ?_) (fun k1=>bo (fun k=> ?_) (fun k2=> ?_)))⟩
 ·have e1:kM c=⟨(cS c).ab,gL (Ij c) PE⟩:=if_pos k
  have e2:mc c=j9 (Ij c) PE:=if_pos k
  exact⟨he.1,he.2,by decide,rfl,LdS e1.symm e2.symm⟩
 ·have e1:kM c=⟨(cS c).ab++[⟨ag (Ij c) 9,oa (aa (Ij c) 9)⟩],(cS c).Next⟩:=(if_neg k0).trans (if_pos k)
  have e2:mc c=fG (aa (Ij c) 9):=(if_neg k0).trans (if_pos k)
  exact⟨he.1,he.2,aq he 9,by simp only[gv,fO];omega,rfl,LdS e1.symm e2.symm⟩
 ·have e1:kM c=sJ (40-(cS c).ab.length) (cS c):=(if_neg k0).trans ((if_neg k1).trans (if_pos k))
  have e2:mc c=Ij c:=(if_neg k0).trans (if_neg k1)
  refine⟨⟨rfl,vh c,by show(cS c).ab.length<=40;omega,hn.1,by show(cS c).Next+(40-((cS c).ab.length:Int))<=1000;omega,rfl⟩,?_⟩
  rintro⟨r,p,cu,⟨⟩⟩ ⟨ED,hF,h40,h0,h1,hE⟩
  have ED:kW cu=Ij c:=ED
  have hF:rF ⟨p.1,p.2.1⟩:=hF
  have h40:p.1.length<=40:=h40
  have h0:0<=p.2.1:=h0
  have h1:p.2.1+(40-(p.1.length:Int))<=1000:=h1
  have hE:sJ (40-p.1.length) ⟨p.1,p.2.1⟩=sJ (40-(cS c).ab.length) (cS c):=hE
  refine aU (fun g=> ?_) (fun g=> ?_)
  ·have g:(p.1.length:Int)<40:=g
   have e:40-p.1.length=(40-(p.1.length+1))+1:=by omega
   obtain⟨s1,s2⟩:=IS hF
   have s1:(cx ⟨p.1,p.2.1⟩ (mQ p.1.length)).ab.length=p.1.length+1:=s1
   have s2:(cx ⟨p.1,p.2.1⟩ (mQ p.1.length)).Next=p.2.1+1:=s2
   rw[e] at hE
   have hE:sJ (40-(p.1.length+1)) (cx ⟨p.1,p.2.1⟩ (mQ p.1.length))=sJ (40-(cS c).ab.length) (cS c):=hE
   rw[<-s1] at hE
   refine⟨⟨h0,by show p.2.1<=1000;omega,by show p.1.length<=39;omega⟩,by simp,⟨ED,CN hF,?_,?_,?_,hE⟩,?_⟩
   ·show(cx ⟨p.1,p.2.1⟩ (mQ p.1.length)).ab.length<=40
    omega
   ·show 0<=(cx ⟨p.1,p.2.1⟩ (mQ p.1.length)).Next
    omega
   ·show(cx ⟨p.1,p.2.1⟩ (mQ p.1.length)).Next+(40-((cx ⟨p.1,p.2.1⟩ (mQ p.1.length)).ab.length:Int))<=1000
    omega
   ·show 40-(cx ⟨p.1,p.2.1⟩ (mQ p.1.length)).ab.length<40-p.1.length
    omega
  ·have g:¬(p.1.length:Int)<40:=g
   have e:40-p.1.length=0:=by omega
   rw[e] at hE
   exact⟨rfl,LdS (a:=⟨p.1,p.2.1⟩) (d:=kW cu) (hE.trans e1.symm) (ED.trans e2.symm)⟩
 ·have e1:kM c=cS c:=(if_neg k0).trans ((if_neg k1).trans (if_neg k2))
  have e2:mc c=Ij c:=(if_neg k0).trans (if_neg k1)
  exact⟨rfl,LdS e1.symm e2.symm⟩
def ar_:HH:=⟨_,aq7⟩
theorem G2{c:ae}(h:bj c)(m:Int):bj (uN c m):=aq (FG h m) 16
theorem NS{c:ae}(h:bj c)(m:Int):cT (sV c m)<=70000:=by
 unfold sV;split
 ·exact NT (G2 h m)
 ·have:=(v7 c).2.2;omega
theorem IW(c:ae):lT (kS c)<=3:=by
 have hb:=br (c:=aa c 3) (n:=4) (by omega)
 have h2:(kS c).eJ.length=(ag (aa c 3) 4).toNat:=by
  show(lZ Ye Nc _ [] _).length=_
  rw[lW];simp
 have e:yt (kS c).cr=0:=rfl
 simp only[lT,wH,e];omega
theorem instA_size{c:ae}{m:Int}(h:bj c)(hm:m<=1000):jF (instA c m)<=60000:=by
 have h0:=Cx (vK (c:=c) hm).tocoreX
 have he:=G2 h m
 simp only[jF] at h0
 unfold instA
 split
 ·simp only[jF];omega
 ·split
  ·simp only[jF,EO];omega
  ·split
   ·have:=Ii he
    simp only[jF,vd];omega
   ·split
    ·obtain⟨_,h2,h3⟩:=Vp he
     have:=Kn h2
     simp only[jF,pV];omega
    ·split
     ·obtain⟨_,h2,h3⟩:=Vo he
      have:=Ce h2
      simp only[jF,B6];omega
     ·split
      ·have h2:oT ((instD c m).aD++[kS (uN c m)])=oT (instD c m).aD+(1+lT (kS (uN c m))):=qD lT _ _
       have:=IW (uN c m)
       simp only[jF,B7];omega
      ·simp only[jF];omega
def aaZ:bp UU where
 α:=ae×Int
 md:=[.box false,.ro]
 of:=oC oU (o1 oI)
 ds:=fun x=>[dU x.1,dI x.2]
 pre:=fun(c,aF)=>[bj c,aF<=1000]
 bT:=fun(c,aF)=>⟨[dA .dZ (sV c aF),dA .bD (instA c aF)],[false,false],[dU (instAC c aF)]⟩
 law:=lC lU (l1 lI)
def atL:aaZ.α->Nat->Option (bY UU):=fun(c,aF)=>aN []
def ap8:=us [aiL,mL,Eb,ar_,ar',ar9,ar8,ar7]
theorem arz:Holds EE (16,aaZ):=by
 refine holds_of ax func16 aaZ (by kernel_rfl) ap8 (aE _) atL (fun x hp hb=> ?_)
 obtain⟨c,aF⟩:=x
 have dK:=sK (x:=c) (hb _ m0)
 have uo:=sL (n:=aF) (hb _ m1)
 have bC:bj c:=hp _ m0
 have fT:aF<=1000:=hp _ m1
 clear hp hb
 apply @ve _ (let x3:List Int:=[(-1),1000000000,1000000001];let x4:ae:=aa (aa (instDC c aF) 16) 8;let x2:Nat:=x3.length;let x1:Int:=(↑x2:Int);let x0:ae:=aa (aa (instDC c aF) 16) x1;let q0:=aa (instDC c aF) 16;let q1:=instD c aF;let q2:=instAC c aF;let q3:=aO (instA c aF);let q4:=sV c aF;let q5:=instDC c aF;let q6:=(ca c).Name;bj c/\aF<=1000/\0<=q5.i/\List.length q5.b<=4294967296/\bif ag q5 (16:Int)==(0:Int) then 0<=q0.i/\List.length q0.b<=4294967296/\(0:Nat)=(0:Nat)/\ap [DV.agg [CS q6,CL .a_ (ca c).aw],DV.agg [CL .aX q1.S.ab,CI (q1.S.Next),CL .az q1.aD,CL .aA q1.au,CL .aH q1.aC,CL .aT q1.aL,CI (ag q0 8),CI (q1.dw)]]=ap [DV.agg [CS (q4.Name),CL .a_ q4.aw],DV.agg q3]/\ap [DV.box [CL .byte x4.b,CI x4.i,CI x4.h]]=ap [DV.box [CL .byte q2.b,CI (q2.i),CI (q2.h)]] else bif ag q5 (16:Int)==(1:Int) then 0<=q0.i/\List.length q0.b<=4294967296/\1<=x2/\(0:Nat)=(0:Nat)/\ap [DV.agg [CS q6,CL .a_ (ca c).aw],DV.agg [CL .aX q1.S.ab,CI (q1.S.Next),CL .az q1.aD,CL .aA q1.au,CL .aH q1.aC,CL .aT q1.aL,CI (q1.State),CI (List.getD x3 (Int.toNat (ag q0 x1)) 0)]]=ap [DV.agg [CS (q4.Name),CL .a_ q4.aw],DV.agg q3]/\ap [DV.box [CL .byte x0.b,CI x0.i,CI x0.h]]=ap [DV.box [CL .byte q2.b,CI (q2.i),CI (q2.h)]] else bif ag q5 (16:Int)==(2:Int) then bj q0/\(0:Nat)=(0:Nat)/\ap [DV.agg [CS q6,CL .a_ (ca c).aw],DV.agg [CL .aX (kM q0).ab,CI ((kM q0).Next),CL .az q1.aD,CL .aA q1.au,CL .aH q1.aC,CL .aT q1.aL,CI (q1.State),CI (q1.dw)]]=ap [DV.agg [CS (q4.Name),CL .a_ q4.aw],DV.agg q3]/\ap [DV.box [CL .byte (mc q0).b,CI ((mc q0).i),CI ((mc q0).h)]]=ap [DV.box [CL .byte q2.b,CI (q2.i),CI (q2.h)]] else bif ag q5 (16:Int)==(3:Int) then bj q0/\(0:Nat)=(0:Nat)/\ap [DV.agg [CS q6,CL .a_ (ca c).aw],DV.agg [CL .aX q1.S.ab,CI (q1.S.Next),CL .az q1.aD,CL .aA (qZ q0),CL .aH q1.aC,CL .aT q1.aL,CI (q1.State),CI (q1.dw)]]=ap [DV.agg [CS (q4.Name),CL .a_ q4.aw],DV.agg q3]/\ap [DV.box [CL .byte (l7 q0).b,CI ((l7 q0).i),CI ((l7 q0).h)]]=ap [DV.box [CL .byte q2.b,CI (q2.i),CI (q2.h)]] else bif ag q5 (16:Int)==(4:Int) then bj q0/\(0:Nat)=(0:Nat)/\ap [DV.agg [CS q6,CL .a_ (ca c).aw],DV.agg [CL .aX q1.S.ab,CI (q1.S.Next),CL .az q1.aD,CL .aA q1.au,CL .aH q1.aC,CL .aT (qY q0),CI (q1.State),CI (q1.dw)]]=ap [DV.agg [CS (q4.Name),CL .a_ q4.aw],DV.agg q3]/\ap [DV.box [CL .byte (iP q0).b,CI ((iP q0).i),CI ((iP q0).h)]]=ap [DV.box [CL .byte q2.b,CI (q2.i),CI (q2.h)]] else bif ag q5 (16:Int)==(5:Int) then bj q0/\List.length q1.aD+List.length [kS q0]<=4294967296/\(0:Nat)=(0:Nat)/\ap [DV.agg [CS q6,CL .a_ (ca c).aw],DV.agg [CL .aX q1.S.ab,CI (q1.S.Next),CL .az (q1.aD++[kS q0]),CL .aA q1.au,CL .aH q1.aC,CL .aT q1.aL,CI (q1.State),CI (q1.dw)]]=ap [DV.agg [CS (q4.Name),CL .a_ q4.aw],DV.agg q3]/\ap [DV.box [CL .byte (kl q0).b,CI ((kl q0).i),CI ((kl q0).h)]]=ap [DV.box [CL .byte q2.b,CI (q2.i),CI (q2.h)]] else bif ag q5 (16:Int)==(6:Int) then bj q0/\(0:Nat)=(0:Nat)/\ap [DV.agg [CS ((pP q0).Name),CL .a_ (pP q0).aw],DV.agg (aO q1)]=ap [DV.agg [CS (q4.Name),CL .a_ q4.aw],DV.agg q3]/\ap [DV.box [CL .byte (jp q0).b,CI ((jp q0).i),CI ((jp q0).h)]]=ap [DV.box [CL .byte q2.b,CI (q2.i),CI (q2.h)]] else(0:Nat)=(0:Nat)/\ap [DV.agg [CS q6,CL .a_ (ca c).aw],DV.agg (aO q1)]=ap [DV.agg [CS (q4.Name),CL .a_ q4.aw],DV.agg q3]/\ap [DV.box [CL .byte q0.b,CI (q0.i),CI (q0.h)]]=ap [DV.box [CL .byte q2.b,CI (q2.i),CI (q2.h)]]) (by kernel_rfl)
 dsimp only
 have hd:=FG bC aF
 have he:=G2 bC aF
 have hF:=(vK (c:=c) fT).tocoreX.Jt
 refine⟨bC,fT,hd.1,hd.2,bo (fun k=> ?_) (fun k0=>bo (fun k=> ?_) (fun k1=>bo (fun k=> ?_) (fun k2=>bo (fun k=> ?_) (fun k3=>bo (fun k=> ?_) (fun k4=>bo (fun k=> ?_) (fun k5=>bo (fun k=> ?_) (fun k6=> ?_)))))))⟩
 ·have e1:instA c aF=⟨(instD c aF).S,(instD c aF).aD,(instD c aF).au,(instD c aF).aC,(instD c aF).aL,ag (uN c aF) 8,(instD c aF).dw⟩:=if_pos k
  have e2:instAC c aF=aa (uN c aF) 8:=if_pos k
  have e3:sV c aF=ca c:=if_neg (fun g=>absurd (k.symm.trans g) (by decide))
  exact⟨he.1,he.2,rfl,HZ e3.symm e1.symm e2.symm⟩
 ·have e1:instA c aF=EO (instD c aF) (gL (uN c aF) Gz):=(if_neg k0).trans (if_pos k)
  have e2:instAC c aF=j9 (uN c aF) Gz:=(if_neg k0).trans (if_pos k)
  have e3:sV c aF=ca c:=if_neg (fun g=>absurd (k.symm.trans g) (by decide))
  exact⟨he.1,he.2,by decide,rfl,HZ e3.symm e1.symm e2.symm⟩
 ·have e1:instA c aF=vd (instD c aF) (kM (uN c aF)):=(if_neg k0).trans ((if_neg k1).trans (if_pos k))
  have e2:instAC c aF=mc (uN c aF):=(if_neg k0).trans ((if_neg k1).trans (if_pos k))
  have e3:sV c aF=ca c:=if_neg (fun g=>absurd (k.symm.trans g) (by decide))
  exact⟨he,rfl,HZ e3.symm e1.symm e2.symm⟩
 ·have e1:instA c aF=pV (instD c aF) (qZ (uN c aF)):=(if_neg k0).trans ((if_neg k1).trans ((if_neg k2).trans (if_pos k)))
  have e2:instAC c aF=l7 (uN c aF):=(if_neg k0).trans ((if_neg k1).trans ((if_neg k2).trans (if_pos k)))
  have e3:sV c aF=ca c:=if_neg (fun g=>absurd (k.symm.trans g) (by decide))
  exact⟨he,rfl,HZ e3.symm e1.symm e2.symm⟩
 ·have e1:instA c aF=B6 (instD c aF) (qY (uN c aF)):=(if_neg k0).trans ((if_neg k1).trans ((if_neg k2).trans ((if_neg k3).trans (if_pos k))))
  have e2:instAC c aF=iP (uN c aF):=(if_neg k0).trans ((if_neg k1).trans ((if_neg k2).trans ((if_neg k3).trans (if_pos k))))
  have e3:sV c aF=ca c:=if_neg (fun g=>absurd (k.symm.trans g) (by decide))
  exact⟨he,rfl,HZ e3.symm e1.symm e2.symm⟩
 ·have e1:instA c aF=B7 (instD c aF) ((instD c aF).aD++[kS (uN c aF)]):=(if_neg k0).trans ((if_neg k1).trans ((if_neg k2).trans ((if_neg k3).trans ((if_neg k4).trans (if_pos k)))))
  have e2:instAC c aF=kl (uN c aF):=(if_neg k0).trans ((if_neg k1).trans ((if_neg k2).trans ((if_neg k3).trans ((if_neg k4).trans (if_pos k)))))
  have e3:sV c aF=ca c:=if_neg (fun g=>absurd (k.symm.trans g) (by decide))
  exact⟨he,by show(instD c aF).aD.length+1<=4294967296;omega,rfl,HZ e3.symm e1.symm e2.symm⟩
 ·have e1:instA c aF=instD c aF:=(if_neg k0).trans ((if_neg k1).trans ((if_neg k2).trans ((if_neg k3).trans ((if_neg k4).trans (if_neg k5)))))
  have e2:instAC c aF=jp (uN c aF):=(if_neg k0).trans ((if_neg k1).trans ((if_neg k2).trans ((if_neg k3).trans ((if_neg k4).trans ((if_neg k5).trans (if_pos k))))))
  have e3:sV c aF=pP (uN c aF):=if_pos k
  exact⟨he,rfl,HZ e3.symm e1.symm e2.symm⟩
 ·have e1:instA c aF=instD c aF:=(if_neg k0).trans ((if_neg k1).trans ((if_neg k2).trans ((if_neg k3).trans ((if_neg k4).trans (if_neg k5)))))
  have e2:instAC c aF=uN c aF:=(if_neg k0).trans ((if_neg k1).trans ((if_neg k2).trans ((if_neg k3).trans ((if_neg k4).trans ((if_neg k5).trans (if_neg k6))))))
  have e3:sV c aF=ca c:=if_neg k6
  exact⟨rfl,HZ e3.symm e1.symm e2.symm⟩
def asq:HH:=⟨_,arz⟩
def Zk6:bp UU where
 α:=(List Int)
 md:=[.ro]
 of:=o1 (oL .byte)
 ds:=fun x=>[dL .byte x]
 pre:=fun code=>[code.length<=4294967296]
 bT:=fun code=>⟨[dA .dZ (sV (gz code) (iZ code 20)),dA .bD (instA (gz code) (iZ code 20))],[false,false],[]⟩
 law:=l1 (lL .byte)
def Za6:Zk6.α->Nat->Option (bY UU):=fun code=>aN []
def Zu6:=us [aiR,aiE,asq]
theorem Zo6:Holds EE (6,Zk6):=by
 refine holds_of ax func6 Zk6 (by kernel_rfl) Zu6 (aE _) Za6 (fun(code:(List Int)) hp hb=> ?_)
 have uq:code.length<=9223372036854775807:=jO (hb _ m0)
 have bC:code.length<=4294967296:=hp _ m0
 clear hp hb
 apply @ve _ (let q0:=sV (gz code) (iZ code 20);let q1:=aO (instA (gz code) (iZ code 20));code.length<=4294967296/\code.length<=4294967296/\bj (gz code)/\iZ code (20:Int)<=(1000:Int)/\Lf [DV.agg [CS (q0.Name),CL .a_ q0.aw],DV.agg q1] [DV.agg [CS (q0.Name),CL .a_ q0.aw],DV.agg q1]) (by kernel_rfl)
 dsimp only
 have hs:=wG code 20
 exact⟨bC,bC,AL bC,by omega,ak2 rfl rfl⟩
def Zh6:HH:=⟨_,Zo6⟩
theorem ZC{code:List Int}(hc:code.length<=4294967296)(h:∀x∈code,0<=x/\x<=255)(i:Int)(h0:0<=i):0<=Th code i/\Th code i<=255:=by
 unfold Th;split
 ·rename_i hi
  exact h _ (Di code 0 h0 hi)
 ·rw[zbp (by omega)];omega
theorem MP{c:ae}{n:Int}(h0:0<=n)(h1:n<=255):instNew n=⟨⟨[],1⟩,[],[],[],[],1,n⟩/\cF (ca c) (instNew n):=by
 have e:instNew n=⟨⟨[],1⟩,[],[],[],[],1,n⟩:=if_pos (by omega)
 refine⟨e,?_⟩
 rw[e]
 exact jK ⟨uz c,rfl,rfl,rfl,rfl,⟨h0,by show n<=1000000000;omega⟩,by simp,by simp⟩ rfl
def ku:bp UU where
 α:=(List Int)
 md:=[.ro]
 of:=o1 (oL .byte)
 ds:=fun x=>[dL .byte x]
 pre:=fun _=>[]
 bT:=fun code=>⟨[dO true],[],[]⟩
 law:=l1 (lL .byte)
def zj:ku.α->Nat->Option (bY UU):=fun code=>aN []
def yn:=us [Zh4,Zh5,Zh6,Zh8,Zh7,Zh9,asr,ai6,aba]
theorem sG:Holds EE (3,ku):=by
 refine holds_of ax func3 ku (by kernel_rfl) yn (aE _) zj (fun(code:(List Int)) hp hb=> ?_)
 have GO:gB (U:=UU) (.one (.sl .byte code)):=hb _ m0
 have uq:code.length<=9223372036854775807:=jO (hb _ m0)
 clear hp hb
 apply @ve _ (let x0:Bool:=decide ((instD (gz code) (6+iZ code 30)).State=2\/(instD (gz code) (6+iZ code 30)).State=4\/(instD (gz code) (6+iZ code 30)).State=6);let q0:=gz code;let q1:=iZ code 20;let q2:=instNew (Th code 2);let q3:=instD q0 (6+iZ code 30);bif decide (code.length>1048576) then Lb true true else code.length<=4294967296/\code.length<=4294967296/\((0:Int)<=(2:Int)/\(2:Int)<=(1000:Int))/\code.length<=4294967296/\cT (ca q0)<=4294967295/\cQ q3.S.ab<=4294967296/\bif instOk (ca q0) q3 then cT (sV q0 q1)<=4294967295/\cQ (instA q0 q1).S.ab<=4294967296/\cT (sV q0 q1)<=4294967295/\cQ (instA q0 q1).S.ab<=4294967296/\bif instOk (sV q0 q1) (instA q0 q1)==instOk (sV q0 q1) (instA q0 q1) then cT (ca q0)<=4294967295/\cQ q2.S.ab<=4294967296/\bif instOk (ca q0) q2 then bif !decide (q2.State=2\/q2.State=4\/q2.State=6) then Lb (x0==x0) true else Lb false true else Lb false true else Lb false true else Lb false true) (by kernel_rfl)
 dsimp only
 refine af (fun h=>bN _) (fun h=> ?_)
 have atZ:=yF h
 have adL:∀x∈code,0<=x/\x<=255:=fun x hx=>Bd.u8 (Bd.row (U:=UU) (τ:=Cd.byte) GO hx (c:=.lit (.int .u8 x)) gj)
 have hl:code.length<=4294967296:=by omega
 have hn:=ZC hl adL 2 (by omega)
 have hs:=wG code 30
 have Yz:=wG code 20
 have hx:=vK (c:=gz code) (m:=6+iZ code 30) (by omega)
 have hy:=MP (c:=gz code) hn.1 hn.2
 have h1:=(v7 (gz code)).2.2
 have h2:=Cx hx.tocoreX
 have h3:=NS (AL hl) (iZ code 20)
 have h4:=instA_size (m:=iZ code 20) (AL hl) (by omega)
 simp only[jF,mY] at h2 h4
 have hI:instOk (ca (gz code)) (instD (gz code) (6+iZ code 30))=true:=ue.2 hx
 have hN:instOk (ca (gz code)) (instNew (Th code 2))=true:=ue.2 hy.2
 refine⟨hl,hl,⟨by omega,by omega⟩,hl,by omega,by omega,af (fun _=>⟨by omega,by omega,by omega,by omega,af (fun _=>⟨by omega,?_,af (fun _=>af (fun _=>cj (beq_self_eq_true _)) (fun e=> ?_)) (fun e=> ?_)⟩) (fun e=> ?_)⟩) (fun e=> ?_)⟩
 ·rw[hy.1];show 0<=4294967296;decide
 ·rw[hy.1] at e;have e:(!decide ((1:Int)=2\/(1:Int)=4\/(1:Int)=6))=false:=e;exact absurd e (by decide)
 ·rw[hN] at e;cases e
 ·rw[beq_self_eq_true] at e;cases e
 ·rw[hI] at e;cases e
def Qg:HH:=⟨_,sG⟩
end
end AM
