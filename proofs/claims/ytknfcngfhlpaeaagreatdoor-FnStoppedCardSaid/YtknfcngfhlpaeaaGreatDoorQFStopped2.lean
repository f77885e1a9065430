import Derived.Test.YtknfcngfhlpaeaaGreatDoorQAmLib
import Derived.Test.YtknfcngfhlpaeaaGreatDoorQFStopped
import Derived.Lib.ItoaLen
import Derived.Lib.Join
import Derived.Test.YtknfcngfhlpaeaaGreatDoorQShelf
namespace AM
open Go Go.Proofs.Tryz Go.IntKind
set_option linter.unusedVariables false
set_option linter.unusedSimpArgs false
set_option maxRecDepth 100000
noncomputable section
def alr:=cf (α:=aj) (q1 (qA .bY)) [.ro] (fun x=>[L4 (eH x)]) (fun x=>⟨[dA .bY x],[],[]⟩)
def YY:HH:=hF alr func18 [al4,al3,Qq,aer,YW] a0 fun(x:aj) hp hb=>by
 have bJ:eH x<=4294967296:=hp _ m0
 clear hp hb
 apply vE (dc x.S.aa<=4294967296/\L4 (ij x.aw)/\L4 (bO x.ae)/\L4 (cm x.ao)/\L4 (bz x.ai)/\Lf [DV.agg (ay x)] [DV.agg (ay x)])
 simp only[eH,nX] at bJ
 repeat' (first|refine And.intro (by omega) ?_|fail)
 exact aV _
theorem jy{a b:aj}(h:a=b):gH [DV.box [.sl .aK a.S.aa,CI a.S.Next,.sl .av a.aw,.sl .aq a.ae,.sl .ax a.ao,.sl .aI a.ai,CI a.State,CI a.bB]]=gH [DV.box [.sl .aK b.S.aa,CI b.S.Next,.sl .av b.aw,.sl .aq b.ae,.sl .ax b.ao,.sl .aI b.ai,CI b.State,CI b.bB]]:=by rw[h]
theorem LfX{a a':aj}{b b':Bool}(h1:a=a')(h2:b=b'):Lf [.agg [.sl .aK a.S.aa,CI a.S.Next,.sl .av a.aw,.sl .aq a.ae,.sl .ax a.ao,.sl .aI a.ai,CI a.State,CI a.bB],.one (.lit (.bool b))] [.agg [.sl .aK a'.S.aa,CI a'.S.Next,.sl .av a'.aw,.sl .aq a'.ae,.sl .ax a'.ao,.sl .aI a'.ai,CI a'.State,CI a'.bB],.one (.lit (.bool b'))]:=by
 subst h1 h2;exact aV _
theorem ag_{a a':List ap}(h:a=a'):Lf [.one (.sl .aq a)] [.one (.sl .aq a')]:=by subst h;exact aV _
def mh(p:List (DA UU)->Option Value)(t:ap):Bool:= !bC (p [bV t])
def Kx(l:List ap)(q:ap->Bool)(xs:List ap)(dd:Nat->Bool)(i j:Int):Prop:=0<=i/\i<j/\j<=l.length/\xs.length=l.length/\xs.take i.toNat=(l.take j.toNat).filter q/\(∀k,j.toNat<=k->k<l.length->xs.getD k aB=l.getD k aB)/\(∀k,k<i.toNat->dd k=false)/\(∀k,j.toNat<=k->dd k=false)
theorem filter_all{α:Type}(q:α->Bool)(l:List α)(z:α)(n:Nat)(h:∀k,k<n->k<l.length->q (l.getD k z)=true):(l.take n).filter q=l.take n:=by
 rw[List.filter_eq_self]
 intro a ha
 obtain⟨j,hj,rfl⟩:=List.mem_take_iff_getElem.1 ha
 have:=h j (by omega) (by omega)
 rwa[dB,eW (by omega)] at this
theorem PW{l:List ap}{p:List (DA UU)->Option Value}(h:¬(ja l.length fun j=>bC (p [bV (l.getD j aB)]))= -1):Kx l (mh p) l (fun _=>false) (ja l.length fun j=>bC (p [bV (l.getD j aB)])) ((ja l.length fun j=>bC (p [bV (l.getD j aB)]))+1):=by
 rcases il l.length (fun j=>bC (p [bV (l.getD j aB)])) with⟨h1,_⟩|⟨i,h2,h1,h3,h4⟩
 ·exact absurd h1 h
 ·rw[h1]
  have e:((i:Int)+1).toNat=i+1:=by omega
  refine⟨by omega,by omega,by omega,rfl,?_,fun _ _ _=>rfl,fun _ _=>rfl,fun _ _=>rfl⟩
  rw[e,Tp,mG _ aB h2]
  have hk:mh p (l.getD i aB)=false:=by simp only[mh];rw[h3];rfl
  rw[hk,filter_all (mh p) l aB i (fun k hk _=>by simp only[mh];rw[h4 k hk];rfl)];simp
theorem PU{l:List ap}{p:List (DA UU)->Option Value}(h:(ja l.length fun j=>bC (p [bV (l.getD j aB)]))= -1):l.filter (mh p)=l:=by
 rcases il l.length (fun j=>bC (p [bV (l.getD j aB)])) with⟨_,h1⟩|⟨i,_,h1,_⟩
 ·have:=filter_all (mh p) l aB l.length (fun k hk _=>by simp only[mh];rw[h1 k hk];rfl)
  rwa[List.take_length] at this
 ·omega
theorem PV{l:List ap}{q:ap->Bool}{xs:List ap}{dd:Nat->Bool}{i j:Int}(h:Kx l q xs dd i j)(hj:j<l.length)(hq:q (l.getD j.toNat aB)=true):Kx l q (xs.set i.toNat (l.getD j.toNat aB)) (fun k=> !Nat.beq k i.toNat&&(Nat.beq k j.toNat||dd k)) (i+1) (j+1):=by
 obtain⟨g1,g2,g3,g4,g5,g6,g7,g8⟩:=h
 have ei:(i+1).toNat=i.toNat+1:=by omega
 have ej:(j+1).toNat=j.toNat+1:=by omega
 refine⟨by omega,by omega,by omega,by rw[JC];exact g4,?_,fun k h1 h2=> ?_,fun k hk=> ?_,fun k hk=> ?_⟩
 ·rw[ei,ej,mG _ aB (by omega),<-g5,hq,if_pos rfl,wx aB (by rw[JC];omega)]
  congr 1
  ·rw[List.take_set_of_le (by omega)]
  ·rw[dB,ZF (by omega)];rfl
 ·rw[dB,zek (by omega),<-dB]
  exact g6 k (by omega) h2
 ·show(!Nat.beq k i.toNat&&(Nat.beq k j.toNat||dd k))=false
  by_cases Sv:k=i.toNat
  ·rw[Sv];simp
  ·rw[g7 k (by omega),Nk,show Nat.beq k j.toNat=false by rw[<-uO,Fv];omega,wa]
 ·show(!Nat.beq k i.toNat&&(Nat.beq k j.toNat||dd k))=false
  rw[g8 k (by omega),Nk,show Nat.beq k j.toNat=false by rw[<-uO,Fv];omega,wa]
theorem PT{l:List ap}{q:ap->Bool}{xs:List ap}{dd:Nat->Bool}{i j:Int}(h:Kx l q xs dd i j)(hj:j<l.length)(hq:q (l.getD j.toNat aB)=false):Kx l q xs (fun k=>Nat.beq k j.toNat||dd k) i (j+1):=by
 obtain⟨g1,g2,g3,g4,g5,g6,g7,g8⟩:=h
 have ej:(j+1).toNat=j.toNat+1:=by omega
 refine⟨by omega,by omega,by omega,g4,?_,fun k h1 h2=>g6 k (by omega) h2,fun k hk=> ?_,fun k hk=> ?_⟩
 ·rw[ej,mG _ aB (by omega),<-g5,hq];simp
 ·show(Nat.beq k j.toNat||dd k)=false
  rw[g7 k hk,Nk,show Nat.beq k j.toNat=false by rw[<-uO,Fv];omega]
 ·show(Nat.beq k j.toNat||dd k)=false
  rw[g8 k (by omega),Nk,show Nat.beq k j.toNat=false by rw[<-uO,Fv];omega]
theorem EU{d:aZ}{x:aj}(h:instOk d x=true):bT x:=by
 simp only[instOk,cH,decide_eq_true_eq] at h
 exact⟨h.1.1.1.1.1.1.1.2,h.1.1.1.1.1.2,h.1.1.1.2⟩
def lz(d:aZ)(x:aj):Bool:=decide (x.State=1)&&instOk d x
def mf(d:aZ)(x:aj):aj:=if lz d x then eD x 5 else x
theorem KY{d:aZ}{x:aj}(h:lz d x=false):Lf [.agg [.sl .aK x.S.aa,CI x.S.Next,.sl .av x.aw,.sl .aq x.ae,.sl .ax x.ao,.sl .aI x.ai,CI x.State,CI x.bB],.one (.lit (.bool false))] [.agg [.sl .aK (mf d x).S.aa,CI ((mf d x).S.Next),.sl .av (mf d x).aw,.sl .aq (mf d x).ae,.sl .ax (mf d x).ao,.sl .aI (mf d x).ai,CI ((mf d x).State),CI ((mf d x).bB)],.one (.lit (.bool (lz d x)))]:=
 LfX (by rw[mf,h];rfl) h.symm
def acL:=cf (α:=(List ap)×(List (DA UU)->Option Value)) (qC (qL .aq) (q1 qF)) [.mv,.ro] (fun(l,p)=>[∀j:Nat,j<l.length->p [bV (l.getD j aB)]=some (.bool (bC (p [bV (l.getD j aB)])))]) (fun(l,p)=>⟨[dL .aq (l.filter (mh p))],[],[]⟩)
def DI(l:List ap)(p:(List (DA UU)->Option Value)):(List ap×(Nat->Bool))×Int×Int×Unit->Prop:=fun((xs,dd),i,j,_)=>Kx l (mh p) xs dd i j
def vT(l:List ap)(p:(List (DA UU)->Option Value)):(List ap×(Nat->Bool))×Int×Int×Unit->Nat:=fun((xs,dd),i,j,_)=>l.length-j.toNat
def amo:AX acL:=fun(l,p)=>b_ [(5,aY [.slot 0 (0,1024) (.part .aq),iI 5,iI 6] (fun _=>DI l p) (vT l p))]
def alD:HH:=hF acL func94 [Ta] amo fun x hp hb=>by
 obtain⟨l,p⟩:=x
 have jB:L9 l.length:=kc (hb _ m0)
 have bJ:∀j:Nat,j<l.length->p [bV (l.getD j aB)]=some (.bool (bC (p [bV (l.getD j aB)]))):=hp _ m0
 clear hp hb
 apply vE (let x0:=ja (l.length) fun(j:Nat)=>bC (p [bV (l.getD j aB)]);(∀(j:Nat),j<l.length->p [bV (l.getD j aB)]=some (Value.bool (bC (p [bV (l.getD j aB)]))))/\bif x0==(-1) then Lf [VL .aq l] [VL .aq (l.filter (mh p))] else DI l p ((l,fun(x:Nat)=>false),x0,wrap i64 (x0+1),())/\∀(y:(List ap×(Nat->Bool))×Int×Int×PUnit),let x4:=y.2.2.1.toNat;let x5:=y.fst.1.length;let x6:=Option.getD (some y.2.1) 0;let x9:=y.2.1.toNat;let x2:=y.fst.1.getD x4 aB;let x3:=(↑x5:Int);let x8:=Option.getD (some y.2.1) x3;let x1:=bC (p [{agg:=true,cs:=[CS x2.F.Kind,CL .bf x2.F.af,CS x2.aX,CI x2.State,CI x2.bi,CI x2.iy,CI x2.V.K,CI x2.V.N,CS x2.V.S]:DA UU}]);let x7:=x8.toNat;let q0:=y.2.2.1+1;DI l p y->bif decide (y.2.2.1<x3) then 0<=y.2.2.1/\x4<x5/\x4<x5/\y.fst.2 x4=false/\p [{agg:=true,cs:=[CS x2.F.Kind,CL .bf x2.F.af,CS x2.aX,CI x2.State,CI x2.bi,CI x2.iy,CI x2.V.K,CI x2.V.N,CS x2.V.S]:DA UU}]=some (Value.bool x1)/\bif !x1 then 0<=y.2.1/\x9<x5/\x9<x5/\DI l p ((y.fst.1.set x9 x2,fun(j:Nat)=> !Nat.beq j x9&&(Nat.beq j x4||y.fst.2 j)),wrap i64 (y.2.1+1),wrap i64 q0,())/\vT l p ((y.fst.1.set x9 x2,fun(j:Nat)=> !Nat.beq j x9&&(Nat.beq j x4||y.fst.2 j)),wrap i64 (y.2.1+1),wrap i64 q0,())<vT l p y else DI l p ((y.fst.1,fun(j:Nat)=>Nat.beq j x4||y.fst.2 j),y.2.1,wrap i64 q0,())/\vT l p ((y.fst.1,fun(j:Nat)=>Nat.beq j x4||y.fst.2 j),y.2.1,wrap i64 q0,())<vT l p y else 0<=x6/\x6<=Option.getD none x3/\Option.getD none x3<=x3/\x6.toNat<=Int.toNat (Option.getD none x3)/\Int.toNat (Option.getD none x3)=x5/\0<=Option.getD none (0:Int)/\Option.getD none (0:Int)<=x8/\x8<=x3/\Nat.le x7 x5/\(∀(i:Nat),i<x7->(y.fst.2 i||Nat.ble x6.toNat i)=false)/\Lf [VL .aq (y.fst.1.take x7)] [VL .aq (l.filter (mh p))])
 dsimp only
 refine⟨bJ,ct (fun h=> ?_) (fun h=> ?_)⟩
 ·exact ag_ (PU h).symm
 have hI:=PW h
 have hI2:=hI
 obtain⟨h1,_,h2,_⟩:=hI2
 rw[wi]
 refine⟨hI,?_⟩
 clear hI h1 h2 h
 rintro⟨⟨xs,dd⟩,i,j,⟨⟩⟩ hI
 have hI:Kx l (mh p) xs dd i j:=hI
 have hI2:=hI
 obtain⟨g1,g2,g3,g4,g5,g6,g7,g8⟩:=hI2
 simp only[DY,Nz]
 refine bc ?_ ?_<;>intro hc
 ·have ej:xs.getD j.toNat aB=l.getD j.toNat aB:=g6 _ (sB _) (by omega)
  rw[ej,wi (n:=i+1),wi (n:=j+1)]
  refine⟨by omega,by omega,by omega,g8 _ (sB _),bJ j.toNat (by omega),bu (fun g=> ?_) (fun g=> ?_)⟩
  ·have hq:mh p (l.getD j.toNat aB)=true:=by
    show(!bC (p [bV (l.getD j.toNat aB)]))=true
    rw[show bC (p [bV (l.getD j.toNat aB)])=false from g];rfl
   exact⟨g1,by omega,by omega,PV hI (by omega) hq,by simp only[vT];omega⟩
  ·have hq:mh p (l.getD j.toNat aB)=false:=by
    show(!bC (p [bV (l.getD j.toNat aB)]))=false
    rw[show bC (p [bV (l.getD j.toNat aB)])=true from g];rfl
   exact⟨PT hI (by omega) hq,by simp only[vT];omega⟩
 ·have e:l.take j.toNat=l:=QN (by omega)
  rw[e] at g5
  refine⟨by omega,by omega,by omega,by omega,by omega,by omega,by omega,by omega,(show i.toNat<=xs.length by omega),fun k hk=> ?_,ag_ g5⟩
  rw[g7 k hk,Fw,<-uO,Nt];omega
def ald:=cf (α:=aj×Int) (qC (qX .bY) (q1 qI)) [.box true,.ro] (fun(x,state)=>[aS x.ae=true]) (fun(x,state)=>⟨[],[],[dX .bY (rF x state)]⟩)
def aeq:HH:=hF ald func47 [alE] a0 fun x hp hb=>by
 obtain⟨x,state⟩:=x
 have bJ:aS x.ae=true:=hp _ m0
 clear hp hb
 apply vE (bO x.ae<=4294967296/\LM [] [] [DV.box [CL .aK x.S.aa,CI x.S.Next,CL .av x.aw,CL .aq (giveUp x.ae),CL .ax [],CL .aI x.ai,CI state,CI x.bB]] [DV.box (ay (rF x state))])
 have:=(pT bJ).2
 exact⟨by omega,rfl,rfl,rfl⟩
def KF:jw UU where
 α:=ap×aO
 md:=[.ro,.ro]
 of:=oC (oA .aq) (o1 (oP .cU))
 ds:=fun x=>[dA .aq x.1,dP .cU x.2]
 pre:=fun _=>[]
 mS:=fun(t,f)=>⟨[dO (decide (t.F=f))],[],[]⟩
 law:=lC (lA .aq) (l1 (lP .cU))
def alC:HH:=hF KF func95 [Tb] a0 fun x hp hb=>by
 obtain⟨t,f⟩:=x
 clear hp hb
 apply vE (Lb (decide (t.F=f)) (decide (t.F=f)))
 exact aV _
def alc:=cf (α:=aj) (q1 (qX .bY)) [.box true] (fun x=>[bT x,x.State=3\/x.State=5]) (fun x=>⟨[],[],[dX .bY (cn x)]⟩)
def aep:HH:=hF alc func48 [Zh9,aeq,alD,alC,alB] a0 fun(x:aj) hp hb=>by
 have bJ:bT x:=hp _ m0
 clear hp hb
 apply vE (let x0:=x.ae.filter (mh (eN KF [DV.ptr [CS ((aN x.ai).Kind),CL .bf (aN x.ai).af]]));let q0:=aN x.ai;let q1:=ay (cn x);L4 (bz x.ai)/\bif !decide ¬x.ai=[] then bif x.State==5 then aS x.ae=true/\LM [] [] [DV.box (ay (rF x 6))] [DV.box q1] else aS x.ae=true/\LM [] [] [DV.box (ay (rF x 4))] [DV.box q1] else(∀(j:Nat),j<x.ae.length->eN KF [DV.ptr [CS (q0.Kind),CL .bf q0.af]] [bV (x.ae.getD j aB)]=some (Value.bool (bC (eN KF [DV.ptr [CS (q0.Kind),CL .bf q0.af]] [bV (x.ae.getD j aB)]))))/\bif decide ((x0.length:Int)≥30) then bO []<=4294967296/\L4 q0.af.length/\LM [] [] [DV.box [CL .aK x.S.aa,CI x.S.Next,CL .av x.aw,CL .aq (fz [] {Kind:=q0.Kind,af:=q0.af:aO} {data:= #[]:BA} x.bB).1,CL .ax x.ao,CL .aI x.ai,CI x.State,CI x.bB]] [DV.box q1] else L4 (bO x0)/\L4 q0.af.length/\LM [] [] [DV.box [CL .aK x.S.aa,CI x.S.Next,CL .av x.aw,CL .aq (fz {τ:=Cd.aq,xs:=x0:cC UU}.xs {Kind:=q0.Kind,af:=q0.af:aO} {data:= #[]:BA} x.bB).1,CL .ax x.ao,CL .aI x.ai,CI x.State,CI x.bB]] [DV.box q1])
 dsimp only
 have Nr:=bJ
 obtain⟨q1,q2,q3,q4⟩:=bJ
 have k3:=(sX q2).2.2
 have hc:∀t:ap,eN KF [.ptr [.lit (.string (aN x.ai).Kind),.sl .bf (aN x.ai).af]] [bV t]=some (.bool (decide (t.F=aN x.ai))):=fun t=>qq (x:=(t,aN x.ai)) rfl rfl rfl rfl (by simp[KF])
 have hx:x.ae.filter (mh (eN KF [.ptr [.lit (.string (aN x.ai).Kind),.sl .bf (aN x.ai).af]]))=tc x.ae (aN x.ai):=by
  unfold tc;congr 1;funext t;unfold mh;rw[hc];rfl
 simp only[hx]
 have hs:=(pT (sZ (fun t=> !decide (t.F=aN x.ai)) q1)).2
 have hs:bO (tc x.ae (aN x.ai))<=6000:=hs
 refine⟨by omega,bu (fun h=> ?_) (fun h=> ?_)⟩
 ·have hu:x.ai=[]:=by simpa using h
  refine ct (fun g=>⟨q1,by trivial,by trivial,jy ?_⟩) (fun g=>⟨q1,by trivial,by trivial,jy ?_⟩)
  ·rw[cn,if_pos hu,if_pos g]
  ·rw[cn,if_pos hu,if_neg g]
 ·have hu:¬x.ai=[]:=by simpa using h
  have hf:=(oB (nd q2 hu)).1
  have e:=L0 Nr hu
  have eb:cn x=⟨x.S,x.aw,qJ x,x.ao,x.ai,x.State,x.bB⟩:=if_neg hu
  refine⟨fun j hj=>by rw[hc];rfl,bc (fun g=> ?_) (fun g=> ?_)⟩
  ·rw[show qn x.ae (aN x.ai)=[] from if_pos (by omega)] at e
   exact⟨by simp[bO],by omega,by trivial,by trivial,jy (a:=⟨x.S,x.aw,(fz [] (aN x.ai) ah x.bB).1,x.ao,x.ai,x.State,x.bB⟩) (by rw[e,eb])⟩
  ·rw[show qn x.ae (aN x.ai)=tc x.ae (aN x.ai) from if_neg (by omega)] at e
   exact⟨by omega,by omega,by trivial,by trivial,jy (a:=⟨x.S,x.aw,(fz (tc x.ae (aN x.ai)) (aN x.ai) ah x.bB).1,x.ao,x.ai,x.State,x.bB⟩) (by rw[e,eb])⟩
def alq:=cf (α:=aj×Int) (qC (qX .bY) (q1 qI)) [.box true,.ro] (fun(x,state)=>[bT x,state=3\/state=5]) (fun(x,state)=>⟨[],[],[dX .bY (eD x state)]⟩)
def ae7:HH:=hF alq func19 [aeq,aep] a0 fun x hp hb=>by
 obtain⟨x,state⟩:=x
 have bJ:bT x:=hp _ m0
 have eh:state=3\/state=5:=hp _ m1
 clear hp hb
 apply vE (let q0:=rF x state;aS x.ae=true/\bT q0/\(q0.State=3\/q0.State=5)/\LM [] [] [DV.box (ay (cn q0))] [DV.box (ay (eD x state))])
 dsimp only
 exact⟨bJ.1,EW bJ _,eh,rfl,rfl,rfl⟩
def ak7:=cf (α:=aj) (q1 (qX .bY)) [.box true] (fun x=>[bT x]) (fun x=>⟨[],[],[dX .bY (eD x 3)]⟩)
def YU:HH:=hF ak7 func60 [ae7] a0 fun(x:aj) hp hb=>by
 have bJ:bT x:=hp _ m0
 clear hp hb
 apply vE (bT x/\((3:Int)=(3:Int)\/(3:Int)=(5:Int))/\LM [] [] [DV.box (ay (eD x 3))] [DV.box (ay (eD x 3))])
 exact⟨bJ,.inl rfl,rfl,rfl,rfl⟩
def adX:=cf (α:=aj×Int) (qC (qX .bY) (q1 qI)) [.box true,.ro] (fun(x,state)=>[aS x.ae=true]) (fun(x,state)=>⟨[],[],[dX .bY (rF x state)]⟩)
def VE:HH:=hF adX func147 [aeh] a0 fun x hp hb=>by
 obtain⟨x,state⟩:=x
 have bJ:aS x.ae=true:=hp _ m0
 clear hp hb
 apply vE (bO x.ae<=4294967296/\LM [] [] [DV.box [CL .aK x.S.aa,CI x.S.Next,CL .av x.aw,CL .aq (giveUp x.ae),CL .ax [],CL .aI x.ai,CI state,CI x.bB]] [DV.box (ay (rF x state))])
 have:=(pT bJ).2
 exact⟨by omega,rfl,rfl,rfl⟩
def acN:=cf (α:=aj) (q1 (qX .bY)) [.box true] (fun x=>[bT x,x.State=3\/x.State=5]) (fun x=>⟨[],[],[dX .bY (cn x)]⟩)
def DK(x:aj):List ap×Int×T6×(List bW×Int×List au×(List ap×(Nat->Bool))×List aF×List br×Int×Int×Unit)×Unit->Prop:=fun(l,i,f,(gi,gn,gf,(gt,dd),gm,gu,gs,gw,_),_)=>f=((aN x.ai).Kind,(aN x.ai).af,())/\(gi,gn,gf,gt,gm,gu,gs,gw)=(x.S.aa,x.S.Next,x.aw,x.ae,x.ao,x.ai,x.State,x.bB)/\¬x.ai=[]/\0<=i/\i<=x.ae.length/\l=tc (x.ae.take i.toNat) (aN x.ai)/\∀k,i.toNat<=k->dd k=false
def vV(x:aj):List ap×Int×T6×(List bW×Int×List au×(List ap×(Nat->Bool))×List aF×List br×Int×Int×Unit)×Unit->Nat:=fun(l,i,f,(gi,gn,gf,(gt,dd),gm,gu,gs,gw,_),_)=>x.ae.length-i.toNat
def amq:AX acN:=fun x=>b_ [(7,aY [iO 4 .aq,iI 5,.box 2 (2,1024) [.lit .str,.own .bf true],.box 0 (2000000,0) [.own .aK true,.lit (.int .i64),.own .av true,.part .aq,.own .ax true,.own .aI true,.lit (.int .i64),.lit (.int .i64)]] (fun _=>DK x) (vV x))]
def aeg:HH:=hF acN func91 [afu,VE,Fs,VD] amq fun(x:aj) hp hb=>by
 have dG:=ka (x:=x) (hb _ m0)
 have dN:=dG.1
 have fG:=dG.2.1
 have fF:=dG.2.2.1
 have eI:=dG.2.2.2.1
 have fE:=dG.2.2.2.2
 have bJ:bT x:=hp _ m0
 have eh:x.State=3\/x.State=5:=hp _ m1
 clear hp hb
 apply vE (bz x.ai<=4294967296/\bif !decide ¬x.ai=[] then bif x.State==3 then aS x.ae=true/\LM [] [] [DV.box (ay (rF x 4))] [DV.box (ay (cn x))] else aS x.ae=true/\LM [] [] [DV.box (ay (rF x 6))] [DV.box (ay (cn x))] else DK x ([],0,((aN x.ai).Kind,(aN x.ai).af,()),(x.S.aa,x.S.Next,x.aw,(x.ae,fun(x:Nat)=>false),x.ao,x.ai,x.State,x.bB,()),())/\∀(y:List ap×Int×Y1×(List bW×Int×List au×(List ap×(Nat->Bool))×List aF×List br×Int×Int×PUnit)×PUnit),let x0:={Kind:=y.2.2.1.1,af:={τ:=Cd.bf,xs:=y.2.2.1.2.1:cC UU}.xs:aO};let x3:=y.2.1.toNat;let x5:=y.2.2.2.1.2.2.2.1.1.length;let x6:=wrap i64 (y.2.1+1);let x2:=y.2.2.2.1.2.2.2.1.1.getD x3 aB;let x4:=(↑x5:Int);let x1:=[x2];let q0:=(y.1,x6,(y.2.2.1.1,y.2.2.1.2.1,()),(y.2.2.2.1.1,y.2.2.2.1.2.1,y.2.2.2.1.2.2.1,(y.2.2.2.1.2.2.2.1.1,y.2.2.2.1.2.2.2.1.2),y.2.2.2.1.2.2.2.2.1,y.2.2.2.1.2.2.2.2.2.1,y.2.2.2.1.2.2.2.2.2.2.1,y.2.2.2.1.2.2.2.2.2.2.2.1,()),());DK x y->bif decide (y.2.1<x4) then 0<=y.2.1/\x3<x5/\x3<x5/\y.2.2.2.1.2.2.2.1.2 x3=false/\y.2.2.2.1.2.2.2.1.2 x3=false/\x3<x5/\bif !decide (x2.F={Kind:=y.2.2.1.1,af:=y.2.2.1.2.1:aO}) then 0<=y.2.1/\x3<x5/\x3<x5/\y.2.2.2.1.2.2.2.1.2 x3=false/\L4 (y.1.length+x1.length)/\DK x (y.1++x1,x6,(y.2.2.1.1,y.2.2.1.2.1,()),(y.2.2.2.1.1,y.2.2.2.1.2.1,y.2.2.2.1.2.2.1,(y.2.2.2.1.2.2.2.1.1,fun(j:Nat)=>Nat.beq j x3||y.2.2.2.1.2.2.2.1.2 j),y.2.2.2.1.2.2.2.2.1,y.2.2.2.1.2.2.2.2.2.1,y.2.2.2.1.2.2.2.2.2.2.1,y.2.2.2.1.2.2.2.2.2.2.2.1,()),())/\vV x (y.1++x1,x6,(y.2.2.1.1,y.2.2.1.2.1,()),(y.2.2.2.1.1,y.2.2.2.1.2.1,y.2.2.2.1.2.2.1,(y.2.2.2.1.2.2.2.1.1,fun(j:Nat)=>Nat.beq j x3||y.2.2.2.1.2.2.2.1.2 j),y.2.2.2.1.2.2.2.2.1,y.2.2.2.1.2.2.2.2.2.1,y.2.2.2.1.2.2.2.2.2.2.1,y.2.2.2.1.2.2.2.2.2.2.2.1,()),())<vV x y else DK x q0/\vV x q0<vV x y else bif decide ((y.1.length:Int)≥30) then L4 y.2.2.1.2.1.length/\LM [] [] [DV.box [CL .aK y.2.2.2.1.1,CI y.2.2.2.1.2.1,CL .av y.2.2.2.1.2.2.1,CL .aq (fA {τ:=Cd.aq,xs:=[]:cC UU}.xs x0 {data:= #[]:BA} y.2.2.2.1.2.2.2.2.2.2.2.1).1,CL .ax y.2.2.2.1.2.2.2.2.1,CL .aI y.2.2.2.1.2.2.2.2.2.1,CI y.2.2.2.1.2.2.2.2.2.2.1,CI y.2.2.2.1.2.2.2.2.2.2.2.1]] [DV.box (ay (cn x))] else L4 y.2.2.1.2.1.length/\LM [] [] [DV.box [CL .aK y.2.2.2.1.1,CI y.2.2.2.1.2.1,CL .av y.2.2.2.1.2.2.1,CL .aq (fA {τ:=Cd.aq,xs:=y.1:cC UU}.xs x0 {data:= #[]:BA} y.2.2.2.1.2.2.2.2.2.2.2.1).1,CL .ax y.2.2.2.1.2.2.2.2.1,CL .aI y.2.2.2.1.2.2.2.2.2.1,CI y.2.2.2.1.2.2.2.2.2.2.1,CI y.2.2.2.1.2.2.2.2.2.2.2.1]] [DV.box (ay (cn x))])
 dsimp only
 have Nr:=bJ
 obtain⟨q1,q2,q3,q4⟩:=bJ
 have k3:=(sX q2).2.2
 have k4:=(pT q1).1
 refine⟨by omega,bu (fun h=> ?_) (fun h=> ?_)⟩
 ·have hu:x.ai=[]:=by simpa using h
  refine ct (fun g=>⟨q1,by trivial,by trivial,jy ?_⟩) (fun g=>⟨q1,by trivial,by trivial,jy ?_⟩)
  ·rw[cn,if_pos hu,if_neg (by omega)]
  ·rw[cn,if_pos hu,if_pos (by omega)]
 have hu:¬x.ai=[]:=by simpa using h
 have hf:=(oB (nd q2 hu)).1
 have eb:cn x=⟨x.S,x.aw,qJ x,x.ao,x.ai,x.State,x.bB⟩:=if_neg hu
 refine⟨⟨rfl,rfl,hu,by omega,by omega,rfl,fun _ _=>rfl⟩,?_⟩
 rintro⟨l,i,⟨f1,f2,⟨⟩⟩,⟨gi,gn,gf,⟨gt,dd⟩,gm,gu,gs,gw,⟨⟩⟩,⟨⟩⟩ ⟨hF,hG,-,h1,h2,hl,hd⟩
 cases hF
 cases hG
 subst hl
 simp only
 refine bc ?_ ?_<;>intro hc
 ·have hn:i.toNat<x.ae.length:=by omega
  have ei:(i+1).toNat=i.toNat+1:=by omega
  have oW:=mG (fun t:ap=> !decide (t.F=aN x.ai)) aB hn
  have hlen:(tc (x.ae.take i.toNat) (aN x.ai)).length<=i.toNat:=vg (KK _ _) (by simp;omega)
  rw[wi (n:=i+1)]
  refine⟨h1,hn,hn,hd _ (sB _),hd _ (sB _),hn,bu (fun g=> ?_) (fun g=> ?_)⟩
  ·refine⟨h1,hn,hn,hd _ (sB _),by simp only[ir,ig];omega,⟨rfl,rfl,hu,by omega,by omega,?_,fun k hk=> ?_⟩,by simp only[vV];omega⟩
   ·rw[ei];refine Eq.trans ?_ oW.symm
    rw[if_pos (by rw[show decide ((x.ae.getD i.toNat aB).F=aN x.ai)=false from g];rfl)];rfl
   ·show(Nat.beq k i.toNat||dd k)=false
    rw[hd k (by omega),Nk,<-uO,Fv];omega
  ·refine⟨⟨rfl,rfl,hu,by omega,by omega,?_,fun k hk=>hd k (by omega)⟩,by simp only[vV];omega⟩
   rw[ei];refine Eq.trans ?_ oW.symm
   rw[if_neg (by rw[show decide ((x.ae.getD i.toNat aB).F=aN x.ai)=true from g];decide),sR];rfl
 ·rw[cA x.ae (by omega)]
  refine bc (fun g=>⟨by omega,by trivial,by trivial,?_⟩) (fun g=>⟨by omega,by trivial,by trivial,?_⟩)
  ·refine jy (a:=⟨x.S,x.aw,(fA [] (aN x.ai) ah x.bB).1,x.ao,x.ai,x.State,x.bB⟩) ?_
   rw[eb,qJ,show qn x.ae (aN x.ai)=[] from if_pos (by omega)]
  ·refine jy (a:=⟨x.S,x.aw,(fA (tc x.ae (aN x.ai)) (aN x.ai) ah x.bB).1,x.ao,x.ai,x.State,x.bB⟩) ?_
   rw[eb,qJ,show qn x.ae (aN x.ai)=tc x.ae (aN x.ai) from if_neg (by omega)]
def ale:=cf (α:=aj×Int) (qC (qX .bY) (q1 qI)) [.box true,.ro] (fun(x,state)=>[bT x,state=3\/state=5]) (fun(x,state)=>⟨[],[],[dX .bY (eD x state)]⟩)
def Qr:HH:=hF ale func41 [aeh,aeg] a0 fun x hp hb=>by
 obtain⟨x,state⟩:=x
 have bJ:bT x:=hp _ m0
 have eh:state=3\/state=5:=hp _ m1
 clear hp hb
 apply vE (let x1:={S:=x.S,aw:=x.aw,ae:=giveUp x.ae,ao:=[],ai:=x.ai,State:=state,bB:=x.bB:aj};let x0:=cn x1;L4 (bO x.ae)/\bT x1/\(state=3\/state=5)/\LM [] [] [DV.box (ay x0)] [DV.box (ay (eD x state))])
 dsimp only
 have:=(pT bJ.1).2
 exact⟨by omega,EW bJ state,eh,rfl,rfl,rfl⟩
def Zk6:=cf (α:=aZ×aj) (qC (qA .gJ) (q1 (qA .bY))) [.ro,.ro] (fun(d,x)=>[cX d<=4294967295,eH x<=4294967295]) (fun(d,x)=>⟨[dA .bY (mf d x),dO (lz d x)],[],[]⟩)
def Zh6:HH:=hF Zk6 func6 [YY,Tf,ae7] a0 fun x hp hb=>by
 obtain⟨d,x⟩:=x
 have dG:=kS (x:=d) (hb _ m0)
 have j7:=dG.1
 have jb:=dG.2
 have gM:=oK (x:=x) (hb _ m1)
 have dN:=gM.1
 have fG:=gM.2.1
 have fF:=gM.2.2.1
 have eI:=gM.2.2.2.1
 have fE:=gM.2.2.2.2
 have bJ:cX d<=4294967295:=hp _ m0
 have eh:eH x<=4294967295:=hp _ m1
 clear hp hb
 apply vE (let q0:=Lf [DV.agg (ay x),VB false] [DV.agg (ay (mf d x)),VB (lz d x)];L4 (eH x)/\bif x.State !=1 then q0 else cX d<=4294967295/\L4 (dc x.S.aa)/\bif !instOk d x then q0 else bT x/\((5:Int)=(3:Int)\/(5:Int)=(5:Int))/\Lf [DV.agg (ay (eD x 5)),VB true] [DV.agg (ay (mf d x)),VB (lz d x)])
 dsimp only
 have hi:=rK x
 refine⟨by omega,i_ (fun h=>KY ?_) (fun h=>⟨bJ,by omega,bu (fun g=>KY ?_) (fun g=>⟨EU g,.inr rfl,?_⟩)⟩)⟩
 ·rw[lz,decide_eq_false h];rfl
 ·rw[lz,show instOk d x=false from g,wa]
 ·have e:lz d x=true:=by rw[lz,decide_eq_true h,show instOk d x=true from g];rfl
  exact LfX (by rw[mf,if_pos e]) e.symm
def rcs(l:List Value):List (AC UU):=l.map fun v=> .c (.lit v)
theorem Tm{a b:Int}(h:a=b):gH [DV.one (Cell.lit (Value.int .i64 a))]=gH [DV.one (Cell.lit (Value.int .i64 b))]:=by rw[h]
def bG(s:aG)(f:aO):aG×Int:=if¬np s.aa f=0 then(s,np s.aa f) else if 40<=s.aa.length\/s.Next=1000000 then(s,0) else(⟨s.aa++[⟨s.Next,f⟩],s.Next+1⟩,s.Next)
theorem jN{s:aG}(h:bm s=true):1<=s.Next/\s.Next<=1000000/\s.aa.length<=40/\(∀x∈s.aa,bw x.F=true/\1<=x.Id):=by
 simp only[bm,cH,decide_eq_true_eq] at h
 refine⟨h.1.1.1,h.1.1.2,h.1.2,xv (z:=bj) h.2 fun i hi=> ?_⟩
 simp only[yu,jD,cH,decide_eq_true_eq] at hi
 exact⟨hi.1.1.1.1,hi.1.1.1.2⟩
theorem Se{s:aG}(h:bm s=true)(f:aO):0<=np s.aa f:=by
 unfold np;split
 ·omega
 ·rename_i hn
  rcases il s.aa.length (fun k=>decide ((s.aa.getD k bj).F=f)) with⟨h1,_⟩|⟨i,h2,h1,_,_⟩
  ·exact absurd h1 hn
  ·have e:Ea s.aa f=(i:Int):=h1
   rw[e,Tp,dB,eW h2]
   have:=((jN h).2.2.2 _ (DU h2)).2
   show 0<=(s.aa[i]).Id
   omega
theorem zG{s:aG}(h:bm s=true){f:aO}(h0:(bG s f).2=0):(bG s f).1=s:=by
 unfold bG at h0⊢
 split
 ·rfl
 ·rename_i h1
  rw[if_neg h1] at h0
  split
  ·rfl
  ·rename_i h2
   rw[if_neg h2] at h0
   have:=(jN h).1
   simp only at h0;omega
def uY(x:aj)(s:aG):aj:=⟨s,x.aw,x.ae,x.ao,x.ai,x.State,x.bB⟩
def cF(x:aj)(f:aO):aj:=if(bG x.S f).2=0 then eD x 3 else uY x (bG x.S f).1
theorem JJ{d:aZ}{x:aj}(h:instOk d x=true):bm x.S=true:=by
 simp only[instOk,cH] at h
 exact h.1.1.1.1.1.1.1.1.2
def UZ:=cf (α:=aG×aO) (qC (qA .dD) (q1 (qA .cU))) [.ro,.ro] (fun _=>[]) (fun(s,f)=>⟨[dI (np s.aa f)],[],[]⟩)
def BV(s:aG)(f:aO):Int×T3×T6×Unit->Prop:=fun(i,b,g,_)=>b=(s.aa,s.Next,())/\g=(f.Kind,f.af,())/\0<=i/\i<=s.aa.length/\∀j:Nat,(j:Int)<i->decide ((s.aa.getD j bj).F=f)=false
def A5(s:aG)(f:aO):Int×T3×T6×Unit->Nat:=fun(i,b,g,_)=>s.aa.length-i.toNat
def agG:AX UZ:=fun(s,f)=>b_ [(2,aY [iI 10,.box 2 (2,1024) [.shr .aK,.lit (.int .i64)],.box 3 (3,1024) [.lit .str,.shr .bf]] (fun _=>BV s f) (A5 s f))]
def afo:HH:=hF UZ func155 [Tb] agG fun x hp hb=>by
 obtain⟨s,f⟩:=x
 have k_:=mK (x:=s) (hb _ m0)
 have gM:=oM (x:=f) (hb _ m1)
 have n7:=gM.1
 have lp:=gM.2
 clear hp hb
 apply vE (BV s f (0,(s.aa,s.Next,()),(f.Kind,f.af,()),())/\∀(y:Int×Tk×Y1×PUnit),let q0:=(wrap i64 (y.1+1),(y.2.1.1,y.2.1.2.1,()),(y.2.2.1.1,y.2.2.1.2.1,()),());BV s f y->bif decide (y.1<(s.aa.length:Int)) then 0<=y.1/\y.1.toNat<s.aa.length/\bif decide ((s.aa.getD y.1.toNat bj).F={Kind:=y.2.2.1.1,af:=y.2.2.1.2.1:aO}) then Li ((s.aa.getD y.1.toNat bj).Id) (np s.aa f) else BV s f q0/\A5 s f q0<A5 s f y else Li 0 (np s.aa f))
 dsimp only
 refine⟨⟨rfl,rfl,by omega,by omega,by intro j hj;omega⟩,?_⟩
 rintro⟨i,⟨b1,b2,⟨⟩⟩,⟨g1,g2,⟨⟩⟩,⟨⟩⟩ ⟨sK,hg,h1,h2,hR⟩
 cases sK
 cases hg
 simp only
 refine bc ?_ ?_<;>intro hc
 ·rw[wi]
  refine⟨by omega,by omega,bc (fun h=>l5 ?_) (fun h=>⟨⟨rfl,rfl,by omega,by omega,jX (p:=fun j=>decide ((s.aa.getD j bj).F=f)) h1 hR (decide_eq_false h)⟩,by simp only[A5];omega⟩)⟩
  have e:Ea s.aa f=(i.toNat:Int):=fD (i:=i.toNat) (by omega) (decide_eq_true h) (fun j hj=>hR j (by omega))
  rw[np,e,if_neg (by omega),Tp]
 ·refine l5 ?_
  have e:Ea s.aa f= -1:=jt (fun j hj=>hR j (by omega))
  rw[np,if_pos e]
def Qo:=R8 6 0 (α:=aG×aO) (qC (qX .dD) (q1 (qA .cU))) [.box true,.ro] (fun(s,f)=>[bm s=true,L4 f.af.length]) (fun(s,f)=>⟨[dI ((bG s f).2),dO (decide (¬(bG s f).2=0))],[],[dX .dD ((bG s f).1)]⟩)
def ag5:AX Qo:=fun(s,f)=>b_ []
def acy:=us [afo,Hy]
theorem acH:Holds EE (102,Qo):=by
 refine tV pM func102 Qo (by kernel_rfl) rfl acy (wl _) ag5 (fun x hp hb rest jn=> ?_)
 obtain⟨s,f⟩:=x
 have bJ:bm s=true:=hp _ m0
 have eh:f.af.length<=4294967296:=hp _ m1
 clear hp hb
 have jn:rest.length=6:=jn
 match rest,jn with
 |[r0,r1,r2,r3,r4,r5],_=>
 apply vE (let q0:=gH [DV.box [CL .aK s.aa,CI s.Next]]=gH [DV.box [CL .aK (bG s f).1.aa,CI ((bG s f).1.Next)]];let q1:=rcs [r0,r1,r2,r3,r4,r5];let q2:=decide ¬(bG s f).2=0;let q3:=gH [VI 0,VB false]=gH [VI ((bG s f).2),VB q2]/\q0;let q4:=bG s f;bif np s.aa f !=0 then List.length (α:=AC UU) q1=List.length [r0,r1,r2,r3,r4,r5]/\q1=List.map (fun(v:Value)=>(AC.c (Cell.lit v):AC UU)) [r0,r1,r2,r3,r4,r5]/\gH [VI (np s.aa f),VB true]=gH [VI (q4.2),VB q2]/\q0 else bif decide ((s.aa.length:Int)≥40) then List.length (α:=AC UU) q1=List.length [r0,r1,r2,r3,r4,r5]/\q1=List.map (fun(v:Value)=>(AC.c (Cell.lit v):AC UU)) [r0,r1,r2,r3,r4,r5]/\q3 else bif s.Next==1000000 then List.length (α:=AC UU) q1=List.length [r0,r1,r2,r3,r4,r5]/\q1=List.map (fun(v:Value)=>(AC.c (Cell.lit v):AC UU)) [r0,r1,r2,r3,r4,r5]/\q3 else L4 f.af.length/\s.aa.length+List.length [{Id:=s.Next,F:=f:bW}]<=4294967296/\List.length (α:=AC UU) q1=List.length [r0,r1,r2,r3,r4,r5]/\q1=List.map (fun(v:Value)=>(AC.c (Cell.lit v):AC UU)) [r0,r1,r2,r3,r4,r5]/\gH [VI (wrap i64 (wrap i64 (s.Next+1)-1)),VB true]=gH [VI (q4.2),VB q2]/\gH [DV.box [CL .aK (s.aa++[{Id:=s.Next,F:=f:bW}]),CI (wrap i64 (s.Next+1))]]=gH [DV.box [CL .aK q4.1.aa,CI (q4.1.Next)]])
 dsimp only
 obtain⟨s1,s2,s3,s4⟩:=jN bJ
 refine i_ (fun h=>⟨rfl,rfl,?_⟩) (fun h=>bc (fun h2=>⟨rfl,rfl,?_⟩) (fun h2=>ct (fun h3=>⟨rfl,rfl,?_⟩) (fun h3=> ?_)))
 ·have e:bG s f=(s,np s.aa f):=if_pos h
  rw[e,decide_eq_true h];exact⟨rfl,rfl⟩
 ·have e:bG s f=(s,0):=(if_neg (by omega)).trans (if_pos (.inl (by omega)))
  rw[e];exact⟨rfl,rfl⟩
 ·have e:bG s f=(s,0):=(if_neg (by omega)).trans (if_pos (.inr h3))
  rw[e];exact⟨rfl,rfl⟩
 ·have e:bG s f=(⟨s.aa++[⟨s.Next,f⟩],s.Next+1⟩,s.Next):=(if_neg (by omega)).trans (if_neg (by omega))
  rw[e,wi (n:=s.Next+1),wi,show s.Next+1-1=s.Next by omega,decide_eq_true (show¬(s.Next=0) by omega)]
  exact⟨eh,by simp only[ir,ig];omega,rfl,rfl,rfl,rfl⟩
def VK:HH:=⟨_,acH⟩
def Qn:=R8 6 0 (α:=aG×aO) (qC (qX .dD) (q1 (qA .cU))) [.box true,.ro] (fun(s,f)=>[bm s=true,L4 f.af.length]) (fun(s,f)=>⟨[dI ((bG s f).2)],[],[dX .dD ((bG s f).1)]⟩)
def agT:AX Qn:=fun(s,f)=>b_ []
def acx:=us [afg,xX]
theorem acF:Holds EE (132,Qn):=by
 refine tV pM func132 Qn (by kernel_rfl) rfl acx (wl _) agT (fun x hp hb rest jn=> ?_)
 obtain⟨s,f⟩:=x
 have bJ:bm s=true:=hp _ m0
 have eh:f.af.length<=4294967296:=hp _ m1
 clear hp hb
 have jn:rest.length=6:=jn
 match rest,jn with
 |[r0,r1,r2,r3,r4,r5],_=>
 apply vE (let q0:=gH [DV.box [CL .aK s.aa,CI s.Next]]=gH [DV.box [CL .aK (bG s f).1.aa,CI ((bG s f).1.Next)]];let q1:=rcs [r0,r1,r2,r3,r4,r5];let q2:=bG s f;let q3:=gH [VI 0]=gH [VI (q2.2)]/\q0;bif decide (np s.aa f>0) then List.length (α:=AC UU) q1=List.length [r0,r1,r2,r3,r4,r5]/\q1=List.map (fun(v:Value)=>(AC.c (Cell.lit v):AC UU)) [r0,r1,r2,r3,r4,r5]/\gH [VI (np s.aa f)]=gH [VI (q2.2)]/\q0 else bif decide ((s.aa.length:Int)≥40) then List.length (α:=AC UU) q1=List.length [r0,r1,r2,r3,r4,r5]/\q1=List.map (fun(v:Value)=>(AC.c (Cell.lit v):AC UU)) [r0,r1,r2,r3,r4,r5]/\q3 else bif decide (s.Next≥1000000) then List.length (α:=AC UU) q1=List.length [r0,r1,r2,r3,r4,r5]/\q1=List.map (fun(v:Value)=>(AC.c (Cell.lit v):AC UU)) [r0,r1,r2,r3,r4,r5]/\q3 else L4 f.af.length/\s.aa.length+List.length [{Id:=s.Next,F:=f:bW}]<=4294967296/\List.length (α:=AC UU) q1=List.length [r0,r1,r2,r3,r4,r5]/\q1=List.map (fun(v:Value)=>(AC.c (Cell.lit v):AC UU)) [r0,r1,r2,r3,r4,r5]/\gH [VI (wrap i64 (wrap i64 (s.Next+1)-1))]=gH [VI (q2.2)]/\gH [DV.box [CL .aK (s.aa++[{Id:=s.Next,F:=f:bW}]),CI (wrap i64 (s.Next+1))]]=gH [DV.box [CL .aK q2.1.aa,CI (q2.1.Next)]])
 dsimp only
 obtain⟨s1,s2,s3,s4⟩:=jN bJ
 have h0:=Se bJ f
 refine bc (fun h=>⟨rfl,rfl,?_⟩) (fun h=>bc (fun h2=>⟨rfl,rfl,?_⟩) (fun h2=>bc (fun h3=>⟨rfl,rfl,?_⟩) (fun h3=> ?_)))
 ·have e:bG s f=(s,np s.aa f):=if_pos (by omega)
  rw[e];exact⟨rfl,rfl⟩
 ·have e:bG s f=(s,0):=(if_neg (by omega)).trans (if_pos (.inl (by omega)))
  rw[e];exact⟨rfl,rfl⟩
 ·have e:bG s f=(s,0):=(if_neg (by omega)).trans (if_pos (.inr (by omega)))
  rw[e];exact⟨rfl,rfl⟩
 ·have e:bG s f=(⟨s.aa++[⟨s.Next,f⟩],s.Next+1⟩,s.Next):=(if_neg (by omega)).trans (if_neg (by omega))
  rw[e,wi (n:=s.Next+1),wi,show s.Next+1-1=s.Next by omega]
  exact⟨eh,by simp only[ir,ig];omega,rfl,rfl,rfl,rfl⟩
def afG:HH:=⟨_,acF⟩
def alb:=cf (α:=aj×aO) (qC (qX .bY) (q1 (qA .cU))) [.box true,.ro] (fun(x,f)=>[bT x,bm x.S=true,L4 f.af.length]) (fun(x,f)=>⟨[],[],[dX .bY (cF x f)]⟩)
def aen:HH:=hF alb func53 [VK,YU] a0 fun x hp hb=>by
 obtain⟨x,f⟩:=x
 have bJ:bT x:=hp _ m0
 have eh:bm x.S=true:=hp _ m1
 have Ef:f.af.length<=4294967296:=hp _ m2
 clear hp hb
 apply vE (let x1:={S:=(bG {aa:={τ:=Cd.aK,xs:=x.S.aa:cC UU}.xs,Next:=x.S.Next:aG} {Kind:=f.Kind,af:=f.af:aO}).1,aw:=x.aw,ae:=x.ae,ao:=x.ao,ai:=x.ai,State:=x.State,bB:=x.bB:aj};let x0:=eD x1 3;let q0:=bG {aa:={τ:=Cd.aK,xs:=x.S.aa:cC UU}.xs,Next:=x.S.Next:aG} {Kind:=f.Kind,af:=f.af:aO};bm x.S=true/\L4 f.af.length/\bif !decide ¬q0.2=0 then bT x1/\LM [] [] [DV.box (ay x0)] [DV.box (ay (cF x f))] else LM [] [] [DV.box [CL .aK q0.1.aa,CI (q0.1.Next),CL .av x.aw,CL .aq x.ae,CL .ax x.ao,CL .aI x.ai,CI x.State,CI x.bB]] [DV.box (ay (cF x f))])
 dsimp only
 have hS:(⟨x.S.aa,x.S.Next⟩:aG)=x.S:=rfl
 have hF:(⟨f.Kind,f.af⟩:aO)=f:=rfl
 simp only[hS,hF]
 refine⟨eh,Ef,bu (fun h=> ?_) (fun h=> ?_)⟩
 ·have h:(bG x.S f).2=0:=by simpa using h
  have hz:=zG eh h
  have e:cF x f=eD x 3:=if_pos h
  rw[e,hz]
  exact⟨bJ,by trivial,by trivial,rfl⟩
 ·have h:¬(bG x.S f).2=0:=by simpa using h
  have e:cF x f=uY x (bG x.S f).1:=if_neg h
  rw[e]
  exact⟨by trivial,by trivial,rfl⟩
def akS:=cf (α:=aj×aO) (qC (qX .bY) (q1 (qA .cU))) [.box true,.ro] (fun(x,f)=>[bT x,bm x.S=true,L4 f.af.length]) (fun(x,f)=>⟨[],[],[dX .bY (cF x f)]⟩)
def Qp:HH:=hF akS func81 [afG,Qr] a0 fun x hp hb=>by
 obtain⟨x,f⟩:=x
 have bJ:bT x:=hp _ m0
 have eh:bm x.S=true:=hp _ m1
 have Ef:f.af.length<=4294967296:=hp _ m2
 clear hp hb
 apply vE (let x1:={S:=(bG {aa:={τ:=Cd.aK,xs:=x.S.aa:cC UU}.xs,Next:=x.S.Next:aG} {Kind:=f.Kind,af:=f.af:aO}).1,aw:=x.aw,ae:=x.ae,ao:=x.ao,ai:=x.ai,State:=x.State,bB:=x.bB:aj};let x0:=eD x1 3;let q0:=bG {aa:={τ:=Cd.aK,xs:=x.S.aa:cC UU}.xs,Next:=x.S.Next:aG} {Kind:=f.Kind,af:=f.af:aO};bm x.S=true/\L4 f.af.length/\bif q0.2==0 then bT x1/\((3:Int)=(3:Int)\/(3:Int)=(5:Int))/\LM [] [] [DV.box (ay x0)] [DV.box (ay (cF x f))] else LM [] [] [DV.box [CL .aK q0.1.aa,CI (q0.1.Next),CL .av x.aw,CL .aq x.ae,CL .ax x.ao,CL .aI x.ai,CI x.State,CI x.bB]] [DV.box (ay (cF x f))])
 dsimp only
 have hS:(⟨x.S.aa,x.S.Next⟩:aG)=x.S:=rfl
 have hF:(⟨f.Kind,f.af⟩:aO)=f:=rfl
 simp only[hS,hF]
 refine⟨eh,Ef,ct (fun h=> ?_) (fun h=> ?_)⟩
 ·have hz:=zG eh h
  have e:cF x f=eD x 3:=if_pos h
  rw[e,hz]
  exact⟨bJ,.inl trivial,by trivial,by trivial,rfl⟩
 ·have e:cF x f=uY x (bG x.S f).1:=if_neg h
  rw[e]
  exact⟨by trivial,by trivial,rfl⟩
open Go.RowKit
def qi(n:Int):BA:=⟨(Go.Lib.itoa n).toArray⟩
def C3(l:List BA)(sep:BA):BA:=⟨(Go.Lib.join (l.map (fun s=>s.data.toList)) sep.data.toList).toArray⟩
theorem M2{w:World}{k:Nat}{os:Array Obj}:gq (fun _=>False) w (Go.Sort.grow (w.drewN k) os):=by
 refine⟨rfl,rfl,rfl,?_,fun i hi _=> ?_⟩
 ·show w.heap.size<=(w.heap++os).size
  simp
 ·show(w.heap++os)[i]? =_
  rw[Array.getElem?_append_left hi]
def aec:jw UU where
 α:=Int
 md:=[.ro]
 of:=o1 oI
 ds:=fun x=>[dI x]
 pre:=fun _=>[]
 mS:=fun n=>⟨[dS (qi n)],[],[]⟩
 law:=l1 lI
theorem acG:Holds EE (107,aec):=by
 refine⟨⟨_,func107,by kernel_rfl,by kernel_rfl⟩,?_⟩
 refine Et rfl fun(n:Int) _ w F vs ls hF zV mV=> ?_
 obtain⟨v,rfl,hv⟩:=Wt mV
 obtain⟨_,rfl,hl⟩:=hv.jI
 have hb: -9223372036854775808<=n/\n<=9223372036854775807:=hl.2
 refine⟨_,rfl,rfl,rfl,⟨rfl,?_⟩,(strconv_Itoa n hb.1 hb.2 w (Wl zV)).mono ?_⟩
 ·have:=Go.Lib.itoa_length_le n hb.1 hb.2
  show(ByteArray.mk _).size<=_
  simp only[qi,ByteArray.size,Q8]
  omega
 ·rintro e w' ⟨rfl,k,os,rfl⟩
  exact⟨rfl,M2⟩
def afW:HH:=⟨_,acG⟩
def ak5:jw UU where
 α:=(List BA)×BA
 md:=[.ro,.ro]
 of:=oC (oL .str) (o1 oS)
 ds:=fun x=>[dL .str x.1,dS x.2]
 pre:=fun(l,sep)=>[(C3 l sep).size<=140737488355328,l.length<=140737488355328]
 mS:=fun(l,sep)=>⟨[dS (C3 l sep)],[],[]⟩
 law:=lC (lL .str) (l1 lS)
theorem akI:Holds EE (63,ak5):=by
 refine⟨⟨_,func63,by kernel_rfl,by kernel_rfl⟩,?_⟩
 refine Et rfl fun(x:List BA×BA) hp w F vs ls hF zV mV=> ?_
 obtain⟨l,sep⟩:=x
 have bJ:(C3 l sep).size<=140737488355328:=hp _ gS
 have eh:l.length<=140737488355328:=hp _ (e8 _ gS)
 obtain⟨u,v,rfl,hu,hv⟩:=Ws mV
 obtain⟨_,rfl,hl⟩:=hv.jI
 refine⟨_,rfl,rfl,rfl,⟨rfl,by omega⟩,?_⟩
 rcases hu.inv with⟨h0,a,c,rfl⟩|⟨b,off,cap,vs,rfl,hb,hc,nN,hr⟩
 ·subst h0
  refine(strings_Join_none a c sep w).mono ?_
  rintro e w' ⟨rfl,rfl⟩
  exact⟨rfl,gq.refl _ _⟩
 ·refine(strings_Join b off cap l sep w (fun j x hj=> ?_) (hF b hb) eh hc (by simpa[C3,ByteArray.size] using bJ)).mono ?_
  ·have h1:=hr j x 0 (.lit (.string x)) hj rfl
   have sI:j<l.length:=by
    rcases nL j l.length with h|h
    ·exact h
    ·rw[nb h] at hj;cases hj
   have h2:=nN j (by show j<l.length*1;omega)
   have e:j*UU.wd .str+0=j:=by show j*1+0=j;omega
   rw[e] at h1
   rw[h2,(h1.jI).2.1]
  ·rintro e w' ⟨rfl,hbe⟩
   exact⟨rfl,gq.below hbe⟩
def alV:HH:=⟨_,akI⟩
def sG(l:List UInt8):BA:=⟨l.toArray⟩
theorem jY(a b:List UInt8):sG a++sG b=sG (a++b):=by
 apply ByteArray.ext
 simp[sG]
theorem vw(s:BA):sG (bs s)=s:=by
 apply ByteArray.ext
 simp[sG,bs]
theorem KA(l:List UInt8):bs (sG l)=l:=by simp[sG,bs]
theorem fv(l:List UInt8):(sG l).size=l.length:=by simp[sG,ByteArray.size]
theorem LN(s:BA)(l:List UInt8):s++sG l=sG (bs s++l):=by rw[<-jY,vw]
def ii(v:aU):List UInt8:=if v.K=1 then Go.Lib.itoa v.N else 39::(bs v.S++[39])
def sV(l:List aU):List UInt8:=40::(Go.Lib.join (l.map ii) [44]++[41])
def kL(v:aU):BA:=if bp v=true then sG (ii v) else ah
def aT(f:aO):BA:=if bw f=true then sG (bs f.Kind++sV f.af) else ah
theorem OV(l:List BA)(s:BA):C3 l s=sG (Go.Lib.join (l.map bs) (bs s)):=rfl
theorem om(n:Int):qi n=sG (Go.Lib.itoa n):=rfl
theorem EL(l:List (List UInt8))(x sep:List UInt8):Go.Lib.join (l++[x]) sep=if l=[] then x else Go.Lib.join l sep++(sep++x):=by
 cases l with
 |nil=>simp[Go.Lib.join_one]
 |cons y r=>
  rw[VR,Go.Lib.join_cons,Go.Lib.join_cons,if_neg (by simp)]
  simp[Go.Lib.joinTail]
theorem sW{v:aU}(h:bp v=true):(v.K=1/\-1000000000<=v.N/\v.N<=1000000000)\/(v.K=2/\v.S.size<=20):=by
 simp only[bp] at h
 by_cases h1:v.K=1
 ·simp[h1] at h;exact .inl ⟨h1,h.1.1,h.1.2⟩
 ·by_cases h2:v.K=2
  ·simp[h2] at h;exact .inr ⟨h2,h.1.2⟩
  ·simp[h1,h2] at h
theorem Cj{v:aU}(h:bp v=true):(ii v).length<=22:=by
 rcases sW h with⟨h1,h2,h3⟩|⟨h1,h2⟩
 ·have:=Go.Lib.itoa_length_le v.N (by omega) (by omega)
  simp only[ii,if_pos h1];omega
 ·simp only[ii,if_neg (show¬v.K=1 by omega),ir,na,nK,ig];omega
theorem wU:∀(l:List aU),l.all bp=true->(Go.Lib.join (l.map ii) [44]).length<=23*l.length
 |[],_=>by simp[Go.Lib.join_nil]
 |x::r,h=>by
  rw[sS,Go.Lib.join_cons]
  simp only[Nw,cH] at h
  have h1:=Cj h.1
  have h2:∀r:List aU,r.all bp=true->(Go.Lib.joinTail [44] (r.map ii)).length<=23*r.length:=by
   intro r
   induction r with
   |nil=>intro _;simp[Go.Lib.joinTail]
   |cons y r ih=>
    intro h
    simp only[Nw,cH] at h
    have h3:=Cj h.1
    have h4:=ih h.2
    simp only[Go.Lib.joinTail,sS,JD,na,ir,ig] at h4⊢
    omega
  have h3:=h2 r h.2
  simp only[na,ir]
  omega
theorem ju{f:aO}(h:bw f=true):f.af.length<=5/\f.af.all bp=true/\bq f.Kind=true/\f.Kind.size<=12:=by
 simp only[bw,cH,decide_eq_true_eq] at h
 have h2:=h.1.1
 simp only[bq,cH,decide_eq_true_eq] at h2
 exact⟨h.1.2,h.2,h.1.1,h2.1.1.2⟩
theorem Qb{α:Type}{p:α->Bool}{l:List α}(h:l.all p=true)(z:α){i:Int}(h0:0<=i)(hi:i<l.length):p (l.getD i.toNat z)=true:=
 sh.1 h _ (w8 l z h0 hi)
theorem Qa{α:Type}{p:α->Bool}{l:List α}(h:l.all p=true)(n:Nat):(l.take n).all p=true:=by
 rw[sh] at h⊢
 exact fun x hx=>h x (List.mem_of_mem_take hx)
theorem PX{n:Int}(h:10<=n):Go.Lib.itoa n=Go.Lib.itoa (n/10)++[UInt8.ofNat (48+n.toNat%10)]:=by
 simp only[Go.Lib.itoa]
 rw[if_neg (by omega),if_neg (by omega)]
 have e:(n/10).toNat=n.toNat/10:=by omega
 rw[e,Go.Lib.decDigits,dif_neg (by omega)]
theorem SU{n:Int}(h0:0<=n)(h:n<10):Go.Lib.itoa n=[UInt8.ofNat (48+n.toNat)]:=by
 simp only[Go.Lib.itoa]
 rw[if_neg (by omega),Go.Lib.decDigits_one (by omega)]
theorem SW{n:Int}(h:n<0):Go.Lib.itoa n=45::Go.Lib.itoa (-n):=by
 simp only[Go.Lib.itoa]
 rw[if_pos h,if_neg (by omega)]
 have e:(-n).toNat=n.natAbs:=by omega
 rw[e]
theorem PZ{n:Int}(h0:0<=n)(h:n<=255):strOfNums (List.map (fun(x:Int)=>x) [n])=sG [UInt8.ofNat n.toNat]:=by
 simp[strOfNums,sG]
theorem wrap_u8'{n:Int}(h:0<=n)(h':n<=255):IntKind.wrap .u8 n=n:=by
 simp only[IntKind.wrap]
 simp[IntKind.bits,IntKind.signed]
 omega
def aD(l:List ap)(key:BA):Int:=ja l.length fun k=>decide (aT (l.getD k aB).F=key)
def Jk:=cf (α:=Int) (q1 qI) [.ro] (fun n=>[-1000000000<=n/\n<=1000000000]) (fun n=>⟨[dS (qi n)],[],[]⟩)
def af7:AX Jk:=fun n=>b_ []
def xz:Int->Nat:=fun n=>if n<0 then n.natAbs+1 else n.natAbs
def acu(rn:Nat):List (FuncId×jw UU):=[(230,Jk.below xz rn)]
theorem acA:Holds EE (230,Jk):=by
 refine EP (k:=Jk) func230 (by kernel_rfl) xz (fun rn ih=> ?_)
 refine holds_of pM func230 (Jk.below xz (rn+1)) (by kernel_rfl) (acu rn) (all_cons ih all_nil) af7 (fun(n:Int) hp hb=> ?_)
 have O6:xz n<rn+1:=hp _ m0
 have akb:=zD (n:=n) (hb _ m0)
 have bJ: -1000000000<=n/\n<=1000000000:=hp _ m1
 clear hp hb
 apply vE (let x0:=wrap i64 (0-n);let x1:=strOfNums (List.map (fun(x:Cd.T Cd.byte)=>x) [IntKind.wrap IntKind.u8 (wrap i64 (48+Int.tmod n 10))]);let x2:=wrap i64 (Int.tdiv n 10);bif decide (n<0) then xz x0<rn/\((-1000000000)<=x0/\x0<=1000000000)/\ByteArray.size {data:= #[45]:BA}+(qi x0).size<=4611686018427387904/\Lf [VS ({data:= #[45]:BA}++qi x0)] [VS (qi n)] else bif decide (n<10) then Lf [VS (strOfNums (List.map (fun(x:Cd.T Cd.byte)=>x) [IntKind.wrap IntKind.u8 (wrap i64 (48+n))]))] [VS (qi n)] else(10:Int)≠(0:Int)/\xz x2<rn/\((-1000000000)<=x2/\x2<=1000000000)/\(10:Int)≠(0:Int)/\(qi x2).size+x1.size<=4611686018427387904/\Lf [VS (qi x2++x1)] [VS (qi n)])
 dsimp only
 simp only[xz] at O6
 refine ab (fun h=> ?_) (fun h=>ab (fun h'=>zd ?_) (fun h'=> ?_))
 ·have h:=yT h
  rw[if_pos h] at O6
  rw[wi]
  have e:(0:Int)-n= -n:=by omega
  rw[e]
  have hl:=Go.Lib.itoa_length_le (-n) (by omega) (by omega)
  refine⟨?_,⟨by omega,by omega⟩,?_,zd ?_⟩
  ·simp only[xz];rw[if_neg (by omega)];omega
  ·rw[om,fv];show 1+_<=_;omega
  ·rw[om,om,SW h];exact jY [45] _
 ·have h:=yF h
  have h':=yT h'
  rw[wi,wrap_u8' (by omega) (by omega),om,SU (by omega) h']
  refine(PZ (n:=48+n) (by omega) (by omega)).trans ?_
  have e:(48+n).toNat=48+n.toNat:=by omega
  rw[e]
 ·have h:=yF h
  have h':=yF h'
  rw[if_neg h] at O6
  have t1:Int.tdiv n 10=n/10:=Int.tdiv_eq_ediv_of_nonneg (by omega)
  have t2:Int.tmod n 10=n%10:=zbp (by omega)
  rw[t1,t2,wi,wi,wrap_u8' (by omega) (by omega)]
  have hl:=Go.Lib.itoa_length_le (n/10) (by omega) (by omega)
  have hc:strOfNums (List.map (fun(x:Cd.T Cd.byte)=>x) [(48:Int)+n%10])=sG [UInt8.ofNat (48+n%10).toNat]:=PZ (n:=48+n%10) (by omega) (by omega)
  rw[hc]
  refine⟨by omega,?_,⟨by omega,by omega⟩,by omega,?_,zd ?_⟩
  ·simp only[xz];rw[if_neg (by omega)];omega
  ·rw[om,fv,fv];simp only[ir,ig];omega
  ·rw[om,om,PX (n:=n) (by omega),jY]
   have e:(48+n%10).toNat=48+n.toNat%10:=by omega
   rw[e]
def aeH:HH:=⟨_,acA⟩
def adt:=cf (α:=aU) (q1 (qA .bf)) [.ro] (fun v=>[bp v=true]) (fun v=>⟨[dS (sG (ii v))],[],[]⟩)
def aeP:HH:=hF adt func215 [aeH] a0 fun(v:aU) hp hb=>by
 have bJ:bp v=true:=hp _ m0
 clear hp hb
 apply vE (let x0:={data:= #[39]:BA};bif v.K==1 then((-1000000000)<=v.N/\v.N<=1000000000)/\Lf [VS (qi v.N)] [VS (sG (ii v))] else x0.size+v.S.size<=4611686018427387904/\(x0++v.S).size+x0.size<=4611686018427387904/\Lf [VS (x0++v.S++x0)] [VS (sG (ii v))])
 dsimp only
 rcases sW bJ with⟨h1,h2,h3⟩|⟨h1,h2⟩
 ·refine ab (fun h=>⟨⟨h2,h3⟩,zd ?_⟩) (fun h=>absurd h (by simp[h1]))
  simp only[ii,if_pos h1];rfl
 ·refine ab (fun h=>absurd h (by simp[h1])) (fun h=> ?_)
  have e:({data:= #[39]:BA}++v.S)=sG (39::bs v.S):=by
   conv=>lhs;rw[<-vw v.S]
   exact jY [39] _
  rw[e]
  refine⟨?_,?_,zd ?_⟩
  ·show 1+_<=_;omega
  ·rw[fv];show _+1<=_;simp only[ir,nK];omega
  ·simp only[ii,if_neg (show¬v.K=1 by omega)];exact jY (39::bs v.S) [39]
def UH:=cf (α:=List aU) (q1 (qL .bf)) [.ro] (fun l=>[l.length<=5,l.all bp=true]) (fun l=>⟨[dS (sG (sV l))],[],[]⟩)
def xK(l:List aU):BA×Int×Unit->Prop:=fun(s,i,_)=>0<=i/\i<=l.length/\s=sG (40::Go.Lib.join ((l.take i.toNat).map ii) [44])
def rR(l:List aU):BA×Int×Unit->Nat:=fun(s,i,_)=>l.length-i.toNat
def agp:AX UH:=fun l=>b_ [(3,aY [.slot 3 (3,1024) (.lit .str),iI 4] (fun _=>xK l) (rR l))]
def ae5:HH:=hF UH func192 [aeP] agp fun(l:List aU) hp hb=>by
 have jB:L9 l.length:=kc (hb _ m0)
 have bJ:l.length<=5:=hp _ m0
 have eh:l.all bp=true:=hp _ m1
 clear hp hb
 apply vE (xK l ({data:= #[40]:BA},0,())/\∀(y:BA×Int×PUnit),let x2:=y.2.1.toNat;let x3:=y.1++{data:= #[44]:BA};let x1:=l.getD x2 du;let x0:=sG (ii x1);let q0:=(y.1++x0,wrap i64 (y.2.1+1),());let q1:=(x3++x0,wrap i64 (y.2.1+1),());xK l y->bif decide (y.2.1<(l.length:Int)) then bif decide (y.2.1>0) then y.1.size+ByteArray.size {data:= #[44]:BA}<=4611686018427387904/\0<=y.2.1/\x2<l.length/\bp x1=true/\x3.size+x0.size<=4611686018427387904/\xK l q1/\rR l q1<rR l y else 0<=y.2.1/\x2<l.length/\bp x1=true/\y.1.size+x0.size<=4611686018427387904/\xK l q0/\rR l q0<rR l y else y.1.size+ByteArray.size {data:= #[41]:BA}<=4611686018427387904/\Lf [VS (y.1++{data:= #[41]:BA})] [VS (sG (sV l))])
 dsimp only
 refine⟨⟨by omega,by omega,rfl⟩,?_⟩
 rintro⟨s,i,⟨⟩⟩ ⟨h1,h2,rfl⟩
 simp only
 have hj:=wU (l.take i.toNat) (Qa eh _)
 rw[nE] at hj
 refine ab ?_ ?_<;>intro hc
 ·have hc:i<l.length:=yT hc
  have hv:=Qb eh du h1 hc
  have Ec:=Cj hv
  rw[wi]
  have ht:(l.take (i+1).toNat).map ii=(l.take i.toNat).map ii++[ii (l.getD i.toNat du)]:=by rw[<-db l du h1 hc,HC];rfl
  refine ab ?_ ?_<;>intro h
  ·have h:=yT h
   have e:(sG (40::Go.Lib.join ((l.take i.toNat).map ii) [44])++{data:= #[44]:BA})=sG (40::(Go.Lib.join ((l.take i.toNat).map ii) [44]++[44])):=jY _ [44]
   rw[e,jY]
   have hn:¬(l.take i.toNat).map ii=[]:=by
    intro h0
    have:=congrArg List.length h0
    rw[uW,nE,ig] at this
    omega
   refine⟨?_,h1,by omega,hv,?_,⟨by omega,by omega,?_⟩,by simp only[rR];omega⟩
   ·rw[fv];show _+1<=_;simp only[ir];omega
   ·rw[fv,fv];simp only[ir,na,ig];omega
   ·rw[ht,EL,if_neg hn];simp
  ·have h:=yF h
   have h0:i=0:=by omega
   subst h0
   rw[jY]
   refine⟨by omega,by omega,hv,?_,⟨by omega,by omega,?_⟩,by simp only[rR];omega⟩
   ·rw[fv,fv];simp only[ir];omega
   ·rw[ht,EL];simp[Go.Lib.join_nil]
 ·have hc:¬i<l.length:=yF hc
  rw[cA l (by omega)]
  refine⟨?_,zd ?_⟩
  ·rw[fv];show _+1<=_;simp only[ir];rw[cA l (by omega)] at hj;omega
  ·exact jY _ [41]
def adZ:=cf (α:=aO) (q1 (qA .cU)) [.ro] (fun _=>[]) (fun f=>⟨[dS (aT f)],[],[]⟩)
def afw:HH:=hF adZ func144 [Jq,ae5] a0 fun(f:aO) hp hb=>by
 clear hp hb
 apply vE (bif !bw f then Lf [VS ({data:= #[]:BA})] [VS (aT f)] else f.af.length<=5/\f.af.all bp=true/\f.Kind.size+(sG (sV f.af)).size<=4611686018427387904/\Lf [VS (f.Kind++sG (sV f.af))] [VS (aT f)])
 refine ab (fun h=>zd ?_) (fun h=> ?_)
 ·have h:bw f=false:=by simpa using h
  simp only[aT,h];rfl
 ·have h:bw f=true:=by simpa using h
  obtain⟨h1,h2,h3,h4⟩:=ju h
  have hj:=wU f.af h2
  refine⟨h1,h2,?_,zd ?_⟩
  ·rw[fv];simp only[sV,ir,na,ig];omega
  ·simp only[aT,h,if_true];exact LN _ _
def akO:=cf (α:=aO) (q1 (qA .cU)) [.ro] (fun _=>[]) (fun f=>⟨[dS (aT f)],[],[]⟩)
def S_:HH:=hF akO func88 [afw] a0 fun(f:aO) hp hb=>by
 clear hp hb
 apply vE (Lf [VS (aT f)] [VS (aT f)])
 exact aV _
def ak6:=cf (α:=aU) (q1 (qA .bf)) [.ro] (fun _=>[]) (fun v=>⟨[dS (kL v)],[],[]⟩)
def alW:HH:=hF ak6 func62 [Jr,afW] a0 fun(v:aU) hp hb=>by
 clear hp hb
 apply vE (let x0:={data:= #[39]:BA};bif !bp v then Lf [VS ({data:= #[]:BA})] [VS (kL v)] else bif v.K==1 then Lf [VS (qi v.N)] [VS (kL v)] else x0.size+v.S.size<=4611686018427387904/\(x0++v.S).size+x0.size<=4611686018427387904/\Lf [VS (x0++v.S++x0)] [VS (kL v)])
 dsimp only
 refine ab (fun h=>zd ?_) (fun h=> ?_)
 ·have h:bp v=false:=by simpa using h
  simp only[kL,h];rfl
 ·have h:bp v=true:=by simpa using h
  have ev:kL v=sG (ii v):=by simp only[kL,h,if_true]
  rw[ev]
  rcases sW h with⟨h1,h2,h3⟩|⟨h1,h2⟩
  ·refine ab (fun h=>zd ?_) (fun h=>absurd h (by simp[h1]))
   simp only[ii,if_pos h1];rfl
  ·refine ab (fun h=>absurd h (by simp[h1])) (fun h=> ?_)
   have e:({data:= #[39]:BA}++v.S)=sG (39::bs v.S):=by
    conv=>lhs;rw[<-vw v.S]
    exact jY [39] _
   rw[e]
   refine⟨?_,?_,zd ?_⟩
   ·show 1+_<=_;omega
   ·rw[fv];show _+1<=_;simp only[ir,nK];omega
   ·simp only[ii,if_neg (show¬v.K=1 by omega)];exact jY (39::bs v.S) [39]
def adg:=cf (α:=aO) (q1 (qA .cU)) [.ro] (fun _=>[]) (fun f=>⟨[dS (aT f)],[],[]⟩)
def Ht(f:aO):List BA×Int×T6×Unit->Prop:=fun(out,i,fb,_)=>fb=(f.Kind,f.af,())/\bw f=true/\0<=i/\i<=f.af.length/\out=(f.af.take i.toNat).map kL
def G3(f:aO):List BA×Int×T6×Unit->Nat:=fun(out,i,fb,_)=>f.af.length-i.toNat
def amP:AX adg:=fun f=>b_ [(5,aY [iO 3 .str,iI 12,.box 1 (1,1024) [.lit .str,.shr .bf]] (fun _=>Ht f) (G3 f))]
def amb:HH:=hF adg func25 [KH,alW,alV] amP fun(f:aO) hp hb=>by
 clear hp hb
 apply vE (bif !bw f then Lf [VS ({data:= #[]:BA})] [VS (aT f)] else Ht f ([],0,(f.Kind,f.af,()),())/\∀(y:List BA×Int×Y1×PUnit),let x1:=y.2.2.1.1++{data:= #[40]:BA};let x3:=y.2.1.toNat;let x5:=C3 y.1 {data:= #[44]:BA};let x0:=x1++x5;let x2:=[kL (f.af.getD x3 du)];let x4:=x5.size;let q0:=(y.1++x2,wrap i64 (y.2.1+1),(y.2.2.1.1,y.2.2.1.2.1,()),());Ht f y->bif decide (y.2.1<(f.af.length:Int)) then 0<=y.2.1/\x3<f.af.length/\L4 (y.1.length+x2.length)/\Ht f q0/\G3 f q0<G3 f y else y.2.2.1.1.size+ByteArray.size {data:= #[40]:BA}<=4611686018427387904/\x4<=140737488355328/\y.1.length<=140737488355328/\x1.size+x4<=4611686018427387904/\x0.size+ByteArray.size {data:= #[41]:BA}<=4611686018427387904/\Lf [VS (x0++{data:= #[41]:BA})] [VS (aT f)])
 dsimp only
 refine ab (fun h=>zd ?_) (fun h=> ?_)
 ·have h:bw f=false:=by simpa using h
  simp only[aT,h];rfl
 have h:bw f=true:=by simpa using h
 refine⟨⟨rfl,h,by omega,by omega,rfl⟩,?_⟩
 rintro⟨out,i,fb,⟨⟩⟩ ⟨rfl,_,h1,h2,rfl⟩
 obtain⟨g1,g2,g3,g4⟩:=ju h
 simp only
 refine ab ?_ ?_<;>intro hc
 ·have hc:i<f.af.length:=yT hc
  rw[wi]
  refine⟨h1,by omega,by simp;omega,⟨rfl,h,by omega,by omega,?_⟩,by simp only[G3];omega⟩
  rw[<-db f.af du h1 hc,HC];rfl
 ·have hc:¬i<f.af.length:=yF hc
  rw[cA f.af (by omega)]
  have em:f.af.map kL=(f.af.map ii).map sG:=by
   rw[List.map_map]
   exact LW fun v hv=>by
    have:=sh.1 g2 v hv
    simp only[kL,this,if_true,Function.comp]
  have ej:C3 (f.af.map kL) {data:= #[44]:BA}=sG (Go.Lib.join (f.af.map ii) [44]):=by
   rw[em,OV,List.map_map]
   have:(bs∘sG)=id:=funext fun l=>KA l
   rw[this,List.map_id]
   rfl
  rw[ej]
  have hj:=wU f.af g2
  have e1:(f.Kind++{data:= #[40]:BA})=sG (bs f.Kind++[40]):=LN _ [40]
  rw[e1,jY]
  refine⟨?_,?_,by simp;omega,?_,?_,zd ?_⟩
  ·show _+1<=_;omega
  ·rw[fv];omega
  ·rw[fv,fv];simp only[na,nK,ir,ig];omega
  ·rw[fv];show _+1<=_;simp only[na,nK,ir,ig];omega
  ·simp only[aT,h,if_true]
   refine(jY _ [41]).trans ?_
   simp[sV]
def alv:=cf (α:=aO) (q1 (qA .cU)) [.ro] (fun _=>[]) (fun f=>⟨[dS (aT f)],[],[]⟩)
def Tg:HH:=hF alv func12 [amb] a0 fun(f:aO) hp hb=>by
 clear hp hb
 apply vE (Lf [VS (aT f)] [VS (aT f)])
 exact aV _
def U6:=cf (α:=(List ap)×BA) (qC (qL .aq) (q1 qS)) [.ro,.ro] (fun _=>[]) (fun(l,key)=>⟨[dI (aD l key)],[],[]⟩)
def B3(l:List ap)(key:BA):Int×Unit->Prop:=fun(i,_)=>0<=i/\i<=l.length/\∀j:Nat,(j:Int)<i->decide (aT (l.getD j aB).F=key)=false
def A'(l:List ap)(key:BA):Int×Unit->Nat:=fun(i,_)=>l.length-i.toNat
def agN:AX U6:=fun(l,key)=>b_ [(2,aY [iI 5] (fun _=>B3 l key) (A' l key))]
def QA:HH:=hF U6 func140 [S_] agN fun x hp hb=>by
 obtain⟨l,key⟩:=x
 have jB:L9 l.length:=kc (hb _ m0)
 have XN:=KB (s:=key) (hb _ m1)
 clear hp hb
 apply vE (B3 l key (0,())/\∀(y:Int×PUnit),let q0:=(wrap i64 (y.1+1),());B3 l key y->bif decide (y.1<(l.length:Int)) then 0<=y.1/\y.1.toNat<l.length/\bif (aT (l.getD y.1.toNat aB).F).toList==key.toList then Li y.1 (aD l key) else B3 l key q0/\A' l key q0<A' l key y else Li (-1) (aD l key))
 dsimp only
 refine⟨⟨by omega,by omega,by intro j hj;omega⟩,?_⟩
 rintro⟨i,⟨⟩⟩ ⟨h1,h2,hR⟩
 simp only
 refine ab ?_ ?_<;>intro hc
 ·have hc:i<l.length:=yT hc
  simp(disch:=omega) only[wrap_i64,aQ]
  refine⟨by omega,by omega,ab (fun h=>l5 ?_) (fun h=>⟨⟨by omega,by omega,jX (p:=fun j=>decide (aT (l.getD j aB).F=key)) h1 hR h⟩,by simp only[A'];omega⟩)⟩
  rw[aD,fD (i:=i.toNat) (by omega) h (fun j hj=>hR j (by omega))]
  omega
 ·have hc:¬i<l.length:=yF hc
  exact l5 (jt (fun j hj=>hR j (by omega))).symm
def zM:jw UU where
 α:=ap×BA
 md:=[.ro,.ro]
 of:=fun|[.agg [.lit (.string a0),.sl .bf a1,.lit (.string a2),.lit (.int .i64 a3),.lit (.int .i64 a4),.lit (.int .i64 a5),.lit (.int .i64 a6),.lit (.int .i64 a7),.lit (.string a8)],.ptr [.lit (.string a9)]]=>some (⟨⟨a0,a1⟩,a2,a3,a4,a5,⟨a6,a7,a8⟩⟩,a9)|_=>none
 ds:=fun(t,key)=>[.agg [.lit (.string t.F.Kind),.sl .bf t.F.af,.lit (.string t.aX),.lit (.int .i64 t.State),.lit (.int .i64 t.bi),.lit (.int .i64 t.iy),.lit (.int .i64 t.V.K),.lit (.int .i64 t.V.N),.lit (.string t.V.S)],.ptr [.lit (.string key)]]
 pre:=fun(t,key)=>[]
 mS:=fun(t,key)=>⟨[.one (.lit (.bool (decide (aT t.F=key))))],[],[]⟩
 law:=by intro l x h;(try simp only at h);split at h<;>cases h;rfl
def afY:HH:=hF zM func104 [Tg] a0 fun x hp hb=>by
 obtain⟨t,key⟩:=x
 have SA:gz (U:=UU) (.agg [.lit (.string t.F.Kind),.sl .bf t.F.af,.lit (.string t.aX),.lit (.int .i64 t.State),.lit (.int .i64 t.bi),.lit (.int .i64 t.iy),.lit (.int .i64 t.V.K),.lit (.int .i64 t.V.N),.lit (.string t.V.S)]):=hb _ (gS)
 have TW:L9 t.F.Kind.size:=Bd.str (SA _ (by simp))
 have QY:L9 t.F.af.length:=Bd.len (U:=UU) (τ:=.bf) (xs:=t.F.af) (SA _ (by simp))
 have Zl:L9 t.aX.size:=Bd.str (SA _ (by simp))
 have abO:L9 t.V.S.size:=Bd.str (SA _ (by simp))
 have akr:gz (U:=UU) (.ptr [.lit (.string key)]):=hb _ (e8 _ (gS))
 clear hp hb
 apply vE (Lb ((aT t.F).toList==key.toList) (decide (aT t.F=key)))
 rw[aQ]
 exact aV _
def ak_:=cf (α:=(List ap)×BA) (qC (qL .aq) (q1 qS)) [.ro,.ro] (fun _=>[]) (fun(l,key)=>⟨[dI (aD l key)],[],[]⟩)
def YV:HH:=hF ak_ func56 [Ta,afY] a0 fun x hp hb=>by
 obtain⟨l,key⟩:=x
 clear hp hb
 apply vE ((∀(j:Nat),j<l.length->eN zM [DV.ptr [CS key]] [bV (l.getD j aB)]=some (Value.bool (bC (eN zM [DV.ptr [CS key]] [bV (l.getD j aB)]))))/\Li (ja (l.length) fun(j:Nat)=>bC (eN zM [DV.ptr [CS key]] [bV (l.getD j aB)])) (aD l key))
 have hc:∀x:ap,eN zM [.ptr [.lit (.string key)]] [bV x]=some (.bool (decide (aT x.F=key))):=fun x=>qq (x:=(x,key)) rfl rfl rfl rfl (by simp[zM])
 refine⟨fun j hj=> ?_,l5 ?_⟩
 ·show eN zM [.ptr [.lit (.string key)]] [bV (l.getD j aB)]=_
  rw[hc];rfl
 ·exact rc fun j hj=>by
   show bC (eN zM [.ptr [.lit (.string key)]] [bV (l.getD j aB)])=_
   rw[hc];rfl
def lT(aW:Int):Nat->Int->Int
 |0,n=>n
 |k+1,n=>if n<aW then lT aW k (2*n) else n
def gp(base k aW:Int):Int:=if 1<=base/\base<=100000/\1<=aW/\aW<=100000/\0<=k then(if lT aW k.toNat base<aW then lT aW k.toNat base else aW) else 0
theorem P'{aW n:Int}(h:¬n<aW):∀k:Nat,lT aW k n=n
 |0=>rfl
 |k+1=>by rw[lT,if_neg h]
theorem Dv{aW n k i:Int}(h0:0<=i)(h:i<k)(hn:n<aW):lT aW (k-i).toNat n=lT aW (k-(i+1)).toNat (2*n):=by
 obtain⟨m,hm⟩:∃m:Nat,(k-i).toNat=m+1:=⟨(k-i).toNat-1,by omega⟩
 have h2:(k-(i+1)).toNat=m:=by omega
 rw[hm,h2,lT,if_pos hn]
theorem Fl{aW n k i:Int}(h:¬(i<k/\n<aW)):lT aW (k-i).toNat n=n:=by
 by_cases hk:i<k
 ·exact P' (fun hn=>h ⟨hk,hn⟩) _
 ·rw[show(k-i).toNat=0 by omega];rfl
def UJ:=cf (α:=Int×Int×Int) (qC qI (qC qI (q1 qI))) [.ro,.ro,.ro] (fun _=>[]) (fun(base,k,aW)=>⟨[dI (gp base k aW)],[],[]⟩)
def BJ(base:Int)(k:Int)(aW:Int):Int×Int×Unit->Prop:=fun(n,i,_)=>0<=i/\i<=k/\1<=n/\n<=200000/\lT aW (k-i).toNat n=lT aW k.toNat base
def AS(base:Int)(k:Int)(aW:Int):Int×Int×Unit->Nat:=fun(n,i,_)=>(k-i).toNat
def agr:AX UJ:=fun(base,k,aW)=>b_ [(5,aY [iI 7,iI 8] (fun _=>BJ base k aW) (AS base k aW))]
def ae8:HH:=hF UJ func187 [uV] agr fun x hp hb=>by
 obtain⟨base,k,aW⟩:=x
 have Sr:=zD (n:=base) (hb _ m0)
 have abP:=zD (n:=k) (hb _ m1)
 have Al:=zD (n:=aW) (hb _ m2)
 clear hp hb
 apply vE (let q0:=gp base k aW;bif !decide (1<=base/\base<=100000) then Li 0 q0 else bif !decide (1<=aW/\aW<=100000) then Li 0 q0 else bif decide (k<0) then Li 0 q0 else BJ base k aW (base,0,())/\∀(y:Int×Int×PUnit),let q1:=(wrap i64 (2*y.1),wrap i64 (y.2.1+1),());let q2:=bif decide (y.1>aW) then Li aW q0 else Li y.1 q0;BJ base k aW y->bif decide (y.2.1<k) then bif decide (y.1<aW) then BJ base k aW q1/\AS base k aW q1<AS base k aW y else q2 else q2)
 dsimp only
 have hN:¬(1<=base/\base<=100000/\1<=aW/\aW<=100000/\0<=k)->Lf [.one (.lit (.int .i64 0))] [.one (.lit (.int .i64 (gp base k aW)))]:=fun h=>l5 (by rw[gp,if_neg h])
 refine ab (fun h=>hN ?_) (fun h=>ab (fun h2=>hN ?_) (fun h2=>ab (fun h3=>hN ?_) (fun h3=> ?_)))
 ·simp at h;omega
 ·simp at h2;omega
 ·simp at h3;omega
 have hg:1<=base/\base<=100000/\1<=aW/\aW<=100000/\0<=k:=by simp at h h2 h3;omega
 have hE:∀{n i:Int},lT aW (k-i).toNat n=lT aW k.toNat base->¬(i<k/\n<aW)->(if n<aW then n else aW)=gp base k aW:=fun hR hn=>by rw[gp,if_pos hg,<-hR,Fl hn]
 refine⟨⟨by omega,by omega,by omega,by omega,by rw[Int.sub_zero]⟩,?_⟩
 rintro⟨n,i,⟨⟩⟩ ⟨h4,h5,h6,h7,hR⟩
 simp only
 refine ab (fun hc=>ab (fun hd=> ?_) (fun hd=> ?_)) (fun hc=> ?_)
 ·have hc:=yT hc;have hd:=yT hd
  rw[wi,wi]
  refine⟨⟨by omega,by omega,by omega,by omega,?_⟩,by simp only[AS];omega⟩
  rw[<-Dv h4 hc hd];exact hR
 ·have hd:=yF hd
  have e:=hE hR (fun hh=>hd hh.2)
  refine ab (fun hm=>l5 ?_) (fun hm=>l5 ?_)
  ·have hm:=yT hm;rw[<-e];split<;>omega
  ·have hm:=yF hm;rw[<-e];split<;>omega
 ·have hc:=yF hc
  have e:=hE hR (fun hh=>hc hh.1)
  refine ab (fun hm=>l5 ?_) (fun hm=>l5 ?_)
  ·have hm:=yT hm;rw[<-e];split<;>omega
  ·have hm:=yF hm;rw[<-e];split<;>omega
def Vk:=cf (α:=Int×Int×Int) (qC qI (qC qI (q1 qI))) [.ro,.ro,.ro] (fun _=>[]) (fun(base,k,aW)=>⟨[dI (gp base k aW)],[],[]⟩)
def Cb(base:Int)(k:Int)(aW:Int):Int×Int×Unit->Prop:=fun(n,i,_)=>0<=i/\i<=k/\1<=n/\n<=200000/\lT aW (k-i).toNat n=lT aW k.toNat base
def Bj(base:Int)(k:Int)(aW:Int):Int×Int×Unit->Nat:=fun(n,i,_)=>(k-i).toNat
def ag4:AX Vk:=fun(base,k,aW)=>b_ [(4,aY [iI 0,iI 7] (fun _=>Cb base k aW) (Bj base k aW))]
def afZ:HH:=hF Vk func103 [y_] ag4 fun x hp hb=>by
 obtain⟨base,k,aW⟩:=x
 have Sr:=zD (n:=base) (hb _ m0)
 have abP:=zD (n:=k) (hb _ m1)
 have Al:=zD (n:=aW) (hb _ m2)
 clear hp hb
 apply vE (let q0:=gp base k aW;bif !decide (1<=base/\base<=100000) then Li 0 q0 else bif !decide (1<=aW/\aW<=100000) then Li 0 q0 else bif decide (k<0) then Li 0 q0 else Cb base k aW (base,0,())/\∀(y:Int×Int×PUnit),let q1:=(wrap i64 (y.1*2),wrap i64 (y.2.1+1),());let q2:=Li (if aW<y.1 then aW else y.1) q0;Cb base k aW y->bif decide (y.2.1<k) then bif decide (y.1<aW) then Cb base k aW q1/\Bj base k aW q1<Bj base k aW y else q2 else q2)
 dsimp only
 have hN:¬(1<=base/\base<=100000/\1<=aW/\aW<=100000/\0<=k)->Lf [.one (.lit (.int .i64 0))] [.one (.lit (.int .i64 (gp base k aW)))]:=fun h=>l5 (by rw[gp,if_neg h])
 refine ab (fun h=>hN ?_) (fun h=>ab (fun h2=>hN ?_) (fun h2=>ab (fun h3=>hN ?_) (fun h3=> ?_)))
 ·simp at h;omega
 ·simp at h2;omega
 ·simp at h3;omega
 have hg:1<=base/\base<=100000/\1<=aW/\aW<=100000/\0<=k:=by simp at h h2 h3;omega
 have hE:∀{n i:Int},lT aW (k-i).toNat n=lT aW k.toNat base->¬(i<k/\n<aW)->(if n<aW then n else aW)=gp base k aW:=fun hR hn=>by rw[gp,if_pos hg,<-hR,Fl hn]
 refine⟨⟨by omega,by omega,by omega,by omega,by rw[Int.sub_zero]⟩,?_⟩
 rintro⟨n,i,⟨⟩⟩ ⟨h4,h5,h6,h7,hR⟩
 simp only
 refine ab (fun hc=>ab (fun hd=> ?_) (fun hd=> ?_)) (fun hc=> ?_)
 ·have hc:=yT hc;have hd:=yT hd
  rw[wi,wi]
  refine⟨⟨by omega,by omega,by omega,by omega,?_⟩,by simp only[Bj];omega⟩
  rw[Int.mul_comm,<-Dv h4 hc hd];exact hR
 ·have hd:=yF hd
  have e:=hE hR (fun hh=>hd hh.2)
  refine l5 ?_
  rw[<-e];split<;>(try split)<;>omega
 ·have hc:=yF hc
  have e:=hE hR (fun hh=>hc hh.1)
  refine l5 ?_
  rw[<-e];split<;>(try split)<;>omega
def fW(l:List br)(t:ap):Bool:=cS l&&bw t.F&&bq t.aX&& !ru l (aT t.F)&& !decide (30<=l.length)
def bZ(l:List br)(t:ap):List br×Bool:=if fW l t=true then(l++[⟨aT t.F,⟨t.aX,t.F.af⟩⟩],true) else(l,false)
def mT(ok:Bool)(v:aU)(t:ap):ap:=⟨t.F,t.aX,if ok=true then 3 else 4,t.bi,t.iy,v⟩
def aH(l:List ap)(key:BA)(ok:Bool)(v:aU):List ap×Int:=
 if aS l=true/\bp v=true/\0<=aD l key/\(l.getD (aD l key).toNat aB).State≠1 then
  (if(l.getD (aD l key).toNat aB).State=2 then(l.modify (aD l key).toNat (mT ok v),1) else(l,2)) else(l,3)
def due(now:Int)(t:ap):Bool:=kw t&&decide (t.iy<=now)
def dh(now:Int)(t:ap):ap:=if due now t=true then(if t.bi=4 then⟨t.F,t.aX,4,t.bi,t.iy,t.V⟩ else⟨t.F,t.aX,2,t.bi+1,now+gp 2 (t.bi+1) 60,t.V⟩) else t
def fS(now:Int)(t:ap):List ib:=if due now t=true/\t.bi≠4 then[⟨aT t.F,t.F,t.bi+1⟩] else[]
def fg(now:Int)(t:ap):List BA:=if due now t=true/\t.bi=4 then[aT t.F] else[]
theorem pi{l:List br}(h:cS l=true):l.length<=30:=by
 simp only[cS,cH,decide_eq_true_eq] at h;exact h.1
theorem wv{l:List ap}(h:aS l=true):l.length<=30:=by
 simp only[aS,cH,decide_eq_true_eq] at h;exact h.1
theorem jM{l:List ap}(h:aS l=true){k:Nat}(hk:k<l.length):iW (l.getD k aB)=true:=by
 simp only[aS,cH] at h
 have:=xw.1 h.2 k hk
 simp only[nH,cH] at this
 exact this.1
theorem yf{t:ap}(h:iW t=true):(1<=t.State/\t.State<=4)/\(0<=t.bi/\t.bi<=4)/\(0<=t.iy/\t.iy<=1000001000)/\((t.State=1->t.bi=0)/\(t.State=2->t.bi≠0))/\t.F.af.length<=5:=by
 simp only[iW,cH,decide_eq_true_eq] at h
 obtain⟨⟨⟨⟨⟨⟨h1,h2⟩,h3⟩,h4⟩,h5⟩,h6⟩,h7⟩:=h
 refine⟨h3,h4,h5,h7,?_⟩
 simp only[bw,cH,decide_eq_true_eq] at h1
 first|exact h1.1.2|exact h1.2.1|omega
theorem lx{l:List ap}{key:BA}(h:0<=aD l key):(aD l key).toNat<l.length:=by
 unfold aD at*
 rcases il l.length (fun k=>decide (aT (l.getD k aB).F=key)) with⟨h1,h2⟩|⟨i,h1,h2,h3,h4⟩
 ·rw[h1] at h;omega
 ·rw[h2];omega
theorem iX{l:List ap}{key:BA}{ok:Bool}{v:aU}(h:¬(aS l=true/\bp v=true/\0<=aD l key/\(l.getD (aD l key).toNat aB).State≠1)):aH l key ok v=(l,3):=if_neg h
theorem qc{l:List ap}{key:BA}{ok:Bool}{v:aU}(h:aS l=true/\bp v=true/\0<=aD l key/\(l.getD (aD l key).toNat aB).State≠1)(h2:(l.getD (aD l key).toNat aB).State≠2):aH l key ok v=(l,2):=by rw[aH,if_pos h,if_neg h2]
theorem qd{l:List ap}{key:BA}{ok:Bool}{v:aU}(h:aS l=true/\bp v=true/\0<=aD l key/\(l.getD (aD l key).toNat aB).State≠1)(h2:(l.getD (aD l key).toNat aB).State=2):aH l key ok v=(l.modify (aD l key).toNat (mT ok v),1):=by rw[aH,if_pos h,if_pos h2]
theorem K_(l:List ap)(k:Nat)(v:aU):(((l.modify k fun x=>⟨x.F,x.aX,4,x.bi,x.iy,x.V⟩).modify k fun x=>⟨x.F,x.aX,3,x.bi,x.iy,x.V⟩).modify k fun x=>⟨x.F,x.aX,x.State,x.bi,x.iy,v⟩)=l.modify k (mT true v):=by
 rw[kD,kD];rfl
theorem La(l:List ap)(k:Nat)(v:aU):((l.modify k fun x=>⟨x.F,x.aX,4,x.bi,x.iy,x.V⟩).modify k fun x=>⟨x.F,x.aX,x.State,x.bi,x.iy,v⟩)=l.modify k (mT false v):=by
 rw[kD];rfl
theorem Lf3{a a':List ap}{b b':List ib}{c c':List BA}(h1:a=a')(h2:b=b')(h3:c=c'):Lf [.one (.sl .aq a),.one (.sl .dw b),.one (.sl .str c)] [.one (.sl .aq a'),.one (.sl .dw b'),.one (.sl .str c')]:=by
 subst h1 h2 h3;exact aV _
theorem QJ{a a':List ap}{n:Int}(h:a=a'):Lf [.one (.sl .aq a),.one (CI n)] [.one (.sl .aq a'),.one (CI n)]:=by
 subst h;exact aV _
theorem GD{a a':List ap}(h:a=a'):gH ([DV.one (Cell.sl Cd.aq a)]:List (DV UU))=gH ([DV.one (Cell.sl Cd.aq a')]:List (DV UU)):=by rw[h]
theorem t_{α β:Type}(f:α->List β)(l:List α)(z:α){i:Int}(h0:0<=i)(h:i<l.length):(l.take i.toNat).flatMap f++f (l.getD i.toNat z)=(l.take (i+1).toNat).flatMap f:=by
 rw[<-db l z h0 h,Nj];simp
theorem ow{α β:Type}(f:α->List β)(hf:∀x,(f x).length<=1):∀l:List α,(l.flatMap f).length<=l.length
 |[]=>by simp
 |x::l=>by
  rw[yb,na]
  have h1:=ow f hf l
  have h2:=hf x
  simp only[ir];omega
theorem Fg(now:Int)(t:ap):(fS now t).length<=1:=by unfold fS;split<;>simp
theorem ub(now:Int)(t:ap):(fg now t).length<=1:=by unfold fg;split<;>simp
theorem Fk(aW:Int):∀(k:Nat)(n:Int),0<=n->0<=lT aW k n
 |0,n,h=>h
 |k+1,n,h=>by rw[lT];split;exact Fk aW k (2*n) (by omega);exact h
theorem vN(k:Int):0<=gp 2 k 60/\gp 2 k 60<=60:=by
 have:=Fk 60 k.toNat 2 (by omega)
 unfold gp
 split
 ·split<;>omega
 ·omega
def UI:=cf (α:=(List br)×ap) (qC (qL .aI) (q1 (qA .aq))) [.ro,.ro] (fun(l,t)=>[L4 (bz l),L4 t.F.af.length]) (fun(l,t)=>⟨[dL .aI ((bZ l t).1),dO ((bZ l t).2)],[],[]⟩)
def BI(l:List br)(t:ap):List br×Int×T17×Unit->Prop:=fun(row,i,fb,_)=>row=l/\fb=(t.F.Kind,t.F.af,t.aX,t.State,t.bi,t.iy,t.V.K,t.V.N,t.V.S,())/\0<=i/\i<=l.length/\∀j:Nat,(j:Int)<i->decide ((l.getD j bM).Key=aT t.F)=false
def AR(l:List br)(t:ap):List br×Int×T17×Unit->Nat:=fun(row,i,fb,_)=>l.length-i.toNat
def agq:AX UI:=fun(l,t)=>b_ [(6,aY [iO 6 .aI,iI 8,.box 3 (3,1024) [.lit .str,.shr .bf,.lit .str,.lit (.int .i64),.lit (.int .i64),.lit (.int .i64),.lit (.int .i64),.lit (.int .i64),.lit .str]] (fun _=>BI l t) (AR l t))]
def ae6:HH:=hF UI func190 [Vq,aeR,Jq,DS,S_] agq fun x hp hb=>by
 obtain⟨l,t⟩:=x
 have bJ:bz l<=4294967296:=hp _ m0
 have eh:t.F.af.length<=4294967296:=hp _ m1
 clear hp hb
 apply vE (let x0:=(l.length:Int);let q0:=Lf [VL .aI l,VB false] [VL .aI ((bZ l t).1),VB ((bZ l t).2)];let q1:=bZ l t;L4 (bz l)/\bif !cS l then q0 else bif !bw t.F then q0 else bif !bq t.aX then q0 else bif decide (x0≥30) then q0 else BI l t (l,0,(t.F.Kind,t.F.af,t.aX,t.State,t.bi,t.iy,t.V.K,t.V.N,t.V.S,()),())/\∀(y:List br×Int×(BA×List aU×BA×Int×Int×Int×Int×Int×BA×PUnit)×PUnit),let x1:=[{Key:=aT t.F,F:={Kind:=y.2.2.1.2.2.1,af:=[]++y.2.2.1.2.1:aO}:br}];let x2:=y.2.1.toNat;let q2:=(y.1,wrap i64 (y.2.1+1),(y.2.2.1.1,y.2.2.1.2.1,y.2.2.1.2.2.1,y.2.2.1.2.2.2.1,y.2.2.1.2.2.2.2.1,y.2.2.1.2.2.2.2.2.1,y.2.2.1.2.2.2.2.2.2.1,y.2.2.1.2.2.2.2.2.2.2.1,y.2.2.1.2.2.2.2.2.2.2.2.1,()),());BI l t y->bif decide (y.2.1<x0) then 0<=y.2.1/\x2<l.length/\bif (l.getD x2 bM).Key.toList==(aT t.F).toList then Lf [VL .aI y.1,VB false] [VL .aI (q1.1),VB (q1.2)] else BI l t q2/\AR l t q2<AR l t y else 0+y.2.2.1.2.1.length<=4294967296/\L4 (y.1.length+x1.length)/\Lf [VL .aI (y.1++x1),VB true] [VL .aI (q1.1),VB (q1.2)])
 dsimp only
 have hN:fW l t=false->Lf [.one (.sl .aI l),.one (.lit (.bool false))] [.one (.sl .aI (bZ l t).1),.one (.lit (.bool (bZ l t).2))]:=fun h=>by
  simp only[bZ,h];exact aV _
 have hlen:cS l=true->l.length<=30:=pi
 refine⟨bJ,ab (fun h1=>hN ?_) (fun h1=>ab (fun h2=>hN ?_) (fun h2=>ab (fun h3=>hN ?_) (fun h3=>ab (fun h4=>hN ?_) (fun h4=>⟨⟨rfl,rfl,by omega,by omega,by intro j hj;omega⟩,?_⟩))))⟩
 ·simp only[fW];grind
 ·simp only[fW];grind
 ·simp only[fW];grind
 ·simp only[fW];grind
 rintro⟨row,i,fb,⟨⟩⟩ ⟨rfl,rfl,h5,h6,hR⟩
 have h4:=yF h4
 simp only
 refine ab ?_ ?_<;>intro hc
 ·have hc:i<row.length:=yT hc
  simp(disch:=omega) only[wrap_i64,aQ]
  refine⟨by omega,by omega,ab (fun h=> ?_) (fun h=>⟨⟨rfl,rfl,by omega,by omega,jX (p:=fun j=>decide ((row.getD j bM).Key=aT t.F)) h5 hR h⟩,by simp only[AR];omega⟩)⟩
  have ha:ru row (aT t.F)=true:=ke (j:=i.toNat) (by omega) h
  exact hN (by simp only[fW,ha];simp)
 ·have hc:¬i<row.length:=yF hc
  have ha:ru row (aT t.F)=false:=io fun j hj=>hR j (by omega)
  have hy:fW row t=true:=by simp only[fW,ha];grind
  refine⟨by simpa using eh,by simp;omega,?_⟩
  simp only[bZ,hy,if_true,List.nil_append];exact aV _
def ak8:=cf (α:=(List br)×ap) (qC (qL .aI) (q1 (qA .aq))) [.ro,.ro] (fun(l,t)=>[L4 (bz l),L4 t.F.af.length]) (fun(l,t)=>⟨[dL .aI ((bZ l t).1),dO ((bZ l t).2)],[],[]⟩)
def alX:HH:=hF ak8 func59 [YW,Tg,aes,KH,KG,aei,aeo] a0 fun x hp hb=>by
 obtain⟨l,t⟩:=x
 have bJ:bz l<=4294967296:=hp _ m0
 have eh:t.F.af.length<=4294967296:=hp _ m1
 clear hp hb
 apply vE (let x0:=[{Key:=aT t.F,F:={Kind:=t.aX,af:=t.F.af:aO}:br}];let q0:=Lf [VL .aI l,VB false] [VL .aI ((bZ l t).1),VB ((bZ l t).2)];L4 (bz l)/\bif !cS l then q0 else bif !bw t.F then q0 else bif !bq t.aX then q0 else bif ru l (aT t.F) then q0 else bif (l.length:Int)==30 then q0 else L4 t.F.af.length/\L4 (l.length+x0.length)/\Lf [VL .aI (l++x0),VB true] [VL .aI ((bZ l t).1),VB ((bZ l t).2)])
 dsimp only
 have hN:fW l t=false->Lf [.one (.sl .aI l),.one (.lit (.bool false))] [.one (.sl .aI (bZ l t).1),.one (.lit (.bool (bZ l t).2))]:=fun h=>by
  simp only[bZ,h];exact aV _
 have hlen:cS l=true->l.length<=30:=pi
 refine⟨bJ,ab (fun h1=>hN ?_) (fun h1=>ab (fun h2=>hN ?_) (fun h2=>ab (fun h3=>hN ?_) (fun h3=>ab (fun h4=>hN ?_) (fun h4=>ab (fun h5=>hN ?_) (fun h5=> ?_)))))⟩
 ·simp only[fW];grind
 ·simp only[fW];grind
 ·simp only[fW];grind
 ·simp only[fW];grind
 ·simp only[fW];simp at h5;grind
 have hl:=hlen (by simpa using h1)
 have h5:l.length≠30:=by simp at h5;omega
 have hy:fW l t=true:=by simp only[fW];grind
 refine⟨eh,by simp;omega,?_⟩
 simp only[bZ,hy,if_true];exact aV _
def ad1:=cf (α:=(List ap)×BA×Bool×aU) (qC (qL .aq) (qC qS (qC qO (q1 (qA .bf))))) [.wr,.ro,.ro,.ro] (fun(l,key,ok,v)=>[aS l=true,bp v=true]) (fun(l,key,ok,v)=>⟨[dI ((aH l key ok v).2)],[],[dL .aq ((aH l key ok v).1)]⟩)
def afy:HH:=hF ad1 func142 [QA] a0 fun x hp hb=>by
 obtain⟨l,key,ok,v⟩:=x
 have bJ:aS l=true:=hp _ m0
 have eh:bp v=true:=hp _ m1
 clear hp hb
 apply vE (let x0:=l.modify (Int.toNat (aD l key)) fun(x:ap)=>{F:=x.F,aX:=x.aX,State:=(4:Int),bi:=x.bi,iy:=x.iy,V:=x.V:ap};let x1:=x0.modify (Int.toNat (aD l key)) fun(x:ap)=>{F:=x.F,aX:=x.aX,State:=(3:Int),bi:=x.bi,iy:=x.iy,V:=x.V:ap};let q0:=aH l key ok v;let q1:=aD l key;let q2:=gH [VL .aq l]=gH [VL .aq (q0.1)];let q3:=l.getD (Int.toNat q1) aB;let q4:=gH [VI 3]=gH [VI (q0.2)]/\q2;let q5:=gH [VI 2]=gH [VI (q0.2)]/\q2;bif decide (aD l key<0) then q4 else 0<=aD l key/\Int.toNat q1<l.length/\Int.toNat q1<l.length/\bif q3.State==3 then q5 else Int.toNat q1<l.length/\bif q3.State==4 then q5 else Int.toNat q1<l.length/\bif q3.bi==0 then q4 else Int.toNat q1<l.length/\bif ok then Int.toNat q1<x0.length/\Int.toNat q1<x1.length/\gH [VI 1]=gH [VI (q0.2)]/\gH [VL .aq (x1.modify (Int.toNat q1) fun(x:ap)=>{F:=x.F,aX:=x.aX,State:=x.State,bi:=x.bi,iy:=x.iy,V:=v:ap})]=gH [VL .aq (q0.1)] else Int.toNat q1<x0.length/\gH [VI 1]=gH [VI (q0.2)]/\gH [VL .aq (x0.modify (Int.toNat q1) fun(x:ap)=>{F:=x.F,aX:=x.aX,State:=x.State,bi:=x.bi,iy:=x.iy,V:=v:ap})]=gH [VL .aq (q0.1)])
 dsimp only
 refine ab ?_ ?_<;>intro h
 ·have h:=yT h
  rw[iX (fun hh=>absurd hh.2.2.1 (by omega))];exact⟨rfl,rfl⟩
 have h:=yF h
 have hk:=lx (l:=l) (key:=key) (by omega)
 obtain⟨s1,s2,s3,s4,s5⟩:=yf (jM bJ hk)
 refine⟨by omega,hk,hk,ab (fun h1=> ?_) (fun h1=>⟨hk,ab (fun h2=> ?_) (fun h2=>⟨hk,ab (fun h3=> ?_) (fun h3=>⟨hk,ab (fun h4=> ?_) (fun h4=> ?_)⟩)⟩)⟩)⟩
 ·have h1:=eq_of_beq h1
  rw[qc ⟨bJ,eh,by omega,by omega⟩ (by omega)];exact⟨rfl,rfl⟩
 ·have h2:=eq_of_beq h2
  rw[qc ⟨bJ,eh,by omega,by omega⟩ (by omega)];exact⟨rfl,rfl⟩
 ·have h3:=eq_of_beq h3
  simp only[beq_eq_false_iff_ne,ne_eq] at h1 h2
  rw[iX (fun hh=>absurd hh.2.2.2 (by omega))];exact⟨rfl,rfl⟩
 ·subst h4
  simp only[beq_eq_false_iff_ne,ne_eq] at h1 h2 h3
  rw[qd ⟨bJ,eh,by omega,by omega⟩ (by omega)]
  exact⟨by simp only[HI];exact hk,by simp only[HI];exact hk,rfl,GD (K_ _ _ _)⟩
 ·subst h4
  simp only[beq_eq_false_iff_ne,ne_eq] at h1 h2 h3
  rw[qd ⟨bJ,eh,by omega,by omega⟩ (by omega)]
  exact⟨by simp only[HI];exact hk,rfl,GD (La _ _ _)⟩
def ak9:=cf (α:=(List ap)×BA×Bool×aU) (qC (qL .aq) (qC qS (qC qO (q1 (qA .bf))))) [.ro,.ro,.ro,.ro] (fun(l,key,ok,v)=>[L4 (bO l)]) (fun(l,key,ok,v)=>⟨[dL .aq ((aH l key ok v).1),dI ((aH l key ok v).2)],[],[]⟩)
def alY:HH:=hF ak9 func58 [Qq,YV,Te,Jr] a0 fun x hp hb=>by
 obtain⟨l,key,ok,v⟩:=x
 have bJ:bO l<=4294967296:=hp _ m0
 clear hp hb
 apply vE (let x0:=l.modify (Int.toNat (aD l key)) fun(x:ap)=>{F:=x.F,aX:=x.aX,State:=(4:Int),bi:=x.bi,iy:=x.iy,V:=x.V:ap};let x1:=x0.modify (Int.toNat (aD l key)) fun(x:ap)=>{F:=x.F,aX:=x.aX,State:=(3:Int),bi:=x.bi,iy:=x.iy,V:=x.V:ap};let q0:=Lf [VL .aq l,VI 3] [VL .aq ((aH l key ok v).1),VI ((aH l key ok v).2)];let q1:=aD l key;let q2:=aH l key ok v;let q3:=Int.toNat q1;L4 (bO l)/\bif !aS l then q0 else bif !bp v then q0 else bif decide (aD l key<0) then q0 else 0<=aD l key/\Int.toNat q1<l.length/\bif (l.getD q3 aB).State==1 then q0 else 0<=aD l key/\Int.toNat q1<l.length/\Int.toNat q1<l.length/\bif (l.getD q3 aB).State !=2 then Lf [VL .aq l,VI 2] [VL .aq (q2.1),VI (q2.2)] else Int.toNat q1<l.length/\bif ok then Int.toNat q1<x0.length/\Int.toNat q1<x1.length/\Lf [VL .aq (x1.modify q3 fun(x:ap)=>{F:=x.F,aX:=x.aX,State:=x.State,bi:=x.bi,iy:=x.iy,V:=v:ap}),VI 1] [VL .aq (q2.1),VI (q2.2)] else Int.toNat q1<x0.length/\Lf [VL .aq (x0.modify q3 fun(x:ap)=>{F:=x.F,aX:=x.aX,State:=x.State,bi:=x.bi,iy:=x.iy,V:=v:ap}),VI 1] [VL .aq (q2.1),VI (q2.2)])
 dsimp only
 refine⟨bJ,ab (fun h=> ?_) (fun h=>ab (fun h2=> ?_) (fun h2=>ab (fun h3=> ?_) (fun h3=> ?_)))⟩
 ·rw[iX (fun hh=>by rw[hh.1] at h;simp at h)];exact aV _
 ·rw[iX (fun hh=>by rw[hh.2.1] at h2;simp at h2)];exact aV _
 ·have h3:=yT h3
  rw[iX (fun hh=>absurd hh.2.2.1 (by omega))];exact aV _
 have h:aS l=true:=by simpa using h
 have h2:bp v=true:=by simpa using h2
 have h3:=yF h3
 have hk:=lx (l:=l) (key:=key) (by omega)
 refine⟨by omega,hk,ab (fun h4=> ?_) (fun h4=>⟨by omega,hk,hk,ab (fun h5=> ?_) (fun h5=>⟨hk,ab (fun h6=> ?_) (fun h6=> ?_)⟩)⟩)⟩
 ·have h4:=eq_of_beq h4
  rw[iX (fun hh=>absurd hh.2.2.2 (by omega))];exact aV _
 ·simp only[bne_iff_ne,beq_eq_false_iff_ne,ne_eq] at h4 h5
  rw[qc ⟨h,h2,by omega,h4⟩ h5];exact aV _
 ·subst h6
  simp only[bne_iff_ne,bne_eq_false_iff_eq,beq_eq_false_iff_ne,ne_eq] at h4 h5
  rw[qd ⟨h,h2,by omega,h4⟩ h5]
  exact⟨by simp only[HI];exact hk,by simp only[HI];exact hk,QJ (K_ _ _ _)⟩
 ·subst h6
  simp only[bne_iff_ne,bne_eq_false_iff_eq,beq_eq_false_iff_ne,ne_eq] at h4 h5
  rw[qd ⟨h,h2,by omega,h4⟩ h5]
  exact⟨by simp only[HI];exact hk,QJ (La _ _ _)⟩
def adG:=cf (α:=ap×Int) (qC (qA .aq) (q1 qI)) [.ro,.ro] (fun _=>[]) (fun(t,now)=>⟨[dO (due now t)],[],[]⟩)
def ae9:HH:=hF adG func186 [] a0 fun x hp hb=>by
 obtain⟨t,now⟩:=x
 clear hp hb
 apply vE (let q0:=Lb (decide (t.iy<=now)) (due now t);bif t.State==1 then q0 else bif t.State==2 then q0 else Lb false (due now t))
 dsimp only
 repeat' (refine ab (fun h=> ?_) (fun h=> ?_))
 all_goals (refine cg ?_;simp only[due,kw];grind)
def U7:=cf (α:=(List ap)×Int) (qC (qL .aq) (q1 qI)) [.wr,.ro] (fun(l,now)=>[aS l=true,0<=now/\now<=1000000000]) (fun(l,now)=>⟨[dL .dw (l.flatMap (fS now)),dL .str (l.flatMap (fg now))],[],[dL .aq (l.map (dh now))]⟩)
def uM(l:List ap)(now:Int):List ap×List ib×List BA×Int×Unit->Prop:=fun(out,calls,failed,i,_)=>0<=i/\i<=l.length/\out=(l.map (dh now)).take i.toNat++l.drop i.toNat/\calls=(l.take i.toNat).flatMap (fS now)/\failed=(l.take i.toNat).flatMap (fg now)
def m_(l:List ap)(now:Int):List ap×List ib×List BA×Int×Unit->Nat:=fun(out,calls,failed,i,_)=>l.length-i.toNat
def agO:AX U7:=fun(l,now)=>b_ [(4,aY [.slot 0 (2000000,0) (.own .aq true),iO 6 .dw,iO 7 .str,iI 8] (fun _=>uM l now) (m_ l now))]
def afA:HH:=hF U7 func138 [ae9,S_,ae8,xX] agO fun x hp hb=>by
 obtain⟨l,now⟩:=x
 have jB:L9 l.length:=kc (hb _ m0)
 have rj:=zD (n:=now) (hb _ m1)
 have bJ:aS l=true:=hp _ m0
 have eh:0<=now/\now<=1000000000:=hp _ m1
 clear hp hb
 apply vE (uM l now (l,[],[],0,())/\∀(y:List ap×List ib×List BA×Int×PUnit),let x3:=y.2.2.2.1.toNat;let x5:=y.1.modify x3 fun(x:ap)=>{F:=x.F,aX:=x.aX,State:=(4:Int),bi:=x.bi,iy:=x.iy,V:=x.V:ap};let x6:=y.1.modify x3 fun(x:ap)=>{F:=x.F,aX:=x.aX,State:=x.State,bi:=wrap i64 ((y.1.getD x3 aB).bi+1),iy:=x.iy,V:=x.V:ap};let x4:=x6.modify x3 fun(x:ap)=>{F:=x.F,aX:=x.aX,State:=(2:Int),bi:=x.bi,iy:=x.iy,V:=x.V:ap};let x2:=x4.modify x3 fun(x:ap)=>{F:=x.F,aX:=x.aX,State:=x.State,bi:=x.bi,iy:=wrap i64 (now+gp 2 (x4.getD x3 aB).bi 60),V:=x.V:ap};let x1:=(x2.getD x3 aB).F;let x0:=[{Key:=aT x1,F:=x1,Try:=(x2.getD x3 aB).bi:ib}];let q0:=(x5,y.2.1,y.2.2.1++[aT (x5.getD x3 aB).F],wrap i64 (y.2.2.2.1+1),());let q1:=(x2,y.2.1++x0,y.2.2.1,wrap i64 (y.2.2.2.1+1),());let q2:=(y.1,y.2.1,y.2.2.1,wrap i64 (y.2.2.2.1+1),());uM l now y->bif decide (y.2.2.2.1<(y.1.length:Int)) then 0<=y.2.2.2.1/\x3<y.1.length/\x3<y.1.length/\x3<y.1.length/\bif !due now (y.1.getD x3 aB) then uM l now q2/\m_ l now q2<m_ l now y else x3<y.1.length/\bif (y.1.getD x3 aB).bi==4 then x3<y.1.length/\x3<x5.length/\x3<x5.length/\y.2.2.1.length+List.length [aT (x5.getD x3 aB).F]<=4294967296/\uM l now q0/\m_ l now q0<m_ l now y else x3<y.1.length/\x3<y.1.length/\x3<x6.length/\x3<x4.length/\x3<x4.length/\x3<x2.length/\x3<x2.length/\x3<x2.length/\x3<x2.length/\L4 x1.af.length/\x3<x2.length/\L4 (y.2.1.length+x0.length)/\uM l now q1/\m_ l now q1<m_ l now y else gH [VL .dw y.2.1,VL .str y.2.2.1]=gH [VL .dw (List.flatMap (fS now) l),VL .str (List.flatMap (fg now) l)]/\gH [VL .aq y.1]=gH [VL .aq (l.map (dh now))])
 dsimp only
 refine⟨⟨by omega,by omega,by simp,by simp,by simp⟩,?_⟩
 rintro⟨out,calls,failed,i,⟨⟩⟩ ⟨h1,h2,rfl,rfl,rfl⟩
 have hl:=Ag (dh now) l h1 h2
 have hlen:=wv bJ
 have gB:=ow (fS now) (Fg now) (l.take i.toNat)
 have An:=ow (fg now) (ub now) (l.take i.toNat)
 rw[nE] at gB An
 simp only
 refine ab ?_ ?_<;>intro hc
 ·have hc:=yT hc
  have hc:i<l.length:=by omega
  have hi:i.toNat<l.length:=by omega
  have hg:=wP _ l aB (F6 (dh now) l h1 h2) h1 hc
  obtain⟨s1,s2,s3,s4,s5⟩:=yf (jM bJ hi)
  have Kn:=t_ (fS now) l aB h1 hc
  have MW:=t_ (fg now) l aB h1 hc
  have hM:=fun F hF=>wR (dh now) l aB F h1 hc hF
  have hS:=fun hF=>wQ (dh now) l aB h1 hc hF
  have hb:=vN ((l.getD i.toNat aB).bi+1)
  generalize hRR:(l.map (dh now)).take i.toNat++l.drop i.toNat=R at*
  rw[wi (n:=i+1)]
  simp(disch:=first|omega|(simp only[HI];omega)) only[getD_modify,kD,HI,hl,hg]
  generalize hT:l.getD i.toNat aB=t at*
  simp(disch:=omega) only[wrap_i64,ir,ig]
  repeat' (first|refine And.intro (by omega) ?_|refine ab (fun h=> ?_) (fun h=> ?_)|fail)
  all_goals simp only[pc,Bool.not_eq_false',decide_eq_true_eq,decide_eq_false_iff_not,beq_iff_eq,beq_eq_false_iff_ne] at*
  all_goals first
   |(have hd:due now t=true:=by first|assumption|(simp only[due];grind)
     have e1:fS now t=[]:=by simp only[fS];exact if_neg (by simp_all)
     have e2:fg now t=[aT t.F]:=by simp only[fg];exact if_pos ⟨hd,by assumption⟩
     rw[e1,sR] at Kn
     rw[e2] at MW
     rw[hM _ (by simp only[dh,hd,if_true];rw[if_pos (by assumption)])]
     exact⟨⟨by omega,by omega,rfl,Kn,MW⟩,by simp only[m_];omega⟩)
   |(have hd:due now t=true:=by first|assumption|(simp only[due];grind)
     have e1:fS now t=[⟨aT t.F,t.F,t.bi+1⟩]:=by simp only[fS];exact if_pos ⟨hd,by assumption⟩
     have e2:fg now t=[]:=by simp only[fg];exact if_neg (by simp_all)
     rw[e2,sR] at MW
     rw[e1] at Kn
     rw[hM _ (by simp only[dh,hd,if_true];rw[if_neg (by assumption)])]
     exact⟨⟨by omega,by omega,rfl,Kn,MW⟩,by simp only[m_];omega⟩)
   |(have hd:due now t=false:=by first|assumption|(simp only[due];grind)
     have e1:fS now t=[]:=by simp only[fS];exact if_neg (by simp_all)
     have e2:fg now t=[]:=by simp only[fg];exact if_neg (by simp_all)
     rw[e1,sR] at Kn
     rw[e2,sR] at MW
     have hs:=hS (by simp only[dh,hd];rfl)
     exact⟨⟨by omega,by omega,hs,Kn,MW⟩,by simp only[m_];omega⟩)
 ·have hc:=yF hc
  exact⟨by rw[cA l (by omega)];rfl,GD (wS (i:=i) (dh now) l (by omega))⟩
def acW:=cf (α:=(List ap)×Int) (qC (qL .aq) (q1 qI)) [.ro,.ro] (fun(l,now)=>[L4 (bO l)]) (fun(l,now)=>⟨[dL .aq (if aS l=true/\0<=now/\now<=1000000000 then l.map (dh now) else l),dL .dw (if aS l=true/\0<=now/\now<=1000000000 then l.flatMap (fS now) else[]),dL .str (if aS l=true/\0<=now/\now<=1000000000 then l.flatMap (fg now) else[])],[],[]⟩)
def y9(l:List ap)(now:Int):List ap×List ib×List BA×Int×Unit->Prop:=fun(out,calls,failed,i,_)=>0<=i/\i<=l.length/\out=(l.map (dh now)).take i.toNat++l.drop i.toNat/\calls=(l.take i.toNat).flatMap (fS now)/\failed=(l.take i.toNat).flatMap (fg now)
def p7(l:List ap)(now:Int):List ap×List ib×List BA×Int×Unit->Nat:=fun(out,calls,failed,i,_)=>l.length-i.toNat
def amz:AX acW:=fun(l,now)=>b_ [(7,aY [iO 7 .aq,iO 8 .dw,iO 9 .str,iI 25] (fun _=>y9 l now) (p7 l now))]
def alZ:HH:=hF acW func54 [Qq,Te,Td,YX,Tg,afZ,Hy] amz fun x hp hb=>by
 obtain⟨l,now⟩:=x
 have jB:L9 l.length:=kc (hb _ m0)
 have rj:=zD (n:=now) (hb _ m1)
 have bJ:bO l<=4294967296:=hp _ m0
 clear hp hb
 apply vE (let q0:=Lf [VL .aq l,VL .dw [],VL .str []] [VL .aq (if aS l=true/\0<=now/\now<=1000000000 then l.map (dh now) else l),VL .dw (if aS l=true/\0<=now/\now<=1000000000 then List.flatMap (fS now) l else[]),VL .str (if aS l=true/\0<=now/\now<=1000000000 then List.flatMap (fg now) l else[])];let q1:=(0:Int)<=now/\now<=1000000000;L4 (bO l)/\bif !aS l then q0 else bif !decide (0<=now/\now<=1000000000) then q0 else y9 l now (l,[],[],0,())/\∀(y:List ap×List ib×List BA×Int×PUnit),let x3:=y.2.2.2.1.toNat;let x5:=y.1.modify x3 fun(x:ap)=>{F:=x.F,aX:=x.aX,State:=(2:Int),bi:=x.bi,iy:=x.iy,V:=x.V:ap};let x6:=y.1.modify x3 fun(x:ap)=>{F:=x.F,aX:=x.aX,State:=(4:Int),bi:=x.bi,iy:=x.iy,V:=x.V:ap};let x4:=x5.modify x3 fun(x:ap)=>{F:=x.F,aX:=x.aX,State:=x.State,bi:=wrap i64 ((x5.getD x3 aB).bi+1),iy:=x.iy,V:=x.V:ap};let x2:=x4.modify x3 fun(x:ap)=>{F:=x.F,aX:=x.aX,State:=x.State,bi:=x.bi,iy:=wrap i64 (now+gp 2 (x4.getD x3 aB).bi 60),V:=x.V:ap};let x1:=(x2.getD x3 aB).F;let x0:=[{Key:=aT x1,F:=x1,Try:=(x2.getD x3 aB).bi:ib}];let q2:=(y.1,y.2.1,y.2.2.1,wrap i64 (y.2.2.2.1+1),());let q3:=(x6,y.2.1,y.2.2.1++[aT (x6.getD x3 aB).F],wrap i64 (y.2.2.2.1+1),());let q4:=(x2,y.2.1++x0,y.2.2.1,wrap i64 (y.2.2.2.1+1),());let q5:=y9 l now q2/\p7 l now q2<p7 l now y;let q6:=y.1.getD x3 aB;y9 l now y->bif decide (y.2.2.2.1<(l.length:Int)) then 0<=y.2.2.2.1/\x3<y.1.length/\x3<y.1.length/\x3<y.1.length/\bif !kw q6 then q5 else x3<y.1.length/\bif decide (q6.iy>now) then q5 else x3<y.1.length/\bif q6.bi==4 then x3<y.1.length/\x3<x6.length/\x3<x6.length/\y.2.2.1.length+List.length [aT (x6.getD x3 aB).F]<=4294967296/\y9 l now q3/\p7 l now q3<p7 l now y else x3<y.1.length/\x3<x5.length/\x3<x5.length/\x3<x4.length/\x3<x4.length/\x3<x2.length/\x3<x2.length/\x3<x2.length/\x3<x2.length/\L4 x1.af.length/\x3<x2.length/\L4 (y.2.1.length+x0.length)/\y9 l now q4/\p7 l now q4<p7 l now y else Lf [VL .aq y.1,VL .dw y.2.1,VL .str y.2.2.1] [VL .aq (if aS l=true/\q1 then l.map (dh now) else l),VL .dw (if aS l=true/\q1 then List.flatMap (fS now) l else[]),VL .str (if aS l=true/\q1 then List.flatMap (fg now) l else[])])
 dsimp only
 refine⟨bJ,ab (fun h=> ?_) (fun h=>ab (fun h2=> ?_) (fun h2=> ?_))⟩
 ·have Pe:¬(aS l=true/\0<=now/\now<=1000000000):=fun hh=>by rw[hh.1] at h;simp at h
  exact Lf3 (if_neg Pe).symm (if_neg Pe).symm (if_neg Pe).symm
 ·have Pe:¬(aS l=true/\0<=now/\now<=1000000000):=fun hh=>by simp[hh.2] at h2
  exact Lf3 (if_neg Pe).symm (if_neg Pe).symm (if_neg Pe).symm
 have ht:aS l=true:=by simpa using h
 have hw:0<=now/\now<=1000000000:=by simpa using h2
 have Pe:aS l=true/\0<=now/\now<=1000000000:=⟨ht,hw⟩
 clear h h2
 refine⟨⟨by omega,by omega,by simp,by simp,by simp⟩,?_⟩
 rintro⟨out,calls,failed,i,⟨⟩⟩ ⟨h1,h2,rfl,rfl,rfl⟩
 have hl:=Ag (dh now) l h1 h2
 have hlen:=wv ht
 have gB:=ow (fS now) (Fg now) (l.take i.toNat)
 have An:=ow (fg now) (ub now) (l.take i.toNat)
 rw[nE] at gB An
 simp only
 refine ab ?_ ?_<;>intro hc
 ·have hc:=yT hc
  have hc:i<l.length:=by omega
  have hi:i.toNat<l.length:=by omega
  have hg:=wP _ l aB (F6 (dh now) l h1 h2) h1 hc
  obtain⟨s1,s2,s3,s4,s5⟩:=yf (jM ht hi)
  have Kn:=t_ (fS now) l aB h1 hc
  have MW:=t_ (fg now) l aB h1 hc
  have hM:=fun F hF=>wR (dh now) l aB F h1 hc hF
  have hS:=fun hF=>wQ (dh now) l aB h1 hc hF
  have hb:=vN ((l.getD i.toNat aB).bi+1)
  generalize hRR:(l.map (dh now)).take i.toNat++l.drop i.toNat=R at*
  rw[wi (n:=i+1)]
  simp(disch:=first|omega|(simp only[HI];omega)) only[getD_modify,kD,HI,hl,hg]
  generalize hT:l.getD i.toNat aB=t at*
  simp(disch:=omega) only[wrap_i64,ir,ig]
  repeat' (first|refine And.intro (by omega) ?_|refine ab (fun h=> ?_) (fun h=> ?_)|fail)
  all_goals simp only[pc,Bool.not_eq_false',decide_eq_true_eq,decide_eq_false_iff_not,beq_iff_eq,beq_eq_false_iff_ne] at*
  all_goals first
   |(have hd:due now t=true:=by first|assumption|(simp only[due];grind)
     have e1:fS now t=[]:=by simp only[fS];exact if_neg (by simp_all)
     have e2:fg now t=[aT t.F]:=by simp only[fg];exact if_pos ⟨hd,by assumption⟩
     rw[e1,sR] at Kn
     rw[e2] at MW
     rw[hM _ (by simp only[dh,hd,if_true];rw[if_pos (by assumption)])]
     exact⟨⟨by omega,by omega,rfl,Kn,MW⟩,by simp only[p7];omega⟩)
   |(have hd:due now t=true:=by first|assumption|(simp only[due];grind)
     have e1:fS now t=[⟨aT t.F,t.F,t.bi+1⟩]:=by simp only[fS];exact if_pos ⟨hd,by assumption⟩
     have e2:fg now t=[]:=by simp only[fg];exact if_neg (by simp_all)
     rw[e2,sR] at MW
     rw[e1] at Kn
     rw[hM _ (by simp only[dh,hd,if_true];rw[if_neg (by assumption)])]
     exact⟨⟨by omega,by omega,rfl,Kn,MW⟩,by simp only[p7];omega⟩)
   |(have hd:due now t=false:=by first|assumption|(simp only[due];grind)
     have e1:fS now t=[]:=by simp only[fS];exact if_neg (by simp_all)
     have e2:fg now t=[]:=by simp only[fg];exact if_neg (by simp_all)
     rw[e1,sR] at Kn
     rw[e2,sR] at MW
     have hs:=hS (by simp only[dh,hd];rfl)
     exact⟨⟨by omega,by omega,hs,Kn,MW⟩,by simp only[p7];omega⟩)
 ·have hc:=yF hc
  rw[cA l (by omega)]
  exact Lf3 ((wS (i:=i) (dh now) l (by omega)).trans (if_pos Pe).symm) (if_pos Pe).symm (if_pos Pe).symm
theorem Cn{l:List ap}{f:ap->ap}{k:Nat}(hF:∀t,(f t).F=t.F)(hk:k<l.length)(hf:iW (f (l.getD k aB))=true)(h:aS l=true):aS (l.modify k f)=true:=by
 rw[li] at h⊢
 refine⟨by simpa using h.1,fun t ht=> ?_,by rw[sq _ _ hF];exact h.2.2⟩
 obtain⟨i,hi,rfl⟩:=qD ht
 have pa:i<l.length:=by simpa using hi
 rw[List.getElem_modify]
 split
 ·rename_i Sv
  subst Sv
  rw[dB,eW hk] at hf
  exact hf
 ·exact h.2.1 _ (DU pa)
theorem pS{l:List ap}{key:BA}{ok:Bool}{v:aU}(h:aS l=true):aS (aH l key ok v).1=true:=by
 unfold aH;split
 ·rename_i hc
  split
  ·have hk:=lx (l:=l) (key:=key) hc.2.2.1
   refine Cn (fun _=>rfl) hk ?_ h
   obtain⟨a1,a2,a3,a4,a5,a6,a7⟩:=e_.1 (jM h hk)
   refine e_.2 ⟨a1,a2,?_,a4,a5,.inr hc.2.1,?_⟩
   ·simp only[mT];split<;>omega
   ·simp only[mT];split<;>simp
  ·exact h
 ·exact h
theorem Ek(f:aO):(aT f).size<=200:=by
 unfold aT;split
 ·rename_i h
  obtain⟨h1,h2,h3,h4⟩:=ju h
  have:=wU f.af h2
  rw[fv];simp only[na,nK,sV,ir,ig];omega
 ·simp[ah]
theorem LZ{l:List br}{u:br}(h:cS l=true)(hl:l.length<30)(hk:1<=u.Key.size/\u.Key.size<=200)(hf:bw u.F=true)(hn:ru l u.Key=false):cS (l++[u])=true:=by
 simp only[cS,cH,decide_eq_true_eq] at h⊢
 have hlen:(l++[u]).length=l.length+1:=by simp
 refine⟨by omega,xw.2 fun j hj=> ?_⟩
 have g:∀k,k<l.length->(l++[u]).getD k bM=l.getD k bM:=fun k hk=>by rw[dB,dB,wg hk]
 rcases nL j l.length with Ya|Ya
 ·have:=xw.1 h.2 j Ya
  unfold iU at this⊢
  rw[g j Ya]
  rw[<-this]
  congr 2
  exact mN fun k hk=>by rw[g k (by omega)]
 ·have:j=l.length:=by omega
  subst this
  have gl:(l++[u]).getD l.length bM=u:=by rw[dB,ya (sB _)];simp
  unfold iU
  rw[gl,hf]
  have:(anyI l.length fun k=>decide (((l++[u]).getD k bM).Key=u.Key))=false:=by
   rw[<-hn]
   exact mN fun k hk=>by rw[g k hk]
  rw[this]
  simp only[Tq,Aa,decide_eq_true_eq];exact hk
theorem Gt{f:aO}(h:bw f=true):1<=(aT f).size:=by
 rw[aT,if_pos h,fv];simp only[na,sV,ir];omega
theorem H'{l:List br}{t:ap}(h:fW l t=true):cS (bZ l t).1=true:=by
 rw[bZ,if_pos h]
 simp only[fW,cH,pc,decide_eq_false_iff_not] at h
 obtain⟨⟨⟨⟨h1,h2⟩,h3⟩,h4⟩,h5⟩:=h
 have:=Ek t.F
 have:=Gt h2
 refine LZ h1 (by omega) ⟨by assumption,by assumption⟩ ?_ h4
 have h6:=h2
 simp only[bw,cH] at h6⊢
 exact⟨⟨h3,h6.1.2⟩,h6.2⟩
theorem qH{l:List br}(n:Nat)(h:cS l=true):cS (l.take n)=true:=by
 simp only[cS,cH,decide_eq_true_eq] at h⊢
 have hg:∀k,k<(l.take n).length->(l.take n).getD k bM=l.getD k bM:=fun k hk=>by
  rw[dB,dB,oT,if_pos (by simp at hk;omega)]
 refine⟨by have:=h.1;simp only[nE];omega,fT.2 fun i hi=> ?_⟩
 have h2:=fT.1 h.2 i (by simp at hi;omega)
 simp only[iU] at h2⊢
 rw[hg i hi,mN (q:=fun k=>decide ((l.getD k bM).Key=(l.getD i bM).Key)) fun k hk=>by rw[hg k (by omega)]]
 exact h2
def nP(x:aj):aj:=cn ⟨x.S,x.aw,x.ae,x.ao,x.ai.take (x.ai.length-1),x.State,x.bB⟩
theorem EV{x:aj}(h:bT x):bT ⟨x.S,x.aw,x.ae,x.ao,x.ai.take (x.ai.length-1),x.State,x.bB⟩:=⟨h.1,qH _ h.2.1,h.2.2⟩
def jW(f:aO)(word:BA)(v:aU):aO:=⟨f.Kind,[⟨2,0,word⟩,v]⟩
def bOk:BA:=⟨#[111,107]⟩
def P_:BA:=⟨#[110,111]⟩
def HM(ok:Bool):BA:=if ok=true then bOk else P_
def pf(x:aj)(l:List ap):aj:=⟨x.S,x.aw,l,x.ao,x.ai,x.State,x.bB⟩
def KP(x:aj)(l:List br):aj:=⟨x.S,x.aw,x.ae,x.ao,l,x.State,x.bB⟩
def y4(x:aj)(k:Nat)(ok:Bool)(v:aU):aj:=
 if x.State≠1 then nP x
 else if ok=true/\(x.ae.getD k aB).aX≠ah then
  (if(bZ x.ai (x.ae.getD k aB)).2=true then cF (KP x (bZ x.ai (x.ae.getD k aB)).1) (jW (x.ae.getD k aB).F (HM ok) v) else eD x 3)
 else cF x (jW (x.ae.getD k aB).F (HM ok) v)
def eZ(x:aj)(key:BA)(ok:Bool)(v:aU):aj×Int:=
 if(aH x.ae key ok v).2=1 then(y4 (pf x (aH x.ae key ok v).1) (aD (aH x.ae key ok v).1 key).toNat ok v,1) else(x,(aH x.ae key ok v).2)
theorem GG{x:aj}{k:Nat}{ok:Bool}{v:aU}(h:x.State=1):y4 x k ok v=if ok=true/\(x.ae.getD k aB).aX≠ah then
  (if(bZ x.ai (x.ae.getD k aB)).2=true then cF (KP x (bZ x.ai (x.ae.getD k aB)).1) (jW (x.ae.getD k aB).F (HM ok) v) else eD x 3)
 else cF x (jW (x.ae.getD k aB).F (HM ok) v):=if_neg (by omega)
theorem vF{x:aj}(h:bT x){t:ap}(hp:(bZ x.ai t).2=true):bT (KP x (bZ x.ai t).1):=by
 refine⟨h.1,?_,h.2.2⟩
 by_cases hc:fW x.ai t=true
 ·exact H' hc
 ·rw[bZ,if_neg hc] at hp;cases hp
theorem zy{x:aj}{key:BA}{ok:Bool}{v:aU}(h:bT x):bT (pf x (aH x.ae key ok v).1):=⟨pS h.1,h.2⟩
theorem JX{l:List ap}{key:BA}{ok:Bool}{v:aU}(h:¬(aH l key ok v).2=1):(aH l key ok v).1=l:=by
 unfold aH at h⊢
 split
 ·rename_i h1
  rw[if_pos h1] at h
  split
  ·rename_i h2
   rw[if_pos h2] at h;exact absurd rfl h
  ·rfl
 ·rfl
theorem CF{l:List ap}{key:BA}{ok:Bool}{v:aU}(h:(aH l key ok v).2=1):0<=aD (aH l key ok v).1 key/\aD (aH l key ok v).1 key<((aH l key ok v).1.length:Int):=by
 have h1:aS l=true/\bp v=true/\0<=aD l key/\(l.getD (aD l key).toNat aB).State≠1:=Classical.byContradiction fun c=>by rw[iX c] at h;simp at h
 have h2:(l.getD (aD l key).toNat aB).State=2:=Classical.byContradiction fun c=>by rw[qc h1 c] at h;simp at h
 have e:=congrArg Prod.fst (qd (key:=key) (ok:=ok) (v:=v) h1 h2)
 have hk:=lx (l:=l) (key:=key) h1.2.2.1
 have e3:aD (aH l key ok v).1 key=aD l key:=by
  rw[e];unfold aD
  rw[HI]
  refine rc fun j hj=> ?_
  congr 2
  rw[dB,dB,VT,eW hj]
  show aT (((if _=j then mT ok v l[j] else l[j])).F)=aT (l[j]).F
  split<;>rfl
 rw[e3,e,HI];omega
def ala:=cf (α:=aO×BA×aU) (qC (qA .cU) (qC qS (q1 (qA .bf)))) [.ro,.ro,.ro] (fun _=>[]) (fun(f,word,v)=>⟨[dA .cU (jW f word v)],[],[]⟩)
def ael:HH:=hF ala func55 [] a0 fun x hp hb=>by
 obtain⟨f,word,v⟩:=x
 clear hp hb
 apply vE (Lf [DV.agg [CS f.Kind,CL .bf [{K:=(2:Int),N:=(0:Int),S:=word:aU},v]]] [DV.agg [CS ((jW f word v).Kind),CL .bf (jW f word v).af]])
 exact aV _
def adF:=cf (α:=aO×BA×aU) (qC (qA .cU) (qC qS (q1 (qA .bf)))) [.ro,.ro,.ro] (fun _=>[]) (fun(f,word,v)=>⟨[dA .cU (jW f word v)],[],[]⟩)
def Vu:HH:=hF adF func188 [] a0 fun x hp hb=>by
 obtain⟨f,word,v⟩:=x
 clear hp hb
 apply vE (Lf [DV.agg [CS f.Kind,CL .bf [{K:=(2:Int),N:=(0:Int),S:=word:aU},v]]] [DV.agg [CS ((jW f word v).Kind),CL .bf (jW f word v).af]])
 exact aV _
def ak':=cf (α:=aj) (q1 (qX .bY)) [.box true] (fun x=>[bT x,x.State=3\/x.State=5]) (fun x=>⟨[],[],[dX .bY (nP x)]⟩)
def aek:HH:=hF ak' func57 [afX,aep] a0 fun(x:aj) hp hb=>by
 have bJ:bT x:=hp _ m0
 have eh:x.State=3\/x.State=5:=hp _ m1
 clear hp hb
 apply vE (let x1:={S:=x.S,aw:=x.aw,ae:=x.ae,ao:=x.ao,ai:=x.ai.take (x.ai.length-1),State:=x.State,bB:=x.bB:aj};let x0:=cn x1;L4 (bz x.ai)/\bT x1/\(x.State=3\/x.State=5)/\LM [] [] [DV.box (ay x0)] [DV.box (ay (nP x))])
 dsimp only
 have:=(sX bJ.2.1).2.2
 exact⟨by omega,EV bJ,eh,rfl,rfl,rfl⟩
def adE:=cf (α:=aj) (q1 (qX .bY)) [.box true] (fun x=>[bT x,x.State=3\/x.State=5]) (fun x=>⟨[],[],[dX .bY (nP x)]⟩)
def Vt:HH:=hF adE func189 [aeS,aeg] a0 fun(x:aj) hp hb=>by
 have bJ:bT x:=hp _ m0
 have eh:x.State=3\/x.State=5:=hp _ m1
 clear hp hb
 apply vE (let x1:={S:=x.S,aw:=x.aw,ae:=x.ae,ao:=x.ao,ai:=x.ai.take (x.ai.length-1),State:=x.State,bB:=x.bB:aj};let x0:=cn x1;L4 (bz x.ai)/\bT x1/\(x.State=3\/x.State=5)/\LM [] [] [DV.box (ay x0)] [DV.box (ay (nP x))])
 dsimp only
 have:=(sX bJ.2.1).2.2
 exact⟨by omega,EV bJ,eh,rfl,rfl,rfl⟩
def ad0:=cf (α:=aj×Int×Bool×aU) (qC (qX .bY) (qC qI (qC qO (q1 (qA .bf))))) [.box true,.ro,.ro,.ro] (fun(x,k,ok,v)=>[bT x,bm x.S=true,0<=k/\k<x.ae.length,x.State=1\/x.State=3\/x.State=5]) (fun(x,k,ok,v)=>⟨[],[],[dX .bY (y4 x k.toNat ok v)]⟩)
def afx:HH:=hF ad0 func143 [Vt,ae6,Qr,Vu,Qp] a0 fun x hp hb=>by
 obtain⟨x,k,ok,v⟩:=x
 have dG:=ka (x:=x) (hb _ m0)
 have dN:=dG.1
 have fG:=dG.2.1
 have fF:=dG.2.2.1
 have eI:=dG.2.2.2.1
 have fE:=dG.2.2.2.2
 have abP:=zD (n:=k) (hb _ m1)
 have XM:=LI (x:=v) (hb _ m3)
 have bJ:bT x:=hp _ m0
 have eh:bm x.S=true:=hp _ m1
 have Ef:0<=k/\k<x.ae.length:=hp _ m2
 have hp3:x.State=1\/x.State=3\/x.State=5:=hp _ m3
 clear hp hb
 apply vE (let x8:=x.ae.getD k.toNat aB;let x9:= !x8.aX.toList==ByteArray.toList {data:= #[]:BA};let x2:={S:=x.S,aw:=x.aw,ae:=x.ae,ao:=x.ao,ai:=(bZ {τ:=Cd.aI,xs:=x.ai:cC UU}.xs {F:={Kind:=x8.F.Kind,af:={τ:=Cd.bf,xs:=(List.getD {τ:=Cd.aq,xs:=x.ae:cC UU}.xs k.toNat (UU.ee {τ:=Cd.aq,xs:=x.ae:cC UU}.τ)).F.af:cC UU}.xs:aO},aX:=x8.aX,State:=x8.State,bi:=x8.bi,iy:=x8.iy,V:={K:=x8.V.K,N:=x8.V.N,S:=x8.V.S:aU}:ap}).1,State:=x.State,bB:=x.bB:aj};let x5:= !(bZ {τ:=Cd.aI,xs:=x.ai:cC UU}.xs {F:={Kind:=x8.F.Kind,af:={τ:=Cd.bf,xs:=(List.getD {τ:=Cd.aq,xs:=x.ae:cC UU}.xs k.toNat (UU.ee {τ:=Cd.aq,xs:=x.ae:cC UU}.τ)).F.af:cC UU}.xs:aO},aX:=x8.aX,State:=x8.State,bi:=x8.bi,iy:=x8.iy,V:={K:=x8.V.K,N:=x8.V.N,S:=x8.V.S:aU}:ap}).2;let x6:=jW x8.F {data:= #[110,111]:BA} v;let x7:=jW x8.F {data:= #[111,107]:BA} v;let x0:=cF x2 x7;let x1:=cF x2 x6;let x3:=cF x x6;let x4:=cF x x7;let q0:=ay (y4 x k.toNat ok v);let q1:=k.toNat<x.ae.length/\bT x/\bm x.S=true/\L4 x7.af.length/\LM [] [] [DV.box (ay x4)] [DV.box q0];let q2:=k.toNat<x.ae.length/\bT x/\bm x.S=true/\L4 x6.af.length/\LM [] [] [DV.box (ay x3)] [DV.box q0];let q3:=bT x/\((3:Int)=(3:Int)\/(3:Int)=(5:Int))/\LM [] [] [DV.box (ay (eD x 3))] [DV.box q0];0<=k/\k.toNat<x.ae.length/\k.toNat<x.ae.length/\bif x.State !=1 then bT x/\(x.State=3\/x.State=5)/\LM [] [] [DV.box (ay (nP x))] [DV.box q0] else bif ok then bif ok then bif x9 then k.toNat<x.ae.length/\L4 (bz x.ai)/\L4 x8.F.af.length/\bif x5 then q3 else k.toNat<x.ae.length/\bT x2/\bm x.S=true/\L4 x7.af.length/\LM [] [] [DV.box (ay x0)] [DV.box q0] else q1 else q1 else bif ok then bif x9 then k.toNat<x.ae.length/\L4 (bz x.ai)/\L4 x8.F.af.length/\bif x5 then q3 else k.toNat<x.ae.length/\bT x2/\bm x.S=true/\L4 x6.af.length/\LM [] [] [DV.box (ay x1)] [DV.box q0] else q2 else q2)
 dsimp only
 have Nr:=bJ
 obtain⟨q1,q2,q3,q4⟩:=bJ
 have hk:k.toNat<x.ae.length:=by omega
 have k3:=(sX q2).2.2
 have Lt:=(oB (e_.1 (jM q1 hk)).1).1
 rw[aQ]
 refine⟨Ef.1,hk,hk,i_ (fun hs=>⟨Nr,by omega,by trivial,by trivial,jy ?_⟩) (fun hs=> ?_)⟩
 ·exact(if_pos hs).symm
 have e0:=GG (k:=k.toNat) (ok:=ok) (v:=v) hs
 cases ok with
 |false=>
  simp only[cond_false]
  exact⟨hk,Nr,eh,by simp[jW],by trivial,by trivial,jy (e0.trans (if_neg (by simp))).symm⟩
 |true=>
  simp only[cond_true]
  refine bu ?_ ?_<;>intro g
  ·have g:¬(x.ae.getD k.toNat aB).aX=ah:=yF g
   refine⟨hk,by omega,by omega,bu (fun p=> ?_) (fun p=> ?_)⟩
   ·have p:(bZ x.ai (x.ae.getD k.toNat aB)).2=false:=p
    exact⟨Nr,.inl (by trivial),by trivial,by trivial,jy (e0.trans ((if_pos ⟨rfl,g⟩).trans (if_neg (by rw[p];decide)))).symm⟩
   ·have p:(bZ x.ai (x.ae.getD k.toNat aB)).2=true:=p
    exact⟨hk,vF Nr p,eh,by simp[jW],by trivial,by trivial,jy (e0.trans ((if_pos ⟨rfl,g⟩).trans (if_pos p))).symm⟩
  ·have g:(x.ae.getD k.toNat aB).aX=ah:=yT g
   exact⟨hk,Nr,eh,by simp[jW],by trivial,by trivial,jy (e0.trans (if_neg (fun c=>c.2 g))).symm⟩
def akP:=cf (α:=aj×BA×Bool×aU) (qC (qX .bY) (qC qS (qC qO (q1 (qA .bf))))) [.box true,.ro,.ro,.ro] (fun(x,key,ok,v)=>[bT x,bm x.S=true,bp v=true,(aH x.ae key ok v).2=1->x.State=1\/x.State=3\/x.State=5]) (fun(x,key,ok,v)=>⟨[dI ((eZ x key ok v).2)],[],[dX .bY ((eZ x key ok v).1)]⟩)
def alG:HH:=hF akP func87 [afy,QA,afx] a0 fun x hp hb=>by
 obtain⟨x,key,ok,v⟩:=x
 have bJ:bT x:=hp _ m0
 have eh:bm x.S=true:=hp _ m1
 have Ef:bp v=true:=hp _ m2
 have hp3:(aH x.ae key ok v).2=1->x.State=1\/x.State=3\/x.State=5:=hp _ m3
 clear hp hb
 apply vE (let x1:=aD (aH {τ:=Cd.aq,xs:=x.ae:cC UU}.xs key ok {K:=v.K,N:=v.N,S:=v.S:aU}).1 key;let x2:={S:=x.S,aw:=x.aw,ae:=(aH {τ:=Cd.aq,xs:=x.ae:cC UU}.xs key ok {K:=v.K,N:=v.N,S:=v.S:aU}).1,ao:=x.ao,ai:=x.ai,State:=x.State,bB:=x.bB:aj};let x0:=y4 x2 x1.toNat ok v;let q0:=aH {τ:=Cd.aq,xs:=x.ae:cC UU}.xs key ok {K:=v.K,N:=v.N,S:=v.S:aU};let q1:=eZ x key ok v;aS x.ae=true/\bp v=true/\bif q0.2==1 then bT x2/\bm x.S=true/\(0<=x1/\x1<(↑(q0.1.length):Int))/\(x.State=1\/x.State=3\/x.State=5)/\LM [VI (q0.2)] [VI (q1.2)] [DV.box (ay x0)] [DV.box [CL .aK q1.1.S.aa,CI (q1.1.S.Next),CL .av q1.1.aw,CL .aq q1.1.ae,CL .ax q1.1.ao,CL .aI q1.1.ai,CI (q1.1.State),CI (q1.1.bB)]] else LM [VI (q0.2)] [VI (q1.2)] [DV.box [CL .aK x.S.aa,CI x.S.Next,CL .av x.aw,CL .aq q0.1,CL .ax x.ao,CL .aI x.ai,CI x.State,CI x.bB]] [DV.box [CL .aK q1.1.S.aa,CI (q1.1.S.Next),CL .av q1.1.aw,CL .aq q1.1.ae,CL .ax q1.1.ao,CL .aI q1.1.ai,CI (q1.1.State),CI (q1.1.bB)]])
 dsimp only
 have Nr:=bJ
 have fU:=CF (l:=x.ae) (key:=key) (ok:=ok) (v:=v)
 refine⟨bJ.1,Ef,ct (fun h=> ?_) (fun h=> ?_)⟩
 ·have e:eZ x key ok v=(y4 (pf x (aH x.ae key ok v).1) (aD (aH x.ae key ok v).1 key).toNat ok v,1):=if_pos h
  exact⟨zy Nr,eh,fU h,hp3 h,by trivial,Tm (h.trans (congrArg Prod.snd e).symm),jy (congrArg Prod.fst e).symm⟩
 ·have e:eZ x key ok v=(x,(aH x.ae key ok v).2):=if_neg h
  have e2:=JX (l:=x.ae) (key:=key) (ok:=ok) (v:=v) h
  exact⟨by trivial,Tm (congrArg Prod.snd e).symm,jy (a:=pf x (aH x.ae key ok v).1) ((congrArg (pf x) e2).trans (congrArg Prod.fst e).symm)⟩
def aln:=cf (α:=aj×BA×Bool×aU) (qC (qX .bY) (qC qS (qC qO (q1 (qA .bf))))) [.box true,.ro,.ro,.ro] (fun(x,key,ok,v)=>[bT x,bm x.S=true,(aH x.ae key ok v).2=1->x.State=1\/x.State=3\/x.State=5]) (fun(x,key,ok,v)=>⟨[dI ((eZ x key ok v).2)],[],[dX .bY ((eZ x key ok v).1)]⟩)
def amc:HH:=hF aln func24 [alY,aek,YV,alX,YU,ael,aen] a0 fun x hp hb=>by
 obtain⟨x,key,ok,v⟩:=x
 have bJ:bT x:=hp _ m0
 have eh:bm x.S=true:=hp _ m1
 have Ef:(aH x.ae key ok v).2=1->x.State=1\/x.State=3\/x.State=5:=hp _ m2
 clear hp hb
 apply vE (let x9:={S:=x.S,aw:=x.aw,ae:=(aH {τ:=Cd.aq,xs:=x.ae:cC UU}.xs key ok {K:=v.K,N:=v.N,S:=v.S:aU}).1,ao:=x.ao,ai:=x.ai,State:=x.State,bB:=x.bB:aj};let iF:=aD (aH {τ:=Cd.aq,xs:=x.ae:cC UU}.xs key ok {K:=v.K,N:=v.N,S:=v.S:aU}).1 key;let x7:=eD x9 3;let x8:=nP x9;let sT:=iF.toNat;let x6:=(aH {τ:=Cd.aq,xs:=x.ae:cC UU}.xs key ok {K:=v.K,N:=v.N,S:=v.S:aU}).1.getD sT aB;let l7:=jW x6.F {data:= #[110,111]:BA} v;let sU:=jW x6.F {data:= #[111,107]:BA} v;let Cg:= !x6.aX.toList==ByteArray.toList {data:= #[]:BA};let x2:={S:=x.S,aw:=x.aw,ae:=(aH {τ:=Cd.aq,xs:=x.ae:cC UU}.xs key ok {K:=v.K,N:=v.N,S:=v.S:aU}).1,ao:=x.ao,ai:=(bZ {τ:=Cd.aI,xs:=x.ai:cC UU}.xs {F:={Kind:=x6.F.Kind,af:={τ:=Cd.bf,xs:=(List.getD {τ:=Cd.aq,xs:=(aH {τ:=Cd.aq,xs:=x.ae:cC UU}.xs key ok {K:=v.K,N:=v.N,S:=v.S:aU}).1:cC UU}.xs sT (UU.ee {τ:=Cd.aq,xs:=(aH {τ:=Cd.aq,xs:=x.ae:cC UU}.xs key ok {K:=v.K,N:=v.N,S:=v.S:aU}).1:cC UU}.τ)).F.af:cC UU}.xs:aO},aX:=x6.aX,State:=x6.State,bi:=x6.bi,iy:=x6.iy,V:={K:=x6.V.K,N:=x6.V.N,S:=x6.V.S:aU}:ap}).1,State:=x.State,bB:=x.bB:aj};let x3:=cF x9 l7;let x4:=cF x9 sU;let x5:= !(bZ {τ:=Cd.aI,xs:=x.ai:cC UU}.xs {F:={Kind:=x6.F.Kind,af:={τ:=Cd.bf,xs:=(List.getD {τ:=Cd.aq,xs:=(aH {τ:=Cd.aq,xs:=x.ae:cC UU}.xs key ok {K:=v.K,N:=v.N,S:=v.S:aU}).1:cC UU}.xs sT (UU.ee {τ:=Cd.aq,xs:=(aH {τ:=Cd.aq,xs:=x.ae:cC UU}.xs key ok {K:=v.K,N:=v.N,S:=v.S:aU}).1:cC UU}.τ)).F.af:cC UU}.xs:aO},aX:=x6.aX,State:=x6.State,bi:=x6.bi,iy:=x6.iy,V:={K:=x6.V.K,N:=x6.V.N,S:=x6.V.S:aU}:ap}).2;let x0:=cF x2 l7;let x1:=cF x2 sU;let q0:=aH {τ:=Cd.aq,xs:=x.ae:cC UU}.xs key ok {K:=v.K,N:=v.N,S:=v.S:aU};let q1:=eZ x key ok v;let q2:=sT<q0.1.length/\bT x9/\bm x.S=true/\L4 sU.af.length/\LM [VI (q0.2)] [VI (q1.2)] [DV.box (ay x4)] [DV.box [CL .aK q1.1.S.aa,CI (q1.1.S.Next),CL .av q1.1.aw,CL .aq q1.1.ae,CL .ax q1.1.ao,CL .aI q1.1.ai,CI (q1.1.State),CI (q1.1.bB)]];let q3:=sT<q0.1.length/\bT x9/\bm x.S=true/\L4 l7.af.length/\LM [VI (q0.2)] [VI (q1.2)] [DV.box (ay x3)] [DV.box [CL .aK q1.1.S.aa,CI (q1.1.S.Next),CL .av q1.1.aw,CL .aq q1.1.ae,CL .ax q1.1.ao,CL .aI q1.1.ai,CI (q1.1.State),CI (q1.1.bB)]];let q4:=bT x9/\LM [VI (q0.2)] [VI (q1.2)] [DV.box (ay x7)] [DV.box [CL .aK q1.1.S.aa,CI (q1.1.S.Next),CL .av q1.1.aw,CL .aq q1.1.ae,CL .ax q1.1.ao,CL .aI q1.1.ai,CI (q1.1.State),CI (q1.1.bB)]];let q5:=q1.1.S.Next;L4 (bO x.ae)/\bif q0.2 !=1 then LM [VI (q0.2)] [VI (q1.2)] [DV.box (ay x)] [DV.box [CL .aK q1.1.S.aa,CI q5,CL .av q1.1.aw,CL .aq q1.1.ae,CL .ax q1.1.ao,CL .aI q1.1.ai,CI (q1.1.State),CI (q1.1.bB)]] else bif x.State !=1 then bT x9/\(x.State=3\/x.State=5)/\LM [VI (q0.2)] [VI (q1.2)] [DV.box (ay x8)] [DV.box [CL .aK q1.1.S.aa,CI q5,CL .av q1.1.aw,CL .aq q1.1.ae,CL .ax q1.1.ao,CL .aI q1.1.ai,CI (q1.1.State),CI (q1.1.bB)]] else 0<=iF/\sT<q0.1.length/\sT<q0.1.length/\bif ok then bif ok then bif Cg then sT<q0.1.length/\L4 (bz x.ai)/\L4 x6.F.af.length/\bif x5 then q4 else sT<q0.1.length/\bT x2/\bm x.S=true/\L4 sU.af.length/\LM [VI (q0.2)] [VI (q1.2)] [DV.box (ay x1)] [DV.box [CL .aK q1.1.S.aa,CI q5,CL .av q1.1.aw,CL .aq q1.1.ae,CL .ax q1.1.ao,CL .aI q1.1.ai,CI (q1.1.State),CI (q1.1.bB)]] else q2 else q2 else bif ok then bif Cg then sT<q0.1.length/\L4 (bz x.ai)/\L4 x6.F.af.length/\bif x5 then q4 else sT<q0.1.length/\bT x2/\bm x.S=true/\L4 l7.af.length/\LM [VI (q0.2)] [VI (q1.2)] [DV.box (ay x0)] [DV.box [CL .aK q1.1.S.aa,CI q5,CL .av q1.1.aw,CL .aq q1.1.ae,CL .ax q1.1.ao,CL .aI q1.1.ai,CI (q1.1.State),CI (q1.1.bB)]] else q3 else q3)
 dsimp only
 have Nr:=bJ
 have fU:=CF (l:=x.ae) (key:=key) (ok:=ok) (v:=v)
 have k3:=(sX bJ.2.1).2.2
 have kt:=(pT bJ.1).2
 have hy:=zy (key:=key) (ok:=ok) (v:=v) Nr
 rw[aQ]
 refine⟨by omega,i_ (fun h=> ?_) (fun h=> ?_)⟩
 ·have e:eZ x key ok v=(x,(aH x.ae key ok v).2):=if_neg h
  exact⟨by trivial,Tm (congrArg Prod.snd e).symm,jy (congrArg Prod.fst e).symm⟩
 have e:eZ x key ok v=(y4 (pf x (aH x.ae key ok v).1) (aD (aH x.ae key ok v).1 key).toNat ok v,1):=if_pos h
 have e1:=Tm (h.trans (congrArg Prod.snd e).symm)
 have e2:=congrArg Prod.fst e
 obtain⟨l1,l2⟩:=fU h
 have hk:(aD (aH x.ae key ok v).1 key).toNat<(aH x.ae key ok v).1.length:=by omega
 have Lt:((aH x.ae key ok v).1.getD (aD (aH x.ae key ok v).1 key).toNat aB).F.af.length<=5:=(oB (e_.1 (jM hy.1 hk)).1).1
 refine i_ (fun hs=>⟨hy,by have:=Ef h;omega,by trivial,e1,jy (e2.trans (if_pos hs)).symm⟩) (fun hs=>⟨l1,hk,hk,?_⟩)
 have e0:=GG (x:=pf x (aH x.ae key ok v).1) (k:=(aD (aH x.ae key ok v).1 key).toNat) (ok:=ok) (v:=v) hs
 have e3:=e2.trans e0
 cases ok with
 |false=>
  simp only[cond_false]
  exact⟨hk,hy,eh,by simp[jW],by trivial,e1,jy (e3.trans (if_neg (by simp))).symm⟩
 |true=>
  simp only[cond_true]
  refine bu ?_ ?_<;>intro g
  ·have g:¬((aH x.ae key true v).1.getD (aD (aH x.ae key true v).1 key).toNat aB).aX=ah:=yF g
   refine⟨hk,by omega,by omega,bu (fun p=> ?_) (fun p=> ?_)⟩
   ·have p:(bZ x.ai ((aH x.ae key true v).1.getD (aD (aH x.ae key true v).1 key).toNat aB)).2=false:=p
    exact⟨hy,by trivial,e1,jy (e3.trans ((if_pos ⟨rfl,g⟩).trans (if_neg (fun c=>absurd (p.symm.trans c) (by decide))))).symm⟩
   ·have p:(bZ x.ai ((aH x.ae key true v).1.getD (aD (aH x.ae key true v).1 key).toNat aB)).2=true:=p
    exact⟨hk,vF hy p,eh,by simp[jW],by trivial,e1,jy (e3.trans ((if_pos ⟨rfl,g⟩).trans (if_pos p))).symm⟩
  ·have g:((aH x.ae key true v).1.getD (aD (aH x.ae key true v).1 key).toNat aB).aX=ah:=yT g
   exact⟨hk,hy,eh,by simp[jW],by trivial,e1,jy (e3.trans (if_neg (fun c=>c.2 g))).symm⟩
def jC:List bQ->BA->aU×Bool
 |[],_=>(du,false)
 |b::l,n=>if b.Name=n then(b.V,true) else jC l n
theorem I'(l:List bQ)(n:BA){i:Int}(h0:0<=i)(h:i<l.length):jC (l.drop i.toNat) n=if(l.getD i.toNat sj).Name=n then((l.getD i.toNat sj).V,true) else jC (l.drop (i+1).toNat) n:=by
 rw[dx l sj h0 h];rfl
def cp(a:cP)(l:List bQ):aU×Bool:=if a.K=2 then(a.V,true) else if a.K=1 then jC l a.S else(du,false)
def Oy(n:Int):aU:=⟨1,n,ah⟩
def lG(a b:aU):Bool:=decide (a.K=1)&&decide (b.K=1)&&bp a&&bp b
def iu(a b:aU)(n:Int):Bool:=lG a b&&bp (Oy n)
def l9(a b:aU)(n:Int):aU:=if iu a b n then Oy n else du
theorem Iw{a b:aU}(h:lG a b=true):(-1000000000<=a.N/\a.N<=1000000000)/\(-1000000000<=b.N/\b.N<=1000000000):=by
 simp only[lG,cH,decide_eq_true_eq] at h
 obtain⟨⟨⟨h1,h2⟩,h3⟩,h4⟩:=h
 simp only[bp,h1,h2,decide_true,cond_true,cH,decide_eq_true_eq] at h3 h4
 exact⟨h3.1,h4.1⟩
theorem Cp(a b:aU)(n:Int)(h:lG a b=true->IntKind.wrap .i64 n=n):iu a b (IntKind.wrap .i64 n)=iu a b n:=by
 cases hi:lG a b with
 |false=>simp only[iu,hi,si]
 |true=>rw[h hi]
theorem Es(a b:aU)(n:Int)(h:lG a b=true->IntKind.wrap .i64 n=n):l9 a b (IntKind.wrap .i64 n)=l9 a b n:=by
 cases hi:lG a b with
 |false=>simp only[l9,iu,hi,si];rfl
 |true=>rw[h hi]
def pD(e:cj)(l:List bQ):aU×Bool:=
 if(cp e.L l).2=false then(du,false) else if e.Op=ah then((cp e.L l).1,true) else if(cp e.R l).2=false then(du,false)
 else if e.Op=Dw then(l9 (cp e.L l).1 (cp e.R l).1 ((cp e.L l).1.N+(cp e.R l).1.N),iu (cp e.L l).1 (cp e.R l).1 ((cp e.L l).1.N+(cp e.R l).1.N))
 else if e.Op=vO then(l9 (cp e.L l).1 (cp e.R l).1 ((cp e.L l).1.N-(cp e.R l).1.N),iu (cp e.L l).1 (cp e.R l).1 ((cp e.L l).1.N-(cp e.R l).1.N)) else(du,false)
def tv(l:List bQ)(e:cj):aU:=(pD e l).1
def tw(l:List bQ)(e:cj):Bool:=(pD e l).2
def lQ(es:List cj)(l:List bQ):Bool:=es.all (tw l)
def lN(es:List cj)(l:List bQ):List aU:=if lQ es l then es.map (tv l) else[]
theorem VQ{a a':aU}{b b':Bool}(h1:a=a')(h2:b=b'):Lf [.agg [CI a.K,CI a.N,.lit (.string a.S)],.one (.lit (.bool b))] [.agg [CI a'.K,CI a'.N,.lit (.string a'.S)],.one (.lit (.bool b'))]:=by
 subst h1 h2;exact aV _
theorem ag'{a a':List aU}{b b':Bool}(h1:a=a')(h2:b=b'):Lf [.one (.sl .bf a),.one (.lit (.bool b))] [.one (.sl .bf a'),.one (.lit (.bool b'))]:=by
 subst h1 h2;exact aV _
theorem Co{a b:aU}{n:Int}(h:iu a b n=false):Lf [.agg [CI 0,CI 0,.lit (.string ⟨#[]⟩)],.one (.lit (.bool false))] [.agg [CI ((l9 a b n).K),CI ((l9 a b n).N),.lit (.string (l9 a b n).S)],.one (.lit (.bool (iu a b n)))]:=
 VQ (a:=du) (by simp only[l9,h];rfl) h.symm
theorem Re{a b:aU}{n:Int}(h:iu a b n=true):Lf [.agg [CI 1,CI n,.lit (.string ⟨#[]⟩)],.one (.lit (.bool true))] [.agg [CI ((l9 a b n).K),CI ((l9 a b n).N),.lit (.string (l9 a b n).S)],.one (.lit (.bool (iu a b n)))]:=
 VQ (a:=Oy n) (by simp only[l9,h];rfl) h.symm
theorem Jh{a b:aU}(h:lG a b=true):IntKind.wrap .i64 (a.N+b.N)=a.N+b.N:=by
 have:=Iw h
 exact wi
theorem HR{a b:aU}(h:lG a b=true):IntKind.wrap .i64 (a.N-b.N)=a.N-b.N:=by
 have:=Iw h
 exact wi
def Up:=cf (α:=(List bQ)×BA) (qC (qL .cw) (q1 qS)) [.ro,.ro] (fun _=>[]) (fun(l,name)=>⟨[dA .bf ((jC l name).1),dO ((jC l name).2)],[],[]⟩)
def Br(l:List bQ)(name:BA):Int×T20×Unit->Prop:=fun(i,r,_)=>r=(0,0,ah,())/\0<=i/\i<=l.length/\jC (l.drop i.toNat) name=jC l name
def AD(l:List bQ)(name:BA):Int×T20×Unit->Nat:=fun(i,r,_)=>l.length-i.toNat
def af6:AX Up:=fun(l,name)=>b_ [(2,aY [iI 6,.box 4 (4,1024) [.lit (.int .i64),.lit (.int .i64),.lit .str]] (fun _=>Br l name) (AD l name))]
def Vo:HH:=hF Up func238 [] af6 fun x hp hb=>by
 obtain⟨l,name⟩:=x
 have jB:L9 l.length:=kc (hb _ m0)
 have Ak:=KB (s:=name) (hb _ m1)
 clear hp hb
 apply vE (let q0:=jC l name;Br l name (0,(0,0,{data:= #[]:BA},()),())/\∀(y:Int×(Int×Int×BA×PUnit)×PUnit),let x0:=(l.getD y.1.toNat sj).V;let q1:=(wrap i64 (y.1+1),(y.2.1.1,y.2.1.2.1,y.2.1.2.2.1,()),());Br l name y->bif decide (y.1<(l.length:Int)) then 0<=y.1/\y.1.toNat<l.length/\bif (l.getD y.1.toNat sj).Name.toList==name.toList then 0<=y.1/\y.1.toNat<l.length/\Lf [DV.agg [CI x0.K,CI x0.N,CS x0.S],VB true] [DV.agg [CI (q0.1.K),CI (q0.1.N),CS (q0.1.S)],VB (q0.2)] else Br l name q1/\AD l name q1<AD l name y else Lf [DV.agg [CI 0,CI 0,CS ({data:= #[]:BA})],VB false] [DV.agg [CI (q0.1.K),CI (q0.1.N),CS (q0.1.S)],VB (q0.2)])
 dsimp only
 refine⟨⟨rfl,by omega,by omega,rfl⟩,?_⟩
 rintro⟨i,⟨r1,r2,r3,⟨⟩⟩,⟨⟩⟩ ⟨hr,h1,h2,hR⟩
 cases hr
 simp only
 refine bc ?_ ?_<;>intro hc
 ·rw[I' l name h1 hc] at hR
  rw[aQ]
  refine⟨by omega,by omega,bc (fun g=> ?_) (fun g=> ?_)⟩
  ·rw[if_pos g] at hR;rw[<-hR];exact⟨by omega,by omega,aV _⟩
  ·rw[if_neg g] at hR;rw[wi];exact⟨⟨rfl,by omega,by omega,hR⟩,by simp only[AD];omega⟩
 ·have e:l.drop i.toNat=[]:=List.drop_eq_nil_of_le (by omega)
  rw[e] at hR;rw[<-hR];exact aV _
def adl:=cf (α:=cP×(List bQ)) (qC (qA .im) (q1 (qL .cw))) [.ro,.ro] (fun _=>[]) (fun(a,l)=>⟨[dA .bf ((cp a l).1),dO ((cp a l).2)],[],[]⟩)
def Vn:HH:=hF adl func242 [Vo] a0 fun x hp hb=>by
 obtain⟨a,l⟩:=x
 clear hp hb
 apply vE (let q0:=cp a l;let q1:=jC l a.S;bif a.K==2 then Lf [DV.agg [CI a.V.K,CI a.V.N,CS a.V.S],VB true] [DV.agg [CI (q0.1.K),CI (q0.1.N),CS (q0.1.S)],VB (q0.2)] else bif a.K==1 then Lf [DV.agg [CI (q1.1.K),CI (q1.1.N),CS (q1.1.S)],VB (q1.2)] [DV.agg [CI (q0.1.K),CI (q0.1.N),CS (q0.1.S)],VB (q0.2)] else Lf [DV.agg [CI 0,CI 0,CS ({data:= #[]:BA})],VB false] [DV.agg [CI (q0.1.K),CI (q0.1.N),CS (q0.1.S)],VB (q0.2)])
 dsimp only
 refine ct (fun h=> ?_) (fun h=>ct (fun h'=> ?_) (fun h'=> ?_))
 ·have e:cp a l=(a.V,true):=if_pos h
  rw[e];exact aV _
 ·have e:cp a l=jC l a.S:=(if_neg h).trans (if_pos h')
  rw[e];exact aV _
 ·have e:cp a l=(du,false):=(if_neg h).trans (if_neg h')
  rw[e];exact aV _
def adf:=cf (α:=aU×aU×Int) (qC (qA .bf) (qC (qA .bf) (q1 qI))) [.ro,.ro,.ro] (fun _=>[]) (fun(a,b,n)=>⟨[dA .bf (l9 a b n),dO (iu a b n)],[],[]⟩)
def Vm:HH:=hF adf func251 [Qt] a0 fun x hp hb=>by
 obtain⟨a,b,n⟩:=x
 clear hp hb
 apply vE (let q0:=Lf [DV.agg [CI 0,CI 0,CS ({data:= #[]:BA})],VB false] [DV.agg [CI ((l9 a b n).K),CI ((l9 a b n).N),CS ((l9 a b n).S)],VB (iu a b n)];bif a.K !=1 then q0 else bif b.K !=1 then q0 else bif !bp a then q0 else bif !bp b then q0 else bif !bp {K:=(1:Int),N:=n,S:={data:= #[]:BA}:aU} then q0 else Lf [DV.agg [CI 1,CI n,CS ({data:= #[]:BA})],VB true] [DV.agg [CI ((l9 a b n).K),CI ((l9 a b n).N),CS ((l9 a b n).S)],VB (iu a b n)])
 dsimp only
 refine i_ (fun h=>Co ?_) (fun h1=>i_ (fun h=>Co ?_) (fun h2=>bu (fun h=>Co ?_) (fun h3=>bu (fun h=>Co ?_) (fun h4=>bu (fun h=>Co ?_) (fun h5=>Re ?_)))))
 ·simp only[iu,lG,decide_eq_false h,si]
 ·simp only[iu,lG,decide_eq_false h,si,wa]
 ·simp only[iu,lG,show bp a=false from h,si,wa]
 ·simp only[iu,lG,show bp b=false from h,si,wa]
 ·simp only[iu,show bp (Oy n)=false from h,wa]
 ·simp only[iu,lG,show bp a=true from h3,show bp b=true from h4,show bp (Oy n)=true from h5,decide_eq_true h1,decide_eq_true h2];rfl
def adk:=cf (α:=aU×aU) (qC (qA .bf) (q1 (qA .bf))) [.ro,.ro] (fun _=>[]) (fun(a,b)=>⟨[dA .bf (l9 a b (a.N+b.N)),dO (iu a b (a.N+b.N))],[],[]⟩)
def aeB:HH:=hF adk func243 [Vm] a0 fun x hp hb=>by
 obtain⟨a,b⟩:=x
 clear hp hb
 apply vE (let x2:=a.N+b.N;let x0:=l9 a b (wrap i64 x2);let x1:=l9 a b x2;Lf [DV.agg [CI x0.K,CI x0.N,CS x0.S],VB (iu a b (wrap i64 x2))] [DV.agg [CI x1.K,CI x1.N,CS x1.S],VB (iu a b x2)])
 dsimp only
 rw[Cp a b _ Jh,Es a b _ Jh];exact aV _
def adj:=cf (α:=aU×aU) (qC (qA .bf) (q1 (qA .bf))) [.ro,.ro] (fun _=>[]) (fun(a,b)=>⟨[dA .bf (l9 a b (a.N-b.N)),dO (iu a b (a.N-b.N))],[],[]⟩)
def aeA:HH:=hF adj func244 [Vm] a0 fun x hp hb=>by
 obtain⟨a,b⟩:=x
 clear hp hb
 apply vE (let x2:=a.N-b.N;let x0:=l9 a b (wrap i64 x2);let x1:=l9 a b x2;Lf [DV.agg [CI x0.K,CI x0.N,CS x0.S],VB (iu a b (wrap i64 x2))] [DV.agg [CI x1.K,CI x1.N,CS x1.S],VB (iu a b x2)])
 dsimp only
 rw[Cp a b _ HR,Es a b _ HR];exact aV _
def adr:=cf (α:=cj×(List bQ)) (qC (qA .bN) (q1 (qL .cw))) [.ro,.ro] (fun _=>[]) (fun(e,l)=>⟨[dA .bf (tv l e),dO (tw l e)],[],[]⟩)
def aeI:HH:=hF adr func228 [Vn,aeB,aeA] a0 fun x hp hb=>by
 obtain⟨e,l⟩:=x
 clear hp hb
 apply vE (let x4:=(cp {K:=e.L.K,S:=e.L.S,V:={K:=e.L.V.K,N:=e.L.V.N,S:=e.L.V.S:aU}:cP} l).1.N;let x5:=(cp {K:=e.R.K,S:=e.R.S,V:={K:=e.R.V.K,N:=e.R.V.N,S:=e.R.V.S:aU}:cP} l).1.N;let x2:=x4-x5;let x3:=x4+x5;let x0:=l9 (cp {K:=e.L.K,S:=e.L.S,V:={K:=e.L.V.K,N:=e.L.V.N,S:=e.L.V.S:aU}:cP} l).1 (cp {K:=e.R.K,S:=e.R.S,V:={K:=e.R.V.K,N:=e.R.V.N,S:=e.R.V.S:aU}:cP} l).1 x2;let x1:=l9 (cp {K:=e.L.K,S:=e.L.S,V:={K:=e.L.V.K,N:=e.L.V.N,S:=e.L.V.S:aU}:cP} l).1 (cp {K:=e.R.K,S:=e.R.S,V:={K:=e.R.V.K,N:=e.R.V.N,S:=e.R.V.S:aU}:cP} l).1 x3;let q0:=Lf [DV.agg [CI 0,CI 0,CS ({data:= #[]:BA})],VB false] [DV.agg [CI ((tv l e).K),CI ((tv l e).N),CS ((tv l e).S)],VB (tw l e)];let q1:=cp {K:=e.L.K,S:=e.L.S,V:={K:=e.L.V.K,N:=e.L.V.N,S:=e.L.V.S:aU}:cP} l;let q2:=cp {K:=e.R.K,S:=e.R.S,V:={K:=e.R.V.K,N:=e.R.V.N,S:=e.R.V.S:aU}:cP} l;let q3:=tv l e;bif !q1.2 then q0 else bif e.Op.toList==ByteArray.toList {data:= #[]:BA} then Lf [DV.agg [CI (q1.1.K),CI x4,CS (q1.1.S)],VB true] [DV.agg [CI (q3.K),CI (q3.N),CS (q3.S)],VB (tw l e)] else bif !q2.2 then q0 else bif e.Op.toList==ByteArray.toList {data:= #[43]:BA} then Lf [DV.agg [CI x1.K,CI x1.N,CS x1.S],VB (iu q1.1 q2.1 x3)] [DV.agg [CI (q3.K),CI (q3.N),CS (q3.S)],VB (tw l e)] else bif e.Op.toList==ByteArray.toList {data:= #[45]:BA} then Lf [DV.agg [CI x0.K,CI x0.N,CS x0.S],VB (iu q1.1 q2.1 x2)] [DV.agg [CI (q3.K),CI (q3.N),CS (q3.S)],VB (tw l e)] else q0)
 dsimp only
 have eL:(⟨e.L.K,e.L.S,⟨e.L.V.K,e.L.V.N,e.L.V.S⟩⟩:cP)=e.L:=rfl
 have eR:(⟨e.R.K,e.R.S,⟨e.R.V.K,e.R.V.N,e.R.V.S⟩⟩:cP)=e.R:=rfl
 simp only[eL,eR,aQ]
 refine bu (fun h=> ?_) (fun h=>bc (fun h1=> ?_) (fun h1=>bu (fun h2=> ?_) (fun h2=>bc (fun h3=> ?_) (fun h3=>bc (fun h4=> ?_) (fun h4=> ?_)))))
 all_goals have hn:(cp e.L l).2=false->pD e l=(du,false):=fun h=>if_pos h
 ·have e1:=hn h
  exact VQ (a:=du) (congrArg Prod.fst e1).symm (congrArg Prod.snd e1).symm
 all_goals have h0:¬(cp e.L l).2=false:=by rw[h];decide
 ·have e1:pD e l=((cp e.L l).1,true):=(if_neg h0).trans (if_pos h1)
  exact VQ (congrArg Prod.fst e1).symm (congrArg Prod.snd e1).symm
 ·have e1:pD e l=(du,false):=(if_neg h0).trans ((if_neg h1).trans (if_pos h2))
  exact VQ (a:=du) (congrArg Prod.fst e1).symm (congrArg Prod.snd e1).symm
 all_goals have h5:¬(cp e.R l).2=false:=by rw[h2];decide
 ·have e1:pD e l=_:=(if_neg h0).trans ((if_neg h1).trans ((if_neg h5).trans (if_pos h3)))
  exact VQ (congrArg Prod.fst e1).symm (congrArg Prod.snd e1).symm
 ·have e1:pD e l=_:=(if_neg h0).trans ((if_neg h1).trans ((if_neg h5).trans ((if_neg h3).trans (if_pos h4))))
  exact VQ (congrArg Prod.fst e1).symm (congrArg Prod.snd e1).symm
 ·have e1:pD e l=(du,false):=(if_neg h0).trans ((if_neg h1).trans ((if_neg h5).trans ((if_neg h3).trans (if_neg h4))))
  exact VQ (a:=du) (congrArg Prod.fst e1).symm (congrArg Prod.snd e1).symm
def UC:=cf (α:=(List cj)×(List bQ)) (qC (qL .bN) (q1 (qL .cw))) [.ro,.ro] (fun(es,l)=>[es.length<=4294967295]) (fun(es,l)=>⟨[dL .bf (lN es l),dO (lQ es l)],[],[]⟩)
def BD(es:List cj)(l:List bQ):List aU×Int×Unit->Prop:=fun(o,i,_)=>0<=i/\i<=es.length/\o=(es.take i.toNat).map (tv l)/\(es.drop i.toNat).all (tw l)=es.all (tw l)
def AN(es:List cj)(l:List bQ):List aU×Int×Unit->Nat:=fun(o,i,_)=>es.length-i.toNat
def agj:AX UC:=fun(es,l)=>b_ [(3,aY [iO 6 .bf,iI 7] (fun _=>BD es l) (AN es l))]
def aeV:HH:=hF UC func207 [aeI] agj fun x hp hb=>by
 obtain⟨es,l⟩:=x
 have abS:L9 es.length:=kc (hb _ m0)
 have jB:L9 l.length:=kc (hb _ m1)
 have bJ:es.length<=4294967295:=hp _ m0
 clear hp hb
 apply vE (BD es l ([],0,())/\∀(y:List aU×Int×PUnit),let x2:=y.2.1.toNat;let x1:=es.getD x2 ez;let x0:=[tv l x1];let q0:=(y.1++x0,wrap i64 (y.2.1+1),());BD es l y->bif decide (y.2.1<(es.length:Int)) then 0<=y.2.1/\x2<es.length/\bif !tw l x1 then Lf [VL .bf [],VB false] [VL .bf (lN es l),VB (lQ es l)] else L4 (y.1.length+x0.length)/\BD es l q0/\AN es l q0<AN es l y else Lf [VL .bf y.1,VB true] [VL .bf (lN es l),VB (lQ es l)])
 dsimp only
 refine⟨⟨by omega,by omega,by simp,rfl⟩,?_⟩
 rintro⟨o,i,⟨⟩⟩ ⟨h1,h2,rfl,hR⟩
 dsimp only
 refine bc ?_ ?_<;>intro hc
 ·rw[dE _ _ ez h1 hc] at hR
  refine⟨by omega,by omega,bu (fun g=> ?_) (fun g=> ?_)⟩
  ·have hf:lQ es l=false:=by rw[lQ,<-hR,show tw l (es.getD i.toNat ez)=false from g];rfl
   exact ag' (by rw[lN,if_neg (by rw[hf];decide)];rfl) hf.symm
  ·rw[show tw l (es.getD i.toNat ez)=true from g,vh] at hR
   have hm:(es.take i.toNat).map (tv l)++[tv l (es.getD i.toNat ez)]=(es.take (i+1).toNat).map (tv l):=by rw[<-db es ez h1 hc,HC];rfl
   rw[wi]
   exact⟨by simp only[uW,nE,ir,ig];omega,⟨by omega,by omega,hm,hR⟩,by simp only[AN];omega⟩
 ·have e:es.drop i.toNat=[]:=List.drop_eq_nil_of_le (by omega)
  rw[e] at hR
  have hf:lQ es l=true:=hR.symm
  rw[cA es (by omega)]
  exact ag' (by rw[lN,if_pos hf]) hf.symm
def tR(a b:aU):Bool:=if a.K=b.K then(if a.N=b.N then Op.bytesLess a.S.toList b.S.toList else decide (a.N<b.N)) else decide (a.K<b.K)
def yD(l:List bQ)(c:dt):Bool:=(cp c.L l).2&&(cp c.R l).2&&(if c.Op=1 then decide ((cp c.L l).1=(cp c.R l).1) else if c.Op=2 then !decide ((cp c.L l).1=(cp c.R l).1) else if c.Op=3 then tR (cp c.L l).1 (cp c.R l).1 else false)
def ri(cs:List dt)(l:List bQ):Bool:=cs.all (yD l)
def jZ(out:List bQ)(a:cP)(v:aU):Option (List bQ):=
 if a.K=2 then(if a.V=v then some out else none) else if a.K=1 then(if(jC out a.S).2=true then(if(jC out a.S).1=v then some out else none) else some (out++[⟨a.S,v⟩])) else some out
def iJ:List cP->List aU->List bQ->Option (List bQ)
 |[],_,out=>some out
 |a::al,v::vs,out=>match jZ out a v with|some o=>iJ al vs o|none=>none
 |_::_,[],_=>none
def fe(p:ck)(f:aO)(l:List bQ):Option (List bQ):=if f.Kind=p.Kind/\f.af.length=p.aC.length then iJ p.aC f.af l else none
def Pd(p:ck)(l:List bQ)(x:bW):Bool:=(fe p x.F l).isSome
def yZ(s:List bW)(l:List bQ)(p:ck):Bool:=p.Not&&s.any (Pd p l)
def oH(r:a_)(s:List bW)(l:List bQ):Bool:=r.aM.any (yZ s l)
theorem D_{out:List bQ}{a:cP}{v:aU}{o:List bQ}(h:jZ out a v=some o):o.length<=out.length+1:=by
 simp only[jZ] at h
 repeat' (split at h)
 all_goals first|(cases h;simp)|cases h
theorem vc:∀{al:List cP}{vs:List aU}{out o:List bQ},iJ al vs out=some o->o.length<=out.length+al.length
 |[],_,out,o,h=>by simp only[iJ,fM] at h;subst h;simp
 |a::al,v::vs,out,o,h=>by
  simp only[iJ] at h
  split at h
  ·rename_i o' he
   have:=D_ he
   have:=vc h
   simp only[ir];omega
  ·cases h
 |_::_,[],_,_,h=>by simp[iJ] at h
theorem CV{p:ck}{f:aO}{l o:List bQ}(h:fe p f l=some o):o.length<=l.length+p.aC.length:=by
 simp only[fe] at h
 split at h
 ·exact vc h
 ·cases h
theorem CW{al:List cP}{vs:List aU}(o:List bQ){i:Int}(h0:0<=i)(h:i<al.length)(hl:vs.length=al.length):iJ (al.drop i.toNat) (vs.drop i.toNat) o=match jZ o (al.getD i.toNat l8) (vs.getD i.toNat du) with|some o'=>iJ (al.drop (i+1).toNat) (vs.drop (i+1).toNat) o'|none=>none:=by
 rw[dx al l8 h0 h,dx vs du h0 (by omega)];rfl
theorem Sd{a b:aU}{P Q:Prop}(h1:¬a=b->P)(h2:a=b->Q):bif !(a.K==b.K&&(a.N==b.N&&(a.S.toList==b.S.toList&&true))) then P else Q:=by
 rw[gg];exact bu (fun h=>h1 (yF h)) (fun h=>h2 (yT h))
theorem Lp{a b:BA}{P Q:Prop}(h1:¬a=b->P)(h2:a=b->Q):bif !(a.toList==b.toList) then P else Q:=by
 rw[aQ];exact bu (fun h=>h1 (yF h)) (fun h=>h2 (yT h))
def adi:=cf (α:=aU×aU) (qC (qA .bf) (q1 (qA .bf))) [.ro,.ro] (fun _=>[]) (fun(a,b)=>⟨[dO (tR a b)],[],[]⟩)
def aey:HH:=hF adi func248 [] a0 fun x hp hb=>by
 obtain⟨a,b⟩:=x
 clear hp hb
 apply vE (bif a.K !=b.K then Lb (decide (a.K<b.K)) (tR a b) else bif a.N !=b.N then Lb (decide (a.N<b.N)) (tR a b) else Lb (Op.bytesLess (a.S.toList) (b.S.toList)) (tR a b))
 refine i_ (fun h=>cg (if_neg h).symm) (fun h=>i_ (fun g=>cg ?_) (fun g=>cg ?_))
 ·exact((if_pos h).trans (if_neg g)).symm
 ·exact((if_pos h).trans (if_pos g)).symm
def ado:=cf (α:=dt×(List bQ)) (qC (qA .cM) (q1 (qL .cw))) [.ro,.ro] (fun _=>[]) (fun(c,l)=>⟨[dO (yD l c)],[],[]⟩)
def aeF:HH:=hF ado func237 [Vn,aey] a0 fun x hp hb=>by
 obtain⟨c,l⟩:=x
 clear hp hb
 apply vE (let x0:=(cp {K:=c.L.K,S:=c.L.S,V:={K:=c.L.V.K,N:=c.L.V.N,S:=c.L.V.S:aU}:cP} l).1.K==(cp {K:=c.R.K,S:=c.R.S,V:={K:=c.R.V.K,N:=c.R.V.N,S:=c.R.V.S:aU}:cP} l).1.K&&((cp {K:=c.L.K,S:=c.L.S,V:={K:=c.L.V.K,N:=c.L.V.N,S:=c.L.V.S:aU}:cP} l).1.N==(cp {K:=c.R.K,S:=c.R.S,V:={K:=c.R.V.K,N:=c.R.V.N,S:=c.R.V.S:aU}:cP} l).1.N&&((cp {K:=c.L.K,S:=c.L.S,V:={K:=c.L.V.K,N:=c.L.V.N,S:=c.L.V.S:aU}:cP} l).1.S.toList==(cp {K:=c.R.K,S:=c.R.S,V:={K:=c.R.V.K,N:=c.R.V.N,S:=c.R.V.S:aU}:cP} l).1.S.toList&&true));let q0:=cp {K:=c.L.K,S:=c.L.S,V:={K:=c.L.V.K,N:=c.L.V.N,S:=c.L.V.S:aU}:cP} l;let q1:=cp {K:=c.R.K,S:=c.R.S,V:={K:=c.R.V.K,N:=c.R.V.N,S:=c.R.V.S:aU}:cP} l;let q2:=yD l c;bif !q0.2 then Lb false q2 else bif !q1.2 then Lb false q2 else bif c.Op==1 then Lb x0 q2 else bif c.Op==2 then Lb (!x0) q2 else bif c.Op==3 then Lb (tR q0.1 q1.1) q2 else Lb false q2)
 dsimp only
 have eL:(⟨c.L.K,c.L.S,⟨c.L.V.K,c.L.V.N,c.L.V.S⟩⟩:cP)=c.L:=rfl
 have eR:(⟨c.R.K,c.R.S,⟨c.R.V.K,c.R.V.N,c.R.V.S⟩⟩:cP)=c.R:=rfl
 simp only[eL,eR,gg]
 refine bu (fun h=>cg ?_) (fun h=>bu (fun h1=>cg ?_) (fun h1=>ct (fun h2=>cg ?_) (fun h2=>ct (fun h3=>cg ?_) (fun h3=>ct (fun h4=>cg ?_) (fun h4=>cg ?_)))))
 all_goals (simp only[yD];grind)
def Uu:=cf (α:=(List dt)×(List bQ)) (qC (qL .cM) (q1 (qL .cw))) [.ro,.ro] (fun _=>[]) (fun(cs,l)=>⟨[dO (ri cs l)],[],[]⟩)
def Bt(cs:List dt)(l:List bQ):Int×Unit->Prop:=fun(i,_)=>0<=i/\i<=cs.length/\(cs.drop i.toNat).all (yD l)=ri cs l
def AF(cs:List dt)(l:List bQ):Int×Unit->Nat:=fun(i,_)=>cs.length-i.toNat
def aga:AX Uu:=fun(cs,l)=>b_ [(2,aY [iI 5] (fun _=>Bt cs l) (AF cs l))]
def aeM:HH:=hF Uu func222 [aeF] aga fun x hp hb=>by
 obtain⟨cs,l⟩:=x
 have amY:L9 cs.length:=kc (hb _ m0)
 have jB:L9 l.length:=kc (hb _ m1)
 clear hp hb
 apply vE (Bt cs l (0,())/\∀(y:Int×PUnit),let q0:=(wrap i64 (y.1+1),());Bt cs l y->bif decide (y.1<(cs.length:Int)) then 0<=y.1/\y.1.toNat<cs.length/\bif !yD l (cs.getD y.1.toNat pe) then Lb false (ri cs l) else Bt cs l q0/\AF cs l q0<AF cs l y else Lb true (ri cs l))
 dsimp only
 refine⟨⟨by omega,by omega,rfl⟩,?_⟩
 rintro⟨i,⟨⟩⟩ ⟨h1,h2,hR⟩
 simp only
 refine bc ?_ ?_<;>intro hc
 ·rw[dE _ _ pe h1 hc] at hR
  rw[wi]
  refine⟨by omega,by omega,bu (fun g=>bL (by rw[<-hR,g];rfl)) (fun g=>⟨⟨by omega,by omega,by rw[<-hR,g,vh]⟩,by simp only[AF];omega⟩)⟩
 ·rw[cd _ (by omega)] at hR
  exact oR hR.symm
def Ut:=cf (α:=ck×aO×(List bQ)) (qC (qA .ey) (qC (qA .cU) (q1 (qL .cw)))) [.ro,.ro,.ro] (fun(p,f,l)=>[l.length+p.aC.length<=4294967295]) (fun(p,f,l)=>⟨[dL .cw ((fe p f l).getD l),dO ((fe p f l).isSome)],[],[]⟩)
def sd(p:ck)(f:aO)(l:List bQ):List bQ×Int×T9×T6×Unit->Prop:=fun(o,i,b,g,_)=>b=(p.Kind,p.aC,p.Not,())/\g=(f.Kind,f.af,())/\0<=i/\i<=p.aC.length/\o.length<=l.length+i/\iJ (p.aC.drop i.toNat) (f.af.drop i.toNat) o=fe p f l
def mZ(p:ck)(f:aO)(l:List bQ):List bQ×Int×T9×T6×Unit->Nat:=fun(o,i,b,g,_)=>p.aC.length-i.toNat
def af_:AX Ut:=fun(p,f,l)=>b_ [(5,aY [iO 8 .cw,iI 9,.box 3 (3,1024) [.lit .str,.shr .im,.lit .bool],.box 4 (4,1024) [.lit .str,.shr .bf]] (fun _=>sd p f l) (mZ p f l))]
def Vp:HH:=hF Ut func223 [Vo] af_ fun x hp hb=>by
 obtain⟨p,f,l⟩:=x
 have dG:=GB (x:=p) (hb _ m0)
 have ER:=dG.1
 have ES:=dG.2
 have gM:=oM (x:=f) (hb _ m1)
 have n7:=gM.1
 have lp:=gM.2
 have jB:L9 l.length:=kc (hb _ m2)
 have bJ:l.length+p.aC.length<=4294967295:=hp _ m0
 clear hp hb
 apply vE (let q0:=Lf [VL .cw ([]++l),VB false] [VL .cw (Option.getD (fe p f l) l),VB (Option.isSome (fe p f l))];let q1:=(0:Nat)+l.length<=4294967296/\q0;0+l.length<=4294967296/\bif !p.Kind.toList==f.Kind.toList then q0 else bif (p.aC.length:Int) !=(f.af.length:Int) then q0 else sd p f l ([]++l,0,(p.Kind,p.aC,p.Not,()),(f.Kind,f.af,()),())/\∀(y:List bQ×Int×T18×Y1×PUnit),let x3:=y.2.1.toNat;let x5:=y.2.2.1.2.1.length;let x0:=y.2.2.2.1.2.1.getD x3 du;let x2:=y.2.2.1.2.1.getD x3 l8;let x4:=(↑x5:Int);let x1:=x2.V;let q2:=bif x2.K==1 then bif !(jC {τ:=Cd.cw,xs:=y.1:cC UU}.xs x2.S).2 then 0<=y.2.1/\x3<y.2.2.2.1.2.1.length/\y.1.length+List.length [{Name:=x2.S,V:=x0:bQ}]<=4294967296/\sd p f l (y.1++[{Name:=x2.S,V:=x0:bQ}],wrap i64 (y.2.1+1),(y.2.2.1.1,y.2.2.1.2.1,y.2.2.1.2.2.1,()),(y.2.2.2.1.1,y.2.2.2.1.2.1,()),())/\mZ p f l (y.1++[{Name:=x2.S,V:=x0:bQ}],wrap i64 (y.2.1+1),(y.2.2.1.1,y.2.2.1.2.1,y.2.2.1.2.2.1,()),(y.2.2.2.1.1,y.2.2.2.1.2.1,()),())<mZ p f l y else sd p f l (y.1,wrap i64 (y.2.1+1),(y.2.2.1.1,y.2.2.1.2.1,y.2.2.1.2.2.1,()),(y.2.2.2.1.1,y.2.2.2.1.2.1,()),())/\mZ p f l (y.1,wrap i64 (y.2.1+1),(y.2.2.1.1,y.2.2.1.2.1,y.2.2.1.2.2.1,()),(y.2.2.2.1.1,y.2.2.2.1.2.1,()),())<mZ p f l y else sd p f l (y.1,wrap i64 (y.2.1+1),(y.2.2.1.1,y.2.2.1.2.1,y.2.2.1.2.2.1,()),(y.2.2.2.1.1,y.2.2.2.1.2.1,()),())/\mZ p f l (y.1,wrap i64 (y.2.1+1),(y.2.2.1.1,y.2.2.1.2.1,y.2.2.1.2.2.1,()),(y.2.2.2.1.1,y.2.2.2.1.2.1,()),())<mZ p f l y;let q3:=bif x2.K==1 then bif (jC {τ:=Cd.cw,xs:=y.1:cC UU}.xs x2.S).2 then 0<=y.2.1/\x3<y.2.2.2.1.2.1.length/\bif !((jC {τ:=Cd.cw,xs:=y.1:cC UU}.xs x2.S).1.K==x0.K&&((jC {τ:=Cd.cw,xs:=y.1:cC UU}.xs x2.S).1.N==x0.N&&((jC {τ:=Cd.cw,xs:=y.1:cC UU}.xs x2.S).1.S.toList==x0.S.toList&&true))) then q1 else q2 else q2 else q2;sd p f l y->bif decide (y.2.1<x4) then 0<=y.2.1/\x3<x5/\bif x2.K==2 then 0<=y.2.1/\x3<y.2.2.2.1.2.1.length/\bif !(x1.K==x0.K&&(x1.N==x0.N&&(x1.S.toList==x0.S.toList&&true))) then q1 else q3 else q3 else Lf [VL .cw y.1,VB true] [VL .cw (Option.getD (fe p f l) l),VB (Option.isSome (fe p f l))])
 dsimp only
 have hF:fe p f l=none->Lf [.one (.sl .cw l),.one (.lit (.bool false))] [.one (.sl .cw ((fe p f l).getD l)),.one (.lit (.bool (fe p f l).isSome))]:=fun e=>by rw[e];exact aV _
 refine⟨by show 0+l.length<=_;omega,Lp (fun hk=>hF (if_neg (fun e=>hk e.1.symm))) (fun hk=>i_ (fun hl=>hF (if_neg (by omega))) (fun hl=> ?_))⟩
 have hl:f.af.length=p.aC.length:=by omega
 have hM:fe p f l=iJ p.aC f.af l:=if_pos ⟨hk.symm,hl⟩
 refine⟨⟨rfl,rfl,by omega,by omega,by show((l.length:Nat):Int)<=_;omega,hM.symm⟩,?_⟩
 rintro⟨o,i,⟨b1,b2,b3,⟨⟩⟩,⟨g1,g2,⟨⟩⟩,⟨⟩⟩
 rintro⟨hb,hg,h1,h2,h3,hR⟩
 cases hb
 cases hg
 refine bc ?_ ?_<;>intro hc
 ·have hc:i<p.aC.length:=hc
  rw[CW o h1 hc hl] at hR
  have hN:jZ o (p.aC.getD i.toNat l8) (f.af.getD i.toNat du)=none->fe p f l=none:=fun e=>by rw[<-hR,e]
  have hS:∀o',jZ o (p.aC.getD i.toNat l8) (f.af.getD i.toNat du)=some o'->iJ (p.aC.drop (i+1).toNat) (f.af.drop (i+1).toNat) o'=fe p f l:=fun o' e=>by rw[<-hR,e]
  clear hR
  have hs:∀o',o'.length<=o.length+1->jZ o (p.aC.getD i.toNat l8) (f.af.getD i.toNat du)=some o'->sd p f l (o',IntKind.wrap .i64 (i+1),(p.Kind,p.aC,p.Not,()),(f.Kind,f.af,()),())/\mZ p f l (o',IntKind.wrap .i64 (i+1),(p.Kind,p.aC,p.Not,()),(f.Kind,f.af,()),())<mZ p f l (o,i,(p.Kind,p.aC,p.Not,()),(f.Kind,f.af,()),()):=fun o' h4 e=>by
   rw[wi]
   exact⟨⟨rfl,rfl,by omega,by omega,by omega,hS o' e⟩,by simp only[mZ];omega⟩
  clear hS
  have q1:(0:Int)<=i/\i.toNat<p.aC.length:=by omega
  have q2:(0:Int)<=i/\i.toNat<f.af.length:=by omega
  have q3:l.length<=4294967296:=by omega
  have q4:o.length+1<=4294967296:=by omega
  have q5:(0:Nat)+l.length<=4294967296:=by omega
  refine⟨q1.1,q1.2,?_⟩
  repeat' (first|refine And.intro q2.1 (And.intro q2.2 ?_)|refine And.intro q5 ?_|refine And.intro q4 ?_|refine ct (fun _=> ?_) (fun _=> ?_)|refine Sd (fun _=> ?_) (fun _=> ?_)|refine bu (fun _=> ?_) (fun _=> ?_)|refine ab (fun _=> ?_) (fun _=> ?_))
  all_goals first|exact hF (hN (by(try simp only at*);simp only[jZ];grind))|exact hs _ (by simp) (by(try simp only at*);simp only[jZ];grind)
 ·rw[cd p.aC (by have hc:¬i<p.aC.length:=hc;omega)] at hR
  have hR:fe p f l=some o:=hR.symm
  rw[hR];exact aV _
def Uv:=cf (α:=a_×aG×(List bQ)) (qC (qA .cv) (qC (qA .dD) (q1 (qL .cw)))) [.ro,.ro,.ro] (fun(r,s,l)=>[∀p,p∈r.aM->l.length+p.aC.length<=4294967295]) (fun(r,s,l)=>⟨[dO (oH r s.aa l)],[],[]⟩)
def xJ(r:a_)(s:aG)(l:List bQ):Int×T1×T3×Unit->Prop:=fun(i,b,g,_)=>b=(r.Name,r.nB,r.aM,r.bt,r.cx,())/\g=(s.aa,s.Next,())/\0<=i/\i<=r.aM.length/\(r.aM.drop i.toNat).any (yZ s.aa l)=oH r s.aa l
def uC(r:a_)(s:aG)(l:List bQ):Int×T1×T3×Unit->Nat:=fun(i,b,g,_)=>r.aM.length-i.toNat
def Bu(r:a_)(s:aG)(l:List bQ):Int×Int×T1×T3×Unit->Int×Int×T1×T3×Unit->Prop:=fun(i0,k0,b0,g0,_) (i,k,b,g,_)=>i=i0/\b=b0/\g=g0/\0<=k/\k<=s.aa.length/\((r.aM.getD i.toNat cr).Not=false->k=0)/\(s.aa.drop k.toNat).any (Pd (r.aM.getD i.toNat cr) l)=s.aa.any (Pd (r.aM.getD i.toNat cr) l)
def AG(r:a_)(s:aG)(l:List bQ):Int×Int×T1×T3×Unit->Nat:=fun(i,k,b,g,_)=>s.aa.length-k.toNat
def agb:AX Uv:=fun(r,s,l)=>b_ [(2,aY [iI 7,.box 3 (3,1024) [.lit .str,.lit (.int .i64),.shr .ey,.shr .cM,.shr .eJ],.box 4 (4,1024) [.shr .aK,.lit (.int .i64)]] (fun _=>xJ r s l) (uC r s l)),(5,aY [iI 7,iI 8,.box 3 (3,1024) [.lit .str,.lit (.int .i64),.shr .ey,.shr .cM,.shr .eJ],.box 4 (4,1024) [.shr .aK,.lit (.int .i64)]] (Bu r s l) (AG r s l))]
def aeN:HH:=hF Uv func221 [Vp] agb fun x hp hb=>by
 obtain⟨r,s,l⟩:=x
 have dG:=lR (x:=r) (hb _ m0)
 have lm:=dG.1
 have ll:=dG.2.1
 have jQ:=dG.2.2.1
 have ln:=dG.2.2.2
 have k_:=mK (x:=s) (hb _ m1)
 have jB:L9 l.length:=kc (hb _ m2)
 have bJ:∀p,p∈r.aM->l.length+p.aC.length<=4294967295:=hp _ m0
 clear hp hb
 apply vE (let q0:=BA×Int×List ck×List dt×List dQ×PUnit;xJ r s l (0,(r.Name,r.nB,r.aM,r.bt,r.cx,()),(s.aa,s.Next,()),())/\∀(y:Int×q0×Tk×PUnit),let x0:=(y.2.1.2.2.1.length:Int);let q1:=(y.1,0,(y.2.1.1,y.2.1.2.1,y.2.1.2.2.1,y.2.1.2.2.2.1,y.2.1.2.2.2.2.1,()),(y.2.2.1.1,y.2.2.1.2.1,()),());xJ r s l y->bif decide (y.1<x0) then Bu r s l q1 q1/\∀(aE:Int×Int×q0×Tk×PUnit),let x1:=aE.2.2.1.2.2.1.getD aE.1.toNat cr;let x3:=aE.2.2.2.1.1.length;let x4:=aE.2.1.toNat;let x2:=(↑x3:Int);let q2:=(wrap i64 (aE.1+1),(aE.2.2.1.1,aE.2.2.1.2.1,aE.2.2.1.2.2.1,aE.2.2.1.2.2.2.1,aE.2.2.1.2.2.2.2.1,()),(aE.2.2.2.1.1,aE.2.2.2.1.2.1,()),());let q3:=(aE.1,wrap i64 (aE.2.1+1),(aE.2.2.1.1,aE.2.2.1.2.1,aE.2.2.1.2.2.1,aE.2.2.1.2.2.2.1,aE.2.2.1.2.2.2.2.1,()),(aE.2.2.2.1.1,aE.2.2.2.1.2.1,()),());let q4:=xJ r s l q2/\uC r s l q2<uC r s l y;Bu r s l q1 aE->bif decide (aE.2.1<x2) then 0<=aE.1/\aE.1.toNat<aE.2.2.1.2.2.1.length/\bif x1.Not then 0<=aE.1/\aE.1.toNat<aE.2.2.1.2.2.1.length/\0<=aE.2.1/\x4<x3/\l.length+x1.aC.length<=4294967295/\bif Option.isSome (fe x1 (aE.2.2.2.1.1.getD x4 bj).F l) then Lb true (oH r s.aa l) else Bu r s l q1 q3/\AG r s l q3<AG r s l aE else q4 else q4 else Lb false (oH r s.aa l))
 dsimp only
 refine⟨⟨rfl,rfl,by omega,by omega,rfl⟩,?_⟩
 rintro⟨i,⟨b1,b2,b3,b4,b5,⟨⟩⟩,⟨g1,g2,⟨⟩⟩,⟨⟩⟩ ⟨hb,hg,h1,h2,hR⟩
 cases hb
 cases hg
 simp only
 refine bc ?_ ?_<;>intro hc
 ·rw[xt _ _ cr h1 hc] at hR
  have hm:r.aM.getD i.toNat cr∈r.aM:=by rw[dB,eW (by omega)];exact DU _
  have hp:=bJ _ hm
  refine⟨⟨rfl,rfl,rfl,by omega,by omega,fun _=>rfl,rfl⟩,?_⟩
  rintro⟨i',k,⟨b1,b2,b3,b4,b5,⟨⟩⟩,⟨g1,g2,⟨⟩⟩,⟨⟩⟩ ⟨rfl,hb,hg,k1,k2,k3,kR⟩
  cases hb
  cases hg
  simp only
  have next:yZ s.aa l (r.aM.getD i'.toNat cr)=false->xJ r s l (wrap i64 (i'+1),(r.Name,r.nB,r.aM,r.bt,r.cx,()),(s.aa,s.Next,()),())/\uC r s l (wrap i64 (i'+1),(r.Name,r.nB,r.aM,r.bt,r.cx,()),(s.aa,s.Next,()),())<uC r s l (i',(r.Name,r.nB,r.aM,r.bt,r.cx,()),(s.aa,s.Next,()),()):=fun e=>by
   rw[wi]
   exact⟨⟨rfl,rfl,by omega,by omega,by rw[<-hR,e,Fw]⟩,by simp only[uC];omega⟩
  refine bc (fun hk=>⟨by omega,by omega,ab (fun g=>⟨by omega,by omega,by omega,by omega,hp,ab (fun g'=>oR ?_) (fun g'=> ?_)⟩) (fun g=>next (by rw[yZ,g];rfl))⟩) (fun hk=>next ?_)
  ·rw[xt _ _ bj k1 hk,show Pd (r.aM.getD i'.toNat cr) l (s.aa.getD k.toNat bj)=true from g'] at kR
   rw[<-hR,yZ,g,<-kR];rfl
  ·rw[xt _ _ bj k1 hk,show Pd (r.aM.getD i'.toNat cr) l (s.aa.getD k.toNat bj)=false from g',Fw] at kR
   rw[wi (n:=k+1)]
   exact⟨⟨rfl,rfl,rfl,by omega,by omega,fun e=>absurd g (by rw[e];decide),kR⟩,by simp only[AG];omega⟩
  ·rw[cd _ (by omega)] at kR
   rw[yZ,<-kR];exact wa _
 ·rw[cd _ (by omega)] at hR
  exact bL hR.symm
def lu(r:a_):List ck:=r.aM.filter fun p=> !p.Not
def ob(r:a_)(s:List bW):List ck->List Int->List bQ->List au
 |[],ids,l=>if(!oH r s l&&ri r.bt l)=true then[⟨0,ids,l⟩] else[]
 |p::ps,ids,l=>s.flatMap fun x=>match fe p x.F l with|some more=>ob r s ps (ids++[x.Id]) more|none=>[]
def jP(r:a_)(s:List bW)(ids:List Int)(l:List bQ):List au:=ob r s ((lu r).drop ids.length) ids l
def oc(r:a_)(s:List bW)(ids:List Int)(l:List bQ)(x:bW):List au:=match fe ((lu r).getD ids.length cr) x.F l with|some more=>jP r s (ids++[x.Id]) more|none=>[]
theorem JS{r:a_}(s:List bW){ids:List Int}(l:List bQ)(h:ids.length=cJ r.aM):jP r s ids l=if(!oH r s l&&ri r.bt l)=true then[⟨0,ids,l⟩] else[]:=by
 have e:(lu r).drop ids.length=[]:=List.drop_eq_nil_of_le (by rw[h];exact sB _)
 simp only[jP,e,ob]
theorem zk{r:a_}(s:List bW){ids:List Int}(l:List bQ)(h:ids.length<cJ r.aM):jP r s ids l=s.flatMap (oc r s ids l):=by
 have h:ids.length<(lu r).length:=h
 have e:(lu r).drop ids.length=(lu r).getD ids.length cr::(lu r).drop (ids.length+1):=by
  rw[Nu h,dB,eW h];rfl
 simp only[jP,e,ob]
 congr 1
 funext x
 simp only[oc,jP,na,ir,ig,tH]
theorem IK{α β:Type}(q:α->List β)(l:List α)(z:α){i:Int}(h0:0<=i)(h:i<l.length):(l.take (i+1).toNat).flatMap q=(l.take i.toNat).flatMap q++q (l.getD i.toNat z):=by
 rw[<-db l z h0 h,Nj];simp
theorem PC{α β:Type}(q:α->List β)(l:List α)(n:Nat):((l.take n).flatMap q).length<=(l.flatMap q).length:=by
 conv=>rhs;rw[<-QP n l,Nj,na]
 exact Nat.le_add_right _ _
theorem yP{α β:Type}(q:α->List β)(c:Nat):∀(l:List α),(∀x,x∈l->(q x).length<=c)->(l.flatMap q).length<=l.length*c
 |[],_=>by simp
 |x::l,h=>by
  have h1:=h x (by simp)
  have h2:=yP q c l (fun y hy=>h y (by simp[hy]))
  rw[yb,na,ir,Nat.succ_mul];omega
theorem yk(r:a_)(s:List bW):∀(ps:List ck)(ids:List Int)(l:List bQ),(ob r s ps ids l).length<=s.length^ps.length
 |[],ids,l=>by simp only[ob];split<;>simp
 |p::ps,ids,l=>by
  simp only[ob,ir,Nat.pow_succ]
  rw[Q6]
  refine yP _ _ _ (fun x _=> ?_)
  split
  ·exact yk r s ps _ _
  ·simp
structure s9(r:a_)(s:List bW)(n:Nat)(ids:List Int)(l:List bQ):Prop where
 le:ids.length<=cJ r.aM
 three:cJ r.aM<=3
 e6:r.aM.length<=6
 args:∀p,p∈r.aM->p.aC.length<=5
 items:s.length<=40
 binds:l.length<=5*ids.length
 room:n+(jP r s ids l).length<=4294967295
theorem Ic{r:a_}{k:Nat}(h:k<cJ r.aM):(lu r).getD k cr∈r.aM:=by
 have h:k<(lu r).length:=h
 rw[dB,eW h]
 exact(wc.1 (DU h)).1
theorem HY{r:a_}{s:List bW}{n:Nat}{ids:List Int}{l more:List bQ}{i:Int}(h:s9 r s n ids l)(hk:ids.length<cJ r.aM)(h0:0<=i)(hi:i<s.length)(hm:fe ((lu r).getD ids.length cr) (s.getD i.toNat bj).F l=some more):s9 r s (n+((s.take i.toNat).flatMap (oc r s ids l)).length) (ids++[(s.getD i.toNat bj).Id]) more where
 le:=by rw[na];simp only[ir,ig];omega
 three:=h.three
 e6:=h.e6
 args:=h.args
 items:=h.items
 binds:=by
  have h1:=CV hm
  have h2:=h.args _ (Ic hk)
  have h3:=h.binds
  rw[na];simp only[ir,ig];omega
 room:=by
  have h1:=h.room
  rw[zk s l hk] at h1
  have h2:=PC (oc r s ids l) s (i+1).toNat
  rw[IK _ s bj h0 hi,na] at h2
  have e:oc r s ids l (s.getD i.toNat bj)=jP r s (ids++[(s.getD i.toNat bj).Id]) more:=by simp only[oc,hm]
  rw[e] at h2;omega
theorem Lj{a b:List au}(h:a=b):gH [DV.box [.sl .av a]]=gH [DV.box [.sl .av b]]:=by subst h;rfl
theorem JQ{r:a_}{s:List bW}{ids:List Int}{l more:List bQ}{x:bW}(hm:fe ((lu r).getD ids.length cr) x.F l=some more):oc r s ids l x=jP r s (ids++[x.Id]) more:=by simp only[oc,hm]
theorem JR{r:a_}{s:List bW}{ids:List Int}{l:List bQ}{x:bW}(hm:fe ((lu r).getD ids.length cr) x.F l=none):oc r s ids l x=[]:=by simp only[oc,hm]
def jl(r:a_)(s:List bW):List au:=jP r s [] []
def K6(i:Int)(m:au):au:=⟨i,m.ep,m.bE⟩
def Jg(rs:List a_)(s:List bW)(n:Nat):List au:=(List.range n).flatMap fun i=>(jl (rs.getD i cB) s).map (K6 i)
def allM(rs:List a_)(s:List bW):List au:=Jg rs s rs.length
theorem Ng(rs:List a_)(s:List bW){i:Int}(h0:0<=i):Jg rs s (i+1).toNat=Jg rs s i.toNat++(jl (rs.getD i.toNat cB) s).map (K6 i):=by
 have e:(i+1).toNat=i.toNat+1:=by omega
 have e2:((i.toNat:Nat):Int)=i:=by omega
 rw[e]
 simp only[Jg,List.range_succ,Nj,yb,Y7,sR,e2]
structure lB(r:a_):Prop where
 three:cJ r.aM<=3
 e6:r.aM.length<=6
 args:∀p,p∈r.aM->p.aC.length<=5
def mF(r:a_):Prop:=∀k,k<cJ r.aM->r.aM.getD k cr=(lu r).getD k cr
theorem Kc{r:a_}{s:List bW}(h:lB r)(hs:s.length<=40):s9 r s 0 [] [] where
 le:=Nat.zero_le _
 three:=h.three
 e6:=h.e6
 args:=h.args
 items:=hs
 binds:=Nat.zero_le _
 room:=by
  have h1:=yk r s (lu r) [] []
  have h2:(lu r).length<=3:=h.three
  have h3:s.length^(lu r).length<=40^3:=vg (Nat.pow_le_pow_left hs _) (Nat.pow_le_pow_right (by omega) h2)
  show 0+(ob r s (lu r) [] []).length<=_
  have:(40:Nat)^3=64000:=rfl
  omega
theorem zp{r:a_}{s:List bW}(h:lB r)(hs:s.length<=40):(jl r s).length<=64000:=by
 have h1:=yk r s (lu r) [] []
 have h2:(lu r).length<=3:=h.three
 have h3:s.length^(lu r).length<=40^3:=vg (Nat.pow_le_pow_left hs _) (Nat.pow_le_pow_right (by omega) h2)
 show(ob r s (lu r) [] []).length<=_
 have:(40:Nat)^3=64000:=rfl
 omega
theorem fL{α:Type}{l:List α}{z:α}{i:Nat}(h:i<l.length):l.getD i z∈l:=by
 rw[dB,eW h];exact DU _
theorem Qd{rs:List a_}{s:List bW}(h:∀r,r∈rs->lB r)(hs:s.length<=40){n:Nat}(hn:n<=rs.length):(Jg rs s n).length<=n*64000:=by
 have:=yP (fun i:Nat=>(jl (rs.getD i cB) s).map (K6 i)) 64000 (List.range n) (fun x hx=>by
  rw[uW];exact zp (h _ (fL (by have:=n9.1 hx;omega))) hs)
 rwa[List.length_range] at this
theorem mod_self{α:Type}{l:List α}{k:Nat}(f:α->α){z:α}(h:k<l.length):(l.modify k f).getD k z=f (l.getD k z):=by
 rw[dB,dB,VT,eW h];simp
theorem Xd{α:Type}{l:List α}{k j:Nat}(f:α->α){z:α}(h:k≠j):(l.modify k f).getD j z=l.getD j z:=by
 rw[dB,dB,VT];simp[h]
theorem Fe{dd:Nat->Bool}{k:Int}(h0:0<=k)(h:∀j:Nat,k<=(j:Int)->dd j=false):∀j:Nat,k+1<=(j:Int)->(Nat.beq j k.toNat||dd j)=false:=fun j hj=>by
 rw[h j (by omega),Nk,<-uO,Fv];omega
def Jl:jw UU where
 α:=(List au)×a_×aG×(List Int)×(List bQ)
 md:=[.box true,.ro,.ro,.ro,.ro]
 of:=fun|[.box [.sl .av a0],.agg [.lit (.string a1),.lit (.int .i64 a2),.sl .ey a3,.sl .cM a4,.sl .eJ a5],.agg [.sl .aK a6,.lit (.int .i64 a7)],.one (.sl .int a8),.one (.sl .cw a9)]=>some (a0,⟨a1,a2,a3,a4,a5⟩,⟨a6,a7⟩,a8,a9)|_=>none
 ds:=fun(out,r,s,ids,l)=>[.box [.sl .av out],.agg [.lit (.string r.Name),.lit (.int .i64 r.nB),.sl .ey r.aM,.sl .cM r.bt,.sl .eJ r.cx],.agg [.sl .aK s.aa,.lit (.int .i64 s.Next)],.one (.sl .int ids),.one (.sl .cw l)]
 pre:=fun(out,r,s,ids,l)=>[s9 r s.aa out.length ids l,mF r]
 mS:=fun(out,r,s,ids,l)=>⟨[],[],[.box [.sl .av (out++jP r s.aa ids l)]]⟩
 law:=by intro l x h;(try simp only at h);split at h<;>cases h;rfl
def se(out:List au)(r:a_)(s:aG)(ids:List Int)(l:List bQ):Int×T1×T3×(List au×Unit)×Unit->Prop:=fun(i,b,g,o,_)=>b=(r.Name,r.nB,r.aM,r.bt,r.cx,())/\g=(s.aa,s.Next,())/\0<=i/\i<=s.aa.length/\o=(out++(s.aa.take i.toNat).flatMap (oc r s.aa ids l),())
def xD(out:List au)(r:a_)(s:aG)(ids:List Int)(l:List bQ):Int×T1×T3×(List au×Unit)×Unit->Nat:=fun(i,b,g,o,_)=>s.aa.length-i.toNat
def agm:AX Jl:=fun(out,r,s,ids,l)=>b_ [(5,aY [iI 10,.box 6 (6,1024) [.lit .str,.lit (.int .i64),.shr .ey,.shr .cM,.shr .eJ],.box 7 (7,1024) [.shr .aK,.lit (.int .i64)],.box 0 (2000000,0) [.own .av true]] (fun _=>se out r s ids l) (xD out r s ids l))]
def Fq:(List au)×a_×aG×(List Int)×(List bQ)->Nat:=fun(out,r,s,ids,l)=>cJ r.aM-ids.length
def acv(rn:Nat):List (FuncId×jw UU):=(202,Jl.below Fq rn)::us [LR,aeN,aeM,Vp]
theorem acB:Holds EE (202,Jl):=by
 refine EP (k:=Jl) func202 (by kernel_rfl) Fq (fun rn ih=> ?_)
 refine holds_of pM func202 (Jl.below Fq (rn+1)) (by kernel_rfl) (acv rn) (all_cons ih (wl _)) agm (fun x hp hb=> ?_)
 obtain⟨out,r,s,ids,l⟩:=x
 have O6:Fq (out,r,s,ids,l)<rn+1:=hp _ gS
 have Yr:gz (U:=UU) (.box [.sl .av out]):=hb _ (gS)
 have aka:L9 out.length:=Bd.len (U:=UU) (τ:=.av) (xs:=out) (Yr _ (by simp))
 have Gm:gz (U:=UU) (.agg [.lit (.string r.Name),.lit (.int .i64 r.nB),.sl .ey r.aM,.sl .cM r.bt,.sl .eJ r.cx]):=hb _ (e8 _ (gS))
 have lm:L9 r.Name.size:=Bd.str (Gm _ (by simp))
 have ll:L9 r.aM.length:=Bd.len (U:=UU) (τ:=.ey) (xs:=r.aM) (Gm _ (by simp))
 have jQ:L9 r.bt.length:=Bd.len (U:=UU) (τ:=.cM) (xs:=r.bt) (Gm _ (by simp))
 have ln:L9 r.cx.length:=Bd.len (U:=UU) (τ:=.eJ) (xs:=r.cx) (Gm _ (by simp))
 have akq:gz (U:=UU) (.agg [.sl .aK s.aa,.lit (.int .i64 s.Next)]):=hb _ (e8 _ (e8 _ (gS)))
 have k_:L9 s.aa.length:=Bd.len (U:=UU) (τ:=.aK) (xs:=s.aa) (akq _ (by simp))
 have Ys:gz (U:=UU) (.one (.sl .int ids)):=hb _ (e8 _ (e8 _ (e8 _ (gS))))
 have akc:L9 ids.length:=Bd.len Ys
 have am8:gz (U:=UU) (.one (.sl .cw l)):=hb _ (e8 _ (e8 _ (e8 _ (e8 _ (gS)))))
 have bJ:s9 r s.aa out.length ids l:=hp _ (e8 _ (gS))
 have eh:mF r:=hp _ (e8 _ (e8 _ (gS)))
 clear hp hb
 apply vE (let x1:List Int:=[]++ids;let x0:=[{cO:=(0:Int),ep:=x1,bE:=[]++l:au}];let q0:=LM [] [] [DV.box [CL .av out]] [DV.box [CL .av (out++jP r s.aa ids l)]];let q1:=(ids.length:Int);bif q1==(↑(cJ r.aM):Int) then(∀(p:ck),p∈r.aM->l.length+p.aC.length<=4294967295)/\bif !oH r s.aa l then bif ri r.bt l then 0+ids.length<=4294967296/\0+l.length<=4294967296/\L4 (out.length+x0.length)/\LM [] [] [DV.box [CL .av (out++x0)]] [DV.box [CL .av (out++jP r s.aa ids l)]] else q0 else q0 else se out r s ids l (0,(r.Name,r.nB,r.aM,r.bt,r.cx,()),(s.aa,s.Next,()),(out,()),())/\∀(y:Int×T12×Tk×(List au×PUnit)×PUnit),let x2:={Name:=y.2.1.1,nB:=y.2.1.2.1,aM:=y.2.1.2.2.1,bt:=y.2.1.2.2.2.1,cx:=y.2.1.2.2.2.2.1:a_};let x6:=y.2.2.1.1.getD y.1.toNat bj;let x8:=y.2.2.1.1.length;let x9:=y.2.1.2.2.1.getD (Int.toNat q1) cr;let x3:=Option.getD (fe x9 x6.F l) l;let x5:=[x6.Id];let x7:=(↑x8:Int);let x4:=x1++x5;let q2:=(y.2.1.1,y.2.1.2.1,y.2.1.2.2.1,y.2.1.2.2.2.1,y.2.1.2.2.2.2.1,());let q3:=(wrap i64 (y.1+1),q2,(y.2.2.1.1,y.2.2.1.2.1,()),(y.2.2.2.1.1++jP x2 y.2.2.1.1 x4 x3,()),());let q4:=(wrap i64 (y.1+1),q2,(y.2.2.1.1,y.2.2.1.2.1,()),(y.2.2.2.1.1,()),());se out r s ids l y->bif decide (y.1<x7) then 0<=q1/\Int.toNat q1<y.2.1.2.2.1.length/\0<=y.1/\y.1.toNat<x8/\l.length+x9.aC.length<=4294967295/\bif Option.isSome (fe x9 x6.F l) then 0+ids.length<=4294967296/\0<=y.1/\y.1.toNat<x8/\L4 (x1.length+x5.length)/\Fq (y.2.2.2.1.1,x2,{aa:=y.2.2.1.1,Next:=y.2.2.1.2.1:aG},x4,x3)<rn/\s9 x2 y.2.2.1.1 (y.2.2.2.1.1.length) x4 x3/\mF x2/\se out r s ids l q3/\xD out r s ids l q3<xD out r s ids l y else se out r s ids l q4/\xD out r s ids l q4<xD out r s ids l y else LM [] [] [DV.box [CL .av y.2.2.2.1.1]] [DV.box [CL .av (out++jP r s.aa ids l)]])
 dsimp only
 simp only[Fq] at O6
 have hle:=bJ.le
 have h3:=bJ.three
 have hpt:=bJ.e6
 have hbd:=bJ.binds
 have hA:∀p,p∈r.aM->l.length+p.aC.length<=4294967295:=fun p hm=>by have:=bJ.args p hm;omega
 have hrm:=bJ.room
 have zU:(lu r).length=cJ r.aM:=rfl
 have hpn:cJ r.aM<=r.aM.length:=KK _ _
 refine ct (fun h=>⟨hA,?_⟩) (fun h=> ?_)
 ·have h:ids.length=cJ r.aM:=by omega
  have e:=JS s.aa l h
  have q1:(0:Nat)+ids.length<=4294967296:=by omega
  have q2:(0:Nat)+l.length<=4294967296:=by omega
  refine bu (fun g=>ab (fun g'=>⟨q1,q2,?_,rfl,by trivial,Lj ?_⟩) (fun g'=>⟨rfl,by trivial,Lj ?_⟩)) (fun g=>⟨rfl,by trivial,Lj ?_⟩)
  ·rw[e,g,g'] at hrm;simp at hrm;simp only[ir,ig];omega
  ·rw[e,g,g'];rfl
  ·rw[e,g,g'];simp
  ·rw[e,g];simp
 ·have h:ids.length<cJ r.aM:=by omega
  have e:=zk s.aa l h
  refine⟨⟨rfl,rfl,by omega,by omega,by simp⟩,?_⟩
  rintro⟨i,⟨b1,b2,b3,b4,b5,⟨⟩⟩,⟨g1,g2,⟨⟩⟩,⟨o,⟨⟩⟩,⟨⟩⟩ ⟨hb,hg,h1,h2,ho⟩
  cases hb
  cases hg
  cases ho
  refine bc (fun hc=> ?_) (fun hc=>⟨by trivial,by trivial,Lj ?_⟩)
  ·have hc:i<s.aa.length:=hc
   have hs:=IK (oc r s.aa ids l) s.aa bj h1 hc
   have hi:ids.length<(lu r).length:=h
   have hm:=hA _ (Ic h)
   have et:Int.toNat (ids.length:Int)=ids.length:=by omega
   have eP:r.aM.getD (Int.toNat (ids.length:Int)) cr=(lu r).getD ids.length cr:=by rw[et];exact eh _ h
   have q0:(0:Int)<=(ids.length:Int)/\Int.toNat (ids.length:Int)<r.aM.length:=by omega
   have q1:(0:Int)<=i/\i.toNat<s.aa.length:=by omega
   have q2:(0:Nat)+ids.length<=4294967296:=by omega
   have q3:ids.length+1<=4294967296:=by omega
   refine⟨q0.1,q0.2,q1.1,q1.2,by rw[eP];exact hm,?_⟩
   simp only[eP]
   refine ab ?_ ?_<;>intro g
   ·obtain⟨more,hM⟩:=l6.1 g
    have oW:=HY bJ h h1 hc hM
    rw[JQ hM] at hs
    have hw:IntKind.wrap .i64 (i+1)=i+1:=wi
    have aj2:s9 r s.aa (out++(s.aa.take i.toNat).flatMap (oc r s.aa ids l)).length (ids++[(s.aa.getD i.toNat bj).Id]) ((fe ((lu r).getD ids.length cr) (s.aa.getD i.toNat bj).F l).getD l):=by rw[hM,DY,na];exact oW
    have hmu:cJ r.aM-(ids++[(s.aa.getD i.toNat bj).Id]).length<rn:=by rw[na];simp only[ir,ig];omega
    have hI:se out r s ids l (IntKind.wrap .i64 (i+1),(r.Name,r.nB,r.aM,r.bt,r.cx,()),(s.aa,s.Next,()),((out++(s.aa.take i.toNat).flatMap (oc r s.aa ids l))++jP r s.aa (ids++[(s.aa.getD i.toNat bj).Id]) ((fe ((lu r).getD ids.length cr) (s.aa.getD i.toNat bj).F l).getD l),()),()):=by
     rw[hw,hM,DY]
     exact⟨rfl,rfl,by omega,by omega,by rw[hs,we]⟩
    have hd:s.aa.length-(IntKind.wrap .i64 (i+1)).toNat<s.aa.length-i.toNat:=by rw[hw];omega
    exact⟨q2,q1.1,q1.2,q3,hmu,aj2,eh,hI,hd⟩
   ·have hM:fe ((lu r).getD ids.length cr) (s.aa.getD i.toNat bj).F l=none:=Option.isNone_iff_eq_none.1 (by rw[<-Option.not_isSome,show Option.isSome (fe ((lu r).getD ids.length cr) (s.aa.getD i.toNat bj).F l)=false from g];rfl)
    rw[JR hM,sR] at hs
    have hw:IntKind.wrap .i64 (i+1)=i+1:=wi
    have hI:se out r s ids l (IntKind.wrap .i64 (i+1),(r.Name,r.nB,r.aM,r.bt,r.cx,()),(s.aa,s.Next,()),(out++(s.aa.take i.toNat).flatMap (oc r s.aa ids l),()),()):=by
     rw[hw];exact⟨rfl,rfl,by omega,by omega,by rw[hs]⟩
    have hd:s.aa.length-(IntKind.wrap .i64 (i+1)).toNat<s.aa.length-i.toNat:=by rw[hw];omega
    exact⟨hI,hd⟩
  ·have hc:¬i<(s.aa.length:Int):=hc
   rw[cA s.aa (by omega),e]
def aeZ:HH:=⟨_,acB⟩
def adI:=cf (α:=a_×aG) (qC (qA .cv) (q1 (qA .dD))) [.ro,.ro] (fun(r,s)=>[lB r,s.aa.length<=40,mF r]) (fun(r,s)=>⟨[dL .av (jl r s.aa)],[],[]⟩)
def afd:HH:=hF adI func179 [aeZ] a0 fun x hp hb=>by
 obtain⟨r,s⟩:=x
 have bJ:lB r:=hp _ m0
 have eh:s.aa.length<=40:=hp _ m1
 have Ef:mF r:=hp _ m2
 clear hp hb
 apply vE (s9 r s.aa (0) [] []/\mF r/\Lf [VL .av ([]++jP r s.aa [] [])] [VL .av (jl r s.aa)])
 exact⟨Kc bJ eh,Ef,aV _⟩
def U':=cf (α:=aZ×aG) (qC (qA .gJ) (q1 (qA .dD))) [.ro,.ro] (fun(d,s)=>[∀r,r∈d.az->lB r,s.aa.length<=40/\d.az.length<=12,∀r,r∈d.az->mF r]) (fun(d,s)=>⟨[dL .av (allM d.az s.aa)],[],[]⟩)
def B6(d:aZ)(s:aG):List au×Int×T2×T3×Unit->Prop:=fun(o,i,b,g,_)=>b=(d.Name,d.az,())/\g=(s.aa,s.Next,())/\0<=i/\i<=d.az.length/\o=Jg d.az s.aa i.toNat
def Bb(d:aZ)(s:aG):List au×Int×T2×T3×Unit->Nat:=fun(o,i,b,g,_)=>d.az.length-i.toNat
def B5(d:aZ)(s:aG):List au×Int×Int×(List au×(Nat->Bool))×T2×T3×Unit->List au×Int×Int×(List au×(Nat->Bool))×T2×T3×Unit->Prop:=fun(o0,i0,k0,p0,b0,g0,_) (o,i,k,p,b,g,_)=>i=i0/\b=b0/\g=g0/\p.1.length=p0.1.length/\0<=k/\k<=p0.1.length/\(∀j:Nat,k<=(j:Int)->p.2 j=false/\p.1.getD j bh=p0.1.getD j bh)/\o=o0++(p0.1.take k.toNat).map (K6 i)
def Ba(d:aZ)(s:aG):List au×Int×Int×(List au×(Nat->Bool))×T2×T3×Unit->Nat:=fun(o,i,k,p,b,g,_)=>p.1.length-k.toNat
def agR:AX U':=fun(d,s)=>b_ [(3,aY [iO 5 .av,iI 6,.box 2 (2,1024) [.lit .str,.shr .cv],.box 3 (3,1024) [.shr .aK,.lit (.int .i64)]] (fun _=>B6 d s) (Bb d s)),(7,aY [iO 5 .av,iI 6,iI 8,.slot 7 (7,1024) (.part .av),.box 2 (2,1024) [.lit .str,.shr .cv],.box 3 (3,1024) [.shr .aK,.lit (.int .i64)]] (B5 d s) (Ba d s))]
def afE:HH:=hF U' func134 [afd] agR fun x hp hb=>by
 obtain⟨d,s⟩:=x
 have bJ:∀r,r∈d.az->lB r:=hp _ m0
 have eh:s.aa.length<=40/\d.az.length<=12:=hp _ m1
 have Ef:∀r,r∈d.az->mF r:=hp _ m2
 clear hp hb
 apply vE (B6 d s ([],0,(d.Name,d.az,()),(s.aa,s.Next,()),())/\∀(y:List au×Int×T7×Tk×PUnit),let x2:=y.2.2.1.2.1.length;let x3:=y.2.1.toNat;let x0:=y.2.2.1.2.1.getD x3 cB;let x1:=(↑x2:Int);let q0:=(y.2.2.2.1.1,y.2.2.2.1.2.1,());let q1:=(y.2.2.1.1,y.2.2.1.2.1,());B6 d s y->bif decide (y.2.1<x1) then 0<=y.2.1/\x3<x2/\lB x0/\y.2.2.2.1.1.length<=40/\mF x0/\B5 d s (y.1,y.2.1,0,(jl x0 y.2.2.2.1.1,fun(x:Nat)=>false),q1,q0,()) (y.1,y.2.1,0,(jl x0 y.2.2.2.1.1,fun(x:Nat)=>false),q1,q0,())/\∀(aE:List au×Int×Int×(List au×(Nat->Bool))×T7×Tk×PUnit),let x5:=aE.2.2.1.toNat;let x7:=aE.2.2.2.fst.1.length;let x4:=aE.2.2.2.fst.1.modify x5 fun(x:au)=>{cO:=aE.2.1,ep:=x.ep,bE:=x.bE:au};let x6:=(↑x7:Int);let q2:=(aE.1,wrap i64 (aE.2.1+1),(aE.2.2.2.2.1.1,aE.2.2.2.2.1.2.1,()),(aE.2.2.2.2.2.1.1,aE.2.2.2.2.2.1.2.1,()),());let q3:=(aE.2.2.2.2.2.1.1,aE.2.2.2.2.2.1.2.1,());let q4:=(aE.2.2.2.2.1.1,aE.2.2.2.2.1.2.1,());B5 d s (y.1,y.2.1,0,(jl x0 y.2.2.2.1.1,fun(x:Nat)=>false),q1,q0,()) aE->bif decide (aE.2.2.1<x6) then 0<=aE.2.2.1/\x5<x7/\x5<x7/\aE.2.2.2.fst.2 x5=false/\0<=aE.2.2.1/\x5<x4.length/\x5<x4.length/\aE.2.2.2.fst.2 x5=false/\aE.1.length+List.length [x4.getD x5 bh]<=4294967296/\B5 d s (y.1,y.2.1,0,(jl x0 y.2.2.2.1.1,fun(x:Nat)=>false),q1,q0,()) (aE.1++[x4.getD x5 bh],aE.2.1,wrap i64 (aE.2.2.1+1),(x4,fun(j:Nat)=>Nat.beq j x5||aE.2.2.2.fst.2 j),q4,q3,())/\Ba d s (aE.1++[x4.getD x5 bh],aE.2.1,wrap i64 (aE.2.2.1+1),(x4,fun(j:Nat)=>Nat.beq j x5||aE.2.2.2.fst.2 j),q4,q3,())<Ba d s aE else B6 d s q2/\Bb d s q2<Bb d s y else Lf [VL .av y.1] [VL .av (allM d.az s.aa)])
 dsimp only
 obtain⟨hS,hD⟩:=eh
 refine⟨⟨rfl,rfl,by omega,by omega,rfl⟩,?_⟩
 rintro⟨o,i,⟨b1,b2,⟨⟩⟩,⟨g1,g2,⟨⟩⟩,⟨⟩⟩ ⟨hb,hg,h1,h2,rfl⟩
 cases hb
 cases hg
 simp only
 refine bc ?_ ?_<;>intro hc
 ·have hm:d.az.getD i.toNat cB∈d.az:=fL (by omega)
  have hs:=bJ _ hm
  have hl:=zp hs hS
  have hn:=Qd bJ hS (n:=i.toNat) (by omega)
  have oW:=Ng d.az s.aa h1
  refine⟨by omega,by omega,hs,hS,Ef _ hm,⟨rfl,rfl,rfl,rfl,by omega,by omega,fun _ _=>⟨rfl,rfl⟩,by simp⟩,?_⟩
  rintro⟨o',i',k,⟨xs,dd⟩,⟨b1,b2,⟨⟩⟩,⟨g1,g2,⟨⟩⟩,⟨⟩⟩ ⟨hi,hb,hg,hx,k1,k2,kd,ho⟩
  cases hb
  cases hg
  cases hi
  cases ho
  simp only at k2 kd hx⊢
  refine bc ?_ ?_<;>intro hk
  ·have ht:=db (jl (d.az.getD i.toNat cB) s.aa) bh k1 (by omega)
   have hd:=kd k.toNat (by omega)
   rw[wi (n:=k+1)]
   refine⟨k1,by omega,by omega,hd.1,k1,by rw[HI];omega,by rw[HI];omega,hd.1,?_,⟨rfl,rfl,rfl,by rw[HI];exact hx,by omega,by simp only;omega,fun j hj=>⟨Fe k1 (fun j hj=>(kd j hj).1) j hj,?_⟩,?_⟩,by simp only[Ba,HI];omega⟩
   ·simp only[na,uW,nE,ir,ig];omega
   ·rw[Xd _ (by omega)];exact(kd j (by omega)).2
   ·rw[mod_self _ (by omega),hd.2]
    simp only[<-ht,HC,we];rfl
  ·rw[cA _ (by omega),<-oW,wi (n:=i+1)]
   exact⟨⟨rfl,rfl,by omega,by omega,rfl⟩,by simp only[Bb];omega⟩
 ·have e:i.toNat=d.az.length:=by omega
  rw[e];exact aV _
theorem mj{α:Type}{a b:List α}(z:α){i:Int}(h1:0<=i)(ha:i<a.length)(hb:i<b.length)(hR:a.drop i.toNat=b.drop i.toNat↔a=b)(h:a.getD i.toNat z≠b.getD i.toNat z):a≠b:=by
 rw[dx a z h1 ha,dx b z h1 hb] at hR
 exact fun e=>h (List.cons.inj (hR.2 e)).1
theorem oE{α:Type}{a b:List α}(z:α){i:Int}(h1:0<=i)(ha:i<a.length)(hb:i<b.length)(hR:a.drop i.toNat=b.drop i.toNat↔a=b)(h:a.getD i.toNat z=b.getD i.toNat z):(a.drop (i+1).toNat=b.drop (i+1).toNat↔a=b):=by
 rw[dx a z h1 ha,dx b z h1 hb,h] at hR
 rw[<-hR];simp
theorem ld{α:Type}{a b:List α}{i:Int}(ha:a.length<=i)(hb:b.length<=i)(hR:a.drop i.toNat=b.drop i.toNat↔a=b):a=b:=by
 rw[cd a ha,cd b hb] at hR
 exact hR.1 rfl
theorem tq{α:Type}{a b:List α}(h:((a.length:Int) !=(b.length:Int))=false):a.length=b.length:=by
 have h:(a.length:Int)=b.length:=by simpa using h
 omega
theorem pW{α:Type}{a b:List α}(h:¬(a.length:Int)=b.length):a≠b:=fun e=>h (by rw[e])
def EJ:List Int->List Int->Bool
 |a::l,b::m=>if a=b then EJ l m else decide (a<b)
 |_,_=>false
def tp(a b:au):Bool:=if a.cO=b.cO then(if a.ep.length=b.ep.length then EJ a.ep b.ep else decide (a.ep.length<b.ep.length)) else decide (a.cO<b.cO)
def mg(d:aZ)(m:au):Int:=(d.az.getD m.cO.toNat cB).nB
def mQ(d:aZ)(a b:au):Bool:=j8 d a&&j8 d b&&(decide (mg d b<mg d a)||(decide (mg d a=mg d b)&&tp a b))
def K5(m x:au):Bool:=decide (x.cO=m.cO/\x.ep=m.ep)
def nv(l:List au)(m:au):Bool:=l.any (K5 m)
def rA(d:aZ)(bP:List au)(m:au):Bool:=j8 d m&& !nv bP m
def fu(d:aZ)(bP:List au)(o:Option au)(m:au):Option au:=
 if(rA d bP m&&(match o with|none=>true|some b=>mQ d m b))=true then some m else o
def jk(d:aZ)(set bP:List au):Option au:=set.foldl (fu d bP) none
def zm(o:Option au):au:=match o with|some m=>m|none=>bh
theorem Mk(d:aZ)(bP l:List au)(o:Option au){i:Int}(h0:0<=i)(h:i<l.length):(l.drop i.toNat).foldl (fu d bP) o=(l.drop (i+1).toNat).foldl (fu d bP) (fu d bP o (l.getD i.toNat bh)):=by
 rw[dx l bh h0 h];rfl
theorem Ie{d:aZ}{bP:List au}{o:Option au}{m:au}(h:rA d bP m=false):fu d bP o m=o:=by unfold fu;rw[h,si];rfl
theorem J7{d:aZ}{bP:List au}{m:au}(h:rA d bP m=true):fu d bP none m=some m:=by unfold fu;rw[h];rfl
theorem Ml{d:aZ}{bP:List au}{m b:au}(h:rA d bP m=true)(g:mQ d m b=true):fu d bP (some b) m=some m:=by simp only[fu,h,g];rfl
theorem Mm{d:aZ}{bP:List au}{m b:au}(g:mQ d m b=false):fu d bP (some b) m=some b:=by simp only[fu,g,wa];rfl
def UG:=cf (α:=(List Int)×(List Int)) (qC (qL .int) (q1 (qL .int))) [.ro,.ro] (fun _=>[]) (fun(a,b)=>⟨[dO (decide (a=b))],[],[]⟩)
def BH(a:List Int)(b:List Int):Int×Unit->Prop:=fun(i,_)=>0<=i/\i<=a.length/\a.length=b.length/\(a.drop i.toNat=b.drop i.toNat↔a=b)
def AQ(a:List Int)(b:List Int):Int×Unit->Nat:=fun(i,_)=>a.length-i.toNat
def ago:AX UG:=fun(a,b)=>b_ [(4,aY [iI 5] (fun _=>BH a b) (AQ a b))]
def ae4:HH:=hF UG func193 [] ago fun x hp hb=>by
 obtain⟨a,b⟩:=x
 have MP:L9 a.length:=kc (hb _ m0)
 have MN:L9 b.length:=kc (hb _ m1)
 clear hp hb
 apply vE (bif (a.length:Int) !=(b.length:Int) then Lb false (decide (a=b)) else BH a b (0,())/\∀(y:Int×PUnit),let q0:=(wrap i64 (y.1+1),());BH a b y->bif decide (y.1<(a.length:Int)) then 0<=y.1/\y.1.toNat<a.length/\0<=y.1/\y.1.toNat<b.length/\bif a.getD y.1.toNat 0 !=b.getD y.1.toNat 0 then Lb false (decide (a=b)) else BH a b q0/\AQ a b q0<AQ a b y else Lb true (decide (a=b)))
 dsimp only
 refine ab (fun h=>lg (pW (by simpa using h))) (fun h=>⟨⟨by omega,by omega,(tq (a:=a) (b:=b) (by assumption)),by simp⟩,?_⟩)
 rintro⟨i,⟨⟩⟩ ⟨h1,h2,h3,hR⟩
 simp only
 refine ab ?_ ?_<;>intro hc
 ·have hc:i<a.length:=yT hc
  rw[wi]
  try simp only[gg]
  try simp only[aQ]
  have hz:True:=trivial
  repeat' (first|refine And.intro (by omega) ?_|refine ab (fun h=> ?_) (fun h=> ?_))
  all_goals first|exact lg (mj (0:Int) h1 hc (by omega) hR (by first|grind|(rw[hz];grind)))|exact⟨⟨by omega,by omega,h3,oE (0:Int) h1 hc (by omega) hR (by first|grind|(rw[hz];grind))⟩,by simp only[AQ];omega⟩
 ·have hc:a.length<=i:=by have:=yF hc;omega
  exact Js (ld hc (by omega) hR)
def adV:=cf (α:=au×au) (qC (qA .av) (q1 (qA .av))) [.ro,.ro] (fun _=>[]) (fun(a,b)=>⟨[dO (decide (a.cO=b.cO/\a.ep=b.ep))],[],[]⟩)
def VC:HH:=hF adV func153 [ae4] a0 fun x hp hb=>by
 obtain⟨a,b⟩:=x
 clear hp hb
 apply vE (let q0:=decide (a.cO=b.cO/\a.ep=b.ep);bif a.cO==b.cO then Lb (decide (a.ep=b.ep)) q0 else Lb false q0)
 dsimp only
 refine ab (fun h=>cg ?_) (fun h=>cg ?_)<;>grind
def UF:=cf (α:=au×au) (qC (qA .av) (q1 (qA .av))) [.ro,.ro] (fun _=>[]) (fun(a,b)=>⟨[dO (tp a b)],[],[]⟩)
def BG(a:au)(b:au):Int×Q4×Q4×Unit->Prop:=fun(i,p,q,_)=>p=(a.cO,a.ep,a.bE,())/\q=(b.cO,b.ep,b.bE,())/\0<=i/\i<=a.ep.length/\a.ep.length=b.ep.length/\EJ (a.ep.drop i.toNat) (b.ep.drop i.toNat)=EJ a.ep b.ep
def AP(a:au)(b:au):Int×Q4×Q4×Unit->Nat:=fun(i,p,q,_)=>a.ep.length-i.toNat
def agn:AX UF:=fun(a,b)=>b_ [(6,aY [iI 5,.box 2 (2,1024) [.lit (.int .i64),.shr .int,.shr .cw],.box 3 (3,1024) [.lit (.int .i64),.shr .int,.shr .cw]] (fun _=>BG a b) (AP a b))]
def ae0:HH:=hF UF func201 [] agn fun x hp hb=>by
 obtain⟨a,b⟩:=x
 have dG:=qw (x:=a) (hb _ m0)
 have abU:=dG.1
 have X3:=dG.2
 have gM:=qw (x:=b) (hb _ m1)
 have abT:=gM.1
 have XV:=gM.2
 clear hp hb
 apply vE (let x0:=(a.ep.length:Int);let x1:=(b.ep.length:Int);let q0:=Int×List Int×List bQ×PUnit;bif a.cO !=b.cO then Lb (decide (a.cO<b.cO)) (tp a b) else bif x0 !=x1 then Lb (decide (x0<x1)) (tp a b) else BG a b (0,(a.cO,a.ep,a.bE,()),(b.cO,b.ep,b.bE,()),())/\∀(y:Int×q0×q0×PUnit),let x2:=y.2.2.1.2.1.getD y.1.toNat 0;let x3:=y.2.1.2.1.getD y.1.toNat 0;let x5:=y.2.1.2.1.length;let x4:=(↑x5:Int);let q1:=(wrap i64 (y.1+1),(y.2.1.1,y.2.1.2.1,y.2.1.2.2.1,()),(y.2.2.1.1,y.2.2.1.2.1,y.2.2.1.2.2.1,()),());BG a b y->bif decide (y.1<x4) then 0<=y.1/\y.1.toNat<x5/\0<=y.1/\y.1.toNat<y.2.2.1.2.1.length/\bif x3 !=x2 then 0<=y.1/\y.1.toNat<x5/\0<=y.1/\y.1.toNat<y.2.2.1.2.1.length/\Lb (decide (x3<x2)) (tp a b) else BG a b q1/\AP a b q1<AP a b y else Lb false (tp a b))
 dsimp only
 refine i_ (fun h=>cg (if_neg h).symm) (fun h=>i_ (fun g=>cg ?_) (fun g=> ?_))
 ·rw[tp,if_pos h,if_neg (by omega),decide_eq_decide];omega
 have g:a.ep.length=b.ep.length:=by omega
 have eM:tp a b=EJ a.ep b.ep:=by rw[tp,if_pos h,if_pos g]
 refine⟨⟨rfl,rfl,by omega,by omega,g,rfl⟩,?_⟩
 rintro⟨i,⟨p1,p2,p3,⟨⟩⟩,⟨q1,q2,q3,⟨⟩⟩,⟨⟩⟩ ⟨hp,hq,h1,h2,h3,hR⟩
 cases hp
 cases hq
 simp only
 rw[eM]
 refine bc ?_ ?_<;>intro hc
 ·rw[dx a.ep (0:Int) h1 hc,dx b.ep (0:Int) h1 (by omega)] at hR
  simp only[EJ] at hR
  rw[wi]
  refine⟨by omega,by omega,by omega,by omega,i_ (fun e=>⟨by omega,by omega,by omega,by omega,cg ?_⟩) (fun e=> ?_)⟩
  ·rw[if_neg e] at hR;exact hR
  ·rw[if_pos e] at hR;exact⟨⟨rfl,rfl,by omega,by omega,h3,hR⟩,by simp only[AP];omega⟩
 ·rw[cd a.ep (by omega)] at hR
  exact bL hR.symm
def adK:=cf (α:=aZ×au×au) (qC (qA .gJ) (qC (qA .av) (q1 (qA .av)))) [.ro,.ro,.ro] (fun _=>[]) (fun(d,a,b)=>⟨[dO (mQ d a b)],[],[]⟩)
def afe:HH:=hF adK func177 [Qv,ae0] a0 fun x hp hb=>by
 obtain⟨d,a,b⟩:=x
 clear hp hb
 apply vE (let x0:=(d.az.getD b.cO.toNat cB).nB;let x1:=(d.az.getD a.cO.toNat cB).nB;let q0:=mQ d a b;bif !j8 d a then Lb false q0 else bif !j8 d b then Lb false q0 else 0<=a.cO/\a.cO.toNat<d.az.length/\0<=b.cO/\b.cO.toNat<d.az.length/\bif decide (x1>x0) then Lb true q0 else bif x1==x0 then Lb (tp a b) q0 else Lb false q0)
 dsimp only
 refine bu (fun h=>bL ?_) (fun h=>bu (fun h'=>bL ?_) (fun h'=> ?_))
 ·have h:j8 d a=false:=h
  rw[mQ,h];rfl
 ·have h':j8 d b=false:=h'
  rw[mQ,h',wa];rfl
 have h:j8 d a=true:=h
 have h':j8 d b=true:=h'
 obtain⟨a1,a2⟩:=ou h
 obtain⟨b1,b2⟩:=ou h'
 have e:mQ d a b=(decide (mg d b<mg d a)||(decide (mg d a=mg d b)&&tp a b)):=by rw[mQ,h,h'];rfl
 refine⟨a1,by omega,b1,by omega,bc (fun g=>oR ?_) (fun g=>ct (fun g'=>cg ?_) (fun g'=>bL ?_))⟩
 ·rw[e,decide_eq_true (show mg d b<mg d a from g)];rfl
 ·rw[e,decide_eq_false (show¬mg d b<mg d a from g),decide_eq_true (show mg d a=mg d b from g')];rfl
 ·rw[e,decide_eq_false (show¬mg d b<mg d a from g),decide_eq_false (show¬mg d a=mg d b from g')];rfl
def UO:=cf (α:=(List au)×au) (qC (qL .av) (q1 (qA .av))) [.ro,.ro] (fun _=>[]) (fun(l,m)=>⟨[dO (nv l m)],[],[]⟩)
def BO(l:List au)(m:au):Int×Q4×Unit->Prop:=fun(i,b,_)=>b=(m.cO,m.ep,m.bE,())/\0<=i/\i<=l.length/\(l.drop i.toNat).any (K5 m)=nv l m
def AY(l:List au)(m:au):Int×Q4×Unit->Nat:=fun(i,b,_)=>l.length-i.toNat
def agx:AX UO:=fun(l,m)=>b_ [(2,aY [iI 5,.box 3 (3,1024) [.lit (.int .i64),.shr .int,.shr .cw]] (fun _=>BO l m) (AY l m))]
def aff:HH:=hF UO func176 [VC] agx fun x hp hb=>by
 obtain⟨l,m⟩:=x
 have jB:L9 l.length:=kc (hb _ m0)
 have gM:=qw (x:=m) (hb _ m1)
 have IE:=gM.1
 have C7:=gM.2
 clear hp hb
 apply vE (BO l m (0,(m.cO,m.ep,m.bE,()),())/\∀(y:Int×T19×PUnit),let q0:=(wrap i64 (y.1+1),(y.2.1.1,y.2.1.2.1,y.2.1.2.2.1,()),());BO l m y->bif decide (y.1<(l.length:Int)) then 0<=y.1/\y.1.toNat<l.length/\bif decide ((l.getD y.1.toNat bh).cO=y.2.1.1/\(l.getD y.1.toNat bh).ep=y.2.1.2.1) then Lb true (nv l m) else BO l m q0/\AY l m q0<AY l m y else Lb false (nv l m))
 dsimp only
 refine⟨⟨rfl,by omega,by omega,rfl⟩,?_⟩
 rintro⟨i,⟨b1,b2,b3,⟨⟩⟩,⟨⟩⟩ ⟨hb,h1,h2,hR⟩
 cases hb
 simp only
 refine bc ?_ ?_<;>intro hc
 ·rw[xt _ _ bh h1 hc] at hR
  rw[wi]
  refine⟨by omega,by omega,ab (fun g=>oR ?_) (fun g=>⟨⟨rfl,by omega,by omega,?_⟩,by simp only[AY];omega⟩)⟩
  ·rw[<-hR,show K5 m (l.getD i.toNat bh)=true from g,Bool.true_or]
  ·rw[<-hR,show K5 m (l.getD i.toNat bh)=false from g,Fw]
 ·rw[cd _ (by omega)] at hR
  exact bL hR.symm
def adJ:=cf (α:=au) (q1 (qA .av)) [.ro] (fun m=>[L4 m.ep.length,L4 m.bE.length]) (fun m=>⟨[dA .av m],[],[]⟩)
def Vw:HH:=hF adJ func178 [] a0 fun(m:au) hp hb=>by
 have dG:=qw (x:=m) (hb _ m0)
 have IE:=dG.1
 have C7:=dG.2
 have bJ:m.ep.length<=4294967296:=hp _ m0
 have eh:m.bE.length<=4294967296:=hp _ m1
 clear hp hb
 apply vE (0+m.ep.length<=4294967296/\0+m.bE.length<=4294967296/\Lf [DV.agg [CI m.cO,CL .int ([]++m.ep),CL .cw ([]++m.bE)]] [DV.agg [CI m.cO,CL .int m.ep,CL .cw m.bE]])
 have q1:(0:Nat)+m.ep.length<=4294967296:=by omega
 have q2:(0:Nat)+m.bE.length<=4294967296:=by omega
 exact⟨q1,q2,aV _⟩
def U_:=cf (α:=aZ×(List au)×(List au)) (qC (qA .gJ) (qC (qL .av) (q1 (qL .av)))) [.ro,.ro,.ro] (fun(d,set,bP)=>[∀m,m∈set->L4 m.ep.length/\L4 m.bE.length]) (fun(d,set,bP)=>⟨[dA .av (zm (jk d set bP)),dO ((jk d set bP).isSome)],[],[]⟩)
def uN(d:aZ)(set:List au)(bP:List au):Int×Int×T2×Q4×Unit->Prop:=fun(e,i,b,q,_)=>b=(d.Name,d.az,())/\0<=i/\i<=set.length/\e<set.length/\-1<=e/\(set.drop i.toNat).foldl (fu d bP) (if e<0 then none else some (set.getD e.toNat bh))=jk d set bP
def pJ(d:aZ)(set:List au)(bP:List au):Int×Int×T2×Q4×Unit->Nat:=fun(e,i,b,q,_)=>set.length-i.toNat
def agS:AX U_:=fun(d,set,bP)=>b_ [(3,aY [iI 8,iI 9,.box 3 (3,1024) [.lit .str,.shr .cv],.box 6 (6,1024) [.lit (.int .i64),.own .int true,.own .cw true]] (fun _=>uN d set bP) (pJ d set bP))]
def afF:HH:=hF U_ func133 [Qv,aff,afe,Vw] agS fun x hp hb=>by
 obtain⟨d,set,bP⟩:=x
 have dG:=kS (x:=d) (hb _ m0)
 have j7:=dG.1
 have jb:=dG.2
 have aj':L9 set.length:=kc (hb _ m1)
 have abQ:L9 bP.length:=kc (hb _ m2)
 have bJ:∀m,m∈set->m.ep.length<=4294967296/\m.bE.length<=4294967296:=hp _ m0
 clear hp hb
 apply vE (let q0:=zm (jk d set bP);let q1:=Option.isSome (jk d set bP);uN d set bP ((-1),0,(d.Name,d.az,()),(0,[],[],()),())/\∀(y:Int×Int×T7×T19×PUnit),let x0:={Name:=y.2.2.1.1,az:=y.2.2.1.2.1:aZ};let x2:=y.2.1.toNat;let x3:=set.getD y.1.toNat bh;let x4:=decide (y.1<0);let x1:=set.getD x2 bh;let q2:=uN d set bP (y.1,wrap i64 (y.2.1+1),(y.2.2.1.1,y.2.2.1.2.1,()),(y.2.2.2.1.1,y.2.2.2.1.2.1,y.2.2.2.1.2.2.1,()),())/\pJ d set bP (y.1,wrap i64 (y.2.1+1),(y.2.2.1.1,y.2.2.1.2.1,()),(y.2.2.2.1.1,y.2.2.2.1.2.1,y.2.2.2.1.2.2.1,()),())<pJ d set bP y;let q3:=(y.2.1,wrap i64 (y.2.1+1),(y.2.2.1.1,y.2.2.1.2.1,()),(y.2.2.2.1.1,y.2.2.2.1.2.1,y.2.2.2.1.2.2.1,()),());let q4:=uN d set bP q3/\pJ d set bP q3<pJ d set bP y;uN d set bP y->bif decide (y.2.1<(set.length:Int)) then 0<=y.2.1/\x2<set.length/\bif j8 x0 x1 then 0<=y.2.1/\x2<set.length/\bif !nv bP x1 then bif x4 then q4 else 0<=y.2.1/\x2<set.length/\0<=y.1/\y.1.toNat<set.length/\bif mQ x0 x1 x3 then q4 else q2 else q2 else q2 else bif x4 then Lf [DV.agg [CI 0,CL .int [],CL .cw []],VB false] [DV.agg [CI (q0.cO),CL .int q0.ep,CL .cw q0.bE],VB q1] else 0<=y.1/\y.1.toNat<set.length/\L4 x3.ep.length/\L4 x3.bE.length/\Lf [DV.agg [CI x3.cO,CL .int x3.ep,CL .cw x3.bE],VB true] [DV.agg [CI (q0.cO),CL .int q0.ep,CL .cw q0.bE],VB q1])
 dsimp only
 refine⟨⟨rfl,by omega,by omega,by omega,by omega,rfl⟩,?_⟩
 rintro⟨e,i,⟨b1,b2,⟨⟩⟩,⟨q1,q2,q3,⟨⟩⟩,⟨⟩⟩ ⟨hb,h1,h2,h3,h4,hR⟩
 cases hb
 simp only at h1 h2 h3 h4 hR⊢
 refine bc ?_ ?_<;>intro hc
 ·rw[Mk d bP set _ h1 hc] at hR
  have nxt:∀e':Int,e'<set.length->-1<=e'->fu d bP (if e<0 then none else some (set.getD e.toNat bh)) (set.getD i.toNat bh)=(if e'<0 then none else some (set.getD e'.toNat bh))->uN d set bP (e',IntKind.wrap .i64 (i+1),(d.Name,d.az,()),(q1,q2,q3,()),())/\pJ d set bP (e',IntKind.wrap .i64 (i+1),(d.Name,d.az,()),(q1,q2,q3,()),())<pJ d set bP (e,i,(d.Name,d.az,()),(q1,q2,q3,()),()):=fun e' k1 k2 g=>by
   rw[wi]
   exact⟨⟨rfl,by omega,by omega,k1,k2,by rw[<-g];exact hR⟩,by simp only[pJ];omega⟩
  have own:(if i<0 then none else some (set.getD i.toNat bh))=some (set.getD i.toNat bh):=if_neg (by omega)
  refine⟨h1,by omega,ab (fun g=>⟨h1,by omega,bu (fun g'=> ?_) (fun g'=>nxt e h3 h4 (Ie (by rw[rA,show nv bP (set.getD i.toNat bh)=true from g',Y4,wa])))⟩) (fun g=>nxt e h3 h4 (Ie (by rw[rA,show j8 d (set.getD i.toNat bh)=false from g];rfl)))⟩
  have nu:rA d bP (set.getD i.toNat bh)=true:=by rw[rA,show j8 d (set.getD i.toNat bh)=true from g,show nv bP (set.getD i.toNat bh)=false from g'];rfl
  refine bc (fun k=>nxt i (by omega) (by omega) ?_) (fun k=>⟨h1,by omega,by omega,by omega,ab (fun g3=>nxt i (by omega) (by omega) ?_) (fun g3=>nxt e h3 h4 ?_)⟩)
  ·rw[own,if_pos k,J7 nu]
  ·rw[own,if_neg k,Ml nu g3]
  ·rw[if_neg k,Mm g3]
 ·rw[cd _ (by omega)] at hR
  refine bc ?_ ?_<;>intro k
  ·rw[if_pos k] at hR
   have hR:none=jk d set bP:=hR
   rw[<-hR];exact aV _
  ·rw[if_neg k] at hR
   have hR:some (set.getD e.toNat bh)=jk d set bP:=hR
   have o_:set.getD e.toNat bh∈set:=fL (by omega)
   rw[<-hR]
   exact⟨by omega,by omega,(bJ _ o_).1,(bJ _ o_).2,aV _⟩
theorem zA:∀(ps:List ck),(∀i,i<ps.length->iH ps i=decide (cJ ps<=i))->∀k,k<cJ ps->ps.getD k cr=(ps.filter fun p=> !p.Not).getD k cr
 |[],_,k,hk=>by simp[cJ] at hk
 |p::ps,h,k,hk=>by
  have h0:=h 0 (by simp)
  have e0:iH (p::ps) 0=p.Not:=rfl
  rw[e0,qe] at h0
  cases hp:p.Not with
  |true=>
   rw[hp] at h0
   have h0:=yT h0.symm
   rw[qe,hp] at hk
   simp only[if_true] at h0 hk;omega
  |false=>
   have ef:(p::ps).filter (fun p=> !p.Not)=p::ps.filter fun p=> !p.Not:=by rw[List.filter_cons,hp];rfl
   rw[ef]
   cases k with
   |zero=>rfl
   |succ k=>
    rw[qe,hp] at hk
    refine zA ps (fun i hi=> ?_) k (by simp only[wb,if_false] at hk;omega)
    have:=h (i+1) (by simpa using hi)
    rw[qe,hp] at this
    show iH ps i=_
    refine(show iH ps i=iH (p::ps) (i+1) from rfl).trans (this.trans ?_)
    rw[decide_eq_decide];simp only[wb,if_false];omega
theorem vm{r:a_}(h:gA r=true):lB r/\mF r:=by
 simp only[gA,cH] at h
 have hp:gG r.aM=true:=by rw[oh];exact h.1.1.2
 simp only[gG,cH,decide_eq_true_eq,fT,kY,ga,beq_iff_eq] at hp
 obtain⟨⟨h1,h2⟩,h3⟩:=hp
 refine⟨⟨h2.2,h1.2,fun p hp=> ?_⟩,fun k hk=>zA r.aM (fun i hi=>(h3 i hi).2) k hk⟩
 obtain⟨j,hj,rfl⟩:=qD hp
 have:=(h3 j hj).1.1.2
 rwa[dB,eW hj] at this
theorem uh{d:aZ}(h:fR d=true):(∀r,r∈d.az->lB r/\mF r)/\d.az.length<=12:=by
 simp only[fR,cH,decide_eq_true_eq,fT,jd] at h
 refine⟨fun r hr=> ?_,h.1.2.2⟩
 obtain⟨j,hj,rfl⟩:=qD hr
 have:=(h.2 j hj).1
 rw[dB,eW hj] at this
 exact vm this
theorem zj(r:a_)(s:List bW):∀(ps:List ck)(ids:List Int)(l:List bQ),(∀p,p∈ps->p.aC.length<=5)->∀m,m∈ob r s ps ids l->m.ep.length=ids.length+ps.length/\m.bE.length<=l.length+5*ps.length
 |[],ids,l,_,m,hm=>by
  simp only[ob] at hm
  split at hm
  ·rw[mb] at hm;subst hm;simp
  ·cases hm
 |p::ps,ids,l,h,m,hm=>by
  simp only[ob,nF] at hm
  obtain⟨x,hx,hm⟩:=hm
  split at hm
  ·rename_i more he
   have h1:=zj r s ps _ _ (fun q hq=>h q (by simp[hq])) m hm
   have h2:=CV he
   have h3:=h p (by simp)
   simp only[na,ir,ig] at h1⊢
   omega
  ·cases hm
theorem D9{r:a_}{s:List bW}(h:lB r){m:au}(hm:m∈jl r s):m.ep.length<=3/\m.bE.length<=15:=by
 have h2:(lu r).length<=3:=h.three
 have h1:=zj r s (lu r) [] [] (fun p hp=>h.args p (wc.1 hp).1) m hm
 simp only[ig] at h1
 omega
theorem Fo{rs:List a_}{s:List bW}(h:∀r,r∈rs->lB r){m:au}(hm:m∈allM rs s):m.ep.length<=3/\m.bE.length<=15:=by
 simp only[allM,Jg,nF,kW,n9] at hm
 obtain⟨i,hi,m',tX,rfl⟩:=hm
 exact D9 (m:=m') (h _ (fL hi)) tX
theorem RU(d:aZ)(bP:List au)(o:Option au)(x:au):fu d bP o x=o\/fu d bP o x=some x:=by
 unfold fu
 generalize (rA d bP x&&_)=b
 cases b<;>simp
theorem If{d:aZ}{bP:List au}:∀{l:List au}{o:Option au}{m:au},l.foldl (fu d bP) o=some m->m∈l\/o=some m
 |[],o,m,h=> .inr h
 |x::l,o,m,h=>by
  rcases If (l:=l) h with h|h
  ·exact .inl (by simp[h])
  ·rcases RU d bP o x with e|e
   ·exact .inr (e.symm.trans h)
   ·rw[e] at h;cases h;exact .inl (by simp)
theorem ED{d:aZ}{set bP:List au}{m:au}(h:jk d set bP=some m):m∈set:=by
 rcases If h with h|h
 ·exact h
 ·cases h
def akR:=cf (α:=aZ×aj) (qC (qA .gJ) (q1 (qA .bY))) [.ro,.ro] (fun(d,x)=>[fR d=true,x.S.aa.length<=40]) (fun(d,x)=>⟨[dA .av (zm (jk d (allM d.az x.S.aa) x.aw)),dO ((jk d (allM d.az x.S.aa) x.aw).isSome)],[],[]⟩)
def alK:HH:=hF akR func83 [afE,afF] a0 fun x hp hb=>by
 obtain⟨d,x⟩:=x
 have bJ:fR d=true:=hp _ m0
 have eh:x.S.aa.length<=40:=hp _ m1
 clear hp hb
 apply vE (let x0:=zm (jk d (allM d.az x.S.aa) x.aw);let q0:=Option.isSome (jk d (allM d.az x.S.aa) x.aw);(∀(r:a_),r∈d.az->lB r)/\(x.S.aa.length<=40/\d.az.length<=12)/\(∀(r:a_),r∈d.az->mF r)/\(∀(m:au),m∈allM d.az x.S.aa->L4 m.ep.length/\L4 m.bE.length)/\Lf [DV.agg [CI x0.cO,CL .int x0.ep,CL .cw x0.bE],VB q0] [DV.agg [CI x0.cO,CL .int x0.ep,CL .cw x0.bE],VB q0])
 dsimp only
 have h:=uh bJ
 exact⟨fun r hr=>(h.1 r hr).1,⟨eh,h.2⟩,fun r hr=>(h.1 r hr).2,fun m hm=>by have:=Fo (fun r hr=>(h.1 r hr).1) hm;omega,aV _⟩
def P9(f:aO):Bool:=decide (f.Kind=ah)&&decide (f.af.length=0)
def dq(e:cN):Bool:=
 bif decide (e.Kind=1) then bw e.F&&decide (e.Id=0)&&decide (e.N=0)&&decide (e.aX=ah)
 else bif decide (e.Kind=2) then P9 e.F&&decide (1<=e.Id)&&decide (e.N=0)&&decide (e.aX=ah)
 else bif decide (e.Kind=3) then bw e.F&&decide (e.Id=0)&&decide (e.N=0)&&gK e.aX
 else bif decide (e.Kind=4) then bw e.F&&decide (e.Id=0)&&decide (0<=e.N/\e.N<=100000)&&decide (e.aX=ah)
 else bif decide (e.Kind=5)||decide (e.Kind=6) then P9 e.F&&decide (e.Id=0)&&decide (e.N=0)&&decide (e.aX=ah) else false
def qo(m:au)(a:dQ):cN:=if a.Kind=2 then⟨a.Kind,uX,m.ep.getD a.N.toNat 0,0,a.aX⟩ else⟨a.Kind,⟨a.Name,lN a.aC m.bE⟩,0,if a.Kind=4 then a.N else 0,a.aX⟩
def FW(m:au)(a:dQ):Bool:=(decide (a.Kind=2)||lQ a.aC m.bE)&&dq (qo m a)
def dV(d:aZ)(m:au):List dQ:=(d.az.getD m.cO.toNat cB).cx
def CU(d:aZ)(m:au):Bool:=j8 d m&&decide (m.ep.length=cJ (d.az.getD m.cO.toNat cB).aM)
def kJ(d:aZ)(m:au):Bool:=fR d&&CU d m&&(dV d m).all (FW m)
def ma(d:aZ)(m:au):List cN:=if kJ d m then(dV d m).map (qo m) else[]
theorem K7{d:aZ}{m:au}(h:fR d=true)(h2:j8 d m=true):gA (d.az.getD m.cO.toNat cB)=true:=by
 obtain⟨r1,r2⟩:=ou h2
 simp only[fR,cH,fT] at h
 have:=h.2 m.cO.toNat (by omega)
 simp only[jd,cH] at this
 exact this.1
theorem LP{d:aZ}{m:au}(h:fR d=true)(h2:CU d m=true):(dV d m).length<=6/\∀i:Int,0<=i->i<(dV d m).length->cT ((dV d m).getD i.toNat cQ)=true/\(((dV d m).getD i.toNat cQ).Kind=2->0<=((dV d m).getD i.toNat cQ).N/\((dV d m).getD i.toNat cQ).N<m.ep.length):=by
 simp only[CU,cH,decide_eq_true_eq] at h2
 have hr:=K7 h h2.1
 simp only[gA,lf,cH,decide_eq_true_eq] at hr
 obtain⟨⟨_,_⟩,⟨⟨_,hl⟩,ha⟩⟩:=hr
 refine⟨hl,fun i h0 hi=> ?_⟩
 rw[sh] at ha
 have hm:(dV d m).getD i.toNat cQ∈dV d m:=by rw[dB,eW (by omega)];exact DU _
 have hk:=ha _ hm
 generalize List.getD (dV d m) i.toNat cQ=a at*
 simp only[mo,cH] at hk
 refine⟨hk.1.1,fun e=> ?_⟩
 have hd:=hk.1.2
 have hp:=hk.1.1
 simp only[gj,e,decide_true,vh,pc,decide_eq_false_iff_not] at hd
 simp only[cT,e,show¬((2:Int)=1) by decide,decide_false,cond_false,decide_true,cond_true,cH,decide_eq_true_eq] at hp
 omega
theorem LfE{a a':cN}{b b':Bool}(h1:a=a')(h2:b=b'):Lf [.agg [CI a.Kind,.lit (.string a.F.Kind),.sl .bf a.F.af,CI a.Id,CI a.N,.lit (.string a.aX)],.one (.lit (.bool b))] [.agg [CI a'.Kind,.lit (.string a'.F.Kind),.sl .bf a'.F.af,CI a'.Id,CI a'.N,.lit (.string a'.aX)],.one (.lit (.bool b'))]:=by
 subst h1 h2;exact aV _
theorem aha{a a':List cN}{b b':Bool}(h1:a=a')(h2:b=b'):Lf [.one (.sl .dz a),.one (.lit (.bool b))] [.one (.sl .dz a'),.one (.lit (.bool b'))]:=by
 subst h1 h2;exact aV _
def adw:=cf (α:=cN) (q1 (qA .dz)) [.ro] (fun _=>[]) (fun e=>⟨[dO (dq e)],[],[]⟩)
def aeW:HH:=hF adw func206 [Jq,DS,uV] a0 fun(e:cN) hp hb=>by
 clear hp hb
 apply vE (let x0:=e.Kind==5;let x1:=e.aX.toList==ByteArray.toList {data:= #[]:BA};let x2:=e.Id==0;let x3:=(e.F.af.length:Int)==0;let q0:=Lb false (dq e);let q1:=bif x2 then bif e.N==0 then Lb x1 (dq e) else q0 else q0;let q2:=bif bw e.F then bif x2 then bif e.N==0 then bif x1 then Lb true (dq e) else Lb (bq e.aX) (dq e) else q0 else q0 else q0;let q3:=bif bw e.F then bif x2 then bif decide (0<=e.N/\e.N<=100000) then Lb x1 (dq e) else q0 else q0 else q0;bif e.F.Kind.toList==ByteArray.toList {data:= #[]:BA} then bif e.Kind==1 then bif bw e.F then q1 else q0 else bif e.Kind==3 then q2 else bif e.Kind==4 then q3 else bif e.Kind==2 then bif x3 then bif decide (e.Id≥1) then bif e.N==0 then Lb x1 (dq e) else q0 else q0 else q0 else bif x0 then bif x0 then bif x3 then q1 else q0 else q0 else bif e.Kind==6 then bif x3 then q1 else q0 else q0 else bif e.Kind==1 then bif bw e.F then q1 else q0 else bif e.Kind==3 then q2 else bif e.Kind==4 then q3 else bif e.Kind==2 then q0 else bif x0 then bif x0 then q0 else q0 else bif e.Kind==6 then q0 else q0)
 dsimp only
 have e1:∀s:BA,(s.toList==ByteArray.toList {data:= #[]})=decide (s=ah):=fun s=>aQ _ _
 have e2:((e.F.af.length:Int)==0)=decide (e.F.af.length=0):=by rw[DX];simp
 simp only[e1,e2,dq,P9,gK]
 repeat' (refine ab (fun h=> ?_) (fun h=> ?_))
 all_goals (refine cg ?_;grind)
def adH:=cf (α:=dQ×au) (qC (qA .eJ) (q1 (qA .av))) [.ro,.ro] (fun(a,m)=>[a.Kind=2->0<=a.N/\a.N<m.ep.length,a.aC.length<=4294967295]) (fun(a,m)=>⟨[dA .dz (qo m a),dO (FW m a)],[],[]⟩)
def afb:HH:=hF adH func181 [aeW,aeV] a0 fun x hp hb=>by
 obtain⟨a,m⟩:=x
 have bJ:a.Kind=2->0<=a.N/\a.N<m.ep.length:=hp _ m0
 have eh:a.aC.length<=4294967295:=hp _ m1
 clear hp hb
 apply vE (let q0:=(qo m a).F.Kind;let q1:=lN a.aC m.bE;let q2:=(qo m a).Kind;let q3:=(qo m a).aX;let q4:=(qo m a).Id;let q5:=(qo m a).N;bif a.Kind==2 then 0<=a.N/\a.N.toNat<m.ep.length/\Lf [DV.agg [CI a.Kind,CS ({data:= #[]:BA}),CL .bf [],CI (m.ep.getD a.N.toNat 0),CI 0,CS a.aX],VB (dq {Kind:=a.Kind,F:={Kind:={data:= #[]:BA},af:=[]:aO},Id:=m.ep.getD a.N.toNat 0,N:=(0:Int),aX:=a.aX:cN})] [DV.agg [CI q2,CS q0,CL .bf (qo m a).F.af,CI q4,CI q5,CS q3],VB (FW m a)] else bif a.Kind==4 then a.aC.length<=4294967295/\bif lQ a.aC m.bE then Lf [DV.agg [CI a.Kind,CS a.Name,CL .bf q1,CI 0,CI a.N,CS a.aX],VB (dq {Kind:=a.Kind,F:={Kind:=a.Name,af:=lN a.aC m.bE:aO},Id:=(0:Int),N:=a.N,aX:=a.aX:cN})] [DV.agg [CI q2,CS q0,CL .bf (qo m a).F.af,CI q4,CI q5,CS q3],VB (FW m a)] else Lf [DV.agg [CI a.Kind,CS a.Name,CL .bf q1,CI 0,CI a.N,CS a.aX],VB false] [DV.agg [CI q2,CS q0,CL .bf (qo m a).F.af,CI q4,CI q5,CS q3],VB (FW m a)] else a.aC.length<=4294967295/\bif lQ a.aC m.bE then Lf [DV.agg [CI a.Kind,CS a.Name,CL .bf q1,CI 0,CI 0,CS a.aX],VB (dq {Kind:=a.Kind,F:={Kind:=a.Name,af:=lN a.aC m.bE:aO},Id:=(0:Int),N:=(0:Int),aX:=a.aX:cN})] [DV.agg [CI q2,CS q0,CL .bf (qo m a).F.af,CI q4,CI q5,CS q3],VB (FW m a)] else Lf [DV.agg [CI a.Kind,CS a.Name,CL .bf q1,CI 0,CI 0,CS a.aX],VB false] [DV.agg [CI q2,CS q0,CL .bf (qo m a).F.af,CI q4,CI q5,CS q3],VB (FW m a)])
 dsimp only
 refine ct (fun h=> ?_) (fun h=>ct (fun h4=>⟨eh,ab (fun g=> ?_) (fun g=> ?_)⟩) (fun h4=>⟨eh,ab (fun g=> ?_) (fun g=> ?_)⟩))
 ·have e:qo m a=⟨a.Kind,uX,m.ep.getD a.N.toNat 0,0,a.aX⟩:=if_pos h
  exact⟨(bJ h).1,by have:=bJ h;omega,LfE (a:=⟨a.Kind,uX,m.ep.getD a.N.toNat 0,0,a.aX⟩) e.symm (by simp only[FW,decide_eq_true h,Bool.true_or,vh,e];rfl)⟩
 all_goals have e0:qo m a=⟨a.Kind,⟨a.Name,lN a.aC m.bE⟩,0,if a.Kind=4 then a.N else 0,a.aX⟩:=if_neg h
 all_goals first|rw[if_pos h4] at e0|rw[if_neg h4] at e0
 ·exact LfE (a:=⟨a.Kind,⟨a.Name,lN a.aC m.bE⟩,0,a.N,a.aX⟩) e0.symm (by simp only[FW,decide_eq_false h,show lQ a.aC m.bE=true from g,Bool.or_true,vh,e0])
 ·exact LfE (a:=⟨a.Kind,⟨a.Name,lN a.aC m.bE⟩,0,a.N,a.aX⟩) e0.symm (by simp only[FW,decide_eq_false h,show lQ a.aC m.bE=false from g,Nk,si])
 ·exact LfE (a:=⟨a.Kind,⟨a.Name,lN a.aC m.bE⟩,0,0,a.aX⟩) e0.symm (by simp only[FW,decide_eq_false h,show lQ a.aC m.bE=true from g,Bool.or_true,vh,e0])
 ·exact LfE (a:=⟨a.Kind,⟨a.Name,lN a.aC m.bE⟩,0,0,a.aX⟩) e0.symm (by simp only[FW,decide_eq_false h,show lQ a.aC m.bE=false from g,Nk,si])
theorem Gw{d:aZ}{m:au}(h:kJ d m=false):Lf [.one (.sl .dz []),.one (.lit (.bool false))] [.one (.sl .dz (ma d m)),.one (.lit (.bool (kJ d m)))]:=
 aha (by rw[ma,h];rfl) h.symm
theorem LA{d:aZ}{m:au}(h:CU d m=false):kJ d m=false:=by rw[kJ,h];simp
theorem SR{d:aZ}{m:au}(h:(dV d m).all (FW m)=false):kJ d m=false:=by rw[kJ,h];simp
theorem Qf{d:aZ}{m:au}(h:j8 d m=true){i:Int}(h1:0<=i)(h2:i<(dV d m).length):((dV d m).getD i.toNat cQ).aC.length<=cX d:=by
 obtain⟨r1,r2⟩:=ou h
 have hs:=dC jj d.az cB r1 r2
 have ht:=dC qN (dV d m) cQ h1 h2
 have e:(d.az.getD m.cO.toNat cB).cx=dV d m:=rfl
 simp only[jj,e] at hs
 simp only[qN,nZ] at ht
 have e2:Cv (dV d m)=(dV d m).length+((dV d m).map qN).sum:=rfl
 simp only[cX,nY]
 omega
def U9:=cf (α:=aZ×au) (qC (qA .gJ) (q1 (qA .av))) [.ro,.ro] (fun(d,m)=>[cX d<=4294967295]) (fun(d,m)=>⟨[dL .dz (ma d m),dO (kJ d m)],[],[]⟩)
def B4(d:aZ)(m:au):List cN×Int×T2×Q4×Unit->Prop:=fun(o,i,b,g,_)=>b=(d.Name,d.az,())/\g=(m.cO,m.ep,m.bE,())/\CU d m=true/\0<=i/\i<=(dV d m).length/\o=((dV d m).take i.toNat).map (qo m)/\((dV d m).drop i.toNat).all (FW m)=(dV d m).all (FW m)
def A_(d:aZ)(m:au):List cN×Int×T2×Q4×Unit->Nat:=fun(o,i,b,g,_)=>(dV d m).length-i.toNat
def agQ:AX U9:=fun(d,m)=>b_ [(6,aY [iO 6 .dz,iI 8,.box 2 (2,1024) [.lit .str,.shr .cv],.box 3 (3,1024) [.lit (.int .i64),.shr .int,.shr .cw]] (fun _=>B4 d m) (A_ d m))]
def afD:HH:=hF U9 func135 [afc,Qv,LR,afb] agQ fun x hp hb=>by
 obtain⟨d,m⟩:=x
 have bJ:cX d<=4294967295:=hp _ m0
 clear hp hb
 apply vE (let x0:=(d.az.getD m.cO.toNat cB).cx;let q0:=Lf [VL .dz [],VB false] [VL .dz (ma d m),VB (kJ d m)];cX d<=4294967295/\bif !fR d then q0 else bif !j8 d m then q0 else 0<=m.cO/\m.cO.toNat<d.az.length/\bif (m.ep.length:Int) !=(↑(cJ (d.az.getD m.cO.toNat cB).aM):Int) then q0 else 0<=m.cO/\m.cO.toNat<d.az.length/\B4 d m ([],0,(d.Name,d.az,()),(m.cO,m.ep,m.bE,()),())/\∀(y:List cN×Int×T7×T19×PUnit),let x2:={cO:=y.2.2.2.1.1,ep:=y.2.2.2.1.2.1,bE:=y.2.2.2.1.2.2.1:au};let x4:=y.2.1.toNat;let x3:=x0.getD x4 cQ;let x1:=[qo x2 x3];let q1:=(y.1++x1,wrap i64 (y.2.1+1),(y.2.2.1.1,y.2.2.1.2.1,()),(y.2.2.2.1.1,y.2.2.2.1.2.1,y.2.2.2.1.2.2.1,()),());B4 d m y->bif decide (y.2.1<(x0.length:Int)) then 0<=y.2.1/\x4<x0.length/\(x3.Kind=2->0<=x3.N/\x3.N<(y.2.2.2.1.2.1.length:Int))/\x3.aC.length<=4294967295/\bif !FW x2 x3 then q0 else L4 (y.1.length+x1.length)/\B4 d m q1/\A_ d m q1<A_ d m y else Lf [VL .dz y.1,VB true] [VL .dz (ma d m),VB (kJ d m)])
 dsimp only
 refine⟨bJ,bu (fun h=>Gw (by rw[kJ,show fR d=false from h];rfl)) (fun hd=>bu (fun h=>Gw (LA (by rw[CU,show j8 d m=false from h];rfl))) (fun hr=> ?_))⟩
 obtain⟨r1,r2⟩:=ou hr
 refine⟨r1,by omega,i_ (fun h=>Gw (LA (by rw[CU,decide_eq_false (show¬m.ep.length=cJ (d.az.getD m.cO.toNat cB).aM by omega)];simp))) (fun hl=> ?_)⟩
 have Sn:CU d m=true:=by rw[CU,show j8 d m=true from hr,decide_eq_true (show m.ep.length=cJ (d.az.getD m.cO.toNat cB).aM by omega)];rfl
 obtain⟨ha1,ha2⟩:=LP hd Sn
 refine⟨r1,by omega,⟨rfl,rfl,Sn,by omega,by omega,by simp,rfl⟩,?_⟩
 rintro⟨o,i,⟨b1,b2,⟨⟩⟩,⟨g1,g2,g3,⟨⟩⟩,⟨⟩⟩ ⟨hb,hg,-,h1,h2,rfl,hR⟩
 cases hb
 cases hg
 have hx:(d.az.getD m.cO.toNat cB).cx=dV d m:=rfl
 simp only[hx]
 refine bc ?_ ?_<;>intro hc
 ·obtain⟨a1,a2⟩:=ha2 i h1 hc
  have has:=Qf hr h1 hc
  rw[dE _ _ cQ h1 hc] at hR
  refine⟨h1,by omega,a2,by omega,bu (fun g=> ?_) (fun g=> ?_)⟩
  ·exact Gw (SR (by rw[<-hR,show FW m ((dV d m).getD i.toNat cQ)=false from g];rfl))
  ·have g':FW m ((dV d m).getD i.toNat cQ)=true:=g
   rw[g',vh] at hR
   have hm:((dV d m).take i.toNat).map (qo m)++[qo m ((dV d m).getD i.toNat cQ)]=((dV d m).take (i+1).toNat).map (qo m):=by rw[<-db (dV d m) cQ h1 hc,HC];rfl
   rw[wi]
   exact⟨by simp only[uW,nE,ir,ig];omega,⟨rfl,rfl,Sn,by omega,by omega,hm,hR⟩,by simp only[A_];omega⟩
 ·have e:(dV d m).drop i.toNat=[]:=List.drop_eq_nil_of_le (by omega)
  rw[e] at hR
  have hf:kJ d m=true:=by rw[kJ,Sn,<-hR,show fR d=true from hd];rfl
  rw[cA (dV d m) (by omega)]
  exact aha (by rw[ma,if_pos hf]) hf.symm
def g_(now:Int)(l:List aF):List aF:=l.filter fun x=>decide (x.At<=now)
def CE(now:Int)(l:List aF):List aF:=l.filter fun x=> !decide (x.At<=now)
theorem pz{α:Type}(p:α->Bool)(l:List α)(z:α){i:Int}(h1:0<=i)(h2:i<l.length):
  (l.take (i+1).toNat).filter p=(l.take i.toNat).filter p++(if p (l.getD i.toNat z) then[l.getD i.toNat z] else[]):=by
 rw[<-db l z h1 h2,List.filter_append]
 congr 1
 simp only[List.filter_cons,List.filter_nil]
theorem mX{α:Type}(p:α->Bool)(l:List α)(n:Nat):((l.take n).filter p).length<=n:=
 vg (KK _ _) (by simp;omega)
def U8:=cf (α:=(List aF)×Int) (qC (qL .ax) (q1 qI)) [.ro,.ro] (fun(l,now)=>[L4 (cm l)]) (fun(l,now)=>⟨[dL .ax (g_ now l),dL .ax (CE now l)],[],[]⟩)
def xR(l:List aF)(now:Int):(List aF×(Nat->Bool))×Int×List aF×List aF×Unit->Prop:=fun((xs,dd),i,due,W_,_)=>0<=i/\i<=l.length/\l=xs/\(∀j,i.toNat<=j->dd j=false)/\due=g_ now (l.take i.toNat)/\W_=CE now (l.take i.toNat)
def rW(l:List aF)(now:Int):(List aF×(Nat->Bool))×Int×List aF×List aF×Unit->Nat:=fun((xs,dd),i,due,W_,_)=>l.length-i.toNat
def agP:AX U8:=fun(l,now)=>b_ [(5,aY [.slot 8 (8,1024) (.part .ax),iI 9,iO 6 .ax,iO 7 .ax] (fun _=>xR l now) (rW l now))]
def afB:HH:=hF U8 func137 [Vv] agP fun x hp hb=>by
 obtain⟨l,now⟩:=x
 have bJ:cm l<=4294967296:=hp _ m0
 clear hp hb
 apply vE (cm l<=4294967296/\xR l now ((l,fun(x:Nat)=>false),0,[],[],())/\∀(y:(List aF×(Nat->Bool))×Int×List aF×List aF×PUnit),let x1:=y.2.1.toNat;let x2:=wrap i64 (y.2.1+1);let x5:=y.fst.1.getD x1 cq;let x6:=y.fst.1.length;let x0:=[x5];let x3:=x5.At;let x4:=(↑x6:Int);xR l now y->bif decide (y.2.1<x4) then 0<=y.2.1/\x1<x6/\x1<x6/\y.fst.2 x1=false/\bif decide (x3<=now) then 0<=y.2.1/\x1<x6/\x1<x6/\y.fst.2 x1=false/\L4 (y.2.2.1.length+x0.length)/\xR l now ((y.fst.1,fun(j:Nat)=>Nat.beq j x1||y.fst.2 j),x2,y.2.2.1++x0,y.2.2.2.1,())/\rW l now ((y.fst.1,fun(j:Nat)=>Nat.beq j x1||y.fst.2 j),x2,y.2.2.1++x0,y.2.2.2.1,())<rW l now y else 0<=y.2.1/\x1<x6/\x1<x6/\y.fst.2 x1=false/\L4 (y.2.2.2.1.length+x0.length)/\xR l now ((y.fst.1,fun(j:Nat)=>Nat.beq j x1||y.fst.2 j),x2,y.2.2.1,y.2.2.2.1++x0,())/\rW l now ((y.fst.1,fun(j:Nat)=>Nat.beq j x1||y.fst.2 j),x2,y.2.2.1,y.2.2.2.1++x0,())<rW l now y else Lf [VL .ax y.2.2.1,VL .ax y.2.2.2.1] [VL .ax (g_ now l),VL .ax (CE now l)])
 dsimp only
 refine⟨bJ,⟨by omega,by omega,rfl,fun _ _=>rfl,rfl,rfl⟩,?_⟩
 rintro⟨⟨xs,dd⟩,i,due,W_,⟨⟩⟩ ⟨h1,h2,rfl,hd,rfl,rfl⟩
 simp only
 refine ab ?_ ?_<;>intro hc
 ·have hc:=yT hc
  have fU:i.toNat<l.length:=by omega
  have Gk:=hd i.toNat (sB _)
  have hl:l.length<=4294967296:=by simp only[cm] at bJ;omega
  have hw:IntKind.i64.wrap (i+1)=i+1:=wi
  have g1:=pz (fun x:aF=>decide (x.At<=now)) l cq h1 hc
  have g2:=pz (fun x:aF=> !decide (x.At<=now)) l cq h1 hc
  have e1:(g_ now (l.take i.toNat)).length<=i.toNat:=mX _ _ _
  have e2:(CE now (l.take i.toNat)).length<=i.toNat:=mX _ _ _
  have jR:∀j,(i+1).toNat<=j->(Nat.beq j i.toNat||dd j)=false:=fun j hj=>by
   rw[hd j (by omega),Nk,<-uO,Fv];omega
  rw[hw]
  refine⟨h1,fU,fU,Gk,ab (fun ha=> ?_) (fun ha=> ?_)⟩
  ·refine⟨h1,fU,fU,Gk,by simp;omega,⟨by omega,by omega,rfl,jR,?_,?_⟩,by simp only[rW];omega⟩
   ·show _=List.filter _ _
    rw[g1,if_pos ha];rfl
   ·show _=List.filter _ _
    rw[g2,if_neg (by rw[ha];decide),sR];rfl
  ·refine⟨h1,fU,fU,Gk,by simp;omega,⟨by omega,by omega,rfl,jR,?_,?_⟩,by simp only[rW];omega⟩
   ·show _=List.filter _ _
    rw[g1,if_neg (by rw[ha];decide),sR];rfl
   ·show _=List.filter _ _
    rw[g2,if_pos (by rw[ha];decide)];rfl
 ·have hc:=yF hc
  rw[cA l (by omega)]
  exact aV _
def acX:=cf (α:=(List aF)×Int) (qC (qL .ax) (q1 qI)) [.ro,.ro] (fun(l,now)=>[L4 (cm l)]) (fun(l,now)=>⟨[dL .ax (g_ now l),dL .ax (CE now l)],[],[]⟩)
def DP(l:List aF)(now:Int):(List aF×(Nat->Bool))×Int×List aF×List aF×Unit->Prop:=fun((xs,dd),i,due,W_,_)=>0<=i/\i<=l.length/\l=xs/\(∀j,i.toNat<=j->dd j=false)/\due=g_ now (l.take i.toNat)/\W_=CE now (l.take i.toNat)
def vX(l:List aF)(now:Int):(List aF×(Nat->Bool))×Int×List aF×List aF×Unit->Nat:=fun((xs,dd),i,due,W_,_)=>l.length-i.toNat
def amA:AX acX:=fun(l,now)=>b_ [(3,aY [.slot 11 (11,1024) (.part .ax),iI 13,iO 6 .ax,iO 7 .ax] (fun _=>DP l now) (vX l now))]
def al0:HH:=hF acX func52 [aer] amA fun x hp hb=>by
 obtain⟨l,now⟩:=x
 have jB:L9 l.length:=kc (hb _ m0)
 have rj:=zD (n:=now) (hb _ m1)
 have bJ:cm l<=4294967296:=hp _ m0
 clear hp hb
 apply vE (cm l<=4294967296/\DP l now ((l,fun(x:Nat)=>false),0,[],[],())/\∀(y:(List aF×(Nat->Bool))×Int×List aF×List aF×PUnit),let x1:=y.2.1.toNat;let x2:=wrap i64 (y.2.1+1);let x4:=y.fst.1.getD x1 cq;let x0:=[x4];let x3:=x4.At;DP l now y->bif decide (y.2.1<(l.length:Int)) then 0<=y.2.1/\x1<y.fst.1.length/\x1<y.fst.1.length/\y.fst.2 x1=false/\bif decide (x3<=now) then L4 (y.2.2.1.length+x0.length)/\DP l now ((y.fst.1,fun(j:Nat)=>Nat.beq j x1||y.fst.2 j),x2,y.2.2.1++x0,y.2.2.2.1,())/\vX l now ((y.fst.1,fun(j:Nat)=>Nat.beq j x1||y.fst.2 j),x2,y.2.2.1++x0,y.2.2.2.1,())<vX l now y else L4 (y.2.2.2.1.length+x0.length)/\DP l now ((y.fst.1,fun(j:Nat)=>Nat.beq j x1||y.fst.2 j),x2,y.2.2.1,y.2.2.2.1++x0,())/\vX l now ((y.fst.1,fun(j:Nat)=>Nat.beq j x1||y.fst.2 j),x2,y.2.2.1,y.2.2.2.1++x0,())<vX l now y else Lf [VL .ax y.2.2.1,VL .ax y.2.2.2.1] [VL .ax (g_ now l),VL .ax (CE now l)])
 dsimp only
 refine⟨bJ,⟨by omega,by omega,rfl,fun _ _=>rfl,rfl,rfl⟩,?_⟩
 rintro⟨⟨xs,dd⟩,i,due,W_,⟨⟩⟩ ⟨h1,h2,rfl,hd,rfl,rfl⟩
 simp only
 refine ab ?_ ?_<;>intro hc
 ·have hc:=yT hc
  have fU:i.toNat<l.length:=by omega
  have Gk:=hd i.toNat (sB _)
  have hl:l.length<=4294967296:=by simp only[cm] at bJ;omega
  have hw:IntKind.i64.wrap (i+1)=i+1:=wi
  have g1:=pz (fun x:aF=>decide (x.At<=now)) l cq h1 hc
  have g2:=pz (fun x:aF=> !decide (x.At<=now)) l cq h1 hc
  have e1:(g_ now (l.take i.toNat)).length<=i.toNat:=mX _ _ _
  have e2:(CE now (l.take i.toNat)).length<=i.toNat:=mX _ _ _
  have jR:∀j,(i+1).toNat<=j->(Nat.beq j i.toNat||dd j)=false:=fun j hj=>by
   rw[hd j (by omega),Nk,<-uO,Fv];omega
  rw[hw]
  refine⟨h1,fU,fU,Gk,ab (fun ha=> ?_) (fun ha=> ?_)⟩
  ·refine⟨by simp;omega,⟨by omega,by omega,rfl,jR,?_,?_⟩,by simp only[vX];omega⟩
   ·show _=List.filter _ _
    rw[g1,if_pos ha];rfl
   ·show _=List.filter _ _
    rw[g2,if_neg (by rw[ha];decide),sR];rfl
  ·refine⟨by simp;omega,⟨by omega,by omega,rfl,jR,?_,?_⟩,by simp only[vX];omega⟩
   ·show _=List.filter _ _
    rw[g1,if_neg (by rw[ha];decide),sR];rfl
   ·show _=List.filter _ _
    rw[g2,if_pos (by rw[ha];decide)];rfl
 ·have hc:=yF hc
  rw[cA l (by omega)]
  exact aV _
def sF(l:List aF)(a:Int):Nat->Nat
 |0=>0
 |n+1=>if(l.getD n cq).At>a then sF l a n else n+1
theorem Ld(l:List aF)(a:Int):∀n,sF l a n<=n
 |0=>sB _
 |n+1=>by have:=Ld l a n;simp only[sF];split<;>omega
def lW(l:List aF)(x:aF):Bool:=cV l&&gF x&&decide (l.length<30)
def p6(l:List aF)(x:aF):List aF:=if lW l x then l.take (sF l x.At l.length)++x::l.drop (sF l x.At l.length) else l
def nr(l:List aF)(k:Nat)(d:aF):List aF:=l.take k++d::l.drop k
theorem MJ(l:List aF){k:Nat}(h:k<=l.length)(d:aF):(nr l k d).length=l.length+1:=by
 simp[nr];omega
theorem O7(l:List aF){k j:Nat}(h:k<=l.length)(hj:j<k)(d:aF):(nr l k d).getD j cq=l.getD j cq:=by
 simp only[nr,dB]
 rw[wg (by simp;omega),oT,if_pos hj]
theorem EO(l:List aF){k:Nat}(h:k<=l.length)(d x:aF):(nr l k d).set k x=nr l k x:=by
 unfold nr
 rw[List.set_append_right _ _ (by simp;omega)]
 have:k-(l.take k).length=0:=by simp;omega
 rw[this];rfl
theorem Iy(l:List aF){k:Nat}(h0:0<k)(h:k<=l.length):nr l k (l.getD (k-1) cq)=nr l (k-1) (l.getD (k-1) cq):=by
 unfold nr
 obtain⟨n,rfl⟩:∃n,k=n+1:=⟨k-1,by omega⟩
 have hn:n<l.length:=by omega
 simp only[Nat.add_sub_cancel]
 have e:l.getD n cq=l[n]:=by rw[dB,eW hn];rfl
 rw[e,zcz hn,we,<-Nu hn]
 rfl
theorem LfT{a a':List aF}{b b':Bool}(h1:a=a')(h2:b=b'):Lf [.one (.sl .ax a),.one (.lit (.bool b))] [.one (.sl .ax a'),.one (.lit (.bool b'))]:=by
 subst h1 h2;exact aV _
def UL:=cf (α:=(List aF)×aF) (qC (qL .ax) (q1 (qA .ax))) [.ro,.ro] (fun(l,x)=>[L4 (cm l),L4 (gx x)]) (fun(l,x)=>⟨[dL .ax (p6 l x),dO (lW l x)],[],[]⟩)
def BM(l:List aF)(x:aF):(List aF×(Nat->Bool))×Int×T16×Unit->Prop:=fun((xs,dd),k,b,_)=>0<=k/\k<=l.length/\(∃d,xs=nr l k.toNat d)/\(∀j,j<l.length+1->j≠k.toNat->dd j=false)/\sF l x.At k.toNat=sF l x.At l.length/\b=(x.At,x.F.Kind,x.F.af,())
def AU(l:List aF)(x:aF):(List aF×(Nat->Bool))×Int×T16×Unit->Nat:=fun((xs,dd),k,b,_)=>k.toNat
def agt:AX UL:=fun(l,x)=>b_ [(7,aY [.slot 6 (6,1024) (.part .ax),iI 7,.box 3 (3,1024) [.lit (.int .i64),.lit .str,.own .bf true]] (fun _=>BM l x) (AU l x))]
def ae':HH:=hF UL func184 [Vv,aeT,Vr,xX] agt fun x hp hb=>by
 obtain⟨l,x⟩:=x
 have bJ:cm l<=4294967296:=hp _ m0
 have eh:gx x<=4294967296:=hp _ m1
 clear hp hb
 apply vE (let q0:=Lf [VL .ax l,VB false] [VL .ax (p6 l x),VB (lW l x)];L4 (cm l)/\bif !cV l then q0 else bif !gF x then q0 else bif decide ((l.length:Int)≥30) then q0 else L4 x.F.af.length/\l.length+(List.replicate 1 cq).length<=4294967296/\BM l x ((l++List.replicate 1 cq,fun(i:Nat)=>Nat.ble (l.length) i),(l.length:Int),(x.At,x.F.Kind,x.F.af,()),())/\∀(y:(List aF×(Nat->Bool))×Int×(Int×BA×List aU×PUnit)×PUnit),let x1:=y.2.1.toNat;let x3:=wrap i64 (y.2.1-1);let x6:=y.fst.1.length;let x0:=y.fst.1.set x1 {At:=y.2.2.1.1,F:={Kind:=y.2.2.1.2.1,af:=y.2.2.1.2.2.1:aO}:aF};let x2:=x3.toNat;let x5:=y.fst.1.getD x2 cq;let x4:=x5.At;let q1:=Lf [VL .ax x0,VB true] [VL .ax (p6 l x),VB (lW l x)];let q2:=(y.2.2.1.1,y.2.2.1.2.1,y.2.2.1.2.2.1,());BM l x y->bif decide (y.2.1>0) then 0<=x3/\x2<x6/\x2<x6/\y.fst.2 x2=false/\bif decide (x4>y.2.2.1.1) then 0<=x3/\x2<x6/\x2<x6/\y.fst.2 x2=false/\0<=y.2.1/\x1<x6/\x1<x6/\BM l x ((y.fst.1.set x1 x5,fun(j:Nat)=> !Nat.beq j x1&&(Nat.beq j x2||y.fst.2 j)),x3,q2,())/\AU l x ((y.fst.1.set x1 x5,fun(j:Nat)=> !Nat.beq j x1&&(Nat.beq j x2||y.fst.2 j)),x3,q2,())<AU l x y else 0<=y.2.1/\x1<x6/\x1<x6/\(∀(i:Nat),i<x0.length->(!Nat.beq i x1&&y.fst.2 i)=false)/\q1 else 0<=y.2.1/\x1<x6/\x1<x6/\(∀(i:Nat),i<x0.length->(!Nat.beq i x1&&y.fst.2 i)=false)/\q1)
 dsimp only
 refine⟨bJ,ab (fun h=> ?_) (fun h=>ab (fun h'=> ?_) (fun h'=>ab (fun w7=> ?_) (fun w7=> ?_)))⟩
 ·have hf:lW l x=false:=by simp only[lW];simp at h;simp[h]
  exact LfT (by rw[p6,hf];rfl) hf.symm
 ·have hf:lW l x=false:=by simp only[lW];simp at h';simp[h']
  exact LfT (by rw[p6,hf];rfl) hf.symm
 ·have hf:lW l x=false:=by simp only[lW];have w7:=yT w7;rw[decide_eq_false (by omega)];simp
  exact LfT (by rw[p6,hf];rfl) hf.symm
 have h3:=yF w7
 have ho:lW l x=true:=by simp only[lW];simp at h h';rw[h,h',decide_eq_true (by omega)];rfl
 have hT:p6 l x=nr l (sF l x.At l.length) x:=by rw[p6,if_pos ho];rfl
 refine⟨?_,by simp;omega,⟨by omega,by omega,⟨cq,by simp[nr]⟩,fun j hj sI=> ?_,rfl,rfl⟩,?_⟩
 ·simp only[gx,fc,fP] at eh;omega
 ·show Nat.ble l.length j=false
  rw[<-uO,Nt];omega
 rintro⟨⟨xs,dd⟩,k,⟨bA,bK,bF,⟨⟩⟩,⟨⟩⟩ ⟨h1,h2,⟨d,rfl⟩,hd,Ix,hb⟩
 cases hb
 simp only
 have hlen:=MJ l (k:=k.toNat) (by omega) d
 have fin:sF l x.At k.toNat=k.toNat->0<=k/\k.toNat<(nr l k.toNat d).length/\k.toNat<(nr l k.toNat d).length/\
   (∀i,i<((nr l k.toNat d).set k.toNat x).length->(!Nat.beq i k.toNat&&dd i)=false)/\
   Lf [.one (.sl .ax ((nr l k.toNat d).set k.toNat x)),.one (.lit (.bool true))] [.one (.sl .ax (p6 l x)),.one (.lit (.bool (lW l x)))]:=by
  intro hk
  refine⟨h1,by rw[hlen];omega,by rw[hlen];omega,fun i hi=> ?_,LfT ?_ ho.symm⟩
  ·rw[JC,hlen] at hi
   by_cases hik:i=k.toNat
   ·subst hik;simp
   ·rw[hd i hi hik];simp
  ·rw[EO l (by omega),hT,<-Ix,hk]
 refine ab ?_ ?_<;>intro hc
 ·have hc:=yT hc
  have hw:IntKind.i64.wrap (k-1)=k-1:=wi
  have ek:(k-1).toNat=k.toNat-1:=by omega
  obtain⟨n,hn⟩:∃n,k.toNat=n+1:=⟨k.toNat-1,by omega⟩
  have hlo:=O7 l (k:=k.toNat) (j:=k.toNat-1) (by omega) (by omega) d
  have hdk:=hd (k.toNat-1) (by omega) (by omega)
  rw[hw,ek,hlo]
  refine⟨by omega,by rw[hlen];omega,by rw[hlen];omega,hdk,ab (fun hg=> ?_) (fun hg=> ?_)⟩
  ·have hg:=yT hg
   refine⟨by omega,by rw[hlen];omega,by rw[hlen];omega,hdk,by omega,by rw[hlen];omega,by rw[hlen];omega,⟨by omega,by omega,⟨l.getD (k.toNat-1) cq,?_⟩,fun j hj sI=> ?_,?_,rfl⟩,by simp only[AU];omega⟩
   ·rw[EO l (by omega),ek]
    exact Iy l (by omega) (by omega)
   ·show(!Nat.beq j k.toNat&&(Nat.beq j (k.toNat-1)||dd j))=false
    rw[ek] at sI
    have e1:Nat.beq j (k.toNat-1)=false:=by rw[<-uO,Fv];exact sI
    by_cases hjk:j=k.toNat
    ·subst hjk;simp
    ·rw[e1,hd j hj hjk];simp
   ·rw[<-Ix,ek,hn]
    rw[hn] at hg
    simp only[Nat.add_sub_cancel] at hg⊢
    rw[sF,if_pos hg]
  ·have hg:=yF hg
   refine fin ?_
   rw[hn] at hg⊢
   simp only[Nat.add_sub_cancel] at hg
   rw[sF,if_neg hg]
 ·have hc:=yF hc
  refine fin ?_
  have:k.toNat=0:=by omega
  rw[this,sF]
structure aA where
 b:List Int
 i:Int
 h:Int
def dU (c : aA) : DV UU := .box [.sl .byte c.b, .lit (.int .i64 c.i), .lit (.int .i64 c.h)]
def oU : DV UU -> Option aA := fun | .box [.sl .byte b, .lit (.int .i64 i), .lit (.int .i64 h)] => some ⟨b, i, h⟩ | _ => none
theorem lU (d : DV UU) (x : aA) (h : oU d = some x) : dU x = d := by
  unfold oU at h
  split at h <;> cases h
  rfl
theorem YP {x : aA} (h : gz (dU x)) : x.b.length <= 9223372036854775807 := Bd.len (U := UU) (τ := .byte) (xs := x.b) (h _ List.mem_cons_self)
def qU:Q1 aA:=⟨dU,oU,lU⟩
abbrev bU(x:aA):DV UU:=.box [.sl .byte x.b,.lit (.int .i64 x.i),.lit (.int .i64 x.h)]
def R6(h:Int)(x:Int):Int:=IntKind.wrap .i64 (((BitVec.ofInt (IntKind.bits .i64) (IntKind.wrap .i64 (IntKind.wrap .i64 (IntKind.wrap .i64 (h*137)+IntKind.wrap .i64 x)+11))&&&BitVec.ofInt (IntKind.bits .i64) 1073741823).toNat:Nat):Int)
def aaa(code:List Int):Int:=(code.take 4000).foldl R6 (354354+code.length)
def dj(code:List Int):aA:=⟨code,0,aaa code⟩
def Io(h:Int):Int:=IntKind.wrap .i64 (IntKind.wrap .i64 (h*6364136223846793005)+1442695040888963407)
def y5(x:Int):Int:=IntKind.wrap .i64 (((BitVec.ofInt (IntKind.bits .i64) x&&&BitVec.ofInt (IntKind.bits .i64) 255).toNat:Nat):Int)
def R5(h:Int):Int:=y5 (IntKind.wrap .i64 (((BitVec.ofInt (IntKind.bits .i64) (Int.fdiv h ((2:Int)^min (Int.toNat 33) (IntKind.bits .i64)))^^^BitVec.ofInt (IntKind.bits .i64) (Int.fdiv h ((2:Int)^min (Int.toNat 47) (IntKind.bits .i64)))).toNat:Nat):Int))
def hH(c:aA):Int:=if c.i<c.b.length then y5 (IntKind.wrap .i64 (R5 (Io c.h)+IntKind.wrap .i64 (c.b.getD c.i.toNat 0))) else R5 (Io c.h)
def dy(c:aA):aA:=⟨c.b,if c.i<c.b.length then c.i+1 else c.i,Io c.h⟩
theorem Fm(x:Int):0<=y5 x/\y5 x<=255:=by
 unfold y5
 have h:(BitVec.ofInt 64 x&&&BitVec.ofInt 64 255).toNat<=255:=by
  rw[BitVec.toNat_and]
  exact vg Nat.and_le_right (by decide)
 have h':(BitVec.ofInt (IntKind.bits .i64) x&&&BitVec.ofInt (IntKind.bits .i64) 255).toNat<=255:=h
 rw[wi]
 omega
theorem qu(c:aA):0<=hH c/\hH c<=255:=by
 unfold hH
 split
 ·exact Fm _
 ·exact Fm _
theorem rL{c:aA}(h:0<=c.i):0<=(dy c).i:=by
 simp only[dy];split<;>omega
def aJ(c:aA)(n:Int):Int:=if n<=0 then 0 else if n<=256 then Int.tmod (hH c) n else Int.tmod (hH c*65536+hH (dy c)*256+hH (dy (dy c))) n
def ag(c:aA)(n:Int):aA:=if n<=0 then c else if n<=256 then dy c else dy (dy (dy c))
theorem P8{c:aA}(h:0<=c.i)(n:Int):0<=(ag c n).i:=by
 unfold ag
 split
 ·exact h
 ·split
  ·exact rL h
  ·exact rL (rL (rL h))
theorem en{c:aA}{n:Int}(h:0<n):0<=aJ c n/\aJ c n<n:=by
 have h1:=qu c;have h2:=qu (dy c);have h3:=qu (dy (dy c))
 unfold aJ
 rw[if_neg (by omega)]
 split
 ·rw[zbp (by omega)];exact⟨Int.emod_nonneg _ (by omega),Int.emod_lt_of_pos _ h⟩
 ·rw[zbp (by omega)];exact⟨Int.emod_nonneg _ (by omega),Int.emod_lt_of_pos _ h⟩
def adW:=cf (α:=List Int) (q1 (qL .byte)) [.ro] (fun code=>[L4 code.length]) (fun code=>⟨[.box [.sl .byte ((dj code)).b,.lit (.int .i64 ((dj code)).i),.lit (.int .i64 ((dj code)).h)]],[],[]⟩)
def Hw(code:List Int):Int×Int×Unit->Prop:=fun(h,i,_)=>0<=i/\i<=code.length/\i<=4000/\h=(code.take i.toNat).foldl R6 (354354+code.length)
def G6(code:List Int):Int×Int×Unit->Nat:=fun(h,i,_)=>code.length-i.toNat
def amS:AX adW:=fun code=>b_ [(3,aY [iI 3,iI 4] (fun _=>Hw code) (G6 code))]
def amh:HH:=hF adW func15 [] amS fun(code:List Int) hp hb=>by
 have Ge:L9 code.length:=kc (hb _ m0)
 have bJ:code.length<=4294967296:=hp _ m0
 clear hp hb
 apply vE (let q0:=IntKind.bits IntKind.i64;Hw code (wrap i64 (354354+(code.length:Int)),0,())/\∀(y:Int×Int×PUnit),let x0:=y.2.1.toNat;let q1:=(wrap i64 (↑(BitVec.toNat (BitVec.ofInt q0 (wrap i64 (wrap i64 (wrap i64 (y.1*137)+wrap i64 (code.getD x0 0))+11))&&&BitVec.ofInt q0 1073741823)):Int),wrap i64 (y.2.1+1),());let q2:=Lf [DV.box [CL .byte code,CI 0,CI y.1]] [bU (dj code)];Hw code y->bif decide (y.2.1<(code.length:Int)) then bif decide (y.2.1<4000) then 0<=y.2.1/\x0<code.length/\Hw code q1/\G6 code q1<G6 code y else q2 else q2)
 dsimp only
 refine⟨⟨by omega,by omega,by omega,by rw[wi];rfl⟩,?_⟩
 rintro⟨h,i,⟨⟩⟩ ⟨h1,h2,h3,rfl⟩
 simp only
 have hE:(i=code.length\/i=4000)->(code.take i.toNat).foldl R6 (354354+code.length)=(dj code).h:=by
  intro hh
  show _=(code.take 4000).foldl R6 (354354+code.length)
  rcases hh with hh|hh
  ·rw[QN (by omega),QN (by omega)]
  ·rw[hh];rfl
 refine ab (fun hc=>ab (fun hd=> ?_) (fun hd=> ?_)) (fun hc=> ?_)
 ·have hc:=yT hc;have hd:=yT hd
  rw[wi (n:=i+1)]
  refine⟨h1,by omega,⟨by omega,by omega,by omega,?_⟩,by simp only[G6];omega⟩
  rw[<-db code 0 h1 (by omega),List.foldl_append]
  rfl
 ·have hc:=yT hc;have hd:=yF hd
  rw[hE (by omega)];exact aV _
 ·have hc:=yF hc
  rw[hE (by omega)];exact aV _
def akT:=cf (α:=aA) (q1 qU) [.box false] (fun c=>[0<=c.i,L4 c.b.length]) (fun c=>⟨[dI (hH c)],[],[dU (dy c)]⟩)
def alM:HH:=hF akT func80 [] a0 fun(c:aA) hp hb=>by
 have yE:=YP (x:=c) (hb _ m0)
 have bJ:0<=c.i:=hp _ m0
 have eh:c.b.length<=4294967296:=hp _ m1
 clear hp hb
 apply vE (let x1:=wrap i64 (wrap i64 (c.h*6364136223846793005)+1442695040888963407);let x0:=wrap i64 (↑(BitVec.toNat (BitVec.ofInt (IntKind.bits IntKind.i64) (wrap i64 (↑(BitVec.toNat (BitVec.ofInt (IntKind.bits IntKind.i64) (Int.fdiv x1 (2^min (Int.toNat 33) (IntKind.bits IntKind.i64)))^^^BitVec.ofInt (IntKind.bits IntKind.i64) (Int.fdiv x1 (2^min (Int.toNat 47) (IntKind.bits IntKind.i64))))):Int))&&&BitVec.ofInt (IntKind.bits IntKind.i64) 255)):Int);(0:Int)<=(33:Int)/\(0:Int)<=(47:Int)/\bif decide (c.i<(c.b.length:Int)) then 0<=c.i/\c.i.toNat<c.b.length/\LM [VI (wrap i64 (↑(BitVec.toNat (BitVec.ofInt (IntKind.bits IntKind.i64) (wrap i64 (x0+wrap i64 (c.b.getD c.i.toNat 0)))&&&BitVec.ofInt (IntKind.bits IntKind.i64) 255)):Int))] [VI (hH c)] [DV.box [CL .byte c.b,CI (wrap i64 (c.i+1)),CI x1]] [DV.box [CL .byte (dy c).b,CI ((dy c).i),CI ((dy c).h)]] else LM [VI x0] [VI (hH c)] [DV.box [CL .byte c.b,CI c.i,CI x1]] [DV.box [CL .byte (dy c).b,CI ((dy c).i),CI ((dy c).h)]])
 dsimp only
 refine⟨by omega,by omega,ab (fun h=> ?_) (fun h=> ?_)⟩
 ·have h:=yT h
  have e1:hH c=y5 (IntKind.wrap .i64 (R5 (Io c.h)+IntKind.wrap .i64 (c.b.getD c.i.toNat 0))):=if_pos h
  have e2:(dy c).i=c.i+1:=if_pos h
  rw[e1,e2,wi (n:=c.i+1)]
  exact⟨bJ,by omega,rfl,rfl,rfl⟩
 ·have h:=yF h
  have e1:hH c=R5 (Io c.h):=if_neg h
  have e2:(dy c).i=c.i:=if_neg h
  rw[e1,e2]
  exact⟨rfl,rfl,rfl⟩
def alh:=cf (α:=aA×Int) (qC qU (q1 qI)) [.box false,.ro] (fun(c,n)=>[0<=c.i,L4 c.b.length]) (fun(c,n)=>⟨[dI (aJ c n)],[],[dU (ag c n)]⟩)
def zZ:HH:=hF alh func38 [alM] a0 fun x hp hb=>by
 obtain⟨c,n⟩:=x
 have bJ:0<=c.i:=hp _ m0
 have eh:c.b.length<=4294967296:=hp _ m1
 clear hp hb
 apply vE (let q0:=ag c n;let q1:=dy (dy c);bif decide (n<=0) then LM [VI 0] [VI (aJ c n)] [DV.box [CL .byte c.b,CI c.i,CI c.h]] [DV.box [CL .byte q0.b,CI (q0.i),CI (q0.h)]] else bif decide (n<=256) then 0<=c.i/\L4 c.b.length/\n≠0/\LM [VI (Int.tmod (hH c) n)] [VI (aJ c n)] [DV.box [CL .byte (dy c).b,CI ((dy c).i),CI ((dy c).h)]] [DV.box [CL .byte q0.b,CI (q0.i),CI (q0.h)]] else 0<=c.i/\L4 c.b.length/\0<=(dy c).i/\(dy c).b.length<=4294967296/\0<=q1.i/\L4 q1.b.length/\n≠0/\LM [VI (Int.tmod (wrap i64 (wrap i64 (wrap i64 (hH c*65536)+wrap i64 (hH (dy c)*256))+hH q1)) n)] [VI (aJ c n)] [DV.box [CL .byte (dy q1).b,CI ((dy q1).i),CI ((dy q1).h)]] [DV.box [CL .byte q0.b,CI (q0.i),CI (q0.h)]])
 dsimp only
 have b1:=qu c;have b2:=qu (dy c);have b3:=qu (dy (dy c))
 refine ab (fun h=> ?_) (fun h=>ab (fun h2=> ?_) (fun h2=> ?_))
 ·have h:=yT h
  have e1:aJ c n=0:=if_pos h
  have e2:ag c n=c:=if_pos h
  rw[e1,e2];exact⟨rfl,rfl,rfl⟩
 ·have h:=yF h;have h2:=yT h2
  have e1:aJ c n=Int.tmod (hH c) n:=by rw[aJ,if_neg h,if_pos h2]
  have e2:ag c n=dy c:=by rw[ag,if_neg h,if_pos h2]
  rw[e1,e2];exact⟨bJ,eh,by omega,rfl,rfl,rfl⟩
 ·have h:=yF h;have h2:=yF h2
  have e1:aJ c n=Int.tmod (hH c*65536+hH (dy c)*256+hH (dy (dy c))) n:=by rw[aJ,if_neg h,if_neg h2]
  have e2:ag c n=dy (dy (dy c)):=by rw[ag,if_neg h,if_neg h2]
  have w1:IntKind.wrap .i64 (hH c*65536)=hH c*65536:=wi
  have w2:IntKind.wrap .i64 (hH (dy c)*256)=hH (dy c)*256:=wi
  rw[w1,w2,e1,e2,wi (n:=hH c*65536+hH (dy c)*256),wrap_i64 (n:=hH c*65536+hH (dy c)*256+hH (dy (dy c))) (by omega) (by omega)]
  exact⟨bJ,eh,rL bJ,eh,rL (rL bJ),eh,by omega,rfl,rfl,rfl⟩
def ali:=cf (α:=aA×(List Int)) (qC qU (q1 (qL .int))) [.box false,.ro] (fun(c,list)=>[0<=c.i,L4 c.b.length,1<=list.length]) (fun(c,list)=>⟨[dI (list.getD (aJ c list.length).toNat 0)],[],[dU (ag c list.length)]⟩)
def Tc:HH:=hF ali func37 [zZ] a0 fun x hp hb=>by
 obtain⟨c,list⟩:=x
 have yE:=YP (x:=c) (hb _ m0)
 have Sq:L9 list.length:=kc (hb _ m1)
 have bJ:0<=c.i:=hp _ m0
 have eh:c.b.length<=4294967296:=hp _ m1
 have Ef:1<=list.length:=hp _ m2
 clear hp hb
 apply vE (let x0:=ag c (list.length:Int);let q0:=list.getD (Int.toNat (aJ c (list.length:Int))) 0;0<=c.i/\L4 c.b.length/\0<=aJ c (list.length:Int)/\Int.toNat (aJ c (list.length:Int))<list.length/\LM [VI q0] [VI q0] [bU x0] [bU x0])
 dsimp only
 have hb:=en (c:=c) (n:=list.length) (by omega)
 exact⟨bJ,eh,hb.1,by omega,rfl,rfl,rfl⟩
def df(c:aA):Prop:=0<=c.i/\c.b.length<=4294967296
theorem bo{c:aA}(h:df c)(n:Int):df (ag c n):=by
 refine⟨P8 h.1 n,?_⟩
 have:(ag c n).b=c.b:=by
  unfold ag
  split
  ·rfl
  ·split<;>rfl
 rw[this];exact h.2
theorem SZ{code:List Int}(h:code.length<=4294967296):df (dj code):=⟨Int.le_refl 0,h⟩
def cD(c:aA)(n:Int):Bool:=decide (aJ c n=0)
def fO(c:aA)(l:List BA):BA:=l.getD (aJ c l.length).toNat ah
end
end AM
